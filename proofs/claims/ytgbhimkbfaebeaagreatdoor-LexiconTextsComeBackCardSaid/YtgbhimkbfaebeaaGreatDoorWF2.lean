import Derived.Test.YtgbhimkbfaebeaaGreatDoorXE
namespace Go.Abs
set_option linter.unusedVariables false
set_option linter.unusedSimpArgs false
set_option linter.unnecessarySimpa false
set_option maxRecDepth 100000
def f17 (m : Nat)  : Option S23 :=
 some ((⟨[(⟨(⟨#[114, 111, 111, 116]⟩ : ByteArray), [(⟨(⟨#[100, 111, 103]⟩ : ByteArray), (⟨#[100, 111, 103]⟩ : ByteArray), [(⟨#[110]⟩ : ByteArray)], 1, 0⟩ : S46)]⟩ : S44), (⟨(⟨#[110, 117, 109, 98, 101, 114]⟩ : ByteArray), [(⟨ByteArray.empty, ByteArray.empty, [(⟨#[115, 103]⟩ : ByteArray)], (-1), 0⟩ : S46), (⟨ByteArray.empty, (⟨#[115]⟩ : ByteArray), [(⟨#[112, 108]⟩ : ByteArray)], (-1), 2⟩ : S46)]⟩ : S44)]⟩ : S23))
noncomputable abbrev X17 (n : Nat) : Cx := cxOf Proofs.Tryz.prog EG 17 n
theorem ok17 (m : Nat)  (o : S23) (h : f17 m  = some o) (n : Nat) (hn : m + 1 ≤ n) : Fn Proofs.Tryz.prog EG n 17 [] (e23 o) := by
 obtain ⟨n, rfl⟩ : ∃ q, n = q + 1 := ⟨n - 1, by omega⟩
 unfold f17 at h
 refine Fn.of (by kernel_rfl) (by kernel_rfl) (by kernel_rfl) ⟨u13 [], []⟩ (by kernel_rfl) ?_
 refine Wp.sq ?_
 refine Wp.rg ?_
 refine Ops.sg 1 1 ?_
 refine Ops.dn ?_
 refine seqQ.n ?_
 refine Wp.sq ?_
 refine Wp.rg ?_
 refine Ops.sg 13 13 ?_
 refine Ops.dn ?_
 refine seqQ.n ?_
 refine Wp.ret (by kernel_rfl) ?_
 exact fnQ.r' (X17 n) (fun z => (e23 z)) h (RetOk.mk' (.v (.agg [(.sl .nonfull (List.map e44 ([(⟨(⟨#[114, 111, 111, 116]⟩ : ByteArray), [(⟨(⟨#[100, 111, 103]⟩ : ByteArray), (⟨#[100, 111, 103]⟩ : ByteArray), [(⟨#[110]⟩ : ByteArray)], 1, 0⟩ : S46)]⟩ : S44), (⟨(⟨#[110, 117, 109, 98, 101, 114]⟩ : ByteArray), [(⟨ByteArray.empty, ByteArray.empty, [(⟨#[115, 103]⟩ : ByteArray)], (-1), 0⟩ : S46), (⟨ByteArray.empty, (⟨#[115]⟩ : ByteArray), [(⟨#[112, 108]⟩ : ByteArray)], (-1), 2⟩ : S46)]⟩ : S44)])))])) (by kernel_rfl) (by kernel_rfl))
def f23 (m : Nat) (a0 : (List ByteArray)) (a1 : ByteArray) : Option ByteArray := joinQ a0 a1
theorem ok23 (m : Nat) (a0 : (List ByteArray)) (a1 : ByteArray) (o : ByteArray) (h : f23 m a0 a1 = some o) (n : Nat) (hn : m + 1 ≤ n) : Fn Proofs.Tryz.prog EG n 23 [.v ((eL eS) a0), .v (eS a1)] (eS o) := by
 obtain ⟨n, rfl⟩ : ∃ q, n = q + 1 := ⟨n - 1, by omega⟩
 refine ora_fn (xs := [(eL eS) a0, eS a1]) (by kernel_rfl) (by kernel_rfl) (by kernel_rfl) (F := joinF) ?_ rfl
 exact joinF_ok h
def f9_B1 (m : Nat) (v133 : S44) (v165 : (List Int)) (v166 : Int) : Option (Stp (ByteArray × S26) ((List Int) × Int)) :=
 cnd (decide (v166 < (v133.fItems.length : Int)))
 (bnd (idx v133.fItems v166) fun v176 =>
 bnd (scat ((⟨#[105, 116, 101, 109, 32, 40]⟩ : ByteArray)) v176.fBase) fun v177 =>
 bnd (scat v177 ((⟨#[41, 40]⟩ : ByteArray))) fun v178 =>
 bnd (scat v178 v176.fForm) fun v179 =>
 bnd (scat v179 ((⟨#[41, 91]⟩ : ByteArray))) fun v180 =>
 bnd (f23 m v176.fTags (⟨#[44]⟩ : ByteArray)) fun v181 =>
 bnd (scat v180 v181) fun v182 =>
 bnd (scat v182 ((⟨#[93, 32]⟩ : ByteArray))) fun v183 =>
 bnd (app 1 v165 (bytesI v183)) fun v184 =>
 bnd (apint v184 v176.fNext) fun v185 =>
 bnd (app 1 v185 [32]) fun v186 =>
 bnd (apint v186 v176.fWeight) fun v187 =>
 bnd (app 1 v187 [10]) fun v188 =>
 some (.nxt (v188, w64 (v166 + 1))))
 (some (.brk (v165, v166)))
def f9_B2 (m : Nat) (a0 : S23) (v122 : (List Int)) (v123 : Int) : Option (Stp (ByteArray × S26) ((List Int) × Int)) :=
 cnd (decide (v123 < (a0.fClasses.length : Int)))
 (bnd (idx a0.fClasses v123) fun v133 =>
 bnd (scat ((⟨#[99, 108, 97, 115, 115, 32]⟩ : ByteArray)) v133.fName) fun v134 =>
 bnd (scat v134 (⟨#[10]⟩ : ByteArray)) fun v135 =>
 bnd (app 1 v122 (bytesI v135)) fun v136 =>
 brk (iter (fun (y : (List Int) × Int) => f9_B1 m v133 y.1 y.2) m (v136, 0)) (fun r => some (.ret r)) fun y190 =>
 some (.nxt (y190.1, w64 (v123 + 1))))
 (some (.brk (v122, v123)))
def f9 (m : Nat) (a0 : S23) : Option (ByteArray × S26) :=
 bnd (f11 m a0) fun v1 =>
 cnd (!((v1.fCode == 0) && ((v1.fIndex == 0) && true)))
 (some (((⟨#[]⟩ : ByteArray), v1)))
 (brk (iter (fun (y : (List Int) × Int) => f9_B2 m a0 y.1 y.2) m ([], 0)) some fun y193 =>
 cnd (decide ((y193.1.length : Int) > 4000))
 (bnd (f25 m 1 (-1)) fun v195 =>
 some (((⟨#[]⟩ : ByteArray), v195)))
 (some (((strI y193.1), (⟨0, 0⟩ : S26)))))
noncomputable abbrev X9 (n : Nat) : Cx := cxOf Proofs.Tryz.prog EG 9 n
noncomputable def C9 : Code := bodyOf Proofs.Tryz.prog 9
noncomputable abbrev p9_0 : Code := cR (cR (cR (cR C9)))
noncomputable abbrev p9_1 : Code := cL (cL (cR (cL (cR (cR (cR C9))))))
noncomputable abbrev p9_2 : Code := cR (cR (cR p9_1))
abbrev b9_0 (w0 : S23) : AObj := .cells [(dP e44 w0.fClasses)]
abbrev b9_1 : AObj := .cells [(dI 0), (dI 0)]
abbrev b9_2 (w0 : S26) : AObj := .cells [(dI w0.fCode), (dI w0.fIndex)]
abbrev b9_3 (w0 : S44) : AObj := .cells [(.v (.str w0.fName)), (dP e46 w0.fItems)]
abbrev k9_0 : List Nat := [2, 3, 5, 17, 18, 19]
abbrev k9_1 : List Nat := [2, 3, 5, 17, 18, 19, 30, 31, 32]
theorem ok9 (m : Nat) (a0 : S23) (o : (ByteArray × S26)) (h : f9 m a0 = some o) (n : Nat) (hn : m + 6 ≤ n) : Fn Proofs.Tryz.prog EG n 9 [.v (e23 a0)] (.tuple [eS o.1, e26 o.2]) := by
 obtain ⟨n, rfl⟩ : ∃ q, n = q + 1 := ⟨n - 1, by omega⟩
 unfold f9 at h
 refine Fn.of (by kernel_rfl) (by kernel_rfl) (by kernel_rfl) ⟨(.v (.agg [(vP e44 a0.fClasses)])) :: u40 (u33 []), []⟩ (by kernel_rfl) ?_
 refine Wp.sq ?_
 refine Wp.rg ?_
 refine Ops.sg 3 3 ?_
 refine Ops.dn ?_
 refine seqQ.n ?_
 refine Wp.sq ?_
 refine Wp.sq ?_
 refine Wp.rg ?_
 refine Ops.sg 1 1 ?_
 obtain ⟨v1, ev1, h⟩ := bnd_some h
 refine Ops.on 2 (fun h0 e0 => (call_ok (E' := EG) (h := h0) (by kernel_rfl) (Args.v (.agg [(vP e44 a0.fClasses)]) (e23 a0) (by kernel_rfl) Args.nil) (ok11g m a0 v1 ev1 n (by omega)))) ?_
 refine Ops.sg 2 4 ?_
 refine Ops.dn ?_
 refine seqQ.n ?_
 refine Wp.sq ?_
 refine Wp.rg ?_
 refine Ops.sg 3 3 ?_
 refine Ops.dn ?_
 refine seqQ.n ?_
 refine Wp.cnd h [1, 2, 3] 3 (by kernel_rfl) (fun h => ?_) (fun h => ?_)
 ·refine Wp.sq ?_
  refine Wp.rg ?_
  refine Ops.sg 3 3 ?_
  refine Ops.dn ?_
  refine seqQ.n ?_
  refine Wp.ret (by kernel_rfl) ?_
  refine sqQ.r ?_
  refine seqQ.r ?_
  exact fnQ.r' (X9 n) (fun z => (.tuple [eS z.1, e26 z.2])) h (RetOk.mk' (.v (.tuple [(.str (⟨#[]⟩ : ByteArray)), (.agg [(vI v1.fCode), (vI v1.fIndex)])])) (by kernel_rfl) (by kernel_rfl))
 ·refine Wp.sk ?_
  refine sqQ.n' ?_
  refine seqQ.n ?_
  refine Wp.sq ?_
  refine Wp.rg ?_
  refine Ops.sg 1 1 ?_
  refine Ops.dn ?_
  refine seqQ.n ?_
  refine Wp.sq ?_
  refine Wp.sq ?_
  refine Wp.rg ?_
  refine Ops.sg 2 2 ?_
  refine Ops.on 3 (fun h0 e0 => (len_r (T := T) h0 22 45 .plain e44 a0.fClasses (by kernel_rfl))) ?_
  refine Ops.sg 1 4 ?_
  refine Ops.dn ?_
  refine seqQ.n ?_
  refine Wp.block' 0 [2, 3, 5] 4 (by kernel_rfl) ?_
  have hLx192 : ∀ (kx125 : Nat) (v122 : (List Int)) (v123 : Int)  (ox124 : (ByteArray × S26) ⊕ ((List Int) × Int)), iter (fun (y : (List Int) × Int) => f9_B2 m a0 y.1 y.2) kx125 (v122, v123) = some ox124 → ∀ nx126, kx125 ≤ nx126 → (∀ r, ox124 = .inl r → ∀ σ, RetOk (X9 n) (resOf Proofs.Tryz.prog 9) (.tuple [eS r.1, e26 r.2]) σ → (seqQ (X9 n) p9_0 (fnQ (X9 n).E.T (resOf Proofs.Tryz.prog 9) (.tuple [eS o.1, e26 o.2]))) .ret σ) → (∀ (y : (List Int) × Int) , ox124 = .inr y → (seqQ (X9 n) p9_0 (fnQ (X9 n).E.T (resOf Proofs.Tryz.prog 9) (.tuple [eS o.1, e26 o.2]))) .normal ⟨q2 ((.v (.str (⟨#[]⟩ : ByteArray))) :: (.ptr 1 0) :: q1 ((appD 4 (List.map (eK .u8) y.1)) :: q40 (q28 []))), [(b9_0 a0), b9_1, (b9_2 v1), .dead, (appO 1 (List.map (eK .u8) y.1))]⟩) → Lp (X9 n) k9_0 4 p9_1 nx126 ⟨q2 ((.v (.str (⟨#[]⟩ : ByteArray))) :: (.ptr 1 0) :: q1 ((appD 4 (List.map (eK .u8) v122)) :: q11 ((dP e44 a0.fClasses) :: (dI (a0.fClasses.length : Int)) :: (dI v123) :: q40 (q14 [])))), [(b9_0 a0), b9_1, (b9_2 v1), .dead, (appO 1 (List.map (eK .u8) v122))]⟩ (blkQ (X9 n) 0 [2, 3, 5] 4 (seqQ (X9 n) p9_0 (fnQ (X9 n).E.T (resOf Proofs.Tryz.prog 9) (.tuple [eS o.1, e26 o.2])))) := by
   intro kx125
   induction kx125 with
   | zero => intro v122 v123  ox124 h; exact (iter_zero h).elim
   | succ kx125 ihx127 =>
    intro v122 v123  ox124 h nx126 hnx130 hrx128 hxx129
    obtain ⟨nx126, rfl⟩ : ∃ q, nx126 = q + 1 := ⟨nx126 - 1, by omega⟩
    obtain ⟨sx131, h, hsx132⟩ := iter_some h
    have h : f9_B2 m a0 v122 v123 = some sx131 := h
    unfold f9_B2 at h
    refine Lp.succ ?_
    refine Wp.sq ?_
    refine Wp.rg ?_
    refine Ops.sg 1 1 ?_
    refine Ops.dn ?_
    refine seqQ.n ?_
    refine Wp.sq ?_
    refine Wp.cnd h k9_0 5 (by kernel_rfl) (fun h => ?_) (fun h => ?_)
    ·refine Wp.sk ?_
     refine sqQ.n ⟨q2 ((.v (.str (⟨#[]⟩ : ByteArray))) :: (.ptr 1 0) :: q1 ((appD 5 (List.map (eK .u8) v122)) :: q11 ((dP e44 a0.fClasses) :: (dI (a0.fClasses.length : Int)) :: (dI v123) :: q40 (q14 [])))), [(b9_0 a0), b9_1, (b9_2 v1), .dead, .dead, (appO 1 (List.map (eK .u8) v122))]⟩ (by generalize v122 = z0; cases z0 <;> kernel_rfl) ?_
     refine seqQ.n ?_
     refine Wp.sq ?_
     refine Wp.block' 1 k9_0 6 (by kernel_rfl) ?_
     refine Wp.sq ?_
     refine Wp.rg ?_
     obtain ⟨v133, ev133, h⟩ := bnd_some h
     refine Ops.on 1 (fun h0 e0 => (ix_r (T := T) h0 22 45 2 .plain e44 a0.fClasses v123 v133 ev133 (by kernel_rfl) (by kernel_rfl) (fun _ => rfl))) ?_
     refine Ops.sg 3 4 ?_
     refine Ops.dn ?_
     refine seqQ.n ?_
     refine Wp.sq ?_
     refine Wp.rg ?_
     refine Ops.sg 3 3 ?_
     obtain ⟨v134, ev134, h⟩ := bnd_some h
     refine Ops.on 4 (fun h0 e0 => (str_cat (T := T) h0 9 ((⟨#[99, 108, 97, 115, 115, 32]⟩ : ByteArray)) v133.fName v134 ev134)) ?_
     obtain ⟨v135, ev135, h⟩ := bnd_some h
     refine Ops.on 5 (fun h0 e0 => (str_cat (T := T) h0 9 v134 (⟨#[10]⟩ : ByteArray) v135 ev135)) ?_
     obtain ⟨v136, ev136, h⟩ := bnd_some h
     refine Ops.on 6 (fun h0 e0 => (app_str (T := T) (t' := 9) (b := v135) (by kernel_rfl) (app_r (T := T) (g := .nil) h0 49 5 5 1 ti5 .plain (eK .u8) v122 (bytesI v135) v136 ev136 (by kernel_rfl) (by kernel_rfl) (by kernel_rfl) (by kernel_rfl) (fun _ => rfl) (hq_of e0 (by kernel_rfl))))) ?_
     refine Ops.sg 1 7 ?_
     refine Ops.dn ?_
     refine seqQ.n ?_
     refine Wp.sq ?_
     refine Wp.rg ?_
     refine Ops.sg 2 2 ?_
     refine Ops.on 3 (fun h0 e0 => (len_r (T := T) h0 43 47 .plain e46 v133.fItems (by kernel_rfl))) ?_
     refine Ops.sg 1 4 ?_
     refine Ops.dn ?_
     refine seqQ.n ?_
     refine Wp.block' 2 k9_0 8 (by kernel_rfl) ?_
     have hLx189 : ∀ (kx168 : Nat) (v165 : (List Int)) (v166 : Int)  (ox167 : (ByteArray × S26) ⊕ ((List Int) × Int)), iter (fun (y : (List Int) × Int) => f9_B1 m v133 y.1 y.2) kx168 (v165, v166) = some ox167 → ∀ nx169, kx168 ≤ nx169 → (∀ r, ox167 = .inl r → ∀ σ, RetOk (X9 n) (resOf Proofs.Tryz.prog 9) (.tuple [eS r.1, e26 r.2]) σ → (blkQ (X9 n) 1 k9_0 6 (seqQ (X9 n) p9_2 (lpQ (X9 n) k9_0 4 p9_1 nx126 (blkQ (X9 n) 0 [2, 3, 5] 4 (seqQ (X9 n) p9_0 (fnQ (X9 n).E.T (resOf Proofs.Tryz.prog 9) (.tuple [eS o.1, e26 o.2]))))))) .ret σ) → (∀ (y : (List Int) × Int) , ox167 = .inr y → (blkQ (X9 n) 1 k9_0 6 (seqQ (X9 n) p9_2 (lpQ (X9 n) k9_0 4 p9_1 nx126 (blkQ (X9 n) 0 [2, 3, 5] 4 (seqQ (X9 n) p9_0 (fnQ (X9 n).E.T (resOf Proofs.Tryz.prog 9) (.tuple [eS o.1, e26 o.2]))))))) .normal ⟨q2 ((.v (.str (⟨#[]⟩ : ByteArray))) :: (.ptr 1 0) :: q1 ((appD 8 (List.map (eK .u8) y.1)) :: q11 ((dP e44 a0.fClasses) :: (dI (a0.fClasses.length : Int)) :: (dI v123) :: q40 (q14 [])))), [(b9_0 a0), b9_1, (b9_2 v1), .dead, .dead, .dead, (b9_3 v133), .dead, (appO 1 (List.map (eK .u8) y.1))]⟩) → Lp (X9 n) k9_1 8 (cL (cL (cR (cR (cR (cL (cL (cR (cR p9_1))))))))) nx169 ⟨q2 ((.v (.str (⟨#[]⟩ : ByteArray))) :: (.ptr 1 0) :: q1 ((appD 8 (List.map (eK .u8) v165)) :: q11 ((dP e44 a0.fClasses) :: (dI (a0.fClasses.length : Int)) :: (dI v123) :: q10 ((dP e46 v133.fItems) :: (dI (v133.fItems.length : Int)) :: (dI v166) :: q40 (q1 []))))), [(b9_0 a0), b9_1, (b9_2 v1), .dead, .dead, .dead, (b9_3 v133), .dead, (appO 1 (List.map (eK .u8) v165))]⟩ (blkQ (X9 n) 2 k9_0 8 (blkQ (X9 n) 1 k9_0 6 (seqQ (X9 n) p9_2 (lpQ (X9 n) k9_0 4 p9_1 nx126 (blkQ (X9 n) 0 [2, 3, 5] 4 (seqQ (X9 n) p9_0 (fnQ (X9 n).E.T (resOf Proofs.Tryz.prog 9) (.tuple [eS o.1, e26 o.2])))))))) := by
      intro kx168
      induction kx168 with
      | zero => intro v165 v166  ox167 h; exact (iter_zero h).elim
      | succ kx168 ihx170 =>
       intro v165 v166  ox167 h nx169 hnx173 hrx171 hxx172
       obtain ⟨nx169, rfl⟩ : ∃ q, nx169 = q + 1 := ⟨nx169 - 1, by omega⟩
       obtain ⟨sx174, h, hsx175⟩ := iter_some h
       have h : f9_B1 m v133 v165 v166 = some sx174 := h
       unfold f9_B1 at h
       refine Lp.succ ?_
       refine Wp.sq ?_
       refine Wp.rg ?_
       refine Ops.sg 1 1 ?_
       refine Ops.dn ?_
       refine seqQ.n ?_
       refine Wp.sq ?_
       refine Wp.cnd h k9_1 9 (by kernel_rfl) (fun h => ?_) (fun h => ?_)
       ·refine Wp.sk ?_
        refine sqQ.n ⟨q2 ((.v (.str (⟨#[]⟩ : ByteArray))) :: (.ptr 1 0) :: q1 ((appD 9 (List.map (eK .u8) v165)) :: q11 ((dP e44 a0.fClasses) :: (dI (a0.fClasses.length : Int)) :: (dI v123) :: q10 ((dP e46 v133.fItems) :: (dI (v133.fItems.length : Int)) :: (dI v166) :: q40 (q1 []))))), [(b9_0 a0), b9_1, (b9_2 v1), .dead, .dead, .dead, (b9_3 v133), .dead, .dead, (appO 1 (List.map (eK .u8) v165))]⟩ (by generalize v165 = z0; cases z0 <;> kernel_rfl) ?_
        refine seqQ.n ?_
        refine Wp.sq ?_
        refine Wp.block' 3 k9_1 10 (by kernel_rfl) ?_
        refine Wp.sq ?_
        refine Wp.rg ?_
        obtain ⟨v176, ev176, h⟩ := bnd_some h
        refine Ops.on 1 (fun h0 e0 => (ix_r (T := T) h0 43 47 5 .plain e46 v133.fItems v166 v176 ev176 (by kernel_rfl) (by kernel_rfl) (fun _ => rfl))) ?_
        refine Ops.sg 3 4 ?_
        refine Ops.dn ?_
        refine seqQ.n ?_
        refine Wp.sq ?_
        refine Wp.rg ?_
        refine Ops.sg 3 3 ?_
        obtain ⟨v177, ev177, h⟩ := bnd_some h
        refine Ops.on 4 (fun h0 e0 => (str_cat (T := T) h0 9 ((⟨#[105, 116, 101, 109, 32, 40]⟩ : ByteArray)) v176.fBase v177 ev177)) ?_
        obtain ⟨v178, ev178, h⟩ := bnd_some h
        refine Ops.on 5 (fun h0 e0 => (str_cat (T := T) h0 9 v177 ((⟨#[41, 40]⟩ : ByteArray)) v178 ev178)) ?_
        refine Ops.sg 2 7 ?_
        obtain ⟨v179, ev179, h⟩ := bnd_some h
        refine Ops.on 8 (fun h0 e0 => (str_cat (T := T) h0 9 v178 v176.fForm v179 ev179)) ?_
        obtain ⟨v180, ev180, h⟩ := bnd_some h
        refine Ops.on 9 (fun h0 e0 => (str_cat (T := T) h0 9 v179 ((⟨#[41, 91]⟩ : ByteArray)) v180 ev180)) ?_
        refine Ops.sg 2 11 ?_
        obtain ⟨v181, ev181, h⟩ := bnd_some h
        refine Ops.on 12 (fun h0 e0 => (call_ok (E' := EG) (h := h0) (by kernel_rfl) (Args.v (vP eS v176.fTags) ((eL eS) v176.fTags) (by kernel_rfl) (Args.v (.str (⟨#[44]⟩ : ByteArray)) (eS (⟨#[44]⟩ : ByteArray)) (by kernel_rfl) Args.nil)) (ok23 m v176.fTags (⟨#[44]⟩ : ByteArray) v181 ev181 n (by omega)))) ?_
        obtain ⟨v182, ev182, h⟩ := bnd_some h
        refine Ops.on 13 (fun h0 e0 => (str_cat (T := T) h0 9 v180 v181 v182 ev182)) ?_
        obtain ⟨v183, ev183, h⟩ := bnd_some h
        refine Ops.on 14 (fun h0 e0 => (str_cat (T := T) h0 9 v182 ((⟨#[93, 32]⟩ : ByteArray)) v183 ev183)) ?_
        obtain ⟨v184, ev184, h⟩ := bnd_some h
        refine Ops.on 15 (fun h0 e0 => (app_str (T := T) (t' := 9) (b := v183) (by kernel_rfl) (app_r (T := T) (g := .nil) h0 49 5 9 1 ti5 .plain (eK .u8) v165 (bytesI v183) v184 ev184 (by kernel_rfl) (by kernel_rfl) (by kernel_rfl) (by kernel_rfl) (fun _ => rfl) (hq_of e0 (by kernel_rfl))))) ?_
        refine Ops.sg 1 16 ?_
        refine Ops.dn ?_
        refine seqQ.n ?_
        refine Wp.sq ?_
        refine Wp.rg ?_
        refine Ops.sg 3 3 ?_
        obtain ⟨v185, ev185, h⟩ := bnd_some h
        refine Ops.on 4 (fun h0 e0 => (callD_own (P := Proofs.Tryz.prog) (E := EG) (E' := EG) (n := n) (f := 24) (by kernel_rfl) (by kernel_rfl) (by kernel_rfl) (row_apint h0 11 v184 v176.fNext v185 ev185 (hq_of e0 (by kernel_rfl))) (by omega))) ?_
        refine Ops.sg 1 5 ?_
        refine Ops.dn ?_
        refine seqQ.n ?_
        refine Wp.sq ?_
        refine Wp.rg ?_
        refine Ops.sg 2 2 ?_
        obtain ⟨v186, ev186, h⟩ := bnd_some h
        refine Ops.on 3 (fun h0 e0 => (app_r (T := T) (g := .nil) h0 49 5 15 1 ti5 .nonfull (eK .u8) v185 [32] v186 ev186 (by kernel_rfl) (by kernel_rfl) (by kernel_rfl) (by kernel_rfl) (fun _ => rfl) (hq_of e0 (by kernel_rfl)))) ?_
        refine Ops.sg 1 4 ?_
        refine Ops.dn ?_
        refine seqQ.n ?_
        refine Wp.sq ?_
        refine Wp.rg ?_
        refine Ops.seg 3 3 (by kernel_rfl) ⟨q2 ((.v (.str (⟨#[]⟩ : ByteArray))) :: (.ptr 1 0) :: q1 ((appD 16 (List.map (eK .u8) v186)) :: q3 ((.ptr 10 0) :: q7 ((dP e44 a0.fClasses) :: (dI (a0.fClasses.length : Int)) :: (dI v123) :: q10 ((dP e46 v133.fItems) :: (dI (v133.fItems.length : Int)) :: (dI v166) :: q1 ((.vptr [(.str v176.fBase), (.str v176.fForm), (vP eS v176.fTags), (vI v176.fNext), (vI v176.fWeight)]) :: (.v (.agg [(.str v176.fBase), (.str v176.fForm), (vP eS v176.fTags), (vI v176.fNext), (vI v176.fWeight)])) :: (appD 9 (List.map (eK .u8) v165)) :: (.ptr 10 0) :: (.v (.str v176.fBase)) :: (.v (.str v177)) :: (.v (.str v178)) :: (.ptr 10 1) :: (.v (.str v176.fForm)) :: (.v (.str v179)) :: (.v (.str v180)) :: (.ptr 10 2) :: (dP eS v176.fTags) :: (.v (.str v181)) :: (.v (.str v182)) :: (.v (.str v183)) :: (appD 11 (List.map (eK .u8) v184)) :: (appD 11 (List.map (eK .u8) v184)) :: (.ptr 10 3) :: (dI v176.fNext) :: (appD 15 (List.map (eK .u8) v185)) :: (appD 15 (List.map (eK .u8) v185)) :: (.v (.sl .nonfull (List.map (eK .u8) [32]))) :: (appD 16 (List.map (eK .u8) v186)) :: (appD 16 (List.map (eK .u8) v186)) :: (.ptr 10 4) :: (dI v176.fWeight) :: q13 [])))))), [(b9_0 a0), b9_1, (b9_2 v1), .dead, .dead, .dead, (b9_3 v133), .dead, .dead, .dead, (.cells [(.v (.str v176.fBase)), (.v (.str v176.fForm)), (dP eS v176.fTags), (dI v176.fNext), (dI v176.fWeight)]), .dead, .dead, .dead, .dead, .dead, (appO 1 (List.map (eK .u8) v186))]⟩ (by kernel_rfl) ?_
        obtain ⟨v187, ev187, h⟩ := bnd_some h
        refine Ops.on 4 (fun h0 e0 => (callD_own (P := Proofs.Tryz.prog) (E := EG) (E' := EG) (n := n) (f := 24) (by kernel_rfl) (by kernel_rfl) (by kernel_rfl) (row_apint h0 16 v186 v176.fWeight v187 ev187 (hq_of e0 (by kernel_rfl))) (by omega))) ?_
        refine Ops.sg 1 5 ?_
        refine Ops.dn ?_
        refine seqQ.n ?_
        refine Wp.rg ?_
        refine Ops.sg 2 2 ?_
        obtain ⟨v188, ev188, h⟩ := bnd_some h
        refine Ops.on 3 (fun h0 e0 => (app_r (T := T) (g := .nil) h0 49 5 20 1 ti5 .nonfull (eK .u8) v187 [10] v188 ev188 (by kernel_rfl) (by kernel_rfl) (by kernel_rfl) (by kernel_rfl) (fun _ => rfl) (hq_of e0 (by kernel_rfl)))) ?_
        refine Ops.sg 1 4 ?_
        refine Ops.dn ?_
        refine blkQ.n ⟨q2 ((.v (.str (⟨#[]⟩ : ByteArray))) :: (.ptr 1 0) :: q1 ((appD 10 (List.map (eK .u8) v188)) :: q11 ((dP e44 a0.fClasses) :: (dI (a0.fClasses.length : Int)) :: (dI v123) :: q10 ((dP e46 v133.fItems) :: (dI (v133.fItems.length : Int)) :: (dI v166) :: q40 (q1 []))))), [(b9_0 a0), b9_1, (b9_2 v1), .dead, .dead, .dead, (b9_3 v133), .dead, .dead, .dead, (appO 1 (List.map (eK .u8) v188))]⟩ (by generalize v188 = z0; cases z0 <;> kernel_rfl) ?_
        refine seqQ.n ?_
        refine Wp.rg ?_
        refine Ops.sg 2 2 ?_
        refine Ops.dn ?_
        refine lpQ.n ⟨q2 ((.v (.str (⟨#[]⟩ : ByteArray))) :: (.ptr 1 0) :: q1 ((appD 8 (List.map (eK .u8) v188)) :: q11 ((dP e44 a0.fClasses) :: (dI (a0.fClasses.length : Int)) :: (dI v123) :: q10 ((dP e46 v133.fItems) :: (dI (v133.fItems.length : Int)) :: (dI (w64 (v166 + 1))) :: q40 (q1 []))))), [(b9_0 a0), b9_1, (b9_2 v1), .dead, .dead, .dead, (b9_3 v133), .dead, (appO 1 (List.map (eK .u8) v188))]⟩ (by generalize v188 = z0; cases z0 <;> kernel_rfl) ?_
        cases h
        exact ihx170 v188 (w64 (v166 + 1))  _ hsx175 _ (by omega) hrx171 hxx172
       ·refine Wp.exit (id := 2) (by kernel_rfl) ?_
        refine sqQ.x ?_
        refine seqQ.x ?_
        cases h
        refine lpQ.x ?_
        refine blkQ.x ⟨q2 ((.v (.str (⟨#[]⟩ : ByteArray))) :: (.ptr 1 0) :: q1 ((appD 8 (List.map (eK .u8) v165)) :: q11 ((dP e44 a0.fClasses) :: (dI (a0.fClasses.length : Int)) :: (dI v123) :: q40 (q14 [])))), [(b9_0 a0), b9_1, (b9_2 v1), .dead, .dead, .dead, (b9_3 v133), .dead, (appO 1 (List.map (eK .u8) v165))]⟩ (by generalize v165 = z0; cases z0 <;> kernel_rfl) ?_
        exact hxx172 (v165, v166)  hsx175
     refine Wp.loop' k9_1 8 (by kernel_rfl) ⟨q2 ((.v (.str (⟨#[]⟩ : ByteArray))) :: (.ptr 1 0) :: q1 ((appD 8 (List.map (eK .u8) v136)) :: q11 ((dP e44 a0.fClasses) :: (dI (a0.fClasses.length : Int)) :: (dI v123) :: q10 ((dP e46 v133.fItems) :: (dI (v133.fItems.length : Int)) :: (dI 0) :: q40 (q1 []))))), [(b9_0 a0), b9_1, (b9_2 v1), .dead, .dead, .dead, (b9_3 v133), .dead, (appO 1 (List.map (eK .u8) v136))]⟩ (by generalize v136 = z0; cases z0 <;> kernel_rfl) ?_
     rcases brk_some h with ⟨r191, er191, h⟩ | ⟨y190, ey190, h⟩
     ·refine hLx189 _ v136 0  _ er191 n (by omega) (fun r er σ hσ => ?_) (fun y  ey => by cases ey)
      cases er
      refine blkQ.r ?_
      refine seqQ.r ?_
      refine lpQ.r ?_
      cases h
      refine blkQ.r ?_
      exact hrx128 _ hsx132 _ (RetOk.forget k9_0 (by kernel_rfl) hσ)
     ·refine hLx189 _ v136 0  _ ey190 n (by omega) (fun r er => by cases er) (fun y  ey => ?_)
      cases ey
      refine blkQ.n ⟨q2 ((.v (.str (⟨#[]⟩ : ByteArray))) :: (.ptr 1 0) :: q1 ((appD 6 (List.map (eK .u8) y190.1)) :: q11 ((dP e44 a0.fClasses) :: (dI (a0.fClasses.length : Int)) :: (dI v123) :: q40 (q14 [])))), [(b9_0 a0), b9_1, (b9_2 v1), .dead, .dead, .dead, (appO 1 (List.map (eK .u8) y190.1))]⟩ (by generalize y190.1 = z0; cases z0 <;> kernel_rfl) ?_
      refine seqQ.n ?_
      refine Wp.rg ?_
      refine Ops.sg 2 2 ?_
      refine Ops.dn ?_
      refine lpQ.n ⟨q2 ((.v (.str (⟨#[]⟩ : ByteArray))) :: (.ptr 1 0) :: q1 ((appD 4 (List.map (eK .u8) y190.1)) :: q11 ((dP e44 a0.fClasses) :: (dI (a0.fClasses.length : Int)) :: (dI (w64 (v123 + 1))) :: q40 (q14 [])))), [(b9_0 a0), b9_1, (b9_2 v1), .dead, (appO 1 (List.map (eK .u8) y190.1))]⟩ (by generalize y190.1 = z0; cases z0 <;> kernel_rfl) ?_
      cases h
      exact ihx127 y190.1 (w64 (v123 + 1))  _ hsx132 _ (by omega) hrx128 hxx129
    ·refine Wp.exit (id := 0) (by kernel_rfl) ?_
     refine sqQ.x ?_
     refine seqQ.x ?_
     cases h
     refine lpQ.x ?_
     refine blkQ.x ⟨q2 ((.v (.str (⟨#[]⟩ : ByteArray))) :: (.ptr 1 0) :: q1 ((appD 4 (List.map (eK .u8) v122)) :: q40 (q28 []))), [(b9_0 a0), b9_1, (b9_2 v1), .dead, (appO 1 (List.map (eK .u8) v122))]⟩ (by generalize v122 = z0; cases z0 <;> kernel_rfl) ?_
     exact hxx129 (v122, v123)  hsx132
  refine Wp.loop' k9_0 4 (by kernel_rfl) ⟨q2 ((.v (.str (⟨#[]⟩ : ByteArray))) :: (.ptr 1 0) :: q1 ((appD 4 (List.map (eK .u8) [])) :: q11 ((dP e44 a0.fClasses) :: (dI (a0.fClasses.length : Int)) :: (dI 0) :: q40 (q14 [])))), [(b9_0 a0), b9_1, (b9_2 v1), .dead, .dead]⟩ (by kernel_rfl) ?_
  rcases brk_some h with ⟨r194, er194, h⟩ | ⟨y193, ey193, h⟩
  ·refine hLx192 _ [] 0  _ er194 n (by omega) (fun r er σ hσ => ?_) (fun y  ey => by cases ey)
   cases er
   refine seqQ.r ?_
   exact fnQ.r' (X9 n) (fun z => (.tuple [eS z.1, e26 z.2])) h hσ
  ·refine hLx192 _ [] 0  _ ey193 n (by omega) (fun r er => by cases er) (fun y  ey => ?_)
   cases ey
   refine seqQ.n ?_
   refine Wp.sq ?_
   refine Wp.sq ?_
   refine Wp.rg ?_
   refine Ops.sg 1 1 ?_
   refine Ops.on 2 (fun h0 e0 => (len_a (T := T) (g := .nil) h0 49 5 4 (eK .u8) y193.1 (by kernel_rfl))) ?_
   refine Ops.sg 1 3 ?_
   refine Ops.dn ?_
   refine seqQ.n ?_
   refine Wp.cnd h [2, 3, 5] 5 (by kernel_rfl) (fun h => ?_) (fun h => ?_)
   ·refine Wp.sq ?_
    refine Wp.rg ?_
    obtain ⟨v195, ev195, h⟩ := bnd_some h
    refine Ops.on 1 (fun h0 e0 => (call_ok (E' := EG) (h := h0) (by kernel_rfl) (Args.v (vI 1) (eI 1) (by kernel_rfl) (Args.v (vI (-1)) (eI (-1)) (by kernel_rfl) Args.nil)) (ok25g m 1 (-1) v195 ev195 n (by omega)))) ?_
    refine Ops.sg 2 3 ?_
    refine Ops.dn ?_
    refine seqQ.n ?_
    refine Wp.ret (by kernel_rfl) ?_
    refine sqQ.r ?_
    refine seqQ.r ?_
    exact fnQ.r' (X9 n) (fun z => (.tuple [eS z.1, e26 z.2])) h (RetOk.mk' (.v (.tuple [(.str (⟨#[]⟩ : ByteArray)), (.agg [(vI v195.fCode), (vI v195.fIndex)])])) (by kernel_rfl) (by kernel_rfl))
   ·refine Wp.sk ?_
    refine sqQ.n ⟨q2 ((.v (.str (⟨#[]⟩ : ByteArray))) :: (.ptr 1 0) :: q1 ((appD 5 (List.map (eK .u8) y193.1)) :: q40 (q28 []))), [(b9_0 a0), b9_1, (b9_2 v1), .dead, .dead, (appO 1 (List.map (eK .u8) y193.1))]⟩ (by generalize y193.1 = z0; cases z0 <;> kernel_rfl) ?_
    refine seqQ.n ?_
    refine Wp.sq ?_
    refine Wp.rg ?_
    refine Ops.sg 1 1 ?_
    refine Ops.on 2 (fun h0 e0 => (conv_d (T := T) h0 49 9 5 (appD 5 (List.map (eK .u8) y193.1)) y193.1 (appF_hd _ _ _) (by kernel_rfl) (by kernel_rfl) (by kernel_rfl))) ?_
    refine Ops.sg 3 5 ?_
    refine Ops.dn ?_
    refine seqQ.n ?_
    refine Wp.ret (by kernel_rfl) ?_
    exact fnQ.r' (X9 n) (fun z => (.tuple [eS z.1, e26 z.2])) h (RetOk.mk' (.v (.tuple [(.str (strI y193.1)), (.agg [(vI 0), (vI 0)])])) (by kernel_rfl) (by kernel_rfl))
def f22_B1 (m : Nat) (v60 : S44) (v67 : (List ByteArray)) (v68 : Int) : Option (Stp (List ByteArray) ((List ByteArray) × Int)) :=
 cnd (decide (v68 < (v60.fItems.length : Int)))
 (bnd (idx v60.fItems v68) fun v78 =>
 bnd (app 16 v67 v78.fTags) fun v79 =>
 some (.nxt (v79, w64 (v68 + 1))))
 (some (.brk (v67, v68)))
def f22_B2 (m : Nat) (a0 : S23) (v49 : (List ByteArray)) (v50 : Int) : Option (Stp (List ByteArray) ((List ByteArray) × Int)) :=
 cnd (decide (v50 < (a0.fClasses.length : Int)))
 (bnd (idx a0.fClasses v50) fun v60 =>
 brk (iter (fun (y : (List ByteArray) × Int) => f22_B1 m v60 y.1 y.2) m (v49, 0)) (fun r => some (.ret r)) fun y81 =>
 some (.nxt (y81.1, w64 (v50 + 1))))
 (some (.brk (v49, v50)))
def f22 (m : Nat) (a0 : S23) : Option (List ByteArray) :=
 brk (iter (fun (y : (List ByteArray) × Int) => f22_B2 m a0 y.1 y.2) m ([], 0)) some fun y84 =>
 bnd (srt y84.1) fun v86 =>
 some (compactS v86)
noncomputable abbrev X22 (n : Nat) : Cx := cxOf Proofs.Tryz.prog EG 22 n
noncomputable def C22 : Code := bodyOf Proofs.Tryz.prog 22
noncomputable abbrev p22_0 : Code := cL (cL (cR (cL (cR (cR C22)))))
noncomputable abbrev p22_1 : Code := cR (cR (cR p22_0))
abbrev b22_0 (w0 : S23) : AObj := .cells [(dP e44 w0.fClasses)]
abbrev b22_1 (w0 : S44) : AObj := .cells [(.v (.str w0.fName)), (dP e46 w0.fItems)]
abbrev k22_0 : List Nat := [2, 3, 9, 10, 11]
abbrev k22_1 : List Nat := [2, 3, 9, 10, 11, 16, 17, 18]
theorem ok22 (m : Nat) (a0 : S23) (o : (List ByteArray)) (h : f22 m a0 = some o) (n : Nat) (hn : m + 2 ≤ n) : FnO Proofs.Tryz.prog EG n 22 [.v (e23 a0)] ((eL eS) o) := by
 obtain ⟨n, rfl⟩ : ∃ q, n = q + 1 := ⟨n - 1, by omega⟩
 unfold f22 at h
 refine FnO.of (by kernel_rfl) (by kernel_rfl) (by kernel_rfl) ⟨(.v (.agg [(vP e44 a0.fClasses)])) :: u31 [], []⟩ (by kernel_rfl) ?_
 refine Wp.sq ?_
 refine Wp.rg ?_
 refine Ops.sg 2 2 ?_
 refine Ops.dn ?_
 refine seqQ.n ?_
 refine Wp.sq ?_
 refine Wp.rg ?_
 refine Ops.sg 1 1 ?_
 refine Ops.dn ?_
 refine seqQ.n ?_
 refine Wp.sq ?_
 refine Wp.sq ?_
 refine Wp.rg ?_
 refine Ops.sg 2 2 ?_
 refine Ops.on 3 (fun h0 e0 => (len_r (T := T) h0 22 45 .plain e44 a0.fClasses (by kernel_rfl))) ?_
 refine Ops.sg 1 4 ?_
 refine Ops.dn ?_
 refine seqQ.n ?_
 refine Wp.block' 0 [2, 3] 1 (by kernel_rfl) ?_
 have hLx83 : ∀ (kx52 : Nat) (v49 : (List ByteArray)) (v50 : Int)  (ox51 : (List ByteArray) ⊕ ((List ByteArray) × Int)), iter (fun (y : (List ByteArray) × Int) => f22_B2 m a0 y.1 y.2) kx52 (v49, v50) = some ox51 → ∀ nx53, kx52 ≤ nx53 → (∀ r, ox51 = .inl r → ∀ σ, RetOkO (X22 n) (resOf Proofs.Tryz.prog 22) ((eL eS) r) σ → (seqQ (X22 n) (cR (cR (cR C22))) (fnQO (X22 n).E.T (resOf Proofs.Tryz.prog 22) ((eL eS) o))) .ret σ) → (∀ (y : (List ByteArray) × Int) , ox51 = .inr y → (seqQ (X22 n) (cR (cR (cR C22))) (fnQO (X22 n).E.T (resOf Proofs.Tryz.prog 22) ((eL eS) o))) .normal ⟨q2 ((.v (.sl .nil (List.map eS []))) :: (rowF .nil 1 (List.map eS y.1)) :: q28 []), [(b22_0 a0), (rowO 1 (List.map eS y.1))]⟩) → Lp (X22 n) k22_0 1 p22_0 nx53 ⟨q2 ((.v (.sl .nil (List.map eS []))) :: (rowF .nil 1 (List.map eS v49)) :: q5 ((dP e44 a0.fClasses) :: (dI (a0.fClasses.length : Int)) :: (dI v50) :: q20 [])), [(b22_0 a0), (rowO 1 (List.map eS v49))]⟩ (blkQ (X22 n) 0 [2, 3] 1 (seqQ (X22 n) (cR (cR (cR C22))) (fnQO (X22 n).E.T (resOf Proofs.Tryz.prog 22) ((eL eS) o)))) := by
  intro kx52
  induction kx52 with
  | zero => intro v49 v50  ox51 h; exact (iter_zero h).elim
  | succ kx52 ihx54 =>
   intro v49 v50  ox51 h nx53 hnx57 hrx55 hxx56
   obtain ⟨nx53, rfl⟩ : ∃ q, nx53 = q + 1 := ⟨nx53 - 1, by omega⟩
   obtain ⟨sx58, h, hsx59⟩ := iter_some h
   have h : f22_B2 m a0 v49 v50 = some sx58 := h
   unfold f22_B2 at h
   refine Lp.succ ?_
   refine Wp.sq ?_
   refine Wp.rg ?_
   refine Ops.sg 1 1 ?_
   refine Ops.dn ?_
   refine seqQ.n ?_
   refine Wp.sq ?_
   refine Wp.cnd h k22_0 2 (by kernel_rfl) (fun h => ?_) (fun h => ?_)
   ·refine Wp.sk ?_
    refine sqQ.n ⟨q2 ((.v (.sl .nil (List.map eS []))) :: (rowF .nil 2 (List.map eS v49)) :: q5 ((dP e44 a0.fClasses) :: (dI (a0.fClasses.length : Int)) :: (dI v50) :: q20 [])), [(b22_0 a0), .dead, (rowO 1 (List.map eS v49))]⟩ (by generalize v49 = z0; cases z0 <;> kernel_rfl) ?_
    refine seqQ.n ?_
    refine Wp.sq ?_
    refine Wp.block' 1 k22_0 3 (by kernel_rfl) ?_
    refine Wp.sq ?_
    refine Wp.rg ?_
    obtain ⟨v60, ev60, h⟩ := bnd_some h
    refine Ops.on 1 (fun h0 e0 => (ix_r (T := T) h0 22 45 2 .plain e44 a0.fClasses v50 v60 ev60 (by kernel_rfl) (by kernel_rfl) (fun _ => rfl))) ?_
    refine Ops.sg 3 4 ?_
    refine Ops.dn ?_
    refine seqQ.n ?_
    refine Wp.sq ?_
    refine Wp.rg ?_
    refine Ops.sg 2 2 ?_
    refine Ops.on 3 (fun h0 e0 => (len_r (T := T) h0 43 47 .plain e46 v60.fItems (by kernel_rfl))) ?_
    refine Ops.sg 1 4 ?_
    refine Ops.dn ?_
    refine seqQ.n ?_
    refine Wp.block' 2 k22_0 4 (by kernel_rfl) ?_
    have hLx80 : ∀ (kx70 : Nat) (v67 : (List ByteArray)) (v68 : Int)  (ox69 : (List ByteArray) ⊕ ((List ByteArray) × Int)), iter (fun (y : (List ByteArray) × Int) => f22_B1 m v60 y.1 y.2) kx70 (v67, v68) = some ox69 → ∀ nx71, kx70 ≤ nx71 → (∀ r, ox69 = .inl r → ∀ σ, RetOkO (X22 n) (resOf Proofs.Tryz.prog 22) ((eL eS) r) σ → (blkQ (X22 n) 1 k22_0 3 (seqQ (X22 n) p22_1 (lpQ (X22 n) k22_0 1 p22_0 nx53 (blkQ (X22 n) 0 [2, 3] 1 (seqQ (X22 n) (cR (cR (cR C22))) (fnQO (X22 n).E.T (resOf Proofs.Tryz.prog 22) ((eL eS) o))))))) .ret σ) → (∀ (y : (List ByteArray) × Int) , ox69 = .inr y → (blkQ (X22 n) 1 k22_0 3 (seqQ (X22 n) p22_1 (lpQ (X22 n) k22_0 1 p22_0 nx53 (blkQ (X22 n) 0 [2, 3] 1 (seqQ (X22 n) (cR (cR (cR C22))) (fnQO (X22 n).E.T (resOf Proofs.Tryz.prog 22) ((eL eS) o))))))) .normal ⟨q2 ((.v (.sl .nil (List.map eS []))) :: (rowF .nil 4 (List.map eS y.1)) :: q5 ((dP e44 a0.fClasses) :: (dI (a0.fClasses.length : Int)) :: (dI v50) :: q20 [])), [(b22_0 a0), .dead, .dead, (b22_1 v60), (rowO 1 (List.map eS y.1))]⟩) → Lp (X22 n) k22_1 4 (cL (cL (cR (cR (cL (cL (cR (cR p22_0)))))))) nx71 ⟨q2 ((.v (.sl .nil (List.map eS []))) :: (rowF .nil 4 (List.map eS v67)) :: q5 ((dP e44 a0.fClasses) :: (dI (a0.fClasses.length : Int)) :: (dI v50) :: q4 ((dP e46 v60.fItems) :: (dI (v60.fItems.length : Int)) :: (dI v68) :: q13 []))), [(b22_0 a0), .dead, .dead, (b22_1 v60), (rowO 1 (List.map eS v67))]⟩ (blkQ (X22 n) 2 k22_0 4 (blkQ (X22 n) 1 k22_0 3 (seqQ (X22 n) p22_1 (lpQ (X22 n) k22_0 1 p22_0 nx53 (blkQ (X22 n) 0 [2, 3] 1 (seqQ (X22 n) (cR (cR (cR C22))) (fnQO (X22 n).E.T (resOf Proofs.Tryz.prog 22) ((eL eS) o)))))))) := by
     intro kx70
     induction kx70 with
     | zero => intro v67 v68  ox69 h; exact (iter_zero h).elim
     | succ kx70 ihx72 =>
      intro v67 v68  ox69 h nx71 hnx75 hrx73 hxx74
      obtain ⟨nx71, rfl⟩ : ∃ q, nx71 = q + 1 := ⟨nx71 - 1, by omega⟩
      obtain ⟨sx76, h, hsx77⟩ := iter_some h
      have h : f22_B1 m v60 v67 v68 = some sx76 := h
      unfold f22_B1 at h
      refine Lp.succ ?_
      refine Wp.sq ?_
      refine Wp.rg ?_
      refine Ops.sg 1 1 ?_
      refine Ops.dn ?_
      refine seqQ.n ?_
      refine Wp.sq ?_
      refine Wp.cnd h k22_1 5 (by kernel_rfl) (fun h => ?_) (fun h => ?_)
      ·refine Wp.sk ?_
       refine sqQ.n ⟨q2 ((.v (.sl .nil (List.map eS []))) :: (rowF .nil 5 (List.map eS v67)) :: q5 ((dP e44 a0.fClasses) :: (dI (a0.fClasses.length : Int)) :: (dI v50) :: q4 ((dP e46 v60.fItems) :: (dI (v60.fItems.length : Int)) :: (dI v68) :: q13 []))), [(b22_0 a0), .dead, .dead, (b22_1 v60), .dead, (rowO 1 (List.map eS v67))]⟩ (by generalize v67 = z0; cases z0 <;> kernel_rfl) ?_
       refine seqQ.n ?_
       refine Wp.sq ?_
       refine Wp.block' 3 k22_1 6 (by kernel_rfl) ?_
       refine Wp.sq ?_
       refine Wp.rg ?_
       obtain ⟨v78, ev78, h⟩ := bnd_some h
       refine Ops.on 1 (fun h0 e0 => (ix_r (T := T) h0 43 47 5 .plain e46 v60.fItems v68 v78 ev78 (by kernel_rfl) (by kernel_rfl) (fun _ => rfl))) ?_
       refine Ops.sg 3 4 ?_
       refine Ops.dn ?_
       refine seqQ.n ?_
       refine Wp.rg ?_
       refine Ops.sg 3 3 ?_
       obtain ⟨v79, ev79, h⟩ := bnd_some h
       refine Ops.on 4 (fun h0 e0 => (row_app (T := T) (g := .nil) h0 29 9 5 ti9 .plain eS v67 v78.fTags v79 ev79 (by kernel_rfl) (by kernel_rfl) (by kernel_rfl) (by kernel_rfl) (fun _ => rfl) (hq_of e0 (by kernel_rfl)))) ?_
       refine Ops.sg 1 5 ?_
       refine Ops.dn ?_
       refine blkQ.n ⟨q2 ((.v (.sl .nil (List.map eS []))) :: (rowF .nil 6 (List.map eS v79)) :: q5 ((dP e44 a0.fClasses) :: (dI (a0.fClasses.length : Int)) :: (dI v50) :: q4 ((dP e46 v60.fItems) :: (dI (v60.fItems.length : Int)) :: (dI v68) :: q13 []))), [(b22_0 a0), .dead, .dead, (b22_1 v60), .dead, .dead, (rowO 1 (List.map eS v79))]⟩ (by generalize v79 = z0; cases z0 <;> kernel_rfl) ?_
       refine seqQ.n ?_
       refine Wp.rg ?_
       refine Ops.sg 2 2 ?_
       refine Ops.dn ?_
       refine lpQ.n ⟨q2 ((.v (.sl .nil (List.map eS []))) :: (rowF .nil 4 (List.map eS v79)) :: q5 ((dP e44 a0.fClasses) :: (dI (a0.fClasses.length : Int)) :: (dI v50) :: q4 ((dP e46 v60.fItems) :: (dI (v60.fItems.length : Int)) :: (dI (w64 (v68 + 1))) :: q13 []))), [(b22_0 a0), .dead, .dead, (b22_1 v60), (rowO 1 (List.map eS v79))]⟩ (by generalize v79 = z0; cases z0 <;> kernel_rfl) ?_
       cases h
       exact ihx72 v79 (w64 (v68 + 1))  _ hsx77 _ (by omega) hrx73 hxx74
      ·refine Wp.exit (id := 2) (by kernel_rfl) ?_
       refine sqQ.x ?_
       refine seqQ.x ?_
       cases h
       refine lpQ.x ?_
       refine blkQ.x ⟨q2 ((.v (.sl .nil (List.map eS []))) :: (rowF .nil 4 (List.map eS v67)) :: q5 ((dP e44 a0.fClasses) :: (dI (a0.fClasses.length : Int)) :: (dI v50) :: q20 [])), [(b22_0 a0), .dead, .dead, (b22_1 v60), (rowO 1 (List.map eS v67))]⟩ (by generalize v67 = z0; cases z0 <;> kernel_rfl) ?_
       exact hxx74 (v67, v68)  hsx77
    refine Wp.loop' k22_1 4 (by kernel_rfl) ⟨q2 ((.v (.sl .nil (List.map eS []))) :: (rowF .nil 4 (List.map eS v49)) :: q5 ((dP e44 a0.fClasses) :: (dI (a0.fClasses.length : Int)) :: (dI v50) :: q4 ((dP e46 v60.fItems) :: (dI (v60.fItems.length : Int)) :: (dI 0) :: q13 []))), [(b22_0 a0), .dead, .dead, (b22_1 v60), (rowO 1 (List.map eS v49))]⟩ (by generalize v49 = z0; cases z0 <;> kernel_rfl) ?_
    rcases brk_some h with ⟨r82, er82, h⟩ | ⟨y81, ey81, h⟩
    ·refine hLx80 _ v49 0  _ er82 n (by omega) (fun r er σ hσ => ?_) (fun y  ey => by cases ey)
     cases er
     refine blkQ.r ?_
     refine seqQ.r ?_
     refine lpQ.r ?_
     cases h
     refine blkQ.r ?_
     exact hrx55 _ hsx59 _ (RetOkO.forget k22_0 (by kernel_rfl) hσ)
    ·refine hLx80 _ v49 0  _ ey81 n (by omega) (fun r er => by cases er) (fun y  ey => ?_)
     cases ey
     refine blkQ.n ⟨q2 ((.v (.sl .nil (List.map eS []))) :: (rowF .nil 3 (List.map eS y81.1)) :: q5 ((dP e44 a0.fClasses) :: (dI (a0.fClasses.length : Int)) :: (dI v50) :: q20 [])), [(b22_0 a0), .dead, .dead, (rowO 1 (List.map eS y81.1))]⟩ (by generalize y81.1 = z0; cases z0 <;> kernel_rfl) ?_
     refine seqQ.n ?_
     refine Wp.rg ?_
     refine Ops.sg 2 2 ?_
     refine Ops.dn ?_
     refine lpQ.n ⟨q2 ((.v (.sl .nil (List.map eS []))) :: (rowF .nil 1 (List.map eS y81.1)) :: q5 ((dP e44 a0.fClasses) :: (dI (a0.fClasses.length : Int)) :: (dI (w64 (v50 + 1))) :: q20 [])), [(b22_0 a0), (rowO 1 (List.map eS y81.1))]⟩ (by generalize y81.1 = z0; cases z0 <;> kernel_rfl) ?_
     cases h
     exact ihx54 y81.1 (w64 (v50 + 1))  _ hsx59 _ (by omega) hrx55 hxx56
   ·refine Wp.exit (id := 0) (by kernel_rfl) ?_
    refine sqQ.x ?_
    refine seqQ.x ?_
    cases h
    refine lpQ.x ?_
    refine blkQ.x ⟨q2 ((.v (.sl .nil (List.map eS []))) :: (rowF .nil 1 (List.map eS v49)) :: q28 []), [(b22_0 a0), (rowO 1 (List.map eS v49))]⟩ (by generalize v49 = z0; cases z0 <;> kernel_rfl) ?_
    exact hxx56 (v49, v50)  hsx59
 refine Wp.loop' k22_0 1 (by kernel_rfl) ⟨q2 ((.v (.sl .nil (List.map eS []))) :: (rowF .nil 1 (List.map eS [])) :: q5 ((dP e44 a0.fClasses) :: (dI (a0.fClasses.length : Int)) :: (dI 0) :: q20 [])), [(b22_0 a0), (rowO 1 (List.map eS []))]⟩ (by kernel_rfl) ?_
 rcases brk_some h with ⟨r85, er85, h⟩ | ⟨y84, ey84, h⟩
 ·refine hLx83 _ [] 0  _ er85 n (by omega) (fun r er σ hσ => ?_) (fun y  ey => by cases ey)
  cases er
  refine seqQ.r ?_
  exact fnQO.r' (X22 n) (fun z => ((eL eS) z)) h hσ
 ·refine hLx83 _ [] 0  _ ey84 n (by omega) (fun r er => by cases er) (fun y  ey => ?_)
  cases ey
  refine seqQ.n ?_
  refine Wp.sq ?_
  refine Wp.rg ?_
  refine Ops.sg 1 1 ?_
  obtain ⟨v86, ev86, h⟩ := bnd_some h
  refine Ops.on 2 (fun h0 e0 => (callD_own (P := Proofs.Tryz.prog) (E := EG) (E' := EG) (n := n) (f := 34) (by kernel_rfl) (by kernel_rfl) (by kernel_rfl) (row_sort h0 1 y84.1 v86 ev86 (hq_of e0 (by kernel_rfl))) (by omega))) ?_
  refine Ops.st ⟨q2 ((.v (.sl .nil (List.map eS []))) :: (rowF .nil 1 (List.map eS y84.1)) :: q24 ((rowF .nil 1 (List.map eS y84.1)) :: u1 (q2 []))), [(b22_0 a0), (rowO 1 (List.map eS v86))]⟩ (by kernel_rfl) ?_
  rw [srt_row 1 ev86]
  refine Ops.dn ?_
  refine seqQ.n ?_
  refine Wp.sq ?_
  refine Wp.rg ?_
  refine Ops.sg 1 1 ?_
  refine Ops.on 2 (fun h0 e0 => (callD_own (P := Proofs.Tryz.prog) (E := EG) (E' := EG) (n := n) (f := 35) (by kernel_rfl) (by kernel_rfl) (by kernel_rfl) (row_compact h0 1 v86 (hq_of e0 (by kernel_rfl))) (by omega))) ?_
  refine Ops.sg 1 3 ?_
  refine Ops.dn ?_
  refine seqQ.n ?_
  refine Wp.ret (by kernel_rfl) ?_
  exact fnQO.r' (X22 n) (fun z => ((eL eS) z)) h (RetOkO.row (g := .nil) 1 1 (List.map eS (compactS v86)) (by kernel_rfl) (by kernel_rfl) (flat_eS _))
def f8 (m : Nat) (a0 : S23) : Option ((List ByteArray) × S26) :=
 bnd (f11 m a0) fun v1 =>
 cnd (!((v1.fCode == 0) && ((v1.fIndex == 0) && true)))
 (some (([], v1)))
 (bnd (f22 m a0) fun v2 =>
 some ((v2, (⟨0, 0⟩ : S26))))
noncomputable abbrev X8 (n : Nat) : Cx := cxOf Proofs.Tryz.prog EG 8 n
theorem ok8 (m : Nat) (a0 : S23) (o : ((List ByteArray) × S26)) (h : f8 m a0 = some o) (n : Nat) (hn : m + 6 ≤ n) : Fn Proofs.Tryz.prog EG n 8 [.v (e23 a0)] (.tuple [(eL eS) o.1, e26 o.2]) := by
 obtain ⟨n, rfl⟩ : ∃ q, n = q + 1 := ⟨n - 1, by omega⟩
 unfold f8 at h
 refine Fn.of (by kernel_rfl) (by kernel_rfl) (by kernel_rfl) ⟨(.v (.agg [(vP e44 a0.fClasses)])) :: u13 [], []⟩ (by kernel_rfl) ?_
 refine Wp.sq ?_
 refine Wp.rg ?_
 refine Ops.sg 3 3 ?_
 refine Ops.dn ?_
 refine seqQ.n ?_
 refine Wp.sq ?_
 refine Wp.sq ?_
 refine Wp.rg ?_
 refine Ops.sg 1 1 ?_
 obtain ⟨v1, ev1, h⟩ := bnd_some h
 refine Ops.on 2 (fun h0 e0 => (call_ok (E' := EG) (h := h0) (by kernel_rfl) (Args.v (.agg [(vP e44 a0.fClasses)]) (e23 a0) (by kernel_rfl) Args.nil) (ok11g m a0 v1 ev1 n (by omega)))) ?_
 refine Ops.sg 2 4 ?_
 refine Ops.dn ?_
 refine seqQ.n ?_
 refine Wp.sq ?_
 refine Wp.rg ?_
 refine Ops.sg 3 3 ?_
 refine Ops.dn ?_
 refine seqQ.n ?_
 refine Wp.cnd h [1, 2, 3] 3 (by kernel_rfl) (fun h => ?_) (fun h => ?_)
 ·refine Wp.sq ?_
  refine Wp.rg ?_
  refine Ops.sg 3 3 ?_
  refine Ops.dn ?_
  refine seqQ.n ?_
  refine Wp.ret (by kernel_rfl) ?_
  refine sqQ.r ?_
  refine seqQ.r ?_
  exact fnQ.r' (X8 n) (fun z => (.tuple [(eL eS) z.1, e26 z.2])) h (RetOk.mk' (.v (.tuple [(.sl .nil (List.map eS [])), (.agg [(vI v1.fCode), (vI v1.fIndex)])])) (by kernel_rfl) (by kernel_rfl))
 ·refine Wp.sk ?_
  refine sqQ.n' ?_
  refine seqQ.n ?_
  refine Wp.sq ?_
  refine Wp.rg ?_
  refine Ops.sg 1 1 ?_
  obtain ⟨v2, ev2, h⟩ := bnd_some h
  refine Ops.on 2 (fun h0 e0 => (call_ok (E' := EG) (h := h0) (by kernel_rfl) (Args.v (.agg [(vP e44 a0.fClasses)]) (e23 a0) (by kernel_rfl) Args.nil) (ok22 m a0 v2 ev2 n (by omega)).fn)) ?_
  refine Ops.sg 3 5 ?_
  refine Ops.dn ?_
  refine seqQ.n ?_
  refine Wp.ret (by kernel_rfl) ?_
  exact fnQ.r' (X8 n) (fun z => (.tuple [(eL eS) z.1, e26 z.2])) h (RetOk.mk' (.v (.tuple [(vP eS v2), (.agg [(vI 0), (vI 0)])])) (by kernel_rfl) (by kernel_rfl))
noncomputable def f6_r1 (m : Nat) (v43 : Bool) : Option Bool :=
 some v43
noncomputable def f6_r2 (m : Nat) (v5 : ((List ByteArray) × S26)) (v35 : Bool) : Option Bool :=
 bnd (cnd v35
 (bnd (f12 m v5.1 ([(⟨#[110]⟩ : ByteArray), (⟨#[112, 108]⟩ : ByteArray), (⟨#[115, 103]⟩ : ByteArray)])) fun v45 =>
 some v45)
 (some false)) fun v43 =>
 f6_r1 m v43
noncomputable def f6_r3 (m : Nat) (v3 : (S23 × S26)) (v5 : ((List ByteArray) × S26)) (v27 : Bool) : Option Bool :=
 bnd (cnd v27
 (bnd (f17 m ) fun v46 =>
 bnd (f16 m v3.1 v46) fun v47 =>
 some v47)
 (some false)) fun v35 =>
 f6_r2 m v5 v35
noncomputable def f6_r4 (m : Nat) (v2 : (ByteArray × S26)) (v3 : (S23 × S26)) (v5 : ((List ByteArray) × S26)) (v20 : Bool) : Option Bool :=
 f6_r3 m v3 v5 ((v20 && ((v2.1.toList == ((⟨#[99, 108, 97, 115, 115, 32, 114, 111, 111, 116, 10, 105, 116, 101, 109, 32, 40, 100, 111, 103, 41, 40, 100, 111, 103, 41, 91, 110, 93, 32, 49, 32, 48, 10, 99, 108, 97, 115, 115, 32, 110, 117, 109, 98, 101, 114, 10, 105, 116, 101, 109, 32, 40, 41, 40, 41, 91, 115, 103, 93, 32, 45, 49, 32, 48, 10, 105, 116, 101, 109, 32, 40, 41, 40, 115, 41, 91, 112, 108, 93, 32, 45, 49, 32, 50, 10]⟩ : ByteArray)).toList))))
noncomputable def f6_r5 (m : Nat) (v2 : (ByteArray × S26)) (v3 : (S23 × S26)) (v5 : ((List ByteArray) × S26)) (v12 : Bool) : Option Bool :=
 f6_r4 m v2 v3 v5 (v12 && ((v5.2.fCode == 0) && ((v5.2.fIndex == 0) && true)))
noncomputable def f6 (m : Nat)  : Option Bool :=
 bnd (f17 m ) fun v1 =>
 bnd (f9 m v1) fun v2 =>
 bnd (f14 m v2.1) fun v3 =>
 bnd (f17 m ) fun v4 =>
 bnd (f8 m v4) fun v5 =>
 f6_r5 m v2 v3 v5 (((v2.2.fCode == 0) && ((v2.2.fIndex == 0) && true)) && ((v3.2.fCode == 0) && ((v3.2.fIndex == 0) && true)))
noncomputable abbrev X6 (n : Nat) : Cx := cxOf Proofs.Tryz.prog EG 6 n
abbrev b6_0 (w0 : (ByteArray × S26)) : AObj := .cells [(dI w0.2.fCode), (dI w0.2.fIndex)]
abbrev b6_1 (w0 : (S23 × S26)) : AObj := .cells [(dP e44 w0.1.fClasses)]
abbrev b6_2 (w0 : (S23 × S26)) : AObj := .cells [(dI w0.2.fCode), (dI w0.2.fIndex)]
abbrev b6_3 (w0 : ((List ByteArray) × S26)) : AObj := .cells [(dI w0.2.fCode), (dI w0.2.fIndex)]
theorem ok6 (m : Nat)  (o : Bool) (h : f6 m  = some o) (n : Nat) (hn : m + 7 ≤ n) : Fn Proofs.Tryz.prog EG n 6 [] (eB o) := by
 obtain ⟨n, rfl⟩ : ∃ q, n = q + 1 := ⟨n - 1, by omega⟩
 unfold f6 at h
 refine Fn.of (by kernel_rfl) (by kernel_rfl) (by kernel_rfl) ⟨u40 (u9 []), []⟩ (by kernel_rfl) ?_
 refine Wp.sq ?_
 refine Wp.rg ?_
 refine Ops.sg 1 1 ?_
 refine Ops.dn ?_
 refine seqQ.n ?_
 refine Wp.sq ?_
 refine Wp.rg ?_
 obtain ⟨v1, ev1, h⟩ := bnd_some h
 refine Ops.on 1 (fun h0 e0 => (call_ok (E' := EG) (h := h0) (by kernel_rfl) Args.nil (ok17 m  v1 ev1 n (by omega)))) ?_
 obtain ⟨v2, ev2, h⟩ := bnd_some h
 refine Ops.on 2 (fun h0 e0 => (call_ok (E' := EG) (h := h0) (by kernel_rfl) (Args.v (.agg [(vP e44 v1.fClasses)]) (e23 v1) (by kernel_rfl) Args.nil) (ok9 m v1 v2 ev2 n (by omega)))) ?_
 refine Ops.sg 6 8 ?_
 refine Ops.dn ?_
 refine seqQ.n ?_
 refine Wp.sq ?_
 refine Wp.rg ?_
 refine Ops.sg 1 1 ?_
 obtain ⟨v3, ev3, h⟩ := bnd_some h
 refine Ops.on 2 (fun h0 e0 => (call_ok (E' := EG) (h := h0) (by kernel_rfl) (Args.v (.str v2.1) (eS v2.1) (by kernel_rfl) Args.nil) (ok14 m v2.1 v3 ev3 n (by omega)))) ?_
 refine Ops.sg 7 9 ?_
 refine Ops.dn ?_
 refine seqQ.n ?_
 refine Wp.sq ?_
 refine Wp.rg ?_
 obtain ⟨v4, ev4, h⟩ := bnd_some h
 refine Ops.on 1 (fun h0 e0 => (call_ok (E' := EG) (h := h0) (by kernel_rfl) Args.nil (ok17 m  v4 ev4 n (by omega)))) ?_
 obtain ⟨v5, ev5, h⟩ := bnd_some h
 refine Ops.on 2 (fun h0 e0 => (call_ok (E' := EG) (h := h0) (by kernel_rfl) (Args.v (.agg [(vP e44 v4.fClasses)]) (e23 v4) (by kernel_rfl) Args.nil) (ok8 m v4 v5 ev5 n (by omega)))) ?_
 refine Ops.sg 6 8 ?_
 refine Ops.dn ?_
 refine seqQ.n ?_
 refine Wp.sq ?_
 refine Wp.rg ?_
 refine Ops.sg 4 4 ?_
 refine Ops.hv (fun KQ => ∀ (d8 d9 d10 : D) (v11 : Bool) (v12 : Bool), f6_r5 m v2 v3 v5 v12 = some o → KQ 8 ⟨(dB false) :: (.v (.str v2.1)) :: (.ptr 0 0) :: (.ptr 1 0) :: (.ptr 2 0) :: (dP eS v5.1) :: (.ptr 3 0) :: (.v (.tuple [(.str v2.1), (.agg [(vI v2.2.fCode), (vI v2.2.fIndex)])])) :: (.v (.agg [(vP e44 v1.fClasses)])) :: (.v (.tuple [(.str v2.1), (.agg [(vI v2.2.fCode), (vI v2.2.fIndex)])])) :: (.v (.str v2.1)) :: (.v (.agg [(vI v2.2.fCode), (vI v2.2.fIndex)])) :: (.v (.tuple [(.agg [(vP e44 v3.1.fClasses)]), (.agg [(vI v3.2.fCode), (vI v3.2.fIndex)])])) :: (.v (.str v2.1)) :: (.v (.tuple [(.agg [(vP e44 v3.1.fClasses)]), (.agg [(vI v3.2.fCode), (vI v3.2.fIndex)])])) :: (.v (.agg [(vP e44 v3.1.fClasses)])) :: (.v (.agg [(vI v3.2.fCode), (vI v3.2.fIndex)])) :: (.v (.tuple [(vP eS v5.1), (.agg [(vI v5.2.fCode), (vI v5.2.fIndex)])])) :: (.v (.agg [(vP e44 v4.fClasses)])) :: (.v (.tuple [(vP eS v5.1), (.agg [(vI v5.2.fCode), (vI v5.2.fIndex)])])) :: (dP eS v5.1) :: (.v (.agg [(vI v5.2.fCode), (vI v5.2.fIndex)])) :: (.v (.agg [(vI v2.2.fCode), (vI v2.2.fIndex)])) :: (.v (.agg [(vI 0), (vI 0)])) :: (dB v11) :: (dB v11) :: d8 :: d9 :: d10 :: (dB v12) :: u19 [], [(b6_0 v2), (b6_1 v3), (b6_2 v3), (b6_3 v5)]⟩) ?_ fun J6j13 => ?_
 ·intro d8 d9 d10 v11 v12 h
  unfold f6_r5 at h
  refine Ops.sg 1 9 ?_
  refine Ops.hv (fun KQ => ∀ (d16 d17 d18 : D) (v19 : Bool) (v20 : Bool), f6_r4 m v2 v3 v5 v20 = some o → KQ 13 ⟨(dB false) :: (.v (.str v2.1)) :: (.ptr 0 0) :: (.ptr 1 0) :: (.ptr 2 0) :: (dP eS v5.1) :: (.ptr 3 0) :: (.v (.tuple [(.str v2.1), (.agg [(vI v2.2.fCode), (vI v2.2.fIndex)])])) :: (.v (.agg [(vP e44 v1.fClasses)])) :: (.v (.tuple [(.str v2.1), (.agg [(vI v2.2.fCode), (vI v2.2.fIndex)])])) :: (.v (.str v2.1)) :: (.v (.agg [(vI v2.2.fCode), (vI v2.2.fIndex)])) :: (.v (.tuple [(.agg [(vP e44 v3.1.fClasses)]), (.agg [(vI v3.2.fCode), (vI v3.2.fIndex)])])) :: (.v (.str v2.1)) :: (.v (.tuple [(.agg [(vP e44 v3.1.fClasses)]), (.agg [(vI v3.2.fCode), (vI v3.2.fIndex)])])) :: (.v (.agg [(vP e44 v3.1.fClasses)])) :: (.v (.agg [(vI v3.2.fCode), (vI v3.2.fIndex)])) :: (.v (.tuple [(vP eS v5.1), (.agg [(vI v5.2.fCode), (vI v5.2.fIndex)])])) :: (.v (.agg [(vP e44 v4.fClasses)])) :: (.v (.tuple [(vP eS v5.1), (.agg [(vI v5.2.fCode), (vI v5.2.fIndex)])])) :: (dP eS v5.1) :: (.v (.agg [(vI v5.2.fCode), (vI v5.2.fIndex)])) :: (.v (.agg [(vI v2.2.fCode), (vI v2.2.fIndex)])) :: (.v (.agg [(vI 0), (vI 0)])) :: (dB v11) :: (dB v11) :: d8 :: d9 :: d10 :: (dB v19) :: (dB v19) :: d16 :: d17 :: d18 :: (dB v20) :: u14 [], [(b6_0 v2), (b6_1 v3), (b6_2 v3), (b6_3 v5)]⟩) ?_ fun J6j21 => ?_
  ·intro d16 d17 d18 v19 v20 h
   unfold f6_r4 at h
   refine Ops.sg 1 14 ?_
   refine Ops.hv (fun KQ => ∀ (d24 d25 : D) (v26 : Bool) (v27 : Bool), f6_r3 m v3 v5 v27 = some o → KQ 17 ⟨(dB false) :: (.v (.str v2.1)) :: (.ptr 0 0) :: (.ptr 1 0) :: (.ptr 2 0) :: (dP eS v5.1) :: (.ptr 3 0) :: (.v (.tuple [(.str v2.1), (.agg [(vI v2.2.fCode), (vI v2.2.fIndex)])])) :: (.v (.agg [(vP e44 v1.fClasses)])) :: (.v (.tuple [(.str v2.1), (.agg [(vI v2.2.fCode), (vI v2.2.fIndex)])])) :: (.v (.str v2.1)) :: (.v (.agg [(vI v2.2.fCode), (vI v2.2.fIndex)])) :: (.v (.tuple [(.agg [(vP e44 v3.1.fClasses)]), (.agg [(vI v3.2.fCode), (vI v3.2.fIndex)])])) :: (.v (.str v2.1)) :: (.v (.tuple [(.agg [(vP e44 v3.1.fClasses)]), (.agg [(vI v3.2.fCode), (vI v3.2.fIndex)])])) :: (.v (.agg [(vP e44 v3.1.fClasses)])) :: (.v (.agg [(vI v3.2.fCode), (vI v3.2.fIndex)])) :: (.v (.tuple [(vP eS v5.1), (.agg [(vI v5.2.fCode), (vI v5.2.fIndex)])])) :: (.v (.agg [(vP e44 v4.fClasses)])) :: (.v (.tuple [(vP eS v5.1), (.agg [(vI v5.2.fCode), (vI v5.2.fIndex)])])) :: (dP eS v5.1) :: (.v (.agg [(vI v5.2.fCode), (vI v5.2.fIndex)])) :: (.v (.agg [(vI v2.2.fCode), (vI v2.2.fIndex)])) :: (.v (.agg [(vI 0), (vI 0)])) :: (dB v11) :: (dB v11) :: d8 :: d9 :: d10 :: (dB v19) :: (dB v19) :: d16 :: d17 :: d18 :: (dB v26) :: (dB v26) :: d24 :: d25 :: (dB v27) :: u10 [], [(b6_0 v2), (b6_1 v3), (b6_2 v3), (b6_3 v5)]⟩) ?_ fun J6j28 => ?_
   ·intro d24 d25 v26 v27 h
    unfold f6_r3 at h
    refine Ops.sg 1 18 ?_
    refine Ops.hv (fun KQ => ∀ (d31 d32 d33 : D) (v34 : Bool) (v35 : Bool), f6_r2 m v5 v35 = some o → KQ 22 ⟨(dB false) :: (.v (.str v2.1)) :: (.ptr 0 0) :: (.ptr 1 0) :: (.ptr 2 0) :: (dP eS v5.1) :: (.ptr 3 0) :: (.v (.tuple [(.str v2.1), (.agg [(vI v2.2.fCode), (vI v2.2.fIndex)])])) :: (.v (.agg [(vP e44 v1.fClasses)])) :: (.v (.tuple [(.str v2.1), (.agg [(vI v2.2.fCode), (vI v2.2.fIndex)])])) :: (.v (.str v2.1)) :: (.v (.agg [(vI v2.2.fCode), (vI v2.2.fIndex)])) :: (.v (.tuple [(.agg [(vP e44 v3.1.fClasses)]), (.agg [(vI v3.2.fCode), (vI v3.2.fIndex)])])) :: (.v (.str v2.1)) :: (.v (.tuple [(.agg [(vP e44 v3.1.fClasses)]), (.agg [(vI v3.2.fCode), (vI v3.2.fIndex)])])) :: (.v (.agg [(vP e44 v3.1.fClasses)])) :: (.v (.agg [(vI v3.2.fCode), (vI v3.2.fIndex)])) :: (.v (.tuple [(vP eS v5.1), (.agg [(vI v5.2.fCode), (vI v5.2.fIndex)])])) :: (.v (.agg [(vP e44 v4.fClasses)])) :: (.v (.tuple [(vP eS v5.1), (.agg [(vI v5.2.fCode), (vI v5.2.fIndex)])])) :: (dP eS v5.1) :: (.v (.agg [(vI v5.2.fCode), (vI v5.2.fIndex)])) :: (.v (.agg [(vI v2.2.fCode), (vI v2.2.fIndex)])) :: (.v (.agg [(vI 0), (vI 0)])) :: (dB v11) :: (dB v11) :: d8 :: d9 :: d10 :: (dB v19) :: (dB v19) :: d16 :: d17 :: d18 :: (dB v26) :: (dB v26) :: d24 :: d25 :: (dB v34) :: (dB v34) :: d31 :: d32 :: d33 :: (dB v35) :: u5 [], [(b6_0 v2), (b6_1 v3), (b6_2 v3), (b6_3 v5)]⟩) ?_ fun J6j36 => ?_
    ·intro d31 d32 d33 v34 v35 h
     unfold f6_r2 at h
     refine Ops.sg 1 23 ?_
     refine Ops.hv (fun KQ => ∀ (d39 d40 d41 : D) (v42 : Bool) (v43 : Bool), f6_r1 m v43 = some o → KQ 27 ⟨(dB false) :: (.v (.str v2.1)) :: (.ptr 0 0) :: (.ptr 1 0) :: (.ptr 2 0) :: (dP eS v5.1) :: (.ptr 3 0) :: (.v (.tuple [(.str v2.1), (.agg [(vI v2.2.fCode), (vI v2.2.fIndex)])])) :: (.v (.agg [(vP e44 v1.fClasses)])) :: (.v (.tuple [(.str v2.1), (.agg [(vI v2.2.fCode), (vI v2.2.fIndex)])])) :: (.v (.str v2.1)) :: (.v (.agg [(vI v2.2.fCode), (vI v2.2.fIndex)])) :: (.v (.tuple [(.agg [(vP e44 v3.1.fClasses)]), (.agg [(vI v3.2.fCode), (vI v3.2.fIndex)])])) :: (.v (.str v2.1)) :: (.v (.tuple [(.agg [(vP e44 v3.1.fClasses)]), (.agg [(vI v3.2.fCode), (vI v3.2.fIndex)])])) :: (.v (.agg [(vP e44 v3.1.fClasses)])) :: (.v (.agg [(vI v3.2.fCode), (vI v3.2.fIndex)])) :: (.v (.tuple [(vP eS v5.1), (.agg [(vI v5.2.fCode), (vI v5.2.fIndex)])])) :: (.v (.agg [(vP e44 v4.fClasses)])) :: (.v (.tuple [(vP eS v5.1), (.agg [(vI v5.2.fCode), (vI v5.2.fIndex)])])) :: (dP eS v5.1) :: (.v (.agg [(vI v5.2.fCode), (vI v5.2.fIndex)])) :: (.v (.agg [(vI v2.2.fCode), (vI v2.2.fIndex)])) :: (.v (.agg [(vI 0), (vI 0)])) :: (dB v11) :: (dB v11) :: d8 :: d9 :: d10 :: (dB v19) :: (dB v19) :: d16 :: d17 :: d18 :: (dB v26) :: (dB v26) :: d24 :: d25 :: (dB v34) :: (dB v34) :: d31 :: d32 :: d33 :: (dB v42) :: (dB v42) :: d39 :: d40 :: d41 :: (dB v43) :: [], [(b6_0 v2), (b6_1 v3), (b6_2 v3), (b6_3 v5)]⟩) ?_ fun J6j44 => ?_
     ·intro d39 d40 d41 v42 v43 h
      unfold f6_r1 at h
      refine Ops.sg 1 28 ?_
      refine Ops.dn ?_
      refine seqQ.n ?_
      refine Wp.ret (by kernel_rfl) ?_
      exact fnQ.r' (X6 n) (fun z => (eB z)) h (RetOk.mk' (dB v43) (by kernel_rfl) (by kernel_rfl))
     obtain ⟨v43, ev43, h⟩ := bnd_some h
     refine Ops.hv (fun KQ => ∀ v37 : Bool, (cnd v37 (bnd (f12 m v5.1 ([(⟨#[110]⟩ : ByteArray), (⟨#[112, 108]⟩ : ByteArray), (⟨#[115, 103]⟩ : ByteArray)])) fun v45 => some v45) (some false)) = some v43 → KQ 23 ⟨(dB false) :: (.v (.str v2.1)) :: (.ptr 0 0) :: (.ptr 1 0) :: (.ptr 2 0) :: (dP eS v5.1) :: (.ptr 3 0) :: (.v (.tuple [(.str v2.1), (.agg [(vI v2.2.fCode), (vI v2.2.fIndex)])])) :: (.v (.agg [(vP e44 v1.fClasses)])) :: (.v (.tuple [(.str v2.1), (.agg [(vI v2.2.fCode), (vI v2.2.fIndex)])])) :: (.v (.str v2.1)) :: (.v (.agg [(vI v2.2.fCode), (vI v2.2.fIndex)])) :: (.v (.tuple [(.agg [(vP e44 v3.1.fClasses)]), (.agg [(vI v3.2.fCode), (vI v3.2.fIndex)])])) :: (.v (.str v2.1)) :: (.v (.tuple [(.agg [(vP e44 v3.1.fClasses)]), (.agg [(vI v3.2.fCode), (vI v3.2.fIndex)])])) :: (.v (.agg [(vP e44 v3.1.fClasses)])) :: (.v (.agg [(vI v3.2.fCode), (vI v3.2.fIndex)])) :: (.v (.tuple [(vP eS v5.1), (.agg [(vI v5.2.fCode), (vI v5.2.fIndex)])])) :: (.v (.agg [(vP e44 v4.fClasses)])) :: (.v (.tuple [(vP eS v5.1), (.agg [(vI v5.2.fCode), (vI v5.2.fIndex)])])) :: (dP eS v5.1) :: (.v (.agg [(vI v5.2.fCode), (vI v5.2.fIndex)])) :: (.v (.agg [(vI v2.2.fCode), (vI v2.2.fIndex)])) :: (.v (.agg [(vI 0), (vI 0)])) :: (dB v11) :: (dB v11) :: d8 :: d9 :: d10 :: (dB v19) :: (dB v19) :: d16 :: d17 :: d18 :: (dB v26) :: (dB v26) :: d24 :: d25 :: (dB v34) :: (dB v34) :: d31 :: d32 :: d33 :: (dB v37) :: (dB v37) :: u4 [], [(b6_0 v2), (b6_1 v3), (b6_2 v3), (b6_3 v5)]⟩) ?_ fun G6g38 => Ops.st _ (by kernel_rfl) (G6g38 v35 ev43)
     intro v37 ev43
     cases v37
     ·have ev43 := cnd_f ev43
      refine Ops.sg 4 27 ?_
      exact Ops.st _ (by kernel_rfl) (J6j44 U U U false false (some_sub (fun v43 => f6_r1 m v43 = some o) ev43 h))
     ·have ev43 := cnd_t ev43
      refine Ops.sg 2 25 ?_
      obtain ⟨v45, ev45, ev43⟩ := bnd_some ev43
      refine Ops.on 26 (fun h0 e0 => (call_ok (E' := EG) (h := h0) (by kernel_rfl) (Args.v (vP eS v5.1) ((eL eS) v5.1) (by kernel_rfl) (Args.v (.sl .nonfull (List.map eS ([(⟨#[110]⟩ : ByteArray), (⟨#[112, 108]⟩ : ByteArray), (⟨#[115, 103]⟩ : ByteArray)]))) ((eL eS) ([(⟨#[110]⟩ : ByteArray), (⟨#[112, 108]⟩ : ByteArray), (⟨#[115, 103]⟩ : ByteArray)])) (by kernel_rfl) Args.nil)) (ok12g m v5.1 ([(⟨#[110]⟩ : ByteArray), (⟨#[112, 108]⟩ : ByteArray), (⟨#[115, 103]⟩ : ByteArray)]) v45 ev45 n (by omega)))) ?_
      refine Ops.sg 1 27 ?_
      exact Ops.st _ (by kernel_rfl) (J6j44 (dP eS v5.1) ((.v (.sl .nonfull (List.map eS ([(⟨#[110]⟩ : ByteArray), (⟨#[112, 108]⟩ : ByteArray), (⟨#[115, 103]⟩ : ByteArray)]))))) (dB v45) true v45 (some_sub (fun v43 => f6_r1 m v43 = some o) ev43 h))
    obtain ⟨v35, ev35, h⟩ := bnd_some h
    refine Ops.hv (fun KQ => ∀ v29 : Bool, (cnd v29 (bnd (f17 m ) fun v46 => bnd (f16 m v3.1 v46) fun v47 => some v47) (some false)) = some v35 → KQ 18 ⟨(dB false) :: (.v (.str v2.1)) :: (.ptr 0 0) :: (.ptr 1 0) :: (.ptr 2 0) :: (dP eS v5.1) :: (.ptr 3 0) :: (.v (.tuple [(.str v2.1), (.agg [(vI v2.2.fCode), (vI v2.2.fIndex)])])) :: (.v (.agg [(vP e44 v1.fClasses)])) :: (.v (.tuple [(.str v2.1), (.agg [(vI v2.2.fCode), (vI v2.2.fIndex)])])) :: (.v (.str v2.1)) :: (.v (.agg [(vI v2.2.fCode), (vI v2.2.fIndex)])) :: (.v (.tuple [(.agg [(vP e44 v3.1.fClasses)]), (.agg [(vI v3.2.fCode), (vI v3.2.fIndex)])])) :: (.v (.str v2.1)) :: (.v (.tuple [(.agg [(vP e44 v3.1.fClasses)]), (.agg [(vI v3.2.fCode), (vI v3.2.fIndex)])])) :: (.v (.agg [(vP e44 v3.1.fClasses)])) :: (.v (.agg [(vI v3.2.fCode), (vI v3.2.fIndex)])) :: (.v (.tuple [(vP eS v5.1), (.agg [(vI v5.2.fCode), (vI v5.2.fIndex)])])) :: (.v (.agg [(vP e44 v4.fClasses)])) :: (.v (.tuple [(vP eS v5.1), (.agg [(vI v5.2.fCode), (vI v5.2.fIndex)])])) :: (dP eS v5.1) :: (.v (.agg [(vI v5.2.fCode), (vI v5.2.fIndex)])) :: (.v (.agg [(vI v2.2.fCode), (vI v2.2.fIndex)])) :: (.v (.agg [(vI 0), (vI 0)])) :: (dB v11) :: (dB v11) :: d8 :: d9 :: d10 :: (dB v19) :: (dB v19) :: d16 :: d17 :: d18 :: (dB v26) :: (dB v26) :: d24 :: d25 :: (dB v29) :: (dB v29) :: u9 [], [(b6_0 v2), (b6_1 v3), (b6_2 v3), (b6_3 v5)]⟩) ?_ fun G6g30 => Ops.st _ (by kernel_rfl) (G6g30 v27 ev35)
    intro v29 ev35
    cases v29
    ·have ev35 := cnd_f ev35
     refine Ops.sg 4 22 ?_
     exact Ops.st _ (by kernel_rfl) (J6j36 U U U false false (some_sub (fun v35 => f6_r2 m v5 v35 = some o) ev35 h))
    ·have ev35 := cnd_t ev35
     refine Ops.sg 1 19 ?_
     obtain ⟨v46, ev46, ev35⟩ := bnd_some ev35
     refine Ops.on 20 (fun h0 e0 => (call_ok (E' := EG) (h := h0) (by kernel_rfl) Args.nil (ok17 m  v46 ev46 n (by omega)))) ?_
     obtain ⟨v47, ev47, ev35⟩ := bnd_some ev35
     refine Ops.on 21 (fun h0 e0 => (call_ok (E' := EG) (h := h0) (by kernel_rfl) (Args.v (.agg [(vP e44 v3.1.fClasses)]) (e23 v3.1) (by kernel_rfl) (Args.v (.agg [(vP e44 v46.fClasses)]) (e23 v46) (by kernel_rfl) Args.nil)) (ok16 m v3.1 v46 v47 ev47 n (by omega)))) ?_
     refine Ops.sg 1 22 ?_
     exact Ops.st _ (by kernel_rfl) (J6j36 (.v (.agg [(vP e44 v3.1.fClasses)])) (.v (.agg [(vP e44 v46.fClasses)])) (dB v47) true v47 (some_sub (fun v35 => f6_r2 m v5 v35 = some o) ev35 h))
   refine Ops.hv (fun KQ => ∀ v22 : Bool, f6_r3 m v3 v5 ((v22 && ((v2.1.toList == ((⟨#[99, 108, 97, 115, 115, 32, 114, 111, 111, 116, 10, 105, 116, 101, 109, 32, 40, 100, 111, 103, 41, 40, 100, 111, 103, 41, 91, 110, 93, 32, 49, 32, 48, 10, 99, 108, 97, 115, 115, 32, 110, 117, 109, 98, 101, 114, 10, 105, 116, 101, 109, 32, 40, 41, 40, 41, 91, 115, 103, 93, 32, 45, 49, 32, 48, 10, 105, 116, 101, 109, 32, 40, 41, 40, 115, 41, 91, 112, 108, 93, 32, 45, 49, 32, 50, 10]⟩ : ByteArray)).toList)))) = some o → KQ 14 ⟨(dB false) :: (.v (.str v2.1)) :: (.ptr 0 0) :: (.ptr 1 0) :: (.ptr 2 0) :: (dP eS v5.1) :: (.ptr 3 0) :: (.v (.tuple [(.str v2.1), (.agg [(vI v2.2.fCode), (vI v2.2.fIndex)])])) :: (.v (.agg [(vP e44 v1.fClasses)])) :: (.v (.tuple [(.str v2.1), (.agg [(vI v2.2.fCode), (vI v2.2.fIndex)])])) :: (.v (.str v2.1)) :: (.v (.agg [(vI v2.2.fCode), (vI v2.2.fIndex)])) :: (.v (.tuple [(.agg [(vP e44 v3.1.fClasses)]), (.agg [(vI v3.2.fCode), (vI v3.2.fIndex)])])) :: (.v (.str v2.1)) :: (.v (.tuple [(.agg [(vP e44 v3.1.fClasses)]), (.agg [(vI v3.2.fCode), (vI v3.2.fIndex)])])) :: (.v (.agg [(vP e44 v3.1.fClasses)])) :: (.v (.agg [(vI v3.2.fCode), (vI v3.2.fIndex)])) :: (.v (.tuple [(vP eS v5.1), (.agg [(vI v5.2.fCode), (vI v5.2.fIndex)])])) :: (.v (.agg [(vP e44 v4.fClasses)])) :: (.v (.tuple [(vP eS v5.1), (.agg [(vI v5.2.fCode), (vI v5.2.fIndex)])])) :: (dP eS v5.1) :: (.v (.agg [(vI v5.2.fCode), (vI v5.2.fIndex)])) :: (.v (.agg [(vI v2.2.fCode), (vI v2.2.fIndex)])) :: (.v (.agg [(vI 0), (vI 0)])) :: (dB v11) :: (dB v11) :: d8 :: d9 :: d10 :: (dB v19) :: (dB v19) :: d16 :: d17 :: d18 :: (dB v22) :: (dB v22) :: u13 [], [(b6_0 v2), (b6_1 v3), (b6_2 v3), (b6_3 v5)]⟩) ?_ fun G6g23 => Ops.st _ (by kernel_rfl) (G6g23 v20 h)
   intro v22 h
   cases v22
   ·refine Ops.sg 3 17 ?_
    exact Ops.st _ (by kernel_rfl) (J6j28 U U false false h)
   ·refine Ops.sg 3 17 ?_
    exact Ops.st _ (by kernel_rfl) (J6j28 (.v (.str v2.1)) ((dB ((v2.1.toList == ((⟨#[99, 108, 97, 115, 115, 32, 114, 111, 111, 116, 10, 105, 116, 101, 109, 32, 40, 100, 111, 103, 41, 40, 100, 111, 103, 41, 91, 110, 93, 32, 49, 32, 48, 10, 99, 108, 97, 115, 115, 32, 110, 117, 109, 98, 101, 114, 10, 105, 116, 101, 109, 32, 40, 41, 40, 41, 91, 115, 103, 93, 32, 45, 49, 32, 48, 10, 105, 116, 101, 109, 32, 40, 41, 40, 115, 41, 91, 112, 108, 93, 32, 45, 49, 32, 50, 10]⟩ : ByteArray)).toList)))) true ((v2.1.toList == ((⟨#[99, 108, 97, 115, 115, 32, 114, 111, 111, 116, 10, 105, 116, 101, 109, 32, 40, 100, 111, 103, 41, 40, 100, 111, 103, 41, 91, 110, 93, 32, 49, 32, 48, 10, 99, 108, 97, 115, 115, 32, 110, 117, 109, 98, 101, 114, 10, 105, 116, 101, 109, 32, 40, 41, 40, 41, 91, 115, 103, 93, 32, 45, 49, 32, 48, 10, 105, 116, 101, 109, 32, 40, 41, 40, 115, 41, 91, 112, 108, 93, 32, 45, 49, 32, 50, 10]⟩ : ByteArray)).toList)) h)
  refine Ops.hv (fun KQ => ∀ v14 : Bool, f6_r4 m v2 v3 v5 (v14 && ((v5.2.fCode == 0) && ((v5.2.fIndex == 0) && true))) = some o → KQ 9 ⟨(dB false) :: (.v (.str v2.1)) :: (.ptr 0 0) :: (.ptr 1 0) :: (.ptr 2 0) :: (dP eS v5.1) :: (.ptr 3 0) :: (.v (.tuple [(.str v2.1), (.agg [(vI v2.2.fCode), (vI v2.2.fIndex)])])) :: (.v (.agg [(vP e44 v1.fClasses)])) :: (.v (.tuple [(.str v2.1), (.agg [(vI v2.2.fCode), (vI v2.2.fIndex)])])) :: (.v (.str v2.1)) :: (.v (.agg [(vI v2.2.fCode), (vI v2.2.fIndex)])) :: (.v (.tuple [(.agg [(vP e44 v3.1.fClasses)]), (.agg [(vI v3.2.fCode), (vI v3.2.fIndex)])])) :: (.v (.str v2.1)) :: (.v (.tuple [(.agg [(vP e44 v3.1.fClasses)]), (.agg [(vI v3.2.fCode), (vI v3.2.fIndex)])])) :: (.v (.agg [(vP e44 v3.1.fClasses)])) :: (.v (.agg [(vI v3.2.fCode), (vI v3.2.fIndex)])) :: (.v (.tuple [(vP eS v5.1), (.agg [(vI v5.2.fCode), (vI v5.2.fIndex)])])) :: (.v (.agg [(vP e44 v4.fClasses)])) :: (.v (.tuple [(vP eS v5.1), (.agg [(vI v5.2.fCode), (vI v5.2.fIndex)])])) :: (dP eS v5.1) :: (.v (.agg [(vI v5.2.fCode), (vI v5.2.fIndex)])) :: (.v (.agg [(vI v2.2.fCode), (vI v2.2.fIndex)])) :: (.v (.agg [(vI 0), (vI 0)])) :: (dB v11) :: (dB v11) :: d8 :: d9 :: d10 :: (dB v14) :: (dB v14) :: u18 [], [(b6_0 v2), (b6_1 v3), (b6_2 v3), (b6_3 v5)]⟩) ?_ fun G6g15 => Ops.st _ (by kernel_rfl) (G6g15 v12 h)
  intro v14 h
  cases v14
  ·refine Ops.sg 4 13 ?_
   exact Ops.st _ (by kernel_rfl) (J6j21 U U U false false h)
  ·refine Ops.sg 4 13 ?_
   exact Ops.st _ (by kernel_rfl) (J6j21 ((.v (.agg [(vI v5.2.fCode), (vI v5.2.fIndex)]))) ((.v (.agg [(vI 0), (vI 0)]))) (dB ((v5.2.fCode == 0) && ((v5.2.fIndex == 0) && true))) true ((v5.2.fCode == 0) && ((v5.2.fIndex == 0) && true)) h)
 refine Ops.hv (fun KQ => ∀ v6 : Bool, f6_r5 m v2 v3 v5 (v6 && ((v3.2.fCode == 0) && ((v3.2.fIndex == 0) && true))) = some o → KQ 4 ⟨(dB false) :: (.v (.str v2.1)) :: (.ptr 0 0) :: (.ptr 1 0) :: (.ptr 2 0) :: (dP eS v5.1) :: (.ptr 3 0) :: (.v (.tuple [(.str v2.1), (.agg [(vI v2.2.fCode), (vI v2.2.fIndex)])])) :: (.v (.agg [(vP e44 v1.fClasses)])) :: (.v (.tuple [(.str v2.1), (.agg [(vI v2.2.fCode), (vI v2.2.fIndex)])])) :: (.v (.str v2.1)) :: (.v (.agg [(vI v2.2.fCode), (vI v2.2.fIndex)])) :: (.v (.tuple [(.agg [(vP e44 v3.1.fClasses)]), (.agg [(vI v3.2.fCode), (vI v3.2.fIndex)])])) :: (.v (.str v2.1)) :: (.v (.tuple [(.agg [(vP e44 v3.1.fClasses)]), (.agg [(vI v3.2.fCode), (vI v3.2.fIndex)])])) :: (.v (.agg [(vP e44 v3.1.fClasses)])) :: (.v (.agg [(vI v3.2.fCode), (vI v3.2.fIndex)])) :: (.v (.tuple [(vP eS v5.1), (.agg [(vI v5.2.fCode), (vI v5.2.fIndex)])])) :: (.v (.agg [(vP e44 v4.fClasses)])) :: (.v (.tuple [(vP eS v5.1), (.agg [(vI v5.2.fCode), (vI v5.2.fIndex)])])) :: (dP eS v5.1) :: (.v (.agg [(vI v5.2.fCode), (vI v5.2.fIndex)])) :: (.v (.agg [(vI v2.2.fCode), (vI v2.2.fIndex)])) :: (.v (.agg [(vI 0), (vI 0)])) :: (dB v6) :: (dB v6) :: u23 [], [(b6_0 v2), (b6_1 v3), (b6_2 v3), (b6_3 v5)]⟩) ?_ fun G6g7 => Ops.st _ (by kernel_rfl) (G6g7 ((v2.2.fCode == 0) && ((v2.2.fIndex == 0) && true)) h)
 intro v6 h
 cases v6
 ·refine Ops.sg 4 8 ?_
  exact Ops.st _ (by kernel_rfl) (J6j13 U U U false false h)
 ·refine Ops.sg 4 8 ?_
  exact Ops.st _ (by kernel_rfl) (J6j13 ((.v (.agg [(vI v3.2.fCode), (vI v3.2.fIndex)]))) ((.v (.agg [(vI 0), (vI 0)]))) (dB ((v3.2.fCode == 0) && ((v3.2.fIndex == 0) && true))) true ((v3.2.fCode == 0) && ((v3.2.fIndex == 0) && true)) h)
noncomputable def f5_r1 (m : Nat) (v10 : Bool) : Option Bool :=
 some v10
noncomputable def f5 (m : Nat) (a0 : S23) : Option Bool :=
 bnd (f6 m ) fun v1 =>
 cnd (!v1)
 (some false)
 (bnd (f9 m a0) fun v2 =>
 cnd (!((v2.2.fCode == 0) && ((v2.2.fIndex == 0) && true)))
 (some true)
 (bnd (f14 m v2.1) fun v3 =>
 bnd (cnd ((v3.2.fCode == 0) && ((v3.2.fIndex == 0) && true))
 (bnd (f16 m a0 v3.1) fun v12 =>
 some v12)
 (some false)) fun v10 =>
 f5_r1 m v10))
noncomputable abbrev X5 (n : Nat) : Cx := cxOf Proofs.Tryz.prog EG 5 n
theorem ok5 (m : Nat) (a0 : S23) (o : Bool) (h : f5 m a0 = some o) (n : Nat) (hn : m + 8 ≤ n) : Fn Proofs.Tryz.prog EG n 5 [.v (e23 a0)] (eB o) := by
 obtain ⟨n, rfl⟩ : ∃ q, n = q + 1 := ⟨n - 1, by omega⟩
 unfold f5 at h
 refine Fn.of (by kernel_rfl) (by kernel_rfl) (by kernel_rfl) ⟨(.v (.agg [(vP e44 a0.fClasses)])) :: u29 [], []⟩ (by kernel_rfl) ?_
 refine Wp.sq ?_
 refine Wp.rg ?_
 refine Ops.sg 2 2 ?_
 refine Ops.dn ?_
 refine seqQ.n ?_
 refine Wp.sq ?_
 refine Wp.sq ?_
 refine Wp.rg ?_
 obtain ⟨v1, ev1, h⟩ := bnd_some h
 refine Ops.on 1 (fun h0 e0 => (call_ok (E' := EG) (h := h0) (by kernel_rfl) Args.nil (ok6 m  v1 ev1 n (by omega)))) ?_
 refine Ops.sg 1 2 ?_
 refine Ops.dn ?_
 refine seqQ.n ?_
 refine Wp.cnd h [1, 2] 1 (by kernel_rfl) (fun h => ?_) (fun h => ?_)
 ·refine Wp.sq ?_
  refine Wp.rg ?_
  refine Ops.sg 1 1 ?_
  refine Ops.dn ?_
  refine seqQ.n ?_
  refine Wp.ret (by kernel_rfl) ?_
  refine sqQ.r ?_
  refine seqQ.r ?_
  exact fnQ.r' (X5 n) (fun z => (eB z)) h (RetOk.mk' (dB false) (by kernel_rfl) (by kernel_rfl))
 ·refine Wp.sk ?_
  refine sqQ.n' ?_
  refine seqQ.n ?_
  refine Wp.sq ?_
  refine Wp.rg ?_
  refine Ops.sg 1 1 ?_
  obtain ⟨v2, ev2, h⟩ := bnd_some h
  refine Ops.on 2 (fun h0 e0 => (call_ok (E' := EG) (h := h0) (by kernel_rfl) (Args.v (.agg [(vP e44 a0.fClasses)]) (e23 a0) (by kernel_rfl) Args.nil) (ok9 m a0 v2 ev2 n (by omega)))) ?_
  refine Ops.sg 6 8 ?_
  refine Ops.dn ?_
  refine seqQ.n ?_
  refine Wp.sq ?_
  refine Wp.sq ?_
  refine Wp.rg ?_
  refine Ops.sg 3 3 ?_
  refine Ops.dn ?_
  refine seqQ.n ?_
  refine Wp.cnd h [1, 2, 3] 2 (by kernel_rfl) (fun h => ?_) (fun h => ?_)
  ·refine Wp.sq ?_
   refine Wp.rg ?_
   refine Ops.sg 1 1 ?_
   refine Ops.dn ?_
   refine seqQ.n ?_
   refine Wp.ret (by kernel_rfl) ?_
   refine sqQ.r ?_
   refine seqQ.r ?_
   exact fnQ.r' (X5 n) (fun z => (eB z)) h (RetOk.mk' (dB true) (by kernel_rfl) (by kernel_rfl))
  ·refine Wp.sk ?_
   refine sqQ.n' ?_
   refine seqQ.n ?_
   refine Wp.sq ?_
   refine Wp.rg ?_
   refine Ops.sg 1 1 ?_
   obtain ⟨v3, ev3, h⟩ := bnd_some h
   refine Ops.on 2 (fun h0 e0 => (call_ok (E' := EG) (h := h0) (by kernel_rfl) (Args.v (.str v2.1) (eS v2.1) (by kernel_rfl) Args.nil) (ok14 m v2.1 v3 ev3 n (by omega)))) ?_
   refine Ops.sg 7 9 ?_
   refine Ops.dn ?_
   refine seqQ.n ?_
   refine Wp.sq ?_
   refine Wp.rg ?_
   refine Ops.sg 4 4 ?_
   refine Ops.hv (fun KQ => ∀ (d6 d7 d8 : D) (v9 : Bool) (v10 : Bool), f5_r1 m v10 = some o → KQ 8 ⟨(.v (.agg [(vP e44 a0.fClasses)])) :: (.ptr 0 0) :: (dB false) :: (.v (.str v2.1)) :: (.ptr 1 0) :: (.ptr 2 0) :: (.ptr 3 0) :: (dB v1) :: (dB (!v1)) :: (.v (.tuple [(.str v2.1), (.agg [(vI v2.2.fCode), (vI v2.2.fIndex)])])) :: (.v (.agg [(vP e44 a0.fClasses)])) :: (.v (.tuple [(.str v2.1), (.agg [(vI v2.2.fCode), (vI v2.2.fIndex)])])) :: (.v (.str v2.1)) :: (.v (.agg [(vI v2.2.fCode), (vI v2.2.fIndex)])) :: (.v (.agg [(vI v2.2.fCode), (vI v2.2.fIndex)])) :: (.v (.agg [(vI 0), (vI 0)])) :: (dB (!((v2.2.fCode == 0) && ((v2.2.fIndex == 0) && true)))) :: (.v (.tuple [(.agg [(vP e44 v3.1.fClasses)]), (.agg [(vI v3.2.fCode), (vI v3.2.fIndex)])])) :: (.v (.str v2.1)) :: (.v (.tuple [(.agg [(vP e44 v3.1.fClasses)]), (.agg [(vI v3.2.fCode), (vI v3.2.fIndex)])])) :: (.v (.agg [(vP e44 v3.1.fClasses)])) :: (.v (.agg [(vI v3.2.fCode), (vI v3.2.fIndex)])) :: (.v (.agg [(vI v3.2.fCode), (vI v3.2.fIndex)])) :: (.v (.agg [(vI 0), (vI 0)])) :: (dB v9) :: (dB v9) :: d6 :: d7 :: d8 :: (dB v10) :: [], [(.cells [(dP e44 a0.fClasses)]), (.cells [(dI v2.2.fCode), (dI v2.2.fIndex)]), (.cells [(dP e44 v3.1.fClasses)]), (.cells [(dI v3.2.fCode), (dI v3.2.fIndex)])]⟩) ?_ fun J5j11 => ?_
   ·intro d6 d7 d8 v9 v10 h
    unfold f5_r1 at h
    refine Ops.sg 1 9 ?_
    refine Ops.dn ?_
    refine seqQ.n ?_
    refine Wp.ret (by kernel_rfl) ?_
    exact fnQ.r' (X5 n) (fun z => (eB z)) h (RetOk.mk' (dB v10) (by kernel_rfl) (by kernel_rfl))
   obtain ⟨v10, ev10, h⟩ := bnd_some h
   refine Ops.hv (fun KQ => ∀ v4 : Bool, (cnd v4 (bnd (f16 m a0 v3.1) fun v12 => some v12) (some false)) = some v10 → KQ 4 ⟨(.v (.agg [(vP e44 a0.fClasses)])) :: (.ptr 0 0) :: (dB false) :: (.v (.str v2.1)) :: (.ptr 1 0) :: (.ptr 2 0) :: (.ptr 3 0) :: (dB v1) :: (dB (!v1)) :: (.v (.tuple [(.str v2.1), (.agg [(vI v2.2.fCode), (vI v2.2.fIndex)])])) :: (.v (.agg [(vP e44 a0.fClasses)])) :: (.v (.tuple [(.str v2.1), (.agg [(vI v2.2.fCode), (vI v2.2.fIndex)])])) :: (.v (.str v2.1)) :: (.v (.agg [(vI v2.2.fCode), (vI v2.2.fIndex)])) :: (.v (.agg [(vI v2.2.fCode), (vI v2.2.fIndex)])) :: (.v (.agg [(vI 0), (vI 0)])) :: (dB (!((v2.2.fCode == 0) && ((v2.2.fIndex == 0) && true)))) :: (.v (.tuple [(.agg [(vP e44 v3.1.fClasses)]), (.agg [(vI v3.2.fCode), (vI v3.2.fIndex)])])) :: (.v (.str v2.1)) :: (.v (.tuple [(.agg [(vP e44 v3.1.fClasses)]), (.agg [(vI v3.2.fCode), (vI v3.2.fIndex)])])) :: (.v (.agg [(vP e44 v3.1.fClasses)])) :: (.v (.agg [(vI v3.2.fCode), (vI v3.2.fIndex)])) :: (.v (.agg [(vI v3.2.fCode), (vI v3.2.fIndex)])) :: (.v (.agg [(vI 0), (vI 0)])) :: (dB v4) :: (dB v4) :: u4 [], [(.cells [(dP e44 a0.fClasses)]), (.cells [(dI v2.2.fCode), (dI v2.2.fIndex)]), (.cells [(dP e44 v3.1.fClasses)]), (.cells [(dI v3.2.fCode), (dI v3.2.fIndex)])]⟩) ?_ fun G5g5 => Ops.st _ (by kernel_rfl) (G5g5 ((v3.2.fCode == 0) && ((v3.2.fIndex == 0) && true)) ev10)
   intro v4 ev10
   cases v4
   ·have ev10 := cnd_f ev10
    refine Ops.sg 4 8 ?_
    exact Ops.st _ (by kernel_rfl) (J5j11 U U U false false (some_sub (fun v10 => f5_r1 m v10 = some o) ev10 h))
   ·have ev10 := cnd_t ev10
    refine Ops.sg 2 6 ?_
    obtain ⟨v12, ev12, ev10⟩ := bnd_some ev10
    refine Ops.on 7 (fun h0 e0 => (call_ok (E' := EG) (h := h0) (by kernel_rfl) (Args.v (.agg [(vP e44 a0.fClasses)]) (e23 a0) (by kernel_rfl) (Args.v (.agg [(vP e44 v3.1.fClasses)]) (e23 v3.1) (by kernel_rfl) Args.nil)) (ok16 m a0 v3.1 v12 ev12 n (by omega)))) ?_
    refine Ops.sg 1 8 ?_
    exact Ops.st _ (by kernel_rfl) (J5j11 (.v (.agg [(vP e44 a0.fClasses)])) (.v (.agg [(vP e44 v3.1.fClasses)])) (dB v12) true v12 (some_sub (fun v10 => f5_r1 m v10 = some o) ev10 h))
end Go.Abs
