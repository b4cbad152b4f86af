import Derived.Test.YtgbhimkbfaebeaaGreatDoorXE
namespace Go.Abs
set_option linter.unusedVariables false
set_option linter.unusedSimpArgs false
set_option linter.unnecessarySimpa false
set_option maxRecDepth 100000
set_option maxHeartbeats 4000000
def f17 (m : Nat)  : Option S23 :=
 some ((⟨[(⟨(⟨#[114, 111, 111, 116]⟩ : ByteArray), [(⟨(⟨#[100, 111, 103]⟩ : ByteArray), (⟨#[100, 111, 103]⟩ : ByteArray), [(⟨#[110]⟩ : ByteArray)], 1, 0⟩ : S46)]⟩ : S44), (⟨(⟨#[110, 117, 109, 98, 101, 114]⟩ : ByteArray), [(⟨ByteArray.empty, ByteArray.empty, [(⟨#[115, 103]⟩ : ByteArray)], (-1), 0⟩ : S46), (⟨ByteArray.empty, (⟨#[115]⟩ : ByteArray), [(⟨#[112, 108]⟩ : ByteArray)], (-1), 2⟩ : S46)]⟩ : S44)]⟩ : S23))
noncomputable abbrev X17 (n : Nat) : Cx := cxOf Proofs.Tryz.prog EG 17 n
theorem ok17 (m : Nat)  (o : S23) (h : f17 m  = some o) (n : Nat) (hn : m + 1 ≤ n) : Fn Proofs.Tryz.prog EG n 17 [] (e23 o) := by
 obtain ⟨n, rfl⟩ : ∃ q, n = q + 1 := ⟨n - 1, by omega⟩
 unfold f17 at h
 refine Fn.of (by kernel_rfl) (by kernel_rfl) (by kernel_rfl) ⟨u13 [], []⟩ (by kernel_rfl) (Wp.sq (Wp.rg (Ops.sg 1 1 (Ops.dn (seqQ.n (Wp.sq (Wp.rg (Ops.sg 13 13 (Ops.dn (seqQ.n (Wp.rt ?_)))))))))))
 exact fnQ.r' (X17 n) (fun z => (e23 z)) h (RetOk.mk' (.v (.agg [(.sl .nonfull (List.map e44 ([(⟨(⟨#[114, 111, 111, 116]⟩ : ByteArray), [(⟨(⟨#[100, 111, 103]⟩ : ByteArray), (⟨#[100, 111, 103]⟩ : ByteArray), [(⟨#[110]⟩ : ByteArray)], 1, 0⟩ : S46)]⟩ : S44), (⟨(⟨#[110, 117, 109, 98, 101, 114]⟩ : ByteArray), [(⟨ByteArray.empty, ByteArray.empty, [(⟨#[115, 103]⟩ : ByteArray)], (-1), 0⟩ : S46), (⟨ByteArray.empty, (⟨#[115]⟩ : ByteArray), [(⟨#[112, 108]⟩ : ByteArray)], (-1), 2⟩ : S46)]⟩ : S44)])))])) (by kernel_rfl) (by kernel_rfl))
def f23 (m : Nat) (a0 : (List ByteArray)) (a1 : ByteArray) : Option ByteArray := joinQ a0 a1
theorem ok23 (m : Nat) (a0 : (List ByteArray)) (a1 o : ByteArray) (h : f23 m a0 a1 = some o) (n : Nat) (hn : m + 1 ≤ n) : Fn Proofs.Tryz.prog EG n 23 [.v ((eL eS) a0), .v (eS a1)] (eS o) := by
 obtain ⟨n, rfl⟩ : ∃ q, n = q + 1 := ⟨n - 1, by omega⟩
 refine ora_fn (xs := [(eL eS) a0, eS a1]) (by kernel_rfl) (by kernel_rfl) (by kernel_rfl) (F := joinF) ?_ rfl
 exact joinF_ok h
def f9_B1 (m : Nat) (v133 : S44) (v165 : (List Int)) (v166 : Int) : Option (Stp (ByteArray × S26) ((List Int) × Int)) :=
 cnd (decide (v166 < (v133.fItems.length : Int)))
 (bnd (idx v133.fItems v166) fun v176 =>
 bnd (scat ((⟨#[105, 116, 101, 109, 32, 40]⟩ : ByteArray)) v176.fBase) fun v177 =>
 bnd (scat v177 ((⟨#[41, 40]⟩ : ByteArray))) fun v178 =>
 bnd (scat v178 v176.fForm) fun v179 =>
 bnd (scat v179 ((⟨#[41, 91]⟩ : ByteArray))) fun v180 =>
 bnd (f23 m v176.fTags (⟨#[44]⟩ : ByteArray)) fun v181 =>
 bnd (scat v180 v181) fun v182 =>
 bnd (scat v182 ((⟨#[93, 32]⟩ : ByteArray))) fun v183 =>
 bnd (app 1 v165 (bytesI v183)) fun v184 =>
 bnd (apint v184 v176.fNext) fun v185 =>
 bnd (app 1 v185 [32]) fun v186 =>
 bnd (apint v186 v176.fWeight) fun v187 =>
 bnd (app 1 v187 [10]) fun v188 =>
 some (.nxt (v188, w64 (v166 + 1))))
 (some (.brk (v165, v166)))
def f9_B2 (m : Nat) (a0 : S23) (v122 : (List Int)) (v123 : Int) : Option (Stp (ByteArray × S26) ((List Int) × Int)) :=
 cnd (decide (v123 < (a0.fClasses.length : Int)))
 (bnd (idx a0.fClasses v123) fun v133 =>
 bnd (scat ((⟨#[99, 108, 97, 115, 115, 32]⟩ : ByteArray)) v133.fName) fun v134 =>
 bnd (scat v134 (⟨#[10]⟩ : ByteArray)) fun v135 =>
 bnd (app 1 v122 (bytesI v135)) fun v136 =>
 brk (iter (fun (y : (List Int) × Int) => f9_B1 m v133 y.1 y.2) m (v136, 0)) (fun r => some (.ret r)) fun y190 =>
 some (.nxt (y190.1, w64 (v123 + 1))))
 (some (.brk (v122, v123)))
def f9 (m : Nat) (a0 : S23) : Option (ByteArray × S26) :=
 bnd (f11 m a0) fun v1 =>
 cnd (!((v1.fCode == 0) && ((v1.fIndex == 0) && true)))
 (some (((⟨#[]⟩ : ByteArray), v1)))
 (brk (iter (fun (y : (List Int) × Int) => f9_B2 m a0 y.1 y.2) m ([], 0)) some fun y193 =>
 cnd (decide ((y193.1.length : Int) > 4000))
 (bnd (f25 m 1 (-1)) fun v195 =>
 some (((⟨#[]⟩ : ByteArray), v195)))
 (some (((strI y193.1), (⟨0, 0⟩ : S26)))))
noncomputable abbrev X9 (n : Nat) : Cx := cxOf Proofs.Tryz.prog EG 9 n
noncomputable def C9 : Code := bodyOf Proofs.Tryz.prog 9
noncomputable abbrev p9_0 : Code := cR (cR (cR (cR C9)))
noncomputable abbrev p9_1 : Code := cL (cL (cR (cL (cR (cR (cR C9))))))
noncomputable abbrev p9_2 : Code := cR (cR (cR p9_1))
abbrev b9_0 (w0 : S23) : AObj := .cells [(dP e44 w0.fClasses)]
abbrev b9_1 : AObj := .cells [(dI 0), (dI 0)]
abbrev b9_2 (w0 : S26) : AObj := .cells [(dI w0.fCode), (dI w0.fIndex)]
abbrev b9_3 (w0 : S44) : AObj := .cells [(.v (.str w0.fName)), (dP e46 w0.fItems)]
abbrev k9_0 : List Nat := [2, 3, 5, 17, 18, 19]
abbrev k9_1 : List Nat := [2, 3, 5, 17, 18, 19, 30, 31, 32]
theorem ok9 (m : Nat) (a0 : S23) (o : (ByteArray × S26)) (h : f9 m a0 = some o) (n : Nat) (hn : m + 6 ≤ n) : Fn Proofs.Tryz.prog EG n 9 [.v (e23 a0)] (.tuple [eS o.1, e26 o.2]) := by
 obtain ⟨n, rfl⟩ : ∃ q, n = q + 1 := ⟨n - 1, by omega⟩
 unfold f9 at h
 refine Fn.of (by kernel_rfl) (by kernel_rfl) (by kernel_rfl) ⟨(.v (.agg [(vP e44 a0.fClasses)]))::u40 (u33 []), []⟩ (by kernel_rfl) (Wp.sq (Wp.rg (Ops.sg 3 3 (Ops.dn (seqQ.n (Wp.sq (Wp.sq (Wp.rg (Ops.sg 1 1 ?_)))))))))
 obtain ⟨v1, ev1, h⟩ := bnd_some h
 refine Ops.on 2 (fun h0 e0 => (call_ok (E' := EG) (h := h0) (by kernel_rfl) (Args.v (.agg [(vP e44 a0.fClasses)]) (e23 a0) (by kernel_rfl) Args.nil) (ok11g m a0 v1 ev1 n (by omega)))) ?_
 refine Ops.sg 2 4 (Ops.dn (seqQ.n (Wp.sq (Wp.rg (Ops.sg 3 3 (Ops.dn (seqQ.n ?_)))))))
 refine Wp.cd h [1, 2, 3] 3 (fun h => ?_) (fun h => ?_)
 ·refine Wp.sq (Wp.rg (Ops.sg 3 3 (Ops.dn (seqQ.n (Wp.rt (sqQ.r (seqQ.r ?_)))))))
  exact fnQ.r' (X9 n) (fun z => (.tuple [eS z.1, e26 z.2])) h (RetOk.mk' (.v (.tuple [(.str (⟨#[]⟩ : ByteArray)), (.agg [(vI v1.fCode), (vI v1.fIndex)])])) (by kernel_rfl) (by kernel_rfl))
 ·refine Wp.sk (sqQ.n' (seqQ.n (Wp.sq (Wp.rg (Ops.sg 1 1 (Ops.dn (seqQ.n (Wp.sq (Wp.sq (Wp.rg (Ops.sg 2 2 ?_)))))))))))
  refine Ops.on 3 (fun h0 e0 => (len_r (T := T) h0 22 45 .plain e44 a0.fClasses (by kernel_rfl))) ?_
  refine Ops.sg 1 4 (Ops.dn (seqQ.n (Wp.bk 0 [2, 3, 5] 4 ?_)))
  have hLx192 : ∀ (kx125 : Nat) (v122 : (List Int)) (v123 : Int)  (ox124 : (ByteArray × S26) ⊕ ((List Int) × Int)), iter (fun (y : (List Int) × Int) => f9_B2 m a0 y.1 y.2) kx125 (v122, v123) = some ox124 → ∀ nx126, kx125 ≤ nx126 → (∀ r, ox124 = .inl r → ∀ σ, RetOk (X9 n) (resOf Proofs.Tryz.prog 9) (.tuple [eS r.1, e26 r.2]) σ → (seqQ (X9 n) p9_0 (fnQ (X9 n).E.T (resOf Proofs.Tryz.prog 9) (.tuple [eS o.1, e26 o.2]))) .ret σ) → (∀ (y : (List Int) × Int) , ox124 = .inr y → (seqQ (X9 n) p9_0 (fnQ (X9 n).E.T (resOf Proofs.Tryz.prog 9) (.tuple [eS o.1, e26 o.2]))) .normal ⟨Zs17 (.v (.str (⟨#[]⟩ : ByteArray))) ((appD 4 (List.map (eK .u8) y.1))::q40 (q28 [])), [(b9_0 a0), b9_1, (b9_2 v1), .dead, (appO 1 (List.map (eK .u8) y.1))]⟩) → Lp (X9 n) k9_0 4 p9_1 nx126 ⟨Zs17 (.v (.str (⟨#[]⟩ : ByteArray))) ((appD 4 (List.map (eK .u8) v122))::q11 ((dP e44 a0.fClasses)::(dI (a0.fClasses.length : Int))::(dI v123)::q40 (q14 []))), [(b9_0 a0), b9_1, (b9_2 v1), .dead, (appO 1 (List.map (eK .u8) v122))]⟩ (blkQ (X9 n) 0 [2, 3, 5] 4 (seqQ (X9 n) p9_0 (fnQ (X9 n).E.T (resOf Proofs.Tryz.prog 9) (.tuple [eS o.1, e26 o.2])))) := by
   intro kx125
   induction kx125 with
   | zero => intro v122 v123  ox124 h; exact (iter_zero h).elim
   | succ kx125 ihx127 =>
    intro v122 v123  ox124 h nx126 hnx130 hrx128 hxx129
    obtain ⟨nx126, rfl⟩ : ∃ q, nx126 = q + 1 := ⟨nx126 - 1, by omega⟩
    obtain ⟨sx131, h, hsx132⟩ := iter_some h
    have h : f9_B2 m a0 v122 v123 = some sx131 := h
    unfold f9_B2 at h
    refine Lp.succ (Wp.sq (Wp.rg (Ops.sg 1 1 (Ops.dn (seqQ.n (Wp.sq ?_))))))
    refine Wp.cd h k9_0 5 (fun h => ?_) (fun h => ?_)
    ·refine Wp.sk (sqQ.n ⟨Zs17 (.v (.str (⟨#[]⟩ : ByteArray))) ((appD 5 (List.map (eK .u8) v122))::q11 ((dP e44 a0.fClasses)::(dI (a0.fClasses.length : Int))::(dI v123)::q40 (q14 []))), [(b9_0 a0), b9_1, (b9_2 v1), .dead, .dead, (appO 1 (List.map (eK .u8) v122))]⟩ (by generalize v122 = z0; cases z0 <;> kernel_rfl) (seqQ.n (Wp.sq (Wp.bk 1 k9_0 6 (Wp.sq (Wp.rg ?_))))))
     obtain ⟨v133, ev133, h⟩ := bnd_some h
     refine Ops.on 1 (fun h0 e0 => (ix_r (T := T) h0 22 45 2 .plain e44 a0.fClasses v123 v133 ev133 (by kernel_rfl) (by kernel_rfl) (fun _ => rfl))) ?_
     refine Ops.sg 3 4 (Ops.dn (seqQ.n (Wp.sq (Wp.rg (Ops.sg 3 3 ?_)))))
     obtain ⟨v134, ev134, h⟩ := bnd_some h
     refine Ops.on 4 (fun h0 e0 => (str_cat (T := T) h0 9 ((⟨#[99, 108, 97, 115, 115, 32]⟩ : ByteArray)) v133.fName v134 ev134)) ?_
     obtain ⟨v135, ev135, h⟩ := bnd_some h
     refine Ops.on 5 (fun h0 e0 => (str_cat (T := T) h0 9 v134 (⟨#[10]⟩ : ByteArray) v135 ev135)) ?_
     obtain ⟨v136, ev136, h⟩ := bnd_some h
     refine Ops.on 6 (fun h0 e0 => (app_str (T := T) (t' := 9) (b := v135) (by kernel_rfl) (app_r (T := T) (g := .nil) h0 49 5 5 1 ti5 .plain (eK .u8) v122 (bytesI v135) v136 ev136 (by kernel_rfl) (by kernel_rfl) (by kernel_rfl) (by kernel_rfl) (fun _ => rfl) (hq_of e0 (by kernel_rfl))))) ?_
     refine Ops.sg 1 7 (Ops.dn (seqQ.n (Wp.sq (Wp.rg (Ops.sg 2 2 ?_)))))
     refine Ops.on 3 (fun h0 e0 => (len_r (T := T) h0 43 47 .plain e46 v133.fItems (by kernel_rfl))) ?_
     refine Ops.sg 1 4 (Ops.dn (seqQ.n (Wp.bk 2 k9_0 8 ?_)))
     have hLx189 : ∀ (kx168 : Nat) (v165 : (List Int)) (v166 : Int)  (ox167 : (ByteArray × S26) ⊕ ((List Int) × Int)), iter (fun (y : (List Int) × Int) => f9_B1 m v133 y.1 y.2) kx168 (v165, v166) = some ox167 → ∀ nx169, kx168 ≤ nx169 → (∀ r, ox167 = .inl r → ∀ σ, RetOk (X9 n) (resOf Proofs.Tryz.prog 9) (.tuple [eS r.1, e26 r.2]) σ → (blkQ (X9 n) 1 k9_0 6 (seqQ (X9 n) p9_2 (lpQ (X9 n) k9_0 4 p9_1 nx126 (blkQ (X9 n) 0 [2, 3, 5] 4 (seqQ (X9 n) p9_0 (fnQ (X9 n).E.T (resOf Proofs.Tryz.prog 9) (.tuple [eS o.1, e26 o.2]))))))) .ret σ) → (∀ (y : (List Int) × Int) , ox167 = .inr y → (blkQ (X9 n) 1 k9_0 6 (seqQ (X9 n) p9_2 (lpQ (X9 n) k9_0 4 p9_1 nx126 (blkQ (X9 n) 0 [2, 3, 5] 4 (seqQ (X9 n) p9_0 (fnQ (X9 n).E.T (resOf Proofs.Tryz.prog 9) (.tuple [eS o.1, e26 o.2]))))))) .normal ⟨Zs17 (.v (.str (⟨#[]⟩ : ByteArray))) ((appD 8 (List.map (eK .u8) y.1))::q11 ((dP e44 a0.fClasses)::(dI (a0.fClasses.length : Int))::(dI v123)::q40 (q14 []))), [(b9_0 a0), b9_1, (b9_2 v1), .dead, .dead, .dead, (b9_3 v133), .dead, (appO 1 (List.map (eK .u8) y.1))]⟩) → Lp (X9 n) k9_1 8 (cL (cL (cR (cR (cR (cL (cL (cR (cR p9_1))))))))) nx169 ⟨Zs17 (.v (.str (⟨#[]⟩ : ByteArray))) ((appD 8 (List.map (eK .u8) v165))::q11 ((dP e44 a0.fClasses)::(dI (a0.fClasses.length : Int))::(dI v123)::q10 ((dP e46 v133.fItems)::(dI (v133.fItems.length : Int))::(dI v166)::q40 (q1 [])))), [(b9_0 a0), b9_1, (b9_2 v1), .dead, .dead, .dead, (b9_3 v133), .dead, (appO 1 (List.map (eK .u8) v165))]⟩ (blkQ (X9 n) 2 k9_0 8 (blkQ (X9 n) 1 k9_0 6 (seqQ (X9 n) p9_2 (lpQ (X9 n) k9_0 4 p9_1 nx126 (blkQ (X9 n) 0 [2, 3, 5] 4 (seqQ (X9 n) p9_0 (fnQ (X9 n).E.T (resOf Proofs.Tryz.prog 9) (.tuple [eS o.1, e26 o.2])))))))) := by
      intro kx168
      induction kx168 with
      | zero => intro v165 v166  ox167 h; exact (iter_zero h).elim
      | succ kx168 ihx170 =>
       intro v165 v166  ox167 h nx169 hnx173 hrx171 hxx172
       obtain ⟨nx169, rfl⟩ : ∃ q, nx169 = q + 1 := ⟨nx169 - 1, by omega⟩
       obtain ⟨sx174, h, hsx175⟩ := iter_some h
       have h : f9_B1 m v133 v165 v166 = some sx174 := h
       unfold f9_B1 at h
       refine Lp.succ (Wp.sq (Wp.rg (Ops.sg 1 1 (Ops.dn (seqQ.n (Wp.sq ?_))))))
       refine Wp.cd h k9_1 9 (fun h => ?_) (fun h => ?_)
       ·refine Wp.sk (sqQ.n ⟨Zs17 (.v (.str (⟨#[]⟩ : ByteArray))) ((appD 9 (List.map (eK .u8) v165))::q11 ((dP e44 a0.fClasses)::(dI (a0.fClasses.length : Int))::(dI v123)::q10 ((dP e46 v133.fItems)::(dI (v133.fItems.length : Int))::(dI v166)::q40 (q1 [])))), [(b9_0 a0), b9_1, (b9_2 v1), .dead, .dead, .dead, (b9_3 v133), .dead, .dead, (appO 1 (List.map (eK .u8) v165))]⟩ (by generalize v165 = z0; cases z0 <;> kernel_rfl) (seqQ.n (Wp.sq (Wp.bk 3 k9_1 10 (Wp.sq (Wp.rg ?_))))))
        obtain ⟨v176, ev176, h⟩ := bnd_some h
        refine Ops.on 1 (fun h0 e0 => (ix_r (T := T) h0 43 47 5 .plain e46 v133.fItems v166 v176 ev176 (by kernel_rfl) (by kernel_rfl) (fun _ => rfl))) ?_
        refine Ops.sg 3 4 (Ops.dn (seqQ.n (Wp.sq (Wp.rg (Ops.sg 3 3 ?_)))))
        obtain ⟨v177, ev177, h⟩ := bnd_some h
        refine Ops.on 4 (fun h0 e0 => (str_cat (T := T) h0 9 ((⟨#[105, 116, 101, 109, 32, 40]⟩ : ByteArray)) v176.fBase v177 ev177)) ?_
        obtain ⟨v178, ev178, h⟩ := bnd_some h
        refine Ops.on 5 (fun h0 e0 => (str_cat (T := T) h0 9 v177 ((⟨#[41, 40]⟩ : ByteArray)) v178 ev178)) ?_
        refine Ops.sg 2 7 ?_
        obtain ⟨v179, ev179, h⟩ := bnd_some h
        refine Ops.on 8 (fun h0 e0 => (str_cat (T := T) h0 9 v178 v176.fForm v179 ev179)) ?_
        obtain ⟨v180, ev180, h⟩ := bnd_some h
        refine Ops.on 9 (fun h0 e0 => (str_cat (T := T) h0 9 v179 ((⟨#[41, 91]⟩ : ByteArray)) v180 ev180)) ?_
        refine Ops.sg 2 11 ?_
        obtain ⟨v181, ev181, h⟩ := bnd_some h
        refine Ops.on 12 (fun h0 e0 => (call_ok (E' := EG) (h := h0) (by kernel_rfl) (Args.v (vP eS v176.fTags) ((eL eS) v176.fTags) (by kernel_rfl) (Args.v (.str (⟨#[44]⟩ : ByteArray)) (eS (⟨#[44]⟩ : ByteArray)) (by kernel_rfl) Args.nil)) (ok23 m v176.fTags (⟨#[44]⟩ : ByteArray) v181 ev181 n (by omega)))) ?_
        obtain ⟨v182, ev182, h⟩ := bnd_some h
        refine Ops.on 13 (fun h0 e0 => (str_cat (T := T) h0 9 v180 v181 v182 ev182)) ?_
        obtain ⟨v183, ev183, h⟩ := bnd_some h
        refine Ops.on 14 (fun h0 e0 => (str_cat (T := T) h0 9 v182 ((⟨#[93, 32]⟩ : ByteArray)) v183 ev183)) ?_
        obtain ⟨v184, ev184, h⟩ := bnd_some h
        refine Ops.on 15 (fun h0 e0 => (app_str (T := T) (t' := 9) (b := v183) (by kernel_rfl) (app_r (T := T) (g := .nil) h0 49 5 9 1 ti5 .plain (eK .u8) v165 (bytesI v183) v184 ev184 (by kernel_rfl) (by kernel_rfl) (by kernel_rfl) (by kernel_rfl) (fun _ => rfl) (hq_of e0 (by kernel_rfl))))) ?_
        refine Ops.sg 1 16 (Ops.dn (seqQ.n (Wp.sq (Wp.rg (Ops.sg 3 3 ?_)))))
        obtain ⟨v185, ev185, h⟩ := bnd_some h
        refine Ops.on 4 (fun h0 e0 => (callD_own (P := Proofs.Tryz.prog) (E := EG) (E' := EG) (n := n) (f := 24) (by kernel_rfl) (by kernel_rfl) (by kernel_rfl) (row_apint h0 11 v184 v176.fNext v185 ev185 (hq_of e0 (by kernel_rfl))) (by omega))) ?_
        refine Ops.sg 1 5 (Ops.dn (seqQ.n (Wp.sq (Wp.rg (Ops.sg 2 2 ?_)))))
        obtain ⟨v186, ev186, h⟩ := bnd_some h
        refine Ops.on 3 (fun h0 e0 => (app_r (T := T) (g := .nil) h0 49 5 15 1 ti5 .nonfull (eK .u8) v185 [32] v186 ev186 (by kernel_rfl) (by kernel_rfl) (by kernel_rfl) (by kernel_rfl) (fun _ => rfl) (hq_of e0 (by kernel_rfl)))) ?_
        refine Ops.sg 1 4 (Ops.dn (seqQ.n (Wp.sq (Wp.rg (Ops.seg 3 3 (by kernel_rfl) ⟨Zs17 (.v (.str (⟨#[]⟩ : ByteArray))) ((appD 16 (List.map (eK .u8) v186))::q3 ((.ptr 10 0)::q7 ((dP e44 a0.fClasses)::(dI (a0.fClasses.length : Int))::(dI v123)::q10 ((dP e46 v133.fItems)::(dI (v133.fItems.length : Int))::(dI v166)::q1 ((.vptr [(.str v176.fBase), (.str v176.fForm), (vP eS v176.fTags), (vI v176.fNext), (vI v176.fWeight)])::(.v (.agg [(.str v176.fBase), (.str v176.fForm), (vP eS v176.fTags), (vI v176.fNext), (vI v176.fWeight)]))::(appD 9 (List.map (eK .u8) v165))::(.ptr 10 0)::(.v (.str v176.fBase))::(.v (.str v177))::(.v (.str v178))::(.ptr 10 1)::(.v (.str v176.fForm))::(.v (.str v179))::(.v (.str v180))::(.ptr 10 2)::(dP eS v176.fTags)::(.v (.str v181))::(.v (.str v182))::(.v (.str v183))::(appD 11 (List.map (eK .u8) v184))::(appD 11 (List.map (eK .u8) v184))::(.ptr 10 3)::(dI v176.fNext)::(appD 15 (List.map (eK .u8) v185))::(appD 15 (List.map (eK .u8) v185))::(.v (.sl .nonfull (List.map (eK .u8) [32])))::(appD 16 (List.map (eK .u8) v186))::(appD 16 (List.map (eK .u8) v186))::(.ptr 10 4)::(dI v176.fWeight)::q13 []))))), [(b9_0 a0), b9_1, (b9_2 v1), .dead, .dead, .dead, (b9_3 v133), .dead, .dead, .dead, (.cells [(.v (.str v176.fBase)), (.v (.str v176.fForm)), (dP eS v176.fTags), (dI v176.fNext), (dI v176.fWeight)]), .dead, .dead, .dead, .dead, .dead, (appO 1 (List.map (eK .u8) v186))]⟩ (by kernel_rfl) ?_)))))
        obtain ⟨v187, ev187, h⟩ := bnd_some h
        refine Ops.on 4 (fun h0 e0 => (callD_own (P := Proofs.Tryz.prog) (E := EG) (E' := EG) (n := n) (f := 24) (by kernel_rfl) (by kernel_rfl) (by kernel_rfl) (row_apint h0 16 v186 v176.fWeight v187 ev187 (hq_of e0 (by kernel_rfl))) (by omega))) ?_
        refine Ops.sg 1 5 (Ops.dn (seqQ.n (Wp.rg (Ops.sg 2 2 ?_))))
        obtain ⟨v188, ev188, h⟩ := bnd_some h
        refine Ops.on 3 (fun h0 e0 => (app_r (T := T) (g := .nil) h0 49 5 20 1 ti5 .nonfull (eK .u8) v187 [10] v188 ev188 (by kernel_rfl) (by kernel_rfl) (by kernel_rfl) (by kernel_rfl) (fun _ => rfl) (hq_of e0 (by kernel_rfl)))) ?_
        refine Ops.sg 1 4 (Ops.dn (blkQ.n ⟨Zs17 (.v (.str (⟨#[]⟩ : ByteArray))) ((appD 10 (List.map (eK .u8) v188))::q11 ((dP e44 a0.fClasses)::(dI (a0.fClasses.length : Int))::(dI v123)::q10 ((dP e46 v133.fItems)::(dI (v133.fItems.length : Int))::(dI v166)::q40 (q1 [])))), [(b9_0 a0), b9_1, (b9_2 v1), .dead, .dead, .dead, (b9_3 v133), .dead, .dead, .dead, (appO 1 (List.map (eK .u8) v188))]⟩ (by generalize v188 = z0; cases z0 <;> kernel_rfl) (seqQ.n (Wp.rg (Ops.sg 2 2 (Ops.dn (lpQ.n ⟨Zs17 (.v (.str (⟨#[]⟩ : ByteArray))) ((appD 8 (List.map (eK .u8) v188))::q11 ((dP e44 a0.fClasses)::(dI (a0.fClasses.length : Int))::(dI v123)::q10 ((dP e46 v133.fItems)::(dI (v133.fItems.length : Int))::(dI (w64 (v166 + 1)))::q40 (q1 [])))), [(b9_0 a0), b9_1, (b9_2 v1), .dead, .dead, .dead, (b9_3 v133), .dead, (appO 1 (List.map (eK .u8) v188))]⟩ (by generalize v188 = z0; cases z0 <;> kernel_rfl) ?_)))))))
        cases h
        exact ihx170 v188 (w64 (v166 + 1))  _ hsx175 _ (by omega) hrx171 hxx172
       ·refine Wp.ex 2 (sqQ.x (seqQ.x ?_))
        cases h
        refine lpQ.x (blkQ.x ⟨Zs17 (.v (.str (⟨#[]⟩ : ByteArray))) ((appD 8 (List.map (eK .u8) v165))::q11 ((dP e44 a0.fClasses)::(dI (a0.fClasses.length : Int))::(dI v123)::q40 (q14 []))), [(b9_0 a0), b9_1, (b9_2 v1), .dead, .dead, .dead, (b9_3 v133), .dead, (appO 1 (List.map (eK .u8) v165))]⟩ (by generalize v165 = z0; cases z0 <;> kernel_rfl) ?_)
        exact hxx172 (v165, v166)  hsx175
     refine Wp.loop' k9_1 8 (by kernel_rfl) ⟨Zs17 (.v (.str (⟨#[]⟩ : ByteArray))) ((appD 8 (List.map (eK .u8) v136))::q11 ((dP e44 a0.fClasses)::(dI (a0.fClasses.length : Int))::(dI v123)::q10 ((dP e46 v133.fItems)::(dI (v133.fItems.length : Int))::(dI 0)::q40 (q1 [])))), [(b9_0 a0), b9_1, (b9_2 v1), .dead, .dead, .dead, (b9_3 v133), .dead, (appO 1 (List.map (eK .u8) v136))]⟩ (by generalize v136 = z0; cases z0 <;> kernel_rfl) ?_
     rcases brk_some h with ⟨r191, er191, h⟩ | ⟨y190, ey190, h⟩
     ·refine hLx189 _ v136 0  _ er191 n (by omega) (fun r er σ hσ => ?_) (fun y  ey => by cases ey)
      cases er
      refine blkQ.r (seqQ.r (lpQ.r ?_))
      cases h
      refine blkQ.r ?_
      exact hrx128 _ hsx132 _ (RetOk.forget k9_0 (by kernel_rfl) hσ)
     ·refine hLx189 _ v136 0  _ ey190 n (by omega) (fun r er => by cases er) (fun y  ey => ?_)
      cases ey
      refine blkQ.n ⟨Zs17 (.v (.str (⟨#[]⟩ : ByteArray))) ((appD 6 (List.map (eK .u8) y190.1))::q11 ((dP e44 a0.fClasses)::(dI (a0.fClasses.length : Int))::(dI v123)::q40 (q14 []))), [(b9_0 a0), b9_1, (b9_2 v1), .dead, .dead, .dead, (appO 1 (List.map (eK .u8) y190.1))]⟩ (by generalize y190.1 = z0; cases z0 <;> kernel_rfl) (seqQ.n (Wp.rg (Ops.sg 2 2 (Ops.dn (lpQ.n ⟨Zs17 (.v (.str (⟨#[]⟩ : ByteArray))) ((appD 4 (List.map (eK .u8) y190.1))::q11 ((dP e44 a0.fClasses)::(dI (a0.fClasses.length : Int))::(dI (w64 (v123 + 1)))::q40 (q14 []))), [(b9_0 a0), b9_1, (b9_2 v1), .dead, (appO 1 (List.map (eK .u8) y190.1))]⟩ (by generalize y190.1 = z0; cases z0 <;> kernel_rfl) ?_)))))
      cases h
      exact ihx127 y190.1 (w64 (v123 + 1))  _ hsx132 _ (by omega) hrx128 hxx129
    ·refine Wp.ex 0 (sqQ.x (seqQ.x ?_))
     cases h
     refine lpQ.x (blkQ.x ⟨Zs17 (.v (.str (⟨#[]⟩ : ByteArray))) ((appD 4 (List.map (eK .u8) v122))::q40 (q28 [])), [(b9_0 a0), b9_1, (b9_2 v1), .dead, (appO 1 (List.map (eK .u8) v122))]⟩ (by generalize v122 = z0; cases z0 <;> kernel_rfl) ?_)
     exact hxx129 (v122, v123)  hsx132
  refine Wp.loop' k9_0 4 (by kernel_rfl) ⟨Zs17 (.v (.str (⟨#[]⟩ : ByteArray))) ((appD 4 (List.map (eK .u8) []))::q11 ((dP e44 a0.fClasses)::(dI (a0.fClasses.length : Int))::(dI 0)::q40 (q14 []))), [(b9_0 a0), b9_1, (b9_2 v1), .dead, .dead]⟩ (by kernel_rfl) ?_
  rcases brk_some h with ⟨r194, er194, h⟩ | ⟨y193, ey193, h⟩
  ·refine hLx192 _ [] 0  _ er194 n (by omega) (fun r er σ hσ => ?_) (fun y  ey => by cases ey)
   cases er
   refine seqQ.r ?_
   exact fnQ.r' (X9 n) (fun z => (.tuple [eS z.1, e26 z.2])) h hσ
  ·refine hLx192 _ [] 0  _ ey193 n (by omega) (fun r er => by cases er) (fun y  ey => ?_)
   cases ey
   refine seqQ.n (Wp.sq (Wp.sq (Wp.rg (Ops.sg 1 1 ?_))))
   refine Ops.on 2 (fun h0 e0 => (len_a (T := T) (g := .nil) h0 49 5 4 (eK .u8) y193.1 (by kernel_rfl))) ?_
   refine Ops.sg 1 3 (Ops.dn (seqQ.n ?_))
   refine Wp.cd h [2, 3, 5] 5 (fun h => ?_) (fun h => ?_)
   ·refine Wp.sq (Wp.rg ?_)
    obtain ⟨v195, ev195, h⟩ := bnd_some h
    refine Ops.on 1 (fun h0 e0 => (call_ok (E' := EG) (h := h0) (by kernel_rfl) (Args.v (vI 1) (eI 1) (by kernel_rfl) (Args.v (vI (-1)) (eI (-1)) (by kernel_rfl) Args.nil)) (ok25g m 1 (-1) v195 ev195 n (by omega)))) ?_
    refine Ops.sg 2 3 (Ops.dn (seqQ.n (Wp.rt (sqQ.r (seqQ.r ?_)))))
    exact fnQ.r' (X9 n) (fun z => (.tuple [eS z.1, e26 z.2])) h (RetOk.mk' (.v (.tuple [(.str (⟨#[]⟩ : ByteArray)), (.agg [(vI v195.fCode), (vI v195.fIndex)])])) (by kernel_rfl) (by kernel_rfl))
   ·refine Wp.sk (sqQ.n ⟨Zs17 (.v (.str (⟨#[]⟩ : ByteArray))) ((appD 5 (List.map (eK .u8) y193.1))::q40 (q28 [])), [(b9_0 a0), b9_1, (b9_2 v1), .dead, .dead, (appO 1 (List.map (eK .u8) y193.1))]⟩ (by generalize y193.1 = z0; cases z0 <;> kernel_rfl) (seqQ.n (Wp.sq (Wp.rg (Ops.sg 1 1 ?_)))))
    refine Ops.on 2 (fun h0 e0 => (conv_d (T := T) h0 49 9 5 (appD 5 (List.map (eK .u8) y193.1)) y193.1 (appF_hd _ _ _) (by kernel_rfl) (by kernel_rfl) (by kernel_rfl))) ?_
    refine Ops.sg 3 5 (Ops.dn (seqQ.n (Wp.rt ?_)))
    exact fnQ.r' (X9 n) (fun z => (.tuple [eS z.1, e26 z.2])) h (RetOk.mk' (.v (.tuple [(.str (strI y193.1)), (.agg [(vI 0), (vI 0)])])) (by kernel_rfl) (by kernel_rfl))
def f22_B1 (m : Nat) (v60 : S44) (v67 : (List ByteArray)) (v68 : Int) : Option (Stp (List ByteArray) ((List ByteArray) × Int)) :=
 cnd (decide (v68 < (v60.fItems.length : Int)))
 (bnd (idx v60.fItems v68) fun v78 =>
 bnd (app 16 v67 v78.fTags) fun v79 =>
 some (.nxt (v79, w64 (v68 + 1))))
 (some (.brk (v67, v68)))
def f22_B2 (m : Nat) (a0 : S23) (v49 : (List ByteArray)) (v50 : Int) : Option (Stp (List ByteArray) ((List ByteArray) × Int)) :=
 cnd (decide (v50 < (a0.fClasses.length : Int)))
 (bnd (idx a0.fClasses v50) fun v60 =>
 brk (iter (fun (y : (List ByteArray) × Int) => f22_B1 m v60 y.1 y.2) m (v49, 0)) (fun r => some (.ret r)) fun y81 =>
 some (.nxt (y81.1, w64 (v50 + 1))))
 (some (.brk (v49, v50)))
def f22 (m : Nat) (a0 : S23) : Option (List ByteArray) :=
 brk (iter (fun (y : (List ByteArray) × Int) => f22_B2 m a0 y.1 y.2) m ([], 0)) some fun y84 =>
 bnd (srt y84.1) fun v86 =>
 some (compactS v86)
noncomputable abbrev X22 (n : Nat) : Cx := cxOf Proofs.Tryz.prog EG 22 n
noncomputable def C22 : Code := bodyOf Proofs.Tryz.prog 22
noncomputable abbrev p22_0 : Code := cL (cL (cR (cL (cR (cR C22)))))
noncomputable abbrev p22_1 : Code := cR (cR (cR p22_0))
abbrev b22_0 (w0 : S23) : AObj := .cells [(dP e44 w0.fClasses)]
abbrev b22_1 (w0 : S44) : AObj := .cells [(.v (.str w0.fName)), (dP e46 w0.fItems)]
abbrev k22_0 : List Nat := [2, 3, 9, 10, 11]
abbrev k22_1 : List Nat := [2, 3, 9, 10, 11, 16, 17, 18]
theorem ok22 (m : Nat) (a0 : S23) (o : (List ByteArray)) (h : f22 m a0 = some o) (n : Nat) (hn : m + 2 ≤ n) : FnO Proofs.Tryz.prog EG n 22 [.v (e23 a0)] ((eL eS) o) := by
 obtain ⟨n, rfl⟩ : ∃ q, n = q + 1 := ⟨n - 1, by omega⟩
 unfold f22 at h
 refine FnO.of (by kernel_rfl) (by kernel_rfl) (by kernel_rfl) ⟨(.v (.agg [(vP e44 a0.fClasses)]))::u31 [], []⟩ (by kernel_rfl) (Wp.sq (Wp.rg (Ops.sg 2 2 (Ops.dn (seqQ.n (Wp.sq (Wp.rg (Ops.sg 1 1 (Ops.dn (seqQ.n (Wp.sq (Wp.sq (Wp.rg (Ops.sg 2 2 ?_))))))))))))))
 refine Ops.on 3 (fun h0 e0 => (len_r (T := T) h0 22 45 .plain e44 a0.fClasses (by kernel_rfl))) ?_
 refine Ops.sg 1 4 (Ops.dn (seqQ.n (Wp.bk 0 [2, 3] 1 ?_)))
 have hLx83 : ∀ (kx52 : Nat) (v49 : (List ByteArray)) (v50 : Int)  (ox51 : (List ByteArray) ⊕ ((List ByteArray) × Int)), iter (fun (y : (List ByteArray) × Int) => f22_B2 m a0 y.1 y.2) kx52 (v49, v50) = some ox51 → ∀ nx53, kx52 ≤ nx53 → (∀ r, ox51 = .inl r → ∀ σ, RetOkO (X22 n) (resOf Proofs.Tryz.prog 22) ((eL eS) r) σ → (seqQ (X22 n) (cR (cR (cR C22))) (fnQO (X22 n).E.T (resOf Proofs.Tryz.prog 22) ((eL eS) o))) .ret σ) → (∀ (y : (List ByteArray) × Int) , ox51 = .inr y → (seqQ (X22 n) (cR (cR (cR C22))) (fnQO (X22 n).E.T (resOf Proofs.Tryz.prog 22) ((eL eS) o))) .normal ⟨q2 ((.v (.sl .nil (List.map eS [])))::(rowF .nil 1 (List.map eS y.1))::q28 []), [(b22_0 a0), (rowO 1 (List.map eS y.1))]⟩) → Lp (X22 n) k22_0 1 p22_0 nx53 ⟨q2 ((.v (.sl .nil (List.map eS [])))::(rowF .nil 1 (List.map eS v49))::q5 ((dP e44 a0.fClasses)::(dI (a0.fClasses.length : Int))::(dI v50)::q20 [])), [(b22_0 a0), (rowO 1 (List.map eS v49))]⟩ (blkQ (X22 n) 0 [2, 3] 1 (seqQ (X22 n) (cR (cR (cR C22))) (fnQO (X22 n).E.T (resOf Proofs.Tryz.prog 22) ((eL eS) o)))) := by
  intro kx52
  induction kx52 with
  | zero => intro v49 v50  ox51 h; exact (iter_zero h).elim
  | succ kx52 ihx54 =>
   intro v49 v50  ox51 h nx53 hnx57 hrx55 hxx56
   obtain ⟨nx53, rfl⟩ : ∃ q, nx53 = q + 1 := ⟨nx53 - 1, by omega⟩
   obtain ⟨sx58, h, hsx59⟩ := iter_some h
   have h : f22_B2 m a0 v49 v50 = some sx58 := h
   unfold f22_B2 at h
   refine Lp.succ (Wp.sq (Wp.rg (Ops.sg 1 1 (Ops.dn (seqQ.n (Wp.sq ?_))))))
   refine Wp.cd h k22_0 2 (fun h => ?_) (fun h => ?_)
   ·refine Wp.sk (sqQ.n ⟨q2 ((.v (.sl .nil (List.map eS [])))::(rowF .nil 2 (List.map eS v49))::q5 ((dP e44 a0.fClasses)::(dI (a0.fClasses.length : Int))::(dI v50)::q20 [])), [(b22_0 a0), .dead, (rowO 1 (List.map eS v49))]⟩ (by generalize v49 = z0; cases z0 <;> kernel_rfl) (seqQ.n (Wp.sq (Wp.bk 1 k22_0 3 (Wp.sq (Wp.rg ?_))))))
    obtain ⟨v60, ev60, h⟩ := bnd_some h
    refine Ops.on 1 (fun h0 e0 => (ix_r (T := T) h0 22 45 2 .plain e44 a0.fClasses v50 v60 ev60 (by kernel_rfl) (by kernel_rfl) (fun _ => rfl))) ?_
    refine Ops.sg 3 4 (Ops.dn (seqQ.n (Wp.sq (Wp.rg (Ops.sg 2 2 ?_)))))
    refine Ops.on 3 (fun h0 e0 => (len_r (T := T) h0 43 47 .plain e46 v60.fItems (by kernel_rfl))) ?_
    refine Ops.sg 1 4 (Ops.dn (seqQ.n (Wp.bk 2 k22_0 4 ?_)))
    have hLx80 : ∀ (kx70 : Nat) (v67 : (List ByteArray)) (v68 : Int)  (ox69 : (List ByteArray) ⊕ ((List ByteArray) × Int)), iter (fun (y : (List ByteArray) × Int) => f22_B1 m v60 y.1 y.2) kx70 (v67, v68) = some ox69 → ∀ nx71, kx70 ≤ nx71 → (∀ r, ox69 = .inl r → ∀ σ, RetOkO (X22 n) (resOf Proofs.Tryz.prog 22) ((eL eS) r) σ → (blkQ (X22 n) 1 k22_0 3 (seqQ (X22 n) p22_1 (lpQ (X22 n) k22_0 1 p22_0 nx53 (blkQ (X22 n) 0 [2, 3] 1 (seqQ (X22 n) (cR (cR (cR C22))) (fnQO (X22 n).E.T (resOf Proofs.Tryz.prog 22) ((eL eS) o))))))) .ret σ) → (∀ (y : (List ByteArray) × Int) , ox69 = .inr y → (blkQ (X22 n) 1 k22_0 3 (seqQ (X22 n) p22_1 (lpQ (X22 n) k22_0 1 p22_0 nx53 (blkQ (X22 n) 0 [2, 3] 1 (seqQ (X22 n) (cR (cR (cR C22))) (fnQO (X22 n).E.T (resOf Proofs.Tryz.prog 22) ((eL eS) o))))))) .normal ⟨Zs27 (.v (.sl .nil (List.map eS []))) y.1 a0.fClasses (a0.fClasses.length : Int) v50 (q20 []), [(b22_0 a0), .dead, .dead, (b22_1 v60), (rowO 1 (List.map eS y.1))]⟩) → Lp (X22 n) k22_1 4 (cL (cL (cR (cR (cL (cL (cR (cR p22_0)))))))) nx71 ⟨Zs27 (.v (.sl .nil (List.map eS []))) v67 a0.fClasses (a0.fClasses.length : Int) v50 (q4 ((dP e46 v60.fItems)::(dI (v60.fItems.length : Int))::(dI v68)::q13 [])), [(b22_0 a0), .dead, .dead, (b22_1 v60), (rowO 1 (List.map eS v67))]⟩ (blkQ (X22 n) 2 k22_0 4 (blkQ (X22 n) 1 k22_0 3 (seqQ (X22 n) p22_1 (lpQ (X22 n) k22_0 1 p22_0 nx53 (blkQ (X22 n) 0 [2, 3] 1 (seqQ (X22 n) (cR (cR (cR C22))) (fnQO (X22 n).E.T (resOf Proofs.Tryz.prog 22) ((eL eS) o)))))))) := by
     intro kx70
     induction kx70 with
     | zero => intro v67 v68  ox69 h; exact (iter_zero h).elim
     | succ kx70 ihx72 =>
      intro v67 v68  ox69 h nx71 hnx75 hrx73 hxx74
      obtain ⟨nx71, rfl⟩ : ∃ q, nx71 = q + 1 := ⟨nx71 - 1, by omega⟩
      obtain ⟨sx76, h, hsx77⟩ := iter_some h
      have h : f22_B1 m v60 v67 v68 = some sx76 := h
      unfold f22_B1 at h
      refine Lp.succ (Wp.sq (Wp.rg (Ops.sg 1 1 (Ops.dn (seqQ.n (Wp.sq ?_))))))
      refine Wp.cd h k22_1 5 (fun h => ?_) (fun h => ?_)
      ·refine Wp.sk (sqQ.n ⟨q2 ((.v (.sl .nil (List.map eS [])))::(rowF .nil 5 (List.map eS v67))::q5 ((dP e44 a0.fClasses)::(dI (a0.fClasses.length : Int))::(dI v50)::q4 ((dP e46 v60.fItems)::(dI (v60.fItems.length : Int))::(dI v68)::q13 []))), [(b22_0 a0), .dead, .dead, (b22_1 v60), .dead, (rowO 1 (List.map eS v67))]⟩ (by generalize v67 = z0; cases z0 <;> kernel_rfl) (seqQ.n (Wp.sq (Wp.bk 3 k22_1 6 (Wp.sq (Wp.rg ?_))))))
       obtain ⟨v78, ev78, h⟩ := bnd_some h
       refine Ops.on 1 (fun h0 e0 => (ix_r (T := T) h0 43 47 5 .plain e46 v60.fItems v68 v78 ev78 (by kernel_rfl) (by kernel_rfl) (fun _ => rfl))) ?_
       refine Ops.sg 3 4 (Ops.dn (seqQ.n (Wp.rg (Ops.sg 3 3 ?_))))
       obtain ⟨v79, ev79, h⟩ := bnd_some h
       refine Ops.on 4 (fun h0 e0 => (row_app (T := T) (g := .nil) h0 29 9 5 ti9 .plain eS v67 v78.fTags v79 ev79 (by kernel_rfl) (by kernel_rfl) (by kernel_rfl) (by kernel_rfl) (fun _ => rfl) (hq_of e0 (by kernel_rfl)))) ?_
       refine Ops.sg 1 5 (Ops.dn (blkQ.n ⟨q2 ((.v (.sl .nil (List.map eS [])))::(rowF .nil 6 (List.map eS v79))::q5 ((dP e44 a0.fClasses)::(dI (a0.fClasses.length : Int))::(dI v50)::q4 ((dP e46 v60.fItems)::(dI (v60.fItems.length : Int))::(dI v68)::q13 []))), [(b22_0 a0), .dead, .dead, (b22_1 v60), .dead, .dead, (rowO 1 (List.map eS v79))]⟩ (by generalize v79 = z0; cases z0 <;> kernel_rfl) (seqQ.n (Wp.rg (Ops.sg 2 2 (Ops.dn (lpQ.n ⟨Zs27 (.v (.sl .nil (List.map eS []))) v79 a0.fClasses (a0.fClasses.length : Int) v50 (q4 ((dP e46 v60.fItems)::(dI (v60.fItems.length : Int))::(dI (w64 (v68 + 1)))::q13 [])), [(b22_0 a0), .dead, .dead, (b22_1 v60), (rowO 1 (List.map eS v79))]⟩ (by generalize v79 = z0; cases z0 <;> kernel_rfl) ?_)))))))
       cases h
       exact ihx72 v79 (w64 (v68 + 1))  _ hsx77 _ (by omega) hrx73 hxx74
      ·refine Wp.ex 2 (sqQ.x (seqQ.x ?_))
       cases h
       refine lpQ.x (blkQ.x ⟨Zs27 (.v (.sl .nil (List.map eS []))) v67 a0.fClasses (a0.fClasses.length : Int) v50 (q20 []), [(b22_0 a0), .dead, .dead, (b22_1 v60), (rowO 1 (List.map eS v67))]⟩ (by generalize v67 = z0; cases z0 <;> kernel_rfl) ?_)
       exact hxx74 (v67, v68)  hsx77
    refine Wp.loop' k22_1 4 (by kernel_rfl) ⟨Zs27 (.v (.sl .nil (List.map eS []))) v49 a0.fClasses (a0.fClasses.length : Int) v50 (q4 ((dP e46 v60.fItems)::(dI (v60.fItems.length : Int))::(dI 0)::q13 [])), [(b22_0 a0), .dead, .dead, (b22_1 v60), (rowO 1 (List.map eS v49))]⟩ (by generalize v49 = z0; cases z0 <;> kernel_rfl) ?_
    rcases brk_some h with ⟨r82, er82, h⟩ | ⟨y81, ey81, h⟩
    ·refine hLx80 _ v49 0  _ er82 n (by omega) (fun r er σ hσ => ?_) (fun y  ey => by cases ey)
     cases er
     refine blkQ.r (seqQ.r (lpQ.r ?_))
     cases h
     refine blkQ.r ?_
     exact hrx55 _ hsx59 _ (RetOkO.forget k22_0 (by kernel_rfl) hσ)
    ·refine hLx80 _ v49 0  _ ey81 n (by omega) (fun r er => by cases er) (fun y  ey => ?_)
     cases ey
     refine blkQ.n ⟨q2 ((.v (.sl .nil (List.map eS [])))::(rowF .nil 3 (List.map eS y81.1))::q5 ((dP e44 a0.fClasses)::(dI (a0.fClasses.length : Int))::(dI v50)::q20 [])), [(b22_0 a0), .dead, .dead, (rowO 1 (List.map eS y81.1))]⟩ (by generalize y81.1 = z0; cases z0 <;> kernel_rfl) (seqQ.n (Wp.rg (Ops.sg 2 2 (Ops.dn (lpQ.n ⟨q2 ((.v (.sl .nil (List.map eS [])))::(rowF .nil 1 (List.map eS y81.1))::q5 ((dP e44 a0.fClasses)::(dI (a0.fClasses.length : Int))::(dI (w64 (v50 + 1)))::q20 [])), [(b22_0 a0), (rowO 1 (List.map eS y81.1))]⟩ (by generalize y81.1 = z0; cases z0 <;> kernel_rfl) ?_)))))
     cases h
     exact ihx54 y81.1 (w64 (v50 + 1))  _ hsx59 _ (by omega) hrx55 hxx56
   ·refine Wp.ex 0 (sqQ.x (seqQ.x ?_))
    cases h
    refine lpQ.x (blkQ.x ⟨q2 ((.v (.sl .nil (List.map eS [])))::(rowF .nil 1 (List.map eS v49))::q28 []), [(b22_0 a0), (rowO 1 (List.map eS v49))]⟩ (by generalize v49 = z0; cases z0 <;> kernel_rfl) ?_)
    exact hxx56 (v49, v50)  hsx59
 refine Wp.loop' k22_0 1 (by kernel_rfl) ⟨q2 ((.v (.sl .nil (List.map eS [])))::(rowF .nil 1 (List.map eS []))::q5 ((dP e44 a0.fClasses)::(dI (a0.fClasses.length : Int))::(dI 0)::q20 [])), [(b22_0 a0), (rowO 1 (List.map eS []))]⟩ (by kernel_rfl) ?_
 rcases brk_some h with ⟨r85, er85, h⟩ | ⟨y84, ey84, h⟩
 ·refine hLx83 _ [] 0  _ er85 n (by omega) (fun r er σ hσ => ?_) (fun y  ey => by cases ey)
  cases er
  refine seqQ.r ?_
  exact fnQO.r' (X22 n) (fun z => ((eL eS) z)) h hσ
 ·refine hLx83 _ [] 0  _ ey84 n (by omega) (fun r er => by cases er) (fun y  ey => ?_)
  cases ey
  refine seqQ.n (Wp.sq (Wp.rg (Ops.sg 1 1 ?_)))
  obtain ⟨v86, ev86, h⟩ := bnd_some h
  refine Ops.on 2 (fun h0 e0 => (callD_own (P := Proofs.Tryz.prog) (E := EG) (E' := EG) (n := n) (f := 34) (by kernel_rfl) (by kernel_rfl) (by kernel_rfl) (row_sort h0 1 y84.1 v86 ev86 (hq_of e0 (by kernel_rfl))) (by omega))) ?_
  refine Ops.st ⟨q2 ((.v (.sl .nil (List.map eS [])))::(rowF .nil 1 (List.map eS y84.1))::q24 ((rowF .nil 1 (List.map eS y84.1))::u1 (q2 []))), [(b22_0 a0), (rowO 1 (List.map eS v86))]⟩ (by kernel_rfl) ?_
  rw [srt_row 1 ev86]
  refine Ops.dn (seqQ.n (Wp.sq (Wp.rg (Ops.sg 1 1 ?_))))
  refine Ops.on 2 (fun h0 e0 => (callD_own (P := Proofs.Tryz.prog) (E := EG) (E' := EG) (n := n) (f := 35) (by kernel_rfl) (by kernel_rfl) (by kernel_rfl) (row_compact h0 1 v86 (hq_of e0 (by kernel_rfl))) (by omega))) ?_
  refine Ops.sg 1 3 (Ops.dn (seqQ.n (Wp.rt ?_)))
  exact fnQO.r' (X22 n) (fun z => ((eL eS) z)) h (RetOkO.row (g := .nil) 1 1 (List.map eS (compactS v86)) (by kernel_rfl) (by kernel_rfl) (flat_eS _))
def f8 (m : Nat) (a0 : S23) : Option ((List ByteArray) × S26) :=
 bnd (f11 m a0) fun v1 =>
 cnd (!((v1.fCode == 0) && ((v1.fIndex == 0) && true)))
 (some (([], v1)))
 (bnd (f22 m a0) fun v2 =>
 some ((v2, (⟨0, 0⟩ : S26))))
noncomputable abbrev X8 (n : Nat) : Cx := cxOf Proofs.Tryz.prog EG 8 n
theorem ok8 (m : Nat) (a0 : S23) (o : ((List ByteArray) × S26)) (h : f8 m a0 = some o) (n : Nat) (hn : m + 6 ≤ n) : Fn Proofs.Tryz.prog EG n 8 [.v (e23 a0)] (.tuple [(eL eS) o.1, e26 o.2]) := by
 obtain ⟨n, rfl⟩ : ∃ q, n = q + 1 := ⟨n - 1, by omega⟩
 unfold f8 at h
 refine Fn.of (by kernel_rfl) (by kernel_rfl) (by kernel_rfl) ⟨(.v (.agg [(vP e44 a0.fClasses)]))::u13 [], []⟩ (by kernel_rfl) (Wp.sq (Wp.rg (Ops.sg 3 3 (Ops.dn (seqQ.n (Wp.sq (Wp.sq (Wp.rg (Ops.sg 1 1 ?_)))))))))
 obtain ⟨v1, ev1, h⟩ := bnd_some h
 refine Ops.on 2 (fun h0 e0 => (call_ok (E' := EG) (h := h0) (by kernel_rfl) (Args.v (.agg [(vP e44 a0.fClasses)]) (e23 a0) (by kernel_rfl) Args.nil) (ok11g m a0 v1 ev1 n (by omega)))) ?_
 refine Ops.sg 2 4 (Ops.dn (seqQ.n (Wp.sq (Wp.rg (Ops.sg 3 3 (Ops.dn (seqQ.n ?_)))))))
 refine Wp.cd h [1, 2, 3] 3 (fun h => ?_) (fun h => ?_)
 ·refine Wp.sq (Wp.rg (Ops.sg 3 3 (Ops.dn (seqQ.n (Wp.rt (sqQ.r (seqQ.r ?_)))))))
  exact fnQ.r' (X8 n) (fun z => (.tuple [(eL eS) z.1, e26 z.2])) h (RetOk.mk' (.v (.tuple [(.sl .nil (List.map eS [])), (.agg [(vI v1.fCode), (vI v1.fIndex)])])) (by kernel_rfl) (by kernel_rfl))
 ·refine Wp.sk (sqQ.n' (seqQ.n (Wp.sq (Wp.rg (Ops.sg 1 1 ?_)))))
  obtain ⟨v2, ev2, h⟩ := bnd_some h
  refine Ops.on 2 (fun h0 e0 => (call_ok (E' := EG) (h := h0) (by kernel_rfl) (Args.v (.agg [(vP e44 a0.fClasses)]) (e23 a0) (by kernel_rfl) Args.nil) (ok22 m a0 v2 ev2 n (by omega)).fn)) ?_
  refine Ops.sg 3 5 (Ops.dn (seqQ.n (Wp.rt ?_)))
  exact fnQ.r' (X8 n) (fun z => (.tuple [(eL eS) z.1, e26 z.2])) h (RetOk.mk' (.v (.tuple [(vP eS v2), (.agg [(vI 0), (vI 0)])])) (by kernel_rfl) (by kernel_rfl))
noncomputable def f6_r1 (m : Nat) (v43 : Bool) : Option Bool :=
 some v43
noncomputable def f6_r2 (m : Nat) (v5 : ((List ByteArray) × S26)) (v35 : Bool) : Option Bool :=
 bnd (cnd v35
 (bnd (f12 m v5.1 ([(⟨#[110]⟩ : ByteArray), (⟨#[112, 108]⟩ : ByteArray), (⟨#[115, 103]⟩ : ByteArray)])) fun v45 =>
 some v45)
 (some false)) fun v43 =>
 f6_r1 m v43
noncomputable def f6_r3 (m : Nat) (v3 : (S23 × S26)) (v5 : ((List ByteArray) × S26)) (v27 : Bool) : Option Bool :=
 bnd (cnd v27
 (bnd (f17 m ) fun v46 =>
 bnd (f16 m v3.1 v46) fun v47 =>
 some v47)
 (some false)) fun v35 =>
 f6_r2 m v5 v35
noncomputable def f6_r4 (m : Nat) (v2 : (ByteArray × S26)) (v3 : (S23 × S26)) (v5 : ((List ByteArray) × S26)) (v20 : Bool) : Option Bool :=
 f6_r3 m v3 v5 ((v20 && ((v2.1.toList == ((⟨#[99, 108, 97, 115, 115, 32, 114, 111, 111, 116, 10, 105, 116, 101, 109, 32, 40, 100, 111, 103, 41, 40, 100, 111, 103, 41, 91, 110, 93, 32, 49, 32, 48, 10, 99, 108, 97, 115, 115, 32, 110, 117, 109, 98, 101, 114, 10, 105, 116, 101, 109, 32, 40, 41, 40, 41, 91, 115, 103, 93, 32, 45, 49, 32, 48, 10, 105, 116, 101, 109, 32, 40, 41, 40, 115, 41, 91, 112, 108, 93, 32, 45, 49, 32, 50, 10]⟩ : ByteArray)).toList))))
noncomputable def f6_r5 (m : Nat) (v2 : (ByteArray × S26)) (v3 : (S23 × S26)) (v5 : ((List ByteArray) × S26)) (v12 : Bool) : Option Bool :=
 f6_r4 m v2 v3 v5 (v12 && ((v5.2.fCode == 0) && ((v5.2.fIndex == 0) && true)))
noncomputable def f6 (m : Nat)  : Option Bool :=
 bnd (f17 m ) fun v1 =>
 bnd (f9 m v1) fun v2 =>
 bnd (f14 m v2.1) fun v3 =>
 bnd (f17 m ) fun v4 =>
 bnd (f8 m v4) fun v5 =>
 f6_r5 m v2 v3 v5 (((v2.2.fCode == 0) && ((v2.2.fIndex == 0) && true)) && ((v3.2.fCode == 0) && ((v3.2.fIndex == 0) && true)))
noncomputable abbrev X6 (n : Nat) : Cx := cxOf Proofs.Tryz.prog EG 6 n
abbrev b6_0 (w0 : (ByteArray × S26)) : AObj := .cells [(dI w0.2.fCode), (dI w0.2.fIndex)]
abbrev b6_1 (w0 : (S23 × S26)) : AObj := .cells [(dP e44 w0.1.fClasses)]
abbrev b6_2 (w0 : (S23 × S26)) : AObj := .cells [(dI w0.2.fCode), (dI w0.2.fIndex)]
abbrev b6_3 (w0 : ((List ByteArray) × S26)) : AObj := .cells [(dI w0.2.fCode), (dI w0.2.fIndex)]
theorem ok6 (m : Nat)  (o : Bool) (h : f6 m  = some o) (n : Nat) (hn : m + 7 ≤ n) : Fn Proofs.Tryz.prog EG n 6 [] (eB o) := by
 obtain ⟨n, rfl⟩ : ∃ q, n = q + 1 := ⟨n - 1, by omega⟩
 unfold f6 at h
 refine Fn.of (by kernel_rfl) (by kernel_rfl) (by kernel_rfl) ⟨u40 (u9 []), []⟩ (by kernel_rfl) (Wp.sq (Wp.rg (Ops.sg 1 1 (Ops.dn (seqQ.n (Wp.sq (Wp.rg ?_)))))))
 obtain ⟨v1, ev1, h⟩ := bnd_some h
 refine Ops.on 1 (fun h0 e0 => (call_ok (E' := EG) (h := h0) (by kernel_rfl) Args.nil (ok17 m  v1 ev1 n (by omega)))) ?_
 obtain ⟨v2, ev2, h⟩ := bnd_some h
 refine Ops.on 2 (fun h0 e0 => (call_ok (E' := EG) (h := h0) (by kernel_rfl) (Args.v (.agg [(vP e44 v1.fClasses)]) (e23 v1) (by kernel_rfl) Args.nil) (ok9 m v1 v2 ev2 n (by omega)))) ?_
 refine Ops.sg 6 8 (Ops.dn (seqQ.n (Wp.sq (Wp.rg (Ops.sg 1 1 ?_)))))
 obtain ⟨v3, ev3, h⟩ := bnd_some h
 refine Ops.on 2 (fun h0 e0 => (call_ok (E' := EG) (h := h0) (by kernel_rfl) (Args.v (.str v2.1) (eS v2.1) (by kernel_rfl) Args.nil) (ok14 m v2.1 v3 ev3 n (by omega)))) ?_
 refine Ops.sg 7 9 (Ops.dn (seqQ.n (Wp.sq (Wp.rg ?_))))
 obtain ⟨v4, ev4, h⟩ := bnd_some h
 refine Ops.on 1 (fun h0 e0 => (call_ok (E' := EG) (h := h0) (by kernel_rfl) Args.nil (ok17 m  v4 ev4 n (by omega)))) ?_
 obtain ⟨v5, ev5, h⟩ := bnd_some h
 refine Ops.on 2 (fun h0 e0 => (call_ok (E' := EG) (h := h0) (by kernel_rfl) (Args.v (.agg [(vP e44 v4.fClasses)]) (e23 v4) (by kernel_rfl) Args.nil) (ok8 m v4 v5 ev5 n (by omega)))) ?_
 refine Ops.sg 6 8 (Ops.dn (seqQ.n (Wp.sq (Wp.rg (Ops.sg 4 4 ?_)))))
 refine Ops.hv (fun KQ => ∀ (d8 d9 d10 : D) (v11 v12 : Bool), f6_r5 m v2 v3 v5 v12 = some o → KQ 8 ⟨Zs0 v2.1 v5.1 (.v (.tuple [(.str v2.1), (.agg [(vI v2.2.fCode), (vI v2.2.fIndex)])])) (.v (.agg [(vP e44 v1.fClasses)])) (.v (.agg [(vI v2.2.fCode), (vI v2.2.fIndex)])) (.v (.tuple [(.agg [(vP e44 v3.1.fClasses)]), (.agg [(vI v3.2.fCode), (vI v3.2.fIndex)])])) (.v (.agg [(vP e44 v3.1.fClasses)])) (.v (.agg [(vI v3.2.fCode), (vI v3.2.fIndex)])) (.v (.tuple [(vP eS v5.1), (.agg [(vI v5.2.fCode), (vI v5.2.fIndex)])])) (.v (.agg [(vP e44 v4.fClasses)])) (.v (.agg [(vI v5.2.fCode), (vI v5.2.fIndex)])) (.v (.agg [(vI 0), (vI 0)])) v11 (d8::d9::d10::(dB v12)::u19 []), [(b6_0 v2), (b6_1 v3), (b6_2 v3), (b6_3 v5)]⟩) ?_ fun J6j13 => ?_
 ·intro d8 d9 d10 v11 v12 h
  unfold f6_r5 at h
  refine Ops.sg 1 9 ?_
  refine Ops.hv (fun KQ => ∀ (d16 d17 d18 : D) (v19 v20 : Bool), f6_r4 m v2 v3 v5 v20 = some o → KQ 13 ⟨Zs0 v2.1 v5.1 (.v (.tuple [(.str v2.1), (.agg [(vI v2.2.fCode), (vI v2.2.fIndex)])])) (.v (.agg [(vP e44 v1.fClasses)])) (.v (.agg [(vI v2.2.fCode), (vI v2.2.fIndex)])) (.v (.tuple [(.agg [(vP e44 v3.1.fClasses)]), (.agg [(vI v3.2.fCode), (vI v3.2.fIndex)])])) (.v (.agg [(vP e44 v3.1.fClasses)])) (.v (.agg [(vI v3.2.fCode), (vI v3.2.fIndex)])) (.v (.tuple [(vP eS v5.1), (.agg [(vI v5.2.fCode), (vI v5.2.fIndex)])])) (.v (.agg [(vP e44 v4.fClasses)])) (.v (.agg [(vI v5.2.fCode), (vI v5.2.fIndex)])) (.v (.agg [(vI 0), (vI 0)])) v11 (d8::d9::d10::(dB v19)::(dB v19)::d16::d17::d18::(dB v20)::u14 []), [(b6_0 v2), (b6_1 v3), (b6_2 v3), (b6_3 v5)]⟩) ?_ fun J6j21 => ?_
  ·intro d16 d17 d18 v19 v20 h
   unfold f6_r4 at h
   refine Ops.sg 1 14 ?_
   refine Ops.hv (fun KQ => ∀ (d24 d25 : D) (v26 v27 : Bool), f6_r3 m v3 v5 v27 = some o → KQ 17 ⟨Zs0 v2.1 v5.1 (.v (.tuple [(.str v2.1), (.agg [(vI v2.2.fCode), (vI v2.2.fIndex)])])) (.v (.agg [(vP e44 v1.fClasses)])) (.v (.agg [(vI v2.2.fCode), (vI v2.2.fIndex)])) (.v (.tuple [(.agg [(vP e44 v3.1.fClasses)]), (.agg [(vI v3.2.fCode), (vI v3.2.fIndex)])])) (.v (.agg [(vP e44 v3.1.fClasses)])) (.v (.agg [(vI v3.2.fCode), (vI v3.2.fIndex)])) (.v (.tuple [(vP eS v5.1), (.agg [(vI v5.2.fCode), (vI v5.2.fIndex)])])) (.v (.agg [(vP e44 v4.fClasses)])) (.v (.agg [(vI v5.2.fCode), (vI v5.2.fIndex)])) (.v (.agg [(vI 0), (vI 0)])) v11 (d8::d9::d10::(dB v19)::(dB v19)::d16::d17::d18::(dB v26)::(dB v26)::d24::d25::(dB v27)::u10 []), [(b6_0 v2), (b6_1 v3), (b6_2 v3), (b6_3 v5)]⟩) ?_ fun J6j28 => ?_
   ·intro d24 d25 v26 v27 h
    unfold f6_r3 at h
    refine Ops.sg 1 18 ?_
    refine Ops.hv (fun KQ => ∀ (d31 d32 d33 : D) (v34 v35 : Bool), f6_r2 m v5 v35 = some o → KQ 22 ⟨Zs0 v2.1 v5.1 (.v (.tuple [(.str v2.1), (.agg [(vI v2.2.fCode), (vI v2.2.fIndex)])])) (.v (.agg [(vP e44 v1.fClasses)])) (.v (.agg [(vI v2.2.fCode), (vI v2.2.fIndex)])) (.v (.tuple [(.agg [(vP e44 v3.1.fClasses)]), (.agg [(vI v3.2.fCode), (vI v3.2.fIndex)])])) (.v (.agg [(vP e44 v3.1.fClasses)])) (.v (.agg [(vI v3.2.fCode), (vI v3.2.fIndex)])) (.v (.tuple [(vP eS v5.1), (.agg [(vI v5.2.fCode), (vI v5.2.fIndex)])])) (.v (.agg [(vP e44 v4.fClasses)])) (.v (.agg [(vI v5.2.fCode), (vI v5.2.fIndex)])) (.v (.agg [(vI 0), (vI 0)])) v11 (d8::d9::d10::(dB v19)::(dB v19)::d16::d17::d18::(dB v26)::(dB v26)::d24::d25::(dB v34)::(dB v34)::d31::d32::d33::(dB v35)::u5 []), [(b6_0 v2), (b6_1 v3), (b6_2 v3), (b6_3 v5)]⟩) ?_ fun J6j36 => ?_
    ·intro d31 d32 d33 v34 v35 h
     unfold f6_r2 at h
     refine Ops.sg 1 23 ?_
     refine Ops.hv (fun KQ => ∀ (d39 d40 d41 : D) (v42 v43 : Bool), f6_r1 m v43 = some o → KQ 27 ⟨Zs0 v2.1 v5.1 (.v (.tuple [(.str v2.1), (.agg [(vI v2.2.fCode), (vI v2.2.fIndex)])])) (.v (.agg [(vP e44 v1.fClasses)])) (.v (.agg [(vI v2.2.fCode), (vI v2.2.fIndex)])) (.v (.tuple [(.agg [(vP e44 v3.1.fClasses)]), (.agg [(vI v3.2.fCode), (vI v3.2.fIndex)])])) (.v (.agg [(vP e44 v3.1.fClasses)])) (.v (.agg [(vI v3.2.fCode), (vI v3.2.fIndex)])) (.v (.tuple [(vP eS v5.1), (.agg [(vI v5.2.fCode), (vI v5.2.fIndex)])])) (.v (.agg [(vP e44 v4.fClasses)])) (.v (.agg [(vI v5.2.fCode), (vI v5.2.fIndex)])) (.v (.agg [(vI 0), (vI 0)])) v11 (d8::d9::d10::(dB v19)::(dB v19)::d16::d17::d18::(dB v26)::(dB v26)::d24::d25::(dB v34)::(dB v34)::d31::d32::d33::(dB v42)::(dB v42)::d39::d40::d41::(dB v43)::[]), [(b6_0 v2), (b6_1 v3), (b6_2 v3), (b6_3 v5)]⟩) ?_ fun J6j44 => ?_
     ·intro d39 d40 d41 v42 v43 h
      unfold f6_r1 at h
      refine Ops.sg 1 28 (Ops.dn (seqQ.n (Wp.rt ?_)))
      exact fnQ.r' (X6 n) (fun z => (eB z)) h (RetOk.mk' (dB v43) (by kernel_rfl) (by kernel_rfl))
     obtain ⟨v43, ev43, h⟩ := bnd_some h
     refine Ops.hv (fun KQ => ∀ v37 : Bool, (cnd v37 (bnd (f12 m v5.1 ([(⟨#[110]⟩ : ByteArray), (⟨#[112, 108]⟩ : ByteArray), (⟨#[115, 103]⟩ : ByteArray)])) fun v45 => some v45) (some false)) = some v43 → KQ 23 ⟨Zs0 v2.1 v5.1 (.v (.tuple [(.str v2.1), (.agg [(vI v2.2.fCode), (vI v2.2.fIndex)])])) (.v (.agg [(vP e44 v1.fClasses)])) (.v (.agg [(vI v2.2.fCode), (vI v2.2.fIndex)])) (.v (.tuple [(.agg [(vP e44 v3.1.fClasses)]), (.agg [(vI v3.2.fCode), (vI v3.2.fIndex)])])) (.v (.agg [(vP e44 v3.1.fClasses)])) (.v (.agg [(vI v3.2.fCode), (vI v3.2.fIndex)])) (.v (.tuple [(vP eS v5.1), (.agg [(vI v5.2.fCode), (vI v5.2.fIndex)])])) (.v (.agg [(vP e44 v4.fClasses)])) (.v (.agg [(vI v5.2.fCode), (vI v5.2.fIndex)])) (.v (.agg [(vI 0), (vI 0)])) v11 (d8::d9::d10::(dB v19)::(dB v19)::d16::d17::d18::(dB v26)::(dB v26)::d24::d25::(dB v34)::(dB v34)::d31::d32::d33::(dB v37)::(dB v37)::u4 []), [(b6_0 v2), (b6_1 v3), (b6_2 v3), (b6_3 v5)]⟩) ?_ fun G6g38 => Ops.sx (G6g38 v35 ev43)
     intro v37 ev43
     cases v37
     ·have ev43 := cnd_f ev43
      refine Ops.sg 4 27 ?_
      exact Ops.sx (J6j44 U U U false false (some_sub (fun v43 => f6_r1 m v43 = some o) ev43 h))
     ·have ev43 := cnd_t ev43
      refine Ops.sg 2 25 ?_
      obtain ⟨v45, ev45, ev43⟩ := bnd_some ev43
      refine Ops.on 26 (fun h0 e0 => (call_ok (E' := EG) (h := h0) (by kernel_rfl) (Args.v (vP eS v5.1) ((eL eS) v5.1) (by kernel_rfl) (Args.v (.sl .nonfull (List.map eS ([(⟨#[110]⟩ : ByteArray), (⟨#[112, 108]⟩ : ByteArray), (⟨#[115, 103]⟩ : ByteArray)]))) ((eL eS) ([(⟨#[110]⟩ : ByteArray), (⟨#[112, 108]⟩ : ByteArray), (⟨#[115, 103]⟩ : ByteArray)])) (by kernel_rfl) Args.nil)) (ok12g m v5.1 ([(⟨#[110]⟩ : ByteArray), (⟨#[112, 108]⟩ : ByteArray), (⟨#[115, 103]⟩ : ByteArray)]) v45 ev45 n (by omega)))) ?_
      refine Ops.sg 1 27 ?_
      exact Ops.sx (J6j44 (dP eS v5.1) ((.v (.sl .nonfull (List.map eS ([(⟨#[110]⟩ : ByteArray), (⟨#[112, 108]⟩ : ByteArray), (⟨#[115, 103]⟩ : ByteArray)]))))) (dB v45) true v45 (some_sub (fun v43 => f6_r1 m v43 = some o) ev43 h))
    obtain ⟨v35, ev35, h⟩ := bnd_some h
    refine Ops.hv (fun KQ => ∀ v29 : Bool, (cnd v29 (bnd (f17 m ) fun v46 => bnd (f16 m v3.1 v46) fun v47 => some v47) (some false)) = some v35 → KQ 18 ⟨Zs0 v2.1 v5.1 (.v (.tuple [(.str v2.1), (.agg [(vI v2.2.fCode), (vI v2.2.fIndex)])])) (.v (.agg [(vP e44 v1.fClasses)])) (.v (.agg [(vI v2.2.fCode), (vI v2.2.fIndex)])) (.v (.tuple [(.agg [(vP e44 v3.1.fClasses)]), (.agg [(vI v3.2.fCode), (vI v3.2.fIndex)])])) (.v (.agg [(vP e44 v3.1.fClasses)])) (.v (.agg [(vI v3.2.fCode), (vI v3.2.fIndex)])) (.v (.tuple [(vP eS v5.1), (.agg [(vI v5.2.fCode), (vI v5.2.fIndex)])])) (.v (.agg [(vP e44 v4.fClasses)])) (.v (.agg [(vI v5.2.fCode), (vI v5.2.fIndex)])) (.v (.agg [(vI 0), (vI 0)])) v11 (d8::d9::d10::(dB v19)::(dB v19)::d16::d17::d18::(dB v26)::(dB v26)::d24::d25::(dB v29)::(dB v29)::u9 []), [(b6_0 v2), (b6_1 v3), (b6_2 v3), (b6_3 v5)]⟩) ?_ fun G6g30 => Ops.sx (G6g30 v27 ev35)
    intro v29 ev35
    cases v29
    ·have ev35 := cnd_f ev35
     refine Ops.sg 4 22 ?_
     exact Ops.sx (J6j36 U U U false false (some_sub (fun v35 => f6_r2 m v5 v35 = some o) ev35 h))
    ·have ev35 := cnd_t ev35
     refine Ops.sg 1 19 ?_
     obtain ⟨v46, ev46, ev35⟩ := bnd_some ev35
     refine Ops.on 20 (fun h0 e0 => (call_ok (E' := EG) (h := h0) (by kernel_rfl) Args.nil (ok17 m  v46 ev46 n (by omega)))) ?_
     obtain ⟨v47, ev47, ev35⟩ := bnd_some ev35
     refine Ops.on 21 (fun h0 e0 => (call_ok (E' := EG) (h := h0) (by kernel_rfl) (Args.v (.agg [(vP e44 v3.1.fClasses)]) (e23 v3.1) (by kernel_rfl) (Args.v (.agg [(vP e44 v46.fClasses)]) (e23 v46) (by kernel_rfl) Args.nil)) (ok16 m v3.1 v46 v47 ev47 n (by omega)))) ?_
     refine Ops.sg 1 22 ?_
     exact Ops.sx (J6j36 (.v (.agg [(vP e44 v3.1.fClasses)])) (.v (.agg [(vP e44 v46.fClasses)])) (dB v47) true v47 (some_sub (fun v35 => f6_r2 m v5 v35 = some o) ev35 h))
   refine Ops.hv (fun KQ => ∀ v22 : Bool, f6_r3 m v3 v5 ((v22 && ((v2.1.toList == ((⟨#[99, 108, 97, 115, 115, 32, 114, 111, 111, 116, 10, 105, 116, 101, 109, 32, 40, 100, 111, 103, 41, 40, 100, 111, 103, 41, 91, 110, 93, 32, 49, 32, 48, 10, 99, 108, 97, 115, 115, 32, 110, 117, 109, 98, 101, 114, 10, 105, 116, 101, 109, 32, 40, 41, 40, 41, 91, 115, 103, 93, 32, 45, 49, 32, 48, 10, 105, 116, 101, 109, 32, 40, 41, 40, 115, 41, 91, 112, 108, 93, 32, 45, 49, 32, 50, 10]⟩ : ByteArray)).toList)))) = some o → KQ 14 ⟨Zs0 v2.1 v5.1 (.v (.tuple [(.str v2.1), (.agg [(vI v2.2.fCode), (vI v2.2.fIndex)])])) (.v (.agg [(vP e44 v1.fClasses)])) (.v (.agg [(vI v2.2.fCode), (vI v2.2.fIndex)])) (.v (.tuple [(.agg [(vP e44 v3.1.fClasses)]), (.agg [(vI v3.2.fCode), (vI v3.2.fIndex)])])) (.v (.agg [(vP e44 v3.1.fClasses)])) (.v (.agg [(vI v3.2.fCode), (vI v3.2.fIndex)])) (.v (.tuple [(vP eS v5.1), (.agg [(vI v5.2.fCode), (vI v5.2.fIndex)])])) (.v (.agg [(vP e44 v4.fClasses)])) (.v (.agg [(vI v5.2.fCode), (vI v5.2.fIndex)])) (.v (.agg [(vI 0), (vI 0)])) v11 (d8::d9::d10::(dB v19)::(dB v19)::d16::d17::d18::(dB v22)::(dB v22)::u13 []), [(b6_0 v2), (b6_1 v3), (b6_2 v3), (b6_3 v5)]⟩) ?_ fun G6g23 => Ops.sx (G6g23 v20 h)
   intro v22 h
   cases v22
   ·refine Ops.sg 3 17 ?_
    exact Ops.sx (J6j28 U U false false h)
   ·refine Ops.sg 3 17 ?_
    exact Ops.sx (J6j28 (.v (.str v2.1)) ((dB ((v2.1.toList == ((⟨#[99, 108, 97, 115, 115, 32, 114, 111, 111, 116, 10, 105, 116, 101, 109, 32, 40, 100, 111, 103, 41, 40, 100, 111, 103, 41, 91, 110, 93, 32, 49, 32, 48, 10, 99, 108, 97, 115, 115, 32, 110, 117, 109, 98, 101, 114, 10, 105, 116, 101, 109, 32, 40, 41, 40, 41, 91, 115, 103, 93, 32, 45, 49, 32, 48, 10, 105, 116, 101, 109, 32, 40, 41, 40, 115, 41, 91, 112, 108, 93, 32, 45, 49, 32, 50, 10]⟩ : ByteArray)).toList)))) true ((v2.1.toList == ((⟨#[99, 108, 97, 115, 115, 32, 114, 111, 111, 116, 10, 105, 116, 101, 109, 32, 40, 100, 111, 103, 41, 40, 100, 111, 103, 41, 91, 110, 93, 32, 49, 32, 48, 10, 99, 108, 97, 115, 115, 32, 110, 117, 109, 98, 101, 114, 10, 105, 116, 101, 109, 32, 40, 41, 40, 41, 91, 115, 103, 93, 32, 45, 49, 32, 48, 10, 105, 116, 101, 109, 32, 40, 41, 40, 115, 41, 91, 112, 108, 93, 32, 45, 49, 32, 50, 10]⟩ : ByteArray)).toList)) h)
  refine Ops.hv (fun KQ => ∀ v14 : Bool, f6_r4 m v2 v3 v5 (v14 && ((v5.2.fCode == 0) && ((v5.2.fIndex == 0) && true))) = some o → KQ 9 ⟨Zs0 v2.1 v5.1 (.v (.tuple [(.str v2.1), (.agg [(vI v2.2.fCode), (vI v2.2.fIndex)])])) (.v (.agg [(vP e44 v1.fClasses)])) (.v (.agg [(vI v2.2.fCode), (vI v2.2.fIndex)])) (.v (.tuple [(.agg [(vP e44 v3.1.fClasses)]), (.agg [(vI v3.2.fCode), (vI v3.2.fIndex)])])) (.v (.agg [(vP e44 v3.1.fClasses)])) (.v (.agg [(vI v3.2.fCode), (vI v3.2.fIndex)])) (.v (.tuple [(vP eS v5.1), (.agg [(vI v5.2.fCode), (vI v5.2.fIndex)])])) (.v (.agg [(vP e44 v4.fClasses)])) (.v (.agg [(vI v5.2.fCode), (vI v5.2.fIndex)])) (.v (.agg [(vI 0), (vI 0)])) v11 (d8::d9::d10::(dB v14)::(dB v14)::u18 []), [(b6_0 v2), (b6_1 v3), (b6_2 v3), (b6_3 v5)]⟩) ?_ fun G6g15 => Ops.sx (G6g15 v12 h)
  intro v14 h
  cases v14
  ·refine Ops.sg 4 13 ?_
   exact Ops.sx (J6j21 U U U false false h)
  ·refine Ops.sg 4 13 ?_
   exact Ops.sx (J6j21 ((.v (.agg [(vI v5.2.fCode), (vI v5.2.fIndex)]))) ((.v (.agg [(vI 0), (vI 0)]))) (dB ((v5.2.fCode == 0) && ((v5.2.fIndex == 0) && true))) true ((v5.2.fCode == 0) && ((v5.2.fIndex == 0) && true)) h)
 refine Ops.hv (fun KQ => ∀ v6 : Bool, f6_r5 m v2 v3 v5 (v6 && ((v3.2.fCode == 0) && ((v3.2.fIndex == 0) && true))) = some o → KQ 4 ⟨Zs0 v2.1 v5.1 (.v (.tuple [(.str v2.1), (.agg [(vI v2.2.fCode), (vI v2.2.fIndex)])])) (.v (.agg [(vP e44 v1.fClasses)])) (.v (.agg [(vI v2.2.fCode), (vI v2.2.fIndex)])) (.v (.tuple [(.agg [(vP e44 v3.1.fClasses)]), (.agg [(vI v3.2.fCode), (vI v3.2.fIndex)])])) (.v (.agg [(vP e44 v3.1.fClasses)])) (.v (.agg [(vI v3.2.fCode), (vI v3.2.fIndex)])) (.v (.tuple [(vP eS v5.1), (.agg [(vI v5.2.fCode), (vI v5.2.fIndex)])])) (.v (.agg [(vP e44 v4.fClasses)])) (.v (.agg [(vI v5.2.fCode), (vI v5.2.fIndex)])) (.v (.agg [(vI 0), (vI 0)])) v6 (u23 []), [(b6_0 v2), (b6_1 v3), (b6_2 v3), (b6_3 v5)]⟩) ?_ fun G6g7 => Ops.sx (G6g7 ((v2.2.fCode == 0) && ((v2.2.fIndex == 0) && true)) h)
 intro v6 h
 cases v6
 ·refine Ops.sg 4 8 ?_
  exact Ops.sx (J6j13 U U U false false h)
 ·refine Ops.sg 4 8 ?_
  exact Ops.sx (J6j13 ((.v (.agg [(vI v3.2.fCode), (vI v3.2.fIndex)]))) ((.v (.agg [(vI 0), (vI 0)]))) (dB ((v3.2.fCode == 0) && ((v3.2.fIndex == 0) && true))) true ((v3.2.fCode == 0) && ((v3.2.fIndex == 0) && true)) h)
structure Rec26 where
 r26 : Int → Option ByteArray
structure OkRec26 (m : Nat) (K : Rec26) (nn : Nat) : Prop where
 ok26 : ∀ (a0 : Int) (o : ByteArray), K.r26 a0 = some o → ∀ n, nn ≤ n → Fn Proofs.Tryz.prog EG n 26 [.v (eI a0)] (eS o)
def b26 (m : Nat) (K : Rec26) (a0 : Int) : Option ByteArray :=
 cnd (decide (a0 < 0))
 (bnd (K.r26 (w64 (0 - a0))) fun v1 =>
 bnd (scat (⟨#[45]⟩ : ByteArray) v1) fun v2 =>
 some v2)
 (cnd (decide (a0 < 10))
 (some (strI ([IntKind.u8.wrap (w64 (48 + a0))])))
 (bnd (K.r26 (w64 (Int.tdiv a0 10))) fun v3 =>
 bnd (K.r26 (Int.tmod a0 10)) fun v4 =>
 bnd (scat v3 v4) fun v5 =>
 some v5))
noncomputable abbrev X26 (n : Nat) : Cx := cxOf Proofs.Tryz.prog EG 26 n
theorem okb26 (m : Nat) (K : Rec26) (nn : Nat) (hK : OkRec26 m K nn) (a0 : Int) (o : ByteArray) (h : b26 m K a0 = some o) (n : Nat) (hn : m + 1 ≤ n) (hk : nn + 1 ≤ n) : Fn Proofs.Tryz.prog EG n 26 [.v (eI a0)] (eS o) := by
 obtain ⟨n, rfl⟩ : ∃ q, n = q + 1 := ⟨n - 1, by omega⟩
 unfold b26 at h
 refine Fn.of (by kernel_rfl) (by kernel_rfl) (by kernel_rfl) ⟨(dI a0)::u22 [], []⟩ (by kernel_rfl) (Wp.sq (Wp.rg (Ops.sg 1 1 (Ops.dn (seqQ.n (Wp.sq (Wp.sq (Wp.rg (Ops.sg 2 2 (Ops.dn (seqQ.n ?_)))))))))))
 refine Wp.cd h [0, 2] 0 (fun h => ?_) (fun h => ?_)
 ·refine Wp.sq (Wp.rg (Ops.sg 2 2 ?_))
  obtain ⟨v1, ev1, h⟩ := bnd_some h
  refine Ops.on 3 (fun h0 e0 => (call_ok (E' := EG) (h := h0) (by kernel_rfl) (Args.v (vI (w64 (0 - a0))) (eI (w64 (0 - a0))) (by kernel_rfl) Args.nil) (hK.ok26 (w64 (0 - a0)) v1 ev1 n (by omega)))) ?_
  obtain ⟨v2, ev2, h⟩ := bnd_some h
  refine Ops.on 4 (fun h0 e0 => (str_cat (T := T) h0 9 (⟨#[45]⟩ : ByteArray) v1 v2 ev2)) ?_
  refine Ops.sg 1 5 (Ops.dn (seqQ.n (Wp.rt (sqQ.r (seqQ.r ?_)))))
  exact fnQ.r' (X26 n) (fun z => (eS z)) h (RetOk.mk' (.v (.str v2)) (by kernel_rfl) (by kernel_rfl))
 ·refine Wp.sk (sqQ.n' (seqQ.n (Wp.sq (Wp.sq (Wp.rg (Ops.sg 2 2 (Ops.dn (seqQ.n ?_))))))))
  refine Wp.cd h [0, 2] 0 (fun h => ?_) (fun h => ?_)
  ·refine Wp.sq (Wp.rg (Ops.sg 4 4 ?_))
   refine Ops.on 5 (fun h0 e0 => (conv_r (T := T) h0 49 9 5 .nonfull ([IntKind.u8.wrap (w64 (48 + a0))]) (by kernel_rfl) (by kernel_rfl) (by kernel_rfl))) ?_
   refine Ops.sg 1 6 (Ops.dn (seqQ.n (Wp.rt (sqQ.r (seqQ.r ?_)))))
   exact fnQ.r' (X26 n) (fun z => (eS z)) h (RetOk.mk' (.v (.str (strI ([IntKind.u8.wrap (w64 (48 + a0))])))) (by kernel_rfl) (by kernel_rfl))
  ·refine Wp.sk (sqQ.n' (seqQ.n (Wp.sq (Wp.rg (Ops.sg 2 2 ?_)))))
   obtain ⟨v3, ev3, h⟩ := bnd_some h
   refine Ops.on 3 (fun h0 e0 => (call_ok (E' := EG) (h := h0) (by kernel_rfl) (Args.v (vI (w64 (Int.tdiv a0 10))) (eI (w64 (Int.tdiv a0 10))) (by kernel_rfl) Args.nil) (hK.ok26 (w64 (Int.tdiv a0 10)) v3 ev3 n (by omega)))) ?_
   refine Ops.sg 2 5 ?_
   obtain ⟨v4, ev4, h⟩ := bnd_some h
   refine Ops.on 6 (fun h0 e0 => (call_ok (E' := EG) (h := h0) (by kernel_rfl) (Args.v (vI (Int.tmod a0 10)) (eI (Int.tmod a0 10)) (by kernel_rfl) Args.nil) (hK.ok26 (Int.tmod a0 10) v4 ev4 n (by omega)))) ?_
   obtain ⟨v5, ev5, h⟩ := bnd_some h
   refine Ops.on 7 (fun h0 e0 => (str_cat (T := T) h0 9 v3 v4 v5 ev5)) ?_
   refine Ops.sg 1 8 (Ops.dn (seqQ.n (Wp.rt ?_)))
   exact fnQ.r' (X26 n) (fun z => (eS z)) h (RetOk.mk' (.v (.str v5)) (by kernel_rfl) (by kernel_rfl))
def K26 (m : Nat) : Nat → Rec26
 | 0 => ⟨fun _ => none⟩
 | r + 1 => ⟨fun a0 => b26 m (K26 m r) a0⟩
theorem okK26 (m : Nat) : ∀ r, OkRec26 m (K26 m r) (m + 1 + r)
 | 0 => ⟨fun _ o h => (by cases h)⟩
 | r + 1 => ⟨fun a0 o h n hn => okb26 m (K26 m r) (m + 1 + r) (okK26 m r) a0 o h n (by omega) (by omega)⟩
def f26 (m : Nat) (a0 : Int) : Option ByteArray := (K26 m m).r26 a0
theorem ok26 (m : Nat) (a0 : Int) (o : ByteArray) (h : f26 m a0 = some o) (n : Nat) (hn : 2 * m + 1 ≤ n) : Fn Proofs.Tryz.prog EG n 26 [.v (eI a0)] (eS o) := (okK26 m m).ok26 a0 o h n (by omega)
def f10_j1 (m : Nat) (v503 : Int) (v513 v514 : ByteArray) : Option (Stp (ByteArray × S26) (ByteArray × Int)) :=
 bnd (scat v514 v513) fun v518 =>
 some (.nxt (v518, w64 (v503 + 1)))
def f10_B2 (m : Nat) (v480 : S46) (v502 : ByteArray) (v503 : Int) : Option (Stp (ByteArray × S26) (ByteArray × Int)) :=
 cnd (decide (v503 < (v480.fTags.length : Int)))
 (bnd (idx v480.fTags v503) fun v513 =>
 cnd (decide (v503 > 0))
 (bnd (scat v502 (⟨#[44]⟩ : ByteArray)) fun v519 =>
 f10_j1 m v503 v513 v519)
 (f10_j1 m v503 v513 v502))
 (some (.brk (v502, v503)))
def f10_B3 (m : Nat) (v361 : S44) (v469 : ByteArray) (v470 : Int) : Option (Stp (ByteArray × S26) (ByteArray × Int)) :=
 cnd (decide (v470 < (v361.fItems.length : Int)))
 (bnd (idx v361.fItems v470) fun v480 =>
 bnd (scat ((⟨#[105, 116, 101, 109, 32, 40]⟩ : ByteArray)) v480.fBase) fun v481 =>
 bnd (scat v481 ((⟨#[41, 40]⟩ : ByteArray))) fun v482 =>
 bnd (scat v482 v480.fForm) fun v483 =>
 bnd (scat v483 ((⟨#[41, 91]⟩ : ByteArray))) fun v484 =>
 bnd (scat v469 v484) fun v485 =>
 brk (iter (fun (y : ByteArray × Int) => f10_B2 m v480 y.1 y.2) m (v485, 0)) (fun r => some (.ret r)) fun y521 =>
 bnd (f26 m v480.fNext) fun v523 =>
 bnd (scat ((⟨#[93, 32]⟩ : ByteArray)) v523) fun v524 =>
 bnd (scat v524 (⟨#[32]⟩ : ByteArray)) fun v525 =>
 bnd (f26 m v480.fWeight) fun v526 =>
 bnd (scat v525 v526) fun v527 =>
 bnd (scat v527 (⟨#[10]⟩ : ByteArray)) fun v528 =>
 bnd (scat y521.1 v528) fun v529 =>
 cnd (decide ((v529.size : Int) > 8000))
 (bnd (f18 m 1 (-1)) fun v530 =>
 some (.ret (((⟨#[]⟩ : ByteArray), v530))))
 (some (.nxt (v529, w64 (v470 + 1)))))
 (some (.brk (v469, v470)))
def f10_B4 (m : Nat) (a0 : S23) (v350 : ByteArray) (v351 : Int) : Option (Stp (ByteArray × S26) (ByteArray × Int)) :=
 cnd (decide (v351 < (a0.fClasses.length : Int)))
 (bnd (idx a0.fClasses v351) fun v361 =>
 bnd (scat ((⟨#[99, 108, 97, 115, 115, 32]⟩ : ByteArray)) v361.fName) fun v362 =>
 bnd (scat v362 (⟨#[10]⟩ : ByteArray)) fun v363 =>
 bnd (scat v350 v363) fun v364 =>
 brk (iter (fun (y : ByteArray × Int) => f10_B3 m v361 y.1 y.2) m (v364, 0)) (fun r => some (.ret r)) fun y532 =>
 some (.nxt (y532.1, w64 (v351 + 1))))
 (some (.brk (v350, v351)))
def f10 (m : Nat) (a0 : S23) : Option (ByteArray × S26) :=
 bnd (f7 m a0) fun v1 =>
 cnd (!((v1.fCode == 0) && ((v1.fIndex == 0) && true)))
 (some (((⟨#[]⟩ : ByteArray), v1)))
 (brk (iter (fun (y : ByteArray × Int) => f10_B4 m a0 y.1 y.2) m ((⟨#[]⟩ : ByteArray), 0)) some fun y535 =>
 cnd (decide ((y535.1.size : Int) > 4000))
 (bnd (f18 m 1 (-1)) fun v537 =>
 some (((⟨#[]⟩ : ByteArray), v537)))
 (some ((y535.1, (⟨0, 0⟩ : S26)))))
noncomputable abbrev X10 (n : Nat) : Cx := cxOf Proofs.Tryz.prog EG 10 n
noncomputable def C10 : Code := bodyOf Proofs.Tryz.prog 10
noncomputable abbrev p10_0 : Code := cR (cR (cR (cR C10)))
noncomputable abbrev p10_1 : Code := cL (cL (cR (cL (cR (cR (cR C10))))))
noncomputable abbrev p10_2 : Code := cR (cR (cR p10_1))
noncomputable abbrev p10_3 : Code := cL (cL (cR (cR (cR (cL (cL (cR (cR p10_1))))))))
noncomputable abbrev p10_4 : Code := cR (cR (cR p10_3))
noncomputable abbrev p10_5 : Code := cR (cR (cR (cL (cL (cR (cR p10_3))))))
noncomputable abbrev p10_6 : Code := cL (cL (cR (cL (cR (cR (cL (cL (cR (cR p10_3)))))))))
noncomputable abbrev p10_7 : Code := cR (cR (cR p10_6))
noncomputable abbrev p10_8 : Code := cR (cR (cL (cL (cR (cR p10_6)))))
abbrev b10_0 (w0 : S23) : AObj := .cells [(dP e44 w0.fClasses)]
abbrev b10_1 : AObj := .cells [(dI 0), (dI 0)]
abbrev b10_2 (w0 : S26) : AObj := .cells [(dI w0.fCode), (dI w0.fIndex)]
abbrev b10_3 (w0 : S44) : AObj := .cells [(.v (.str w0.fName)), (dP e46 w0.fItems)]
abbrev b10_4 (w0 : S46) : AObj := .cells [(.v (.str w0.fBase)), (.v (.str w0.fForm)), (dP eS w0.fTags), (dI w0.fNext), (dI w0.fWeight)]
abbrev k10_0 : List Nat := [2, 3, 5, 19, 20, 21]
abbrev k10_1 : List Nat := [2, 3, 5, 19, 20, 21, 32, 33, 34]
abbrev k10_2 : List Nat := [2, 3, 5, 9, 19, 20, 21, 32, 33, 34, 49, 50, 51]
theorem ok10 (m : Nat) (a0 : S23) (o : (ByteArray × S26)) (h : f10 m a0 = some o) (n : Nat) (hn : 2 * m + 7 ≤ n) : Fn Proofs.Tryz.prog EG n 10 [.v (e23 a0)] (.tuple [eS o.1, e26 o.2]) := by
 obtain ⟨n, rfl⟩ : ∃ q, n = q + 1 := ⟨n - 1, by omega⟩
 unfold f10 at h
 refine Fn.of (by kernel_rfl) (by kernel_rfl) (by kernel_rfl) ⟨(.v (.agg [(vP e44 a0.fClasses)]))::u40 (u40 (u7 [])), []⟩ (by kernel_rfl) (Wp.sq (Wp.rg (Ops.sg 3 3 (Ops.dn (seqQ.n (Wp.sq (Wp.sq (Wp.rg (Ops.sg 1 1 ?_)))))))))
 obtain ⟨v1, ev1, h⟩ := bnd_some h
 refine Ops.on 2 (fun h0 e0 => (call_ok (E' := EG) (h := h0) (by kernel_rfl) (Args.v (.agg [(vP e44 a0.fClasses)]) (e23 a0) (by kernel_rfl) Args.nil) (ok7g m a0 v1 ev1 n (by omega)))) ?_
 refine Ops.sg 2 4 (Ops.dn (seqQ.n (Wp.sq (Wp.rg (Ops.sg 3 3 (Ops.dn (seqQ.n ?_)))))))
 refine Wp.cd h [1, 2, 3] 3 (fun h => ?_) (fun h => ?_)
 ·refine Wp.sq (Wp.rg (Ops.sg 3 3 (Ops.dn (seqQ.n (Wp.rt (sqQ.r (seqQ.r ?_)))))))
  exact fnQ.r' (X10 n) (fun z => (.tuple [eS z.1, e26 z.2])) h (RetOk.mk' (.v (.tuple [(.str (⟨#[]⟩ : ByteArray)), (.agg [(vI v1.fCode), (vI v1.fIndex)])])) (by kernel_rfl) (by kernel_rfl))
 ·refine Wp.sk (sqQ.n' (seqQ.n (Wp.sq (Wp.rg (Ops.sg 1 1 (Ops.dn (seqQ.n (Wp.sq (Wp.sq (Wp.rg (Ops.sg 2 2 ?_)))))))))))
  refine Ops.on 3 (fun h0 e0 => (len_r (T := T) h0 22 45 .plain e44 a0.fClasses (by kernel_rfl))) ?_
  refine Ops.sg 1 4 (Ops.dn (seqQ.n (Wp.bk 0 [2, 3, 5] 3 ?_)))
  have hLx534 : ∀ (kx353 : Nat) (v350 : ByteArray) (v351 : Int)  (ox352 : (ByteArray × S26) ⊕ (ByteArray × Int)), iter (fun (y : ByteArray × Int) => f10_B4 m a0 y.1 y.2) kx353 (v350, v351) = some ox352 → ∀ nx354, kx353 ≤ nx354 → (∀ r, ox352 = .inl r → ∀ σ, RetOk (X10 n) (resOf Proofs.Tryz.prog 10) (.tuple [eS r.1, e26 r.2]) σ → (seqQ (X10 n) p10_0 (fnQ (X10 n).E.T (resOf Proofs.Tryz.prog 10) (.tuple [eS o.1, e26 o.2]))) .ret σ) → (∀ (y : ByteArray × Int) , ox352 = .inr y → (seqQ (X10 n) p10_0 (fnQ (X10 n).E.T (resOf Proofs.Tryz.prog 10) (.tuple [eS o.1, e26 o.2]))) .normal ⟨Zs17 (.v (.str (⟨#[]⟩ : ByteArray))) ((.v (.str y.1))::q13 ((dP e44 a0.fClasses)::(dI (a0.fClasses.length : Int))::(dI y.2)::q40 (q26 []))), [(b10_0 a0), b10_1, (b10_2 v1)]⟩) → Lp (X10 n) k10_0 3 p10_1 nx354 ⟨Zs17 (.v (.str (⟨#[]⟩ : ByteArray))) ((.v (.str v350))::q13 ((dP e44 a0.fClasses)::(dI (a0.fClasses.length : Int))::(dI v351)::q40 (q26 []))), [(b10_0 a0), b10_1, (b10_2 v1)]⟩ (blkQ (X10 n) 0 [2, 3, 5] 3 (seqQ (X10 n) p10_0 (fnQ (X10 n).E.T (resOf Proofs.Tryz.prog 10) (.tuple [eS o.1, e26 o.2])))) := by
   intro kx353
   induction kx353 with
   | zero => intro v350 v351  ox352 h; exact (iter_zero h).elim
   | succ kx353 ihx355 =>
    intro v350 v351  ox352 h nx354 hnx358 hrx356 hxx357
    obtain ⟨nx354, rfl⟩ : ∃ q, nx354 = q + 1 := ⟨nx354 - 1, by omega⟩
    obtain ⟨sx359, h, hsx360⟩ := iter_some h
    have h : f10_B4 m a0 v350 v351 = some sx359 := h
    unfold f10_B4 at h
    refine Lp.succ (Wp.sq (Wp.rg (Ops.sg 1 1 (Ops.dn (seqQ.n (Wp.sq ?_))))))
    refine Wp.cd h k10_0 3 (fun h => ?_) (fun h => ?_)
    ·refine Wp.sk (sqQ.n' (seqQ.n (Wp.sq (Wp.bk 1 k10_0 3 (Wp.sq (Wp.rg ?_))))))
     obtain ⟨v361, ev361, h⟩ := bnd_some h
     refine Ops.on 1 (fun h0 e0 => (ix_r (T := T) h0 22 45 2 .plain e44 a0.fClasses v351 v361 ev361 (by kernel_rfl) (by kernel_rfl) (fun _ => rfl))) ?_
     refine Ops.sg 3 4 (Ops.dn (seqQ.n (Wp.sq (Wp.rg (Ops.sg 3 3 ?_)))))
     obtain ⟨v362, ev362, h⟩ := bnd_some h
     refine Ops.on 4 (fun h0 e0 => (str_cat (T := T) h0 9 ((⟨#[99, 108, 97, 115, 115, 32]⟩ : ByteArray)) v361.fName v362 ev362)) ?_
     obtain ⟨v363, ev363, h⟩ := bnd_some h
     refine Ops.on 5 (fun h0 e0 => (str_cat (T := T) h0 9 v362 (⟨#[10]⟩ : ByteArray) v363 ev363)) ?_
     obtain ⟨v364, ev364, h⟩ := bnd_some h
     refine Ops.on 6 (fun h0 e0 => (str_cat (T := T) h0 9 v350 v363 v364 ev364)) ?_
     refine Ops.sg 1 7 (Ops.dn (seqQ.n (Wp.sq (Wp.rg (Ops.sg 2 2 ?_)))))
     refine Ops.on 3 (fun h0 e0 => (len_r (T := T) h0 43 47 .plain e46 v361.fItems (by kernel_rfl))) ?_
     refine Ops.sg 1 4 (Ops.dn (seqQ.n (Wp.bk 2 k10_0 4 ?_)))
     have hLx531 : ∀ (kx472 : Nat) (v469 : ByteArray) (v470 : Int)  (ox471 : (ByteArray × S26) ⊕ (ByteArray × Int)), iter (fun (y : ByteArray × Int) => f10_B3 m v361 y.1 y.2) kx472 (v469, v470) = some ox471 → ∀ nx473, kx472 ≤ nx473 → (∀ r, ox471 = .inl r → ∀ σ, RetOk (X10 n) (resOf Proofs.Tryz.prog 10) (.tuple [eS r.1, e26 r.2]) σ → (blkQ (X10 n) 1 k10_0 3 (seqQ (X10 n) p10_2 (lpQ (X10 n) k10_0 3 p10_1 nx354 (blkQ (X10 n) 0 [2, 3, 5] 3 (seqQ (X10 n) p10_0 (fnQ (X10 n).E.T (resOf Proofs.Tryz.prog 10) (.tuple [eS o.1, e26 o.2]))))))) .ret σ) → (∀ (y : ByteArray × Int) , ox471 = .inr y → (blkQ (X10 n) 1 k10_0 3 (seqQ (X10 n) p10_2 (lpQ (X10 n) k10_0 3 p10_1 nx354 (blkQ (X10 n) 0 [2, 3, 5] 3 (seqQ (X10 n) p10_0 (fnQ (X10 n).E.T (resOf Proofs.Tryz.prog 10) (.tuple [eS o.1, e26 o.2]))))))) .normal ⟨Zs17 (.v (.str (⟨#[]⟩ : ByteArray))) ((.v (.str y.1))::q13 ((dP e44 a0.fClasses)::(dI (a0.fClasses.length : Int))::(dI v351)::q10 ((dP e46 v361.fItems)::(dI (v361.fItems.length : Int))::(dI y.2)::q40 (q13 [])))), [(b10_0 a0), b10_1, (b10_2 v1), (b10_3 v361)]⟩) → Lp (X10 n) k10_1 4 p10_3 nx473 ⟨Zs17 (.v (.str (⟨#[]⟩ : ByteArray))) ((.v (.str v469))::q13 ((dP e44 a0.fClasses)::(dI (a0.fClasses.length : Int))::(dI v351)::q10 ((dP e46 v361.fItems)::(dI (v361.fItems.length : Int))::(dI v470)::q40 (q13 [])))), [(b10_0 a0), b10_1, (b10_2 v1), (b10_3 v361)]⟩ (blkQ (X10 n) 2 k10_0 4 (blkQ (X10 n) 1 k10_0 3 (seqQ (X10 n) p10_2 (lpQ (X10 n) k10_0 3 p10_1 nx354 (blkQ (X10 n) 0 [2, 3, 5] 3 (seqQ (X10 n) p10_0 (fnQ (X10 n).E.T (resOf Proofs.Tryz.prog 10) (.tuple [eS o.1, e26 o.2])))))))) := by
      intro kx472
      induction kx472 with
      | zero => intro v469 v470  ox471 h; exact (iter_zero h).elim
      | succ kx472 ihx474 =>
       intro v469 v470  ox471 h nx473 hnx477 hrx475 hxx476
       obtain ⟨nx473, rfl⟩ : ∃ q, nx473 = q + 1 := ⟨nx473 - 1, by omega⟩
       obtain ⟨sx478, h, hsx479⟩ := iter_some h
       have h : f10_B3 m v361 v469 v470 = some sx478 := h
       unfold f10_B3 at h
       refine Lp.succ (Wp.sq (Wp.rg (Ops.sg 1 1 (Ops.dn (seqQ.n (Wp.sq ?_))))))
       refine Wp.cd h k10_1 4 (fun h => ?_) (fun h => ?_)
       ·refine Wp.sk (sqQ.n' (seqQ.n (Wp.sq (Wp.bk 3 k10_1 4 (Wp.sq (Wp.rg ?_))))))
        obtain ⟨v480, ev480, h⟩ := bnd_some h
        refine Ops.on 1 (fun h0 e0 => (ix_r (T := T) h0 43 47 5 .plain e46 v361.fItems v470 v480 ev480 (by kernel_rfl) (by kernel_rfl) (fun _ => rfl))) ?_
        refine Ops.sg 3 4 (Ops.dn (seqQ.n (Wp.sq (Wp.rg (Ops.sg 3 3 ?_)))))
        obtain ⟨v481, ev481, h⟩ := bnd_some h
        refine Ops.on 4 (fun h0 e0 => (str_cat (T := T) h0 9 ((⟨#[105, 116, 101, 109, 32, 40]⟩ : ByteArray)) v480.fBase v481 ev481)) ?_
        obtain ⟨v482, ev482, h⟩ := bnd_some h
        refine Ops.on 5 (fun h0 e0 => (str_cat (T := T) h0 9 v481 ((⟨#[41, 40]⟩ : ByteArray)) v482 ev482)) ?_
        refine Ops.sg 2 7 ?_
        obtain ⟨v483, ev483, h⟩ := bnd_some h
        refine Ops.on 8 (fun h0 e0 => (str_cat (T := T) h0 9 v482 v480.fForm v483 ev483)) ?_
        obtain ⟨v484, ev484, h⟩ := bnd_some h
        refine Ops.on 9 (fun h0 e0 => (str_cat (T := T) h0 9 v483 ((⟨#[41, 91]⟩ : ByteArray)) v484 ev484)) ?_
        obtain ⟨v485, ev485, h⟩ := bnd_some h
        refine Ops.on 10 (fun h0 e0 => (str_cat (T := T) h0 9 v469 v484 v485 ev485)) ?_
        refine Ops.sg 1 11 (Ops.dn (seqQ.n (Wp.sq (Wp.sq (Wp.rg (Ops.sg 2 2 ?_))))))
        refine Ops.on 3 (fun h0 e0 => (len_r (T := T) h0 29 9 .plain eS v480.fTags (by kernel_rfl))) ?_
        refine Ops.sg 1 4 (Ops.dn (seqQ.n (Wp.bk 4 [2, 3, 5, 9, 19, 20, 21, 32, 33, 34] 5 ?_)))
        have hLx520 : ∀ (kx505 : Nat) (v502 : ByteArray) (v503 : Int)  (ox504 : (ByteArray × S26) ⊕ (ByteArray × Int)), iter (fun (y : ByteArray × Int) => f10_B2 m v480 y.1 y.2) kx505 (v502, v503) = some ox504 → ∀ nx506, kx505 ≤ nx506 → (∀ r, ox504 = .inl r → ∀ σ, RetOk (X10 n) (resOf Proofs.Tryz.prog 10) (.tuple [eS r.1, e26 r.2]) σ → (seqQ (X10 n) p10_5 (blkQ (X10 n) 3 k10_1 4 (seqQ (X10 n) p10_4 (lpQ (X10 n) k10_1 4 p10_3 nx473 (blkQ (X10 n) 2 k10_0 4 (blkQ (X10 n) 1 k10_0 3 (seqQ (X10 n) p10_2 (lpQ (X10 n) k10_0 3 p10_1 nx354 (blkQ (X10 n) 0 [2, 3, 5] 3 (seqQ (X10 n) p10_0 (fnQ (X10 n).E.T (resOf Proofs.Tryz.prog 10) (.tuple [eS o.1, e26 o.2])))))))))))) .ret σ) → (∀ (y : ByteArray × Int) , ox504 = .inr y → (seqQ (X10 n) p10_5 (blkQ (X10 n) 3 k10_1 4 (seqQ (X10 n) p10_4 (lpQ (X10 n) k10_1 4 p10_3 nx473 (blkQ (X10 n) 2 k10_0 4 (blkQ (X10 n) 1 k10_0 3 (seqQ (X10 n) p10_2 (lpQ (X10 n) k10_0 3 p10_1 nx354 (blkQ (X10 n) 0 [2, 3, 5] 3 (seqQ (X10 n) p10_0 (fnQ (X10 n).E.T (resOf Proofs.Tryz.prog 10) (.tuple [eS o.1, e26 o.2])))))))))))) .normal ⟨Zs17 (.v (.str (⟨#[]⟩ : ByteArray))) ((.v (.str y.1))::q3 ((.ptr 4 0)::q9 ((dP e44 a0.fClasses)::(dI (a0.fClasses.length : Int))::(dI v351)::q10 ((dP e46 v361.fItems)::(dI (v361.fItems.length : Int))::(dI v470)::q14 ((dP eS v480.fTags)::(dI (v480.fTags.length : Int))::(dI y.2)::q36 []))))), [(b10_0 a0), b10_1, (b10_2 v1), (b10_3 v361), (b10_4 v480)]⟩) → Lp (X10 n) k10_2 5 p10_6 nx506 ⟨Zs17 (.v (.str (⟨#[]⟩ : ByteArray))) ((.v (.str v502))::q3 ((.ptr 4 0)::q9 ((dP e44 a0.fClasses)::(dI (a0.fClasses.length : Int))::(dI v351)::q10 ((dP e46 v361.fItems)::(dI (v361.fItems.length : Int))::(dI v470)::q14 ((dP eS v480.fTags)::(dI (v480.fTags.length : Int))::(dI v503)::q36 []))))), [(b10_0 a0), b10_1, (b10_2 v1), (b10_3 v361), (b10_4 v480)]⟩ (blkQ (X10 n) 4 [2, 3, 5, 9, 19, 20, 21, 32, 33, 34] 5 (seqQ (X10 n) p10_5 (blkQ (X10 n) 3 k10_1 4 (seqQ (X10 n) p10_4 (lpQ (X10 n) k10_1 4 p10_3 nx473 (blkQ (X10 n) 2 k10_0 4 (blkQ (X10 n) 1 k10_0 3 (seqQ (X10 n) p10_2 (lpQ (X10 n) k10_0 3 p10_1 nx354 (blkQ (X10 n) 0 [2, 3, 5] 3 (seqQ (X10 n) p10_0 (fnQ (X10 n).E.T (resOf Proofs.Tryz.prog 10) (.tuple [eS o.1, e26 o.2]))))))))))))) := by
         intro kx505
         induction kx505 with
         | zero => intro v502 v503  ox504 h; exact (iter_zero h).elim
         | succ kx505 ihx507 =>
          intro v502 v503  ox504 h nx506 hnx510 hrx508 hxx509
          obtain ⟨nx506, rfl⟩ : ∃ q, nx506 = q + 1 := ⟨nx506 - 1, by omega⟩
          obtain ⟨sx511, h, hsx512⟩ := iter_some h
          have h : f10_B2 m v480 v502 v503 = some sx511 := h
          unfold f10_B2 at h
          refine Lp.succ (Wp.sq (Wp.rg (Ops.sg 1 1 (Ops.dn (seqQ.n (Wp.sq ?_))))))
          refine Wp.cd h k10_2 5 (fun h => ?_) (fun h => ?_)
          ·refine Wp.sk (sqQ.n' (seqQ.n (Wp.sq (Wp.bk 5 k10_2 5 (Wp.sq (Wp.rg (Ops.sg 1 1 ?_)))))))
           obtain ⟨v513, ev513, h⟩ := bnd_some h
           refine Ops.on 2 (fun h0 e0 => (ix_r (T := T) h0 29 9 1 .plain eS v480.fTags v503 v513 ev513 (by kernel_rfl) (by kernel_rfl) (fun _ => rfl))) ?_
           refine Ops.sg 3 5 (Ops.dn (seqQ.n (Wp.sq (Wp.sq (Wp.rg (Ops.sg 2 2 (Ops.dn (seqQ.n ?_))))))))
           have J10j517 : ∀ (v514 : ByteArray) (d515 d516 : D), f10_j1 m v503 v513 v514 = some sx511 → (seqQ (X10 n) p10_8 (blkQ (X10 n) 5 k10_2 5 (seqQ (X10 n) p10_7 (lpQ (X10 n) k10_2 5 p10_6 nx506 (blkQ (X10 n) 4 [2, 3, 5, 9, 19, 20, 21, 32, 33, 34] 5 (seqQ (X10 n) p10_5 (blkQ (X10 n) 3 k10_1 4 (seqQ (X10 n) p10_4 (lpQ (X10 n) k10_1 4 p10_3 nx473 (blkQ (X10 n) 2 k10_0 4 (blkQ (X10 n) 1 k10_0 3 (seqQ (X10 n) p10_2 (lpQ (X10 n) k10_0 3 p10_1 nx354 (blkQ (X10 n) 0 [2, 3, 5] 3 (seqQ (X10 n) p10_0 (fnQ (X10 n).E.T (resOf Proofs.Tryz.prog 10) (.tuple [eS o.1, e26 o.2]))))))))))))))))) .normal ⟨Zs17 (.v (.str (⟨#[]⟩ : ByteArray))) ((.v (.str v514))::q3 ((.ptr 4 0)::(dI v503)::(.v (.str v513))::q7 ((dP e44 a0.fClasses)::(dI (a0.fClasses.length : Int))::(dI v351)::q10 ((dP e46 v361.fItems)::(dI (v361.fItems.length : Int))::(dI v470)::q14 ((dP eS v480.fTags)::(dI (v480.fTags.length : Int))::(dI v503)::(dB (decide (v503 < (v480.fTags.length : Int))))::(dI v503)::(.vptr [(.str v513)])::(.v (.str v513))::(dI v503)::(dB (decide (v503 > 0)))::d515::d516::q28 []))))), [(b10_0 a0), b10_1, (b10_2 v1), (b10_3 v361), (b10_4 v480)]⟩ := by
            intro v514 d515 d516 h
            unfold f10_j1 at h
            refine seqQ.n (Wp.rg (Ops.sg 2 2 ?_))
            obtain ⟨v518, ev518, h⟩ := bnd_some h
            refine Ops.on 3 (fun h0 e0 => (str_cat (T := T) h0 9 v514 v513 v518 ev518)) ?_
            refine Ops.sg 1 4 (Ops.dn (blkQ.n' (seqQ.n (Wp.rg (Ops.sg 2 2 (Ops.dn (lpQ.m ⟨Zs17 (.v (.str (⟨#[]⟩ : ByteArray))) ((.v (.str v518))::q3 ((.ptr 4 0)::q9 ((dP e44 a0.fClasses)::(dI (a0.fClasses.length : Int))::(dI v351)::q10 ((dP e46 v361.fItems)::(dI (v361.fItems.length : Int))::(dI v470)::q14 ((dP eS v480.fTags)::(dI (v480.fTags.length : Int))::(dI (w64 (v503 + 1)))::q36 []))))), [(b10_0 a0), b10_1, (b10_2 v1), (b10_3 v361), (b10_4 v480)]⟩ ?_)))))))
            cases h
            exact ihx507 v518 (w64 (v503 + 1))  _ hsx512 _ (by omega) hrx508 hxx509
           refine Wp.cd h [2, 3, 5, 9, 11, 19, 20, 21, 32, 33, 34, 49, 50, 51] 5 (fun h => ?_) (fun h => ?_)
           ·refine Wp.rg (Ops.sg 1 1 ?_)
            obtain ⟨v519, ev519, h⟩ := bnd_some h
            refine Ops.on 2 (fun h0 e0 => (str_cat (T := T) h0 9 v502 (⟨#[44]⟩ : ByteArray) v519 ev519)) ?_
            refine Ops.sg 1 3 (Ops.dn (sqQ.m ⟨Zs17 (.v (.str (⟨#[]⟩ : ByteArray))) ((.v (.str v519))::q3 ((.ptr 4 0)::(dI v503)::(.v (.str v513))::q7 ((dP e44 a0.fClasses)::(dI (a0.fClasses.length : Int))::(dI v351)::q10 ((dP e46 v361.fItems)::(dI (v361.fItems.length : Int))::(dI v470)::q14 ((dP eS v480.fTags)::(dI (v480.fTags.length : Int))::(dI v503)::(dB (decide (v503 < (v480.fTags.length : Int))))::(dI v503)::(.vptr [(.str v513)])::(.v (.str v513))::(dI v503)::(dB (decide (v503 > 0)))::(.v (.str v502))::(.v (.str v519))::q28 []))))), [(b10_0 a0), b10_1, (b10_2 v1), (b10_3 v361), (b10_4 v480)]⟩ ?_))
            exact J10j517 v519 _ _ h
           ·refine Wp.sk (sqQ.m ⟨Zs17 (.v (.str (⟨#[]⟩ : ByteArray))) ((.v (.str v502))::q3 ((.ptr 4 0)::(dI v503)::(.v (.str v513))::q7 ((dP e44 a0.fClasses)::(dI (a0.fClasses.length : Int))::(dI v351)::q10 ((dP e46 v361.fItems)::(dI (v361.fItems.length : Int))::(dI v470)::q14 ((dP eS v480.fTags)::(dI (v480.fTags.length : Int))::(dI v503)::(dB (decide (v503 < (v480.fTags.length : Int))))::(dI v503)::(.vptr [(.str v513)])::(.v (.str v513))::(dI v503)::(dB (decide (v503 > 0)))::q30 []))))), [(b10_0 a0), b10_1, (b10_2 v1), (b10_3 v361), (b10_4 v480)]⟩ ?_)
            exact J10j517 v502 _ _ h
          ·refine Wp.ex 4 (sqQ.x (seqQ.x ?_))
           cases h
           refine lpQ.x (blkQ.w ⟨Zs17 (.v (.str (⟨#[]⟩ : ByteArray))) ((.v (.str v502))::q3 ((.ptr 4 0)::q9 ((dP e44 a0.fClasses)::(dI (a0.fClasses.length : Int))::(dI v351)::q10 ((dP e46 v361.fItems)::(dI (v361.fItems.length : Int))::(dI v470)::q14 ((dP eS v480.fTags)::(dI (v480.fTags.length : Int))::(dI v503)::q36 []))))), [(b10_0 a0), b10_1, (b10_2 v1), (b10_3 v361), (b10_4 v480)]⟩ ?_)
           exact hxx509 (v502, v503)  hsx512
        refine Wp.loop' k10_2 5 (by kernel_rfl) ⟨Zs17 (.v (.str (⟨#[]⟩ : ByteArray))) ((.v (.str v485))::q3 ((.ptr 4 0)::q9 ((dP e44 a0.fClasses)::(dI (a0.fClasses.length : Int))::(dI v351)::q10 ((dP e46 v361.fItems)::(dI (v361.fItems.length : Int))::(dI v470)::q14 ((dP eS v480.fTags)::(dI (v480.fTags.length : Int))::(dI 0)::q36 []))))), [(b10_0 a0), b10_1, (b10_2 v1), (b10_3 v361), (b10_4 v480)]⟩ (by kernel_rfl) ?_
        rcases brk_some h with ⟨r522, er522, h⟩ | ⟨y521, ey521, h⟩
        ·refine hLx520 _ v485 0  _ er522 n (by omega) (fun r er σ hσ => ?_) (fun y  ey => by cases ey)
         cases er
         refine seqQ.r (blkQ.r (seqQ.r (lpQ.r ?_)))
         cases h
         refine blkQ.r ?_
         exact hrx475 _ hsx479 _ (RetOk.forget k10_1 (by kernel_rfl) hσ)
        ·refine hLx520 _ v485 0  _ ey521 n (by omega) (fun r er => by cases er) (fun y  ey => ?_)
         cases ey
         refine seqQ.n (Wp.sq (Wp.rg (Ops.sg 3 3 ?_)))
         obtain ⟨v523, ev523, h⟩ := bnd_some h
         refine Ops.on 4 (fun h0 e0 => (call_ok (E' := EG) (h := h0) (by kernel_rfl) (Args.v (vI v480.fNext) (eI v480.fNext) (by kernel_rfl) Args.nil) (ok26 m v480.fNext v523 ev523 n (by omega)))) ?_
         obtain ⟨v524, ev524, h⟩ := bnd_some h
         refine Ops.on 5 (fun h0 e0 => (str_cat (T := T) h0 9 ((⟨#[93, 32]⟩ : ByteArray)) v523 v524 ev524)) ?_
         obtain ⟨v525, ev525, h⟩ := bnd_some h
         refine Ops.on 6 (fun h0 e0 => (str_cat (T := T) h0 9 v524 (⟨#[32]⟩ : ByteArray) v525 ev525)) ?_
         refine Ops.sg 2 8 ?_
         obtain ⟨v526, ev526, h⟩ := bnd_some h
         refine Ops.on 9 (fun h0 e0 => (call_ok (E' := EG) (h := h0) (by kernel_rfl) (Args.v (vI v480.fWeight) (eI v480.fWeight) (by kernel_rfl) Args.nil) (ok26 m v480.fWeight v526 ev526 n (by omega)))) ?_
         obtain ⟨v527, ev527, h⟩ := bnd_some h
         refine Ops.on 10 (fun h0 e0 => (str_cat (T := T) h0 9 v525 v526 v527 ev527)) ?_
         obtain ⟨v528, ev528, h⟩ := bnd_some h
         refine Ops.on 11 (fun h0 e0 => (str_cat (T := T) h0 9 v527 (⟨#[10]⟩ : ByteArray) v528 ev528)) ?_
         obtain ⟨v529, ev529, h⟩ := bnd_some h
         refine Ops.on 12 (fun h0 e0 => (str_cat (T := T) h0 9 y521.1 v528 v529 ev529)) ?_
         refine Ops.sg 1 13 (Ops.dn (seqQ.n (Wp.sq (Wp.rg (Ops.sg 3 3 (Ops.dn (seqQ.n ?_)))))))
         refine Wp.cd h k10_1 5 (fun h => ?_) (fun h => ?_)
         ·refine Wp.sq (Wp.rg ?_)
          obtain ⟨v530, ev530, h⟩ := bnd_some h
          refine Ops.on 1 (fun h0 e0 => (call_ok (E' := EG) (h := h0) (by kernel_rfl) (Args.v (vI 1) (eI 1) (by kernel_rfl) (Args.v (vI (-1)) (eI (-1)) (by kernel_rfl) Args.nil)) (ok18g m 1 (-1) v530 ev530 n (by omega)))) ?_
          refine Ops.sg 2 3 (Ops.dn (seqQ.n (Wp.rt (sqQ.r (blkQ.r (seqQ.r ?_))))))
          cases h
          refine lpQ.r (blkQ.r ?_)
          exact hrx475 _ hsx479 _ (RetOk.forget k10_1 (by kernel_rfl) (RetOk.mk' (.v (.tuple [(.str (⟨#[]⟩ : ByteArray)), (.agg [(vI v530.fCode), (vI v530.fIndex)])])) (by kernel_rfl) (by kernel_rfl)))
         ·refine Wp.sk (sqQ.n' (blkQ.n' (seqQ.n (Wp.rg (Ops.sg 2 2 (Ops.dn (lpQ.m ⟨Zs17 (.v (.str (⟨#[]⟩ : ByteArray))) ((.v (.str v529))::q13 ((dP e44 a0.fClasses)::(dI (a0.fClasses.length : Int))::(dI v351)::q10 ((dP e46 v361.fItems)::(dI (v361.fItems.length : Int))::(dI (w64 (v470 + 1)))::q40 (q13 [])))), [(b10_0 a0), b10_1, (b10_2 v1), (b10_3 v361)]⟩ ?_)))))))
          cases h
          exact ihx474 v529 (w64 (v470 + 1))  _ hsx479 _ (by omega) hrx475 hxx476
       ·refine Wp.ex 2 (sqQ.x (seqQ.x ?_))
        cases h
        refine lpQ.x (blkQ.w ⟨Zs17 (.v (.str (⟨#[]⟩ : ByteArray))) ((.v (.str v469))::q13 ((dP e44 a0.fClasses)::(dI (a0.fClasses.length : Int))::(dI v351)::q10 ((dP e46 v361.fItems)::(dI (v361.fItems.length : Int))::(dI v470)::q40 (q13 [])))), [(b10_0 a0), b10_1, (b10_2 v1), (b10_3 v361)]⟩ ?_)
        exact hxx476 (v469, v470)  hsx479
     refine Wp.loop' k10_1 4 (by kernel_rfl) ⟨Zs17 (.v (.str (⟨#[]⟩ : ByteArray))) ((.v (.str v364))::q13 ((dP e44 a0.fClasses)::(dI (a0.fClasses.length : Int))::(dI v351)::q10 ((dP e46 v361.fItems)::(dI (v361.fItems.length : Int))::(dI 0)::q40 (q13 [])))), [(b10_0 a0), b10_1, (b10_2 v1), (b10_3 v361)]⟩ (by kernel_rfl) ?_
     rcases brk_some h with ⟨r533, er533, h⟩ | ⟨y532, ey532, h⟩
     ·refine hLx531 _ v364 0  _ er533 n (by omega) (fun r er σ hσ => ?_) (fun y  ey => by cases ey)
      cases er
      refine blkQ.r (seqQ.r (lpQ.r ?_))
      cases h
      refine blkQ.r ?_
      exact hrx356 _ hsx360 _ (RetOk.forget k10_0 (by kernel_rfl) hσ)
     ·refine hLx531 _ v364 0  _ ey532 n (by omega) (fun r er => by cases er) (fun y  ey => ?_)
      cases ey
      refine blkQ.n' (seqQ.n (Wp.rg (Ops.sg 2 2 (Ops.dn (lpQ.m ⟨Zs17 (.v (.str (⟨#[]⟩ : ByteArray))) ((.v (.str y532.1))::q13 ((dP e44 a0.fClasses)::(dI (a0.fClasses.length : Int))::(dI (w64 (v351 + 1)))::q40 (q26 []))), [(b10_0 a0), b10_1, (b10_2 v1)]⟩ ?_)))))
      cases h
      exact ihx355 y532.1 (w64 (v351 + 1))  _ hsx360 _ (by omega) hrx356 hxx357
    ·refine Wp.ex 0 (sqQ.x (seqQ.x ?_))
     cases h
     refine lpQ.x (blkQ.w ⟨Zs17 (.v (.str (⟨#[]⟩ : ByteArray))) ((.v (.str v350))::q13 ((dP e44 a0.fClasses)::(dI (a0.fClasses.length : Int))::(dI v351)::q40 (q26 []))), [(b10_0 a0), b10_1, (b10_2 v1)]⟩ ?_)
     exact hxx357 (v350, v351)  hsx360
  refine Wp.loop' k10_0 3 (by kernel_rfl) ⟨Zs17 (.v (.str (⟨#[]⟩ : ByteArray))) ((.v (.str (⟨#[]⟩ : ByteArray)))::q13 ((dP e44 a0.fClasses)::(dI (a0.fClasses.length : Int))::(dI 0)::q40 (q26 []))), [(b10_0 a0), b10_1, (b10_2 v1)]⟩ (by kernel_rfl) ?_
  rcases brk_some h with ⟨r536, er536, h⟩ | ⟨y535, ey535, h⟩
  ·refine hLx534 _ (⟨#[]⟩ : ByteArray) 0  _ er536 n (by omega) (fun r er σ hσ => ?_) (fun y  ey => by cases ey)
   cases er
   refine seqQ.r ?_
   exact fnQ.r' (X10 n) (fun z => (.tuple [eS z.1, e26 z.2])) h hσ
  ·refine hLx534 _ (⟨#[]⟩ : ByteArray) 0  _ ey535 n (by omega) (fun r er => by cases er) (fun y  ey => ?_)
   cases ey
   refine seqQ.n (Wp.sq (Wp.sq (Wp.rg (Ops.sg 3 3 (Ops.dn (seqQ.n ?_))))))
   refine Wp.cd h [2, 3, 5] 3 (fun h => ?_) (fun h => ?_)
   ·refine Wp.sq (Wp.rg ?_)
    obtain ⟨v537, ev537, h⟩ := bnd_some h
    refine Ops.on 1 (fun h0 e0 => (call_ok (E' := EG) (h := h0) (by kernel_rfl) (Args.v (vI 1) (eI 1) (by kernel_rfl) (Args.v (vI (-1)) (eI (-1)) (by kernel_rfl) Args.nil)) (ok18g m 1 (-1) v537 ev537 n (by omega)))) ?_
    refine Ops.sg 2 3 (Ops.dn (seqQ.n (Wp.rt (sqQ.r (seqQ.r ?_)))))
    exact fnQ.r' (X10 n) (fun z => (.tuple [eS z.1, e26 z.2])) h (RetOk.mk' (.v (.tuple [(.str (⟨#[]⟩ : ByteArray)), (.agg [(vI v537.fCode), (vI v537.fIndex)])])) (by kernel_rfl) (by kernel_rfl))
   ·refine Wp.sk (sqQ.n' (seqQ.n (Wp.sq (Wp.rg (Ops.sg 4 4 (Ops.dn (seqQ.n (Wp.rt ?_))))))))
    exact fnQ.r' (X10 n) (fun z => (.tuple [eS z.1, e26 z.2])) h (RetOk.mk' (.v (.tuple [(.str y535.1), (.agg [(vI 0), (vI 0)])])) (by kernel_rfl) (by kernel_rfl))
def f13_j1 (m : Nat) (v2177 : Int) (v2187 : (List ByteArray)) : Option (Stp (List ByteArray) ((List ByteArray) × Int)) :=
 some (.nxt (v2187, w64 (v2177 + 1)))
def f13_r2 (m : Nat) (v2216 : Int) (v2235 : Bool) : Option (Stp (List ByteArray) (Int)) :=
 cnd v2235
 (some (.nxt (w64 (v2216 + 1))))
 (some (.brk v2216))
def f13_B3 (m : Nat) (v2175 : (List ByteArray)) (v2190 : ByteArray) (v2216 : Int) : Option (Stp (List ByteArray) (Int)) :=
 bnd (cnd (decide (v2216 < (v2175.length : Int)))
 (bnd (idx v2175 v2216) fun v2237 =>
 some (Op.bytesLess v2237.toList v2190.toList))
 (some false)) fun v2235 =>
 f13_r2 m v2216 v2235
def f13_j4 (m : Nat) (v2177 : Int) (v2252 : (List ByteArray)) : Option (Stp (List ByteArray) ((List ByteArray) × Int)) :=
 f13_j1 m v2177 v2252
def f13_r5 (m : Nat) (v2175 : (List ByteArray)) (v2177 : Int) (v2190 : ByteArray) (y2239 : Int) (v2250 : Bool) : Option (Stp (List ByteArray) ((List ByteArray) × Int)) :=
 cnd v2250
 (bnd (sub v2175 0 y2239) fun v2256 =>
 bnd (app 16 [] v2256) fun v2257 =>
 bnd (app 16 v2257 [v2190]) fun v2258 =>
 bnd (sub v2175 y2239 (v2175.length : Int)) fun v2259 =>
 bnd (app 16 v2258 v2259) fun v2260 =>
 f13_j4 m v2177 v2260)
 (f13_j4 m v2177 v2175)
def f13_B6 (m : Nat) (v2021 : S46) (v2175 : (List ByteArray)) (v2177 : Int) : Option (Stp (List ByteArray) ((List ByteArray) × Int)) :=
 cnd (decide (v2177 < (v2021.fTags.length : Int)))
 (bnd (idx v2021.fTags v2177) fun v2190 =>
 brk (iter (fun (y : Int) => f13_B3 m v2175 v2190 y) m 0) (fun r => some (.ret r)) fun y2239 =>
 bnd (cnd (y2239 == (v2175.length : Int))
 (some true)
 (bnd (idx v2175 y2239) fun v2261 =>
 some (!(v2261.toList == v2190.toList)))) fun v2250 =>
 f13_r5 m v2175 v2177 v2190 y2239 v2250)
 (some (.brk (v2175, v2177)))
def f13_B7 (m : Nat) (v1517 : S44) (v2009 : (List ByteArray)) (v2011 : Int) : Option (Stp (List ByteArray) ((List ByteArray) × Int)) :=
 cnd (decide (v2011 < (v1517.fItems.length : Int)))
 (bnd (idx v1517.fItems v2011) fun v2021 =>
 brk (iter (fun (y : (List ByteArray) × Int) => f13_B6 m v2021 y.1 y.2) m (v2009, 0)) (fun r => some (.ret r)) fun y2263 =>
 some (.nxt (y2263.1, w64 (v2011 + 1))))
 (some (.brk (v2009, v2011)))
def f13_B8 (m : Nat) (a0 : S23) (v1505 : (List ByteArray)) (v1507 : Int) : Option (Stp (List ByteArray) ((List ByteArray) × Int)) :=
 cnd (decide (v1507 < (a0.fClasses.length : Int)))
 (bnd (idx a0.fClasses v1507) fun v1517 =>
 brk (iter (fun (y : (List ByteArray) × Int) => f13_B7 m v1517 y.1 y.2) m (v1505, 0)) (fun r => some (.ret r)) fun y2266 =>
 some (.nxt (y2266.1, w64 (v1507 + 1))))
 (some (.brk (v1505, v1507)))
def f13 (m : Nat) (a0 : S23) : Option (List ByteArray) :=
 brk (iter (fun (y : (List ByteArray) × Int) => f13_B8 m a0 y.1 y.2) m ([], 0)) some fun y2269 =>
 some y2269.1
noncomputable abbrev X13 (n : Nat) : Cx := cxOf Proofs.Tryz.prog EG 13 n
noncomputable def C13 : Code := bodyOf Proofs.Tryz.prog 13
noncomputable abbrev p13_0 : Code := cR (cR (cR C13))
noncomputable abbrev p13_1 : Code := cL (cL (cR (cL (cR (cR C13)))))
noncomputable abbrev p13_2 : Code := cR (cR (cR p13_1))
noncomputable abbrev p13_3 : Code := cL (cL (cR (cR (cL (cL (cR (cR p13_1)))))))
noncomputable abbrev p13_4 : Code := cR (cR (cR p13_3))
noncomputable abbrev p13_5 : Code := cL (cL (cR (cR (cL (cL (cR (cR p13_3)))))))
noncomputable abbrev p13_6 : Code := cR (cR (cR p13_5))
noncomputable abbrev p13_7 : Code := cR (cR (cR (cL (cL (cR (cR p13_5))))))
noncomputable abbrev p13_8 : Code := cL (cL (cL (cR (cR (cL (cL (cR (cR p13_5))))))))
abbrev b13_0 (w0 : S23) : AObj := .cells [(dP e44 w0.fClasses)]
abbrev b13_1 (w0 : S44) : AObj := .cells [(.v (.str w0.fName)), (dP e46 w0.fItems)]
abbrev b13_2 (w0 : S46) : AObj := .cells [(.v (.str w0.fBase)), (.v (.str w0.fForm)), (dP eS w0.fTags), (dI w0.fNext), (dI w0.fWeight)]
abbrev k13_0 : List Nat := [2, 3, 12, 13, 14, 19, 20, 21, 26, 27, 28]
abbrev k13_1 : List Nat := [2, 3, 12, 13, 14, 19, 20, 21]
abbrev k13_2 : List Nat := [2, 3, 12, 13, 14]
abbrev k13_3 : List Nat := [2, 3, 9, 10, 12, 13, 14, 19, 20, 21, 26, 27, 28]
theorem f13_hLx2238 (m : Nat) (a0 : S23) (o : (List ByteArray)) (n : Nat) (hn : m + 1 ≤ n + 1) (v2175 : (List ByteArray)) (v2190 : ByteArray) (nx2180 nx2014 nx1510 : Nat) (ag2176 : AG) (v1507 : Int) (v1517 : S44) (v2011 : Int) (v2021 : S46) (v2177 : Int) : ∀ (kx2218 : Nat) (v2216 : Int)  (ox2217 : (List ByteArray) ⊕ (Int)), iter (fun (y : Int) => f13_B3 m v2175 v2190 y) kx2218 v2216 = some ox2217 → ∀ nx2219, kx2218 ≤ nx2219 → (∀ r, ox2217 = .inl r → ∀ σ, RetOk (X13 n) (resOf Proofs.Tryz.prog 13) ((eL eS) r) σ → (seqQ (X13 n) p13_7 (blkQ (X13 n) 5 k13_0 9 (seqQ (X13 n) p13_6 (lpQ (X13 n) k13_0 7 p13_5 nx2180 (blkQ (X13 n) 4 k13_1 7 (blkQ (X13 n) 3 k13_1 6 (seqQ (X13 n) p13_4 (lpQ (X13 n) k13_1 4 p13_3 nx2014 (blkQ (X13 n) 2 k13_2 4 (blkQ (X13 n) 1 k13_2 3 (seqQ (X13 n) p13_2 (lpQ (X13 n) k13_2 1 p13_1 nx1510 (blkQ (X13 n) 0 [2, 3] 1 (seqQ (X13 n) p13_0 (fnQ (X13 n).E.T (resOf Proofs.Tryz.prog 13) ((eL eS) o)))))))))))))))) .ret σ) → (∀ (y : Int) , ox2217 = .inr y → (seqQ (X13 n) p13_7 (blkQ (X13 n) 5 k13_0 9 (seqQ (X13 n) p13_6 (lpQ (X13 n) k13_0 7 p13_5 nx2180 (blkQ (X13 n) 4 k13_1 7 (blkQ (X13 n) 3 k13_1 6 (seqQ (X13 n) p13_4 (lpQ (X13 n) k13_1 4 p13_3 nx2014 (blkQ (X13 n) 2 k13_2 4 (blkQ (X13 n) 1 k13_2 3 (seqQ (X13 n) p13_2 (lpQ (X13 n) k13_2 1 p13_1 nx1510 (blkQ (X13 n) 0 [2, 3] 1 (seqQ (X13 n) p13_0 (fnQ (X13 n).E.T (resOf Proofs.Tryz.prog 13) ((eL eS) o)))))))))))))))) .normal ⟨Zs8 (.v (.sl .nil (List.map eS []))) (AG.d ag2176 9 (List.map eS v2175)) v2190 y a0.fClasses (a0.fClasses.length : Int) v1507 v1517.fItems (v1517.fItems.length : Int) v2011 v2021.fTags (v2021.fTags.length : Int) v2177 (q40 (q5 [])), [(b13_0 a0), .dead, .dead, (b13_1 v1517), .dead, .dead, (b13_2 v2021), .dead, .dead, (AG.o ag2176 1 (List.map eS v2175))]⟩) → Lp (X13 n) k13_3 9 p13_8 nx2219 ⟨Zs8 (.v (.sl .nil (List.map eS []))) (AG.d ag2176 9 (List.map eS v2175)) v2190 v2216 a0.fClasses (a0.fClasses.length : Int) v1507 v1517.fItems (v1517.fItems.length : Int) v2011 v2021.fTags (v2021.fTags.length : Int) v2177 (q40 (q5 [])), [(b13_0 a0), .dead, .dead, (b13_1 v1517), .dead, .dead, (b13_2 v2021), .dead, .dead, (AG.o ag2176 1 (List.map eS v2175))]⟩ (blkQ (X13 n) 6 k13_3 9 (seqQ (X13 n) p13_7 (blkQ (X13 n) 5 k13_0 9 (seqQ (X13 n) p13_6 (lpQ (X13 n) k13_0 7 p13_5 nx2180 (blkQ (X13 n) 4 k13_1 7 (blkQ (X13 n) 3 k13_1 6 (seqQ (X13 n) p13_4 (lpQ (X13 n) k13_1 4 p13_3 nx2014 (blkQ (X13 n) 2 k13_2 4 (blkQ (X13 n) 1 k13_2 3 (seqQ (X13 n) p13_2 (lpQ (X13 n) k13_2 1 p13_1 nx1510 (blkQ (X13 n) 0 [2, 3] 1 (seqQ (X13 n) p13_0 (fnQ (X13 n).E.T (resOf Proofs.Tryz.prog 13) ((eL eS) o))))))))))))))))) := by
 intro kx2218
 induction kx2218 with
 | zero => intro v2216  ox2217 h; exact (iter_zero h).elim
 | succ kx2218 ihx2220 =>
  intro v2216  ox2217 h nx2219 hnx2223 hrx2221 hxx2222
  obtain ⟨nx2219, rfl⟩ : ∃ q, nx2219 = q + 1 := ⟨nx2219 - 1, by omega⟩
  obtain ⟨sx2224, h, hsx2225⟩ := iter_some h
  have h : f13_B3 m v2175 v2190 v2216 = some sx2224 := h
  unfold f13_B3 at h
  refine Lp.succ (Wp.sq (Wp.sq (Wp.rg (Ops.sg 2 2 ?_))))
  refine Ops.on 3 (fun h0 e0 => (len_g (T := T) h0 29 9 9 ag2176 eS v2175 (by kernel_rfl))) ?_
  refine Ops.sg 2 5 ?_
  refine Ops.hv (fun KQ => ∀ (d2228 d2229 d2230 d2231 d2232 d2233 : D) (v2234 v2235 : Bool), f13_r2 m v2216 v2235 = some sx2224 → KQ 12 ⟨Zs8 (.v (.sl .nil (List.map eS []))) (AG.d ag2176 9 (List.map eS v2175)) v2190 v2216 a0.fClasses (a0.fClasses.length : Int) v1507 v1517.fItems (v1517.fItems.length : Int) v2011 v2021.fTags (v2021.fTags.length : Int) v2177 (q3 ((dI v2216)::(AG.d ag2176 9 (List.map eS v2175))::(dI (v2175.length : Int))::(dB v2234)::(dB v2234)::d2228::d2229::d2230::d2231::d2232::d2233::(dB v2235)::q30 [])), [(b13_0 a0), .dead, .dead, (b13_1 v1517), .dead, .dead, (b13_2 v2021), .dead, .dead, (AG.o ag2176 1 (List.map eS v2175))]⟩) ?_ fun J13j2236 => ?_
  ·intro d2228 d2229 d2230 d2231 d2232 d2233 v2234 v2235 h
   unfold f13_r2 at h
   refine Ops.dn (seqQ.n ?_)
   refine Wp.cd h k13_3 10 (fun h => ?_) (fun h => ?_)
   ·refine Wp.sk (sqQ.n ⟨Zs8 (.v (.sl .nil (List.map eS []))) (AG.d ag2176 10 (List.map eS v2175)) v2190 v2216 a0.fClasses (a0.fClasses.length : Int) v1507 v1517.fItems (v1517.fItems.length : Int) v2011 v2021.fTags (v2021.fTags.length : Int) v2177 (q40 (q5 [])), [(b13_0 a0), .dead, .dead, (b13_1 v1517), .dead, .dead, (b13_2 v2021), .dead, .dead, .dead, (AG.o ag2176 1 (List.map eS v2175))]⟩ (by cases ag2176 <;> kernel_rfl) (seqQ.n (Wp.bk 7 k13_3 11 (Wp.rg (Ops.sg 3 3 (Ops.dn (blkQ.n ⟨Zs8 (.v (.sl .nil (List.map eS []))) (AG.d ag2176 11 (List.map eS v2175)) v2190 (w64 (v2216 + 1)) a0.fClasses (a0.fClasses.length : Int) v1507 v1517.fItems (v1517.fItems.length : Int) v2011 v2021.fTags (v2021.fTags.length : Int) v2177 (q40 (q5 [])), [(b13_0 a0), .dead, .dead, (b13_1 v1517), .dead, .dead, (b13_2 v2021), .dead, .dead, .dead, .dead, (AG.o ag2176 1 (List.map eS v2175))]⟩ (by cases ag2176 <;> kernel_rfl) (lpQ.n ⟨Zs8 (.v (.sl .nil (List.map eS []))) (AG.d ag2176 9 (List.map eS v2175)) v2190 (w64 (v2216 + 1)) a0.fClasses (a0.fClasses.length : Int) v1507 v1517.fItems (v1517.fItems.length : Int) v2011 v2021.fTags (v2021.fTags.length : Int) v2177 (q40 (q5 [])), [(b13_0 a0), .dead, .dead, (b13_1 v1517), .dead, .dead, (b13_2 v2021), .dead, .dead, (AG.o ag2176 1 (List.map eS v2175))]⟩ (by cases ag2176 <;> kernel_rfl) ?_))))))))
    cases h
    exact ihx2220 (w64 (v2216 + 1))  _ hsx2225 _ (by omega) hrx2221 hxx2222
   ·refine Wp.ex 6 (sqQ.x (seqQ.x ?_))
    cases h
    refine lpQ.x (blkQ.x ⟨Zs8 (.v (.sl .nil (List.map eS []))) (AG.d ag2176 9 (List.map eS v2175)) v2190 v2216 a0.fClasses (a0.fClasses.length : Int) v1507 v1517.fItems (v1517.fItems.length : Int) v2011 v2021.fTags (v2021.fTags.length : Int) v2177 (q40 (q5 [])), [(b13_0 a0), .dead, .dead, (b13_1 v1517), .dead, .dead, (b13_2 v2021), .dead, .dead, (AG.o ag2176 1 (List.map eS v2175))]⟩ (by cases ag2176 <;> kernel_rfl) ?_)
    exact hxx2222 v2216  hsx2225
  obtain ⟨v2235, ev2235, h⟩ := bnd_some h
  refine Ops.hv (fun KQ => ∀ v2226 : Bool, (cnd v2226 (bnd (idx v2175 v2216) fun v2237 => some (Op.bytesLess v2237.toList v2190.toList)) (some false)) = some v2235 → KQ 5 ⟨Zs8 (.v (.sl .nil (List.map eS []))) (AG.d ag2176 9 (List.map eS v2175)) v2190 v2216 a0.fClasses (a0.fClasses.length : Int) v1507 v1517.fItems (v1517.fItems.length : Int) v2011 v2021.fTags (v2021.fTags.length : Int) v2177 (q3 ((dI v2216)::(AG.d ag2176 9 (List.map eS v2175))::(dI (v2175.length : Int))::(dB v2226)::(dB v2226)::q37 [])), [(b13_0 a0), .dead, .dead, (b13_1 v1517), .dead, .dead, (b13_2 v2021), .dead, .dead, (AG.o ag2176 1 (List.map eS v2175))]⟩) ?_ fun G13g2227 => Ops.sx (G13g2227 (decide (v2216 < (v2175.length : Int))) ev2235)
  intro v2226 ev2235
  cases v2226
  ·have ev2235 := cnd_f ev2235
   refine Ops.sg 7 12 ?_
   exact Ops.sx (J13j2236 U U U U U U false false (some_sub (fun v2235 => f13_r2 m v2216 v2235 = some sx2224) ev2235 h))
  ·have ev2235 := cnd_t ev2235
   refine Ops.sg 2 7 ?_
   obtain ⟨v2237, ev2237, ev2235⟩ := bnd_some ev2235
   refine Ops.on 8 (fun h0 e0 => (ix_g (T := T) h0 29 9 1 9 ag2176 eS v2175 v2216 v2237 ev2237 (by kernel_rfl) (by kernel_rfl) (fun _ => rfl))) ?_
   refine Ops.sg 4 12 ?_
   exact Ops.sx (J13j2236 (AG.d ag2176 9 (List.map eS v2175)) (dI v2216) (.vptr [(.str v2237)]) (.v (.str v2237)) (.v (.str v2190)) (dB (Op.bytesLess v2237.toList v2190.toList)) true (Op.bytesLess v2237.toList v2190.toList) (some_sub (fun v2235 => f13_r2 m v2216 v2235 = some sx2224) ev2235 h))
theorem f13_hLx2262 (m : Nat) (a0 : S23) (o : (List ByteArray)) (n : Nat) (hn : m + 1 ≤ n + 1) (v2021 : S46) (nx2014 nx1510 : Nat) (v1507 : Int) (v1517 : S44) (v2011 : Int) : ∀ (kx2179 : Nat) (v2175 : (List ByteArray)) (v2177 : Int) (ag2176 : AG) (ox2178 : (List ByteArray) ⊕ ((List ByteArray) × Int)), iter (fun (y : (List ByteArray) × Int) => f13_B6 m v2021 y.1 y.2) kx2179 (v2175, v2177) = some ox2178 → ∀ nx2180, kx2179 ≤ nx2180 → (∀ r, ox2178 = .inl r → ∀ σ, RetOk (X13 n) (resOf Proofs.Tryz.prog 13) ((eL eS) r) σ → (blkQ (X13 n) 3 k13_1 6 (seqQ (X13 n) p13_4 (lpQ (X13 n) k13_1 4 p13_3 nx2014 (blkQ (X13 n) 2 k13_2 4 (blkQ (X13 n) 1 k13_2 3 (seqQ (X13 n) p13_2 (lpQ (X13 n) k13_2 1 p13_1 nx1510 (blkQ (X13 n) 0 [2, 3] 1 (seqQ (X13 n) p13_0 (fnQ (X13 n).E.T (resOf Proofs.Tryz.prog 13) ((eL eS) o))))))))))) .ret σ) → (∀ (y : (List ByteArray) × Int) (ag2176 : AG), ox2178 = .inr y → (blkQ (X13 n) 3 k13_1 6 (seqQ (X13 n) p13_4 (lpQ (X13 n) k13_1 4 p13_3 nx2014 (blkQ (X13 n) 2 k13_2 4 (blkQ (X13 n) 1 k13_2 3 (seqQ (X13 n) p13_2 (lpQ (X13 n) k13_2 1 p13_1 nx1510 (blkQ (X13 n) 0 [2, 3] 1 (seqQ (X13 n) p13_0 (fnQ (X13 n).E.T (resOf Proofs.Tryz.prog 13) ((eL eS) o))))))))))) .normal ⟨Zs10 (.v (.sl .nil (List.map eS []))) (AG.d ag2176 7 (List.map eS y.1)) a0.fClasses (a0.fClasses.length : Int) v1507 v1517.fItems (v1517.fItems.length : Int) v2011 (q40 (q12 [])), [(b13_0 a0), .dead, .dead, (b13_1 v1517), .dead, .dead, (b13_2 v2021), (AG.o ag2176 1 (List.map eS y.1))]⟩) → Lp (X13 n) k13_0 7 p13_5 nx2180 ⟨Zs10 (.v (.sl .nil (List.map eS []))) (AG.d ag2176 7 (List.map eS v2175)) a0.fClasses (a0.fClasses.length : Int) v1507 v1517.fItems (v1517.fItems.length : Int) v2011 (q4 ((dP eS v2021.fTags)::(dI (v2021.fTags.length : Int))::(dI v2177)::q40 (q5 []))), [(b13_0 a0), .dead, .dead, (b13_1 v1517), .dead, .dead, (b13_2 v2021), (AG.o ag2176 1 (List.map eS v2175))]⟩ (blkQ (X13 n) 4 k13_1 7 (blkQ (X13 n) 3 k13_1 6 (seqQ (X13 n) p13_4 (lpQ (X13 n) k13_1 4 p13_3 nx2014 (blkQ (X13 n) 2 k13_2 4 (blkQ (X13 n) 1 k13_2 3 (seqQ (X13 n) p13_2 (lpQ (X13 n) k13_2 1 p13_1 nx1510 (blkQ (X13 n) 0 [2, 3] 1 (seqQ (X13 n) p13_0 (fnQ (X13 n).E.T (resOf Proofs.Tryz.prog 13) ((eL eS) o)))))))))))) := by
 intro kx2179
 induction kx2179 with
 | zero => intro v2175 v2177 ag2176 ox2178 h; exact (iter_zero h).elim
 | succ kx2179 ihx2181 =>
  intro v2175 v2177 ag2176 ox2178 h nx2180 hnx2184 hrx2182 hxx2183
  obtain ⟨nx2180, rfl⟩ : ∃ q, nx2180 = q + 1 := ⟨nx2180 - 1, by omega⟩
  obtain ⟨sx2185, h, hsx2186⟩ := iter_some h
  have h : f13_B6 m v2021 v2175 v2177 = some sx2185 := h
  unfold f13_B6 at h
  refine Lp.succ (Wp.sq (Wp.rg (Ops.sg 1 1 (Ops.dn (seqQ.n (Wp.sq ?_))))))
  refine Wp.cd h k13_0 8 (fun h => ?_) (fun h => ?_)
  ·refine Wp.sk (sqQ.n ⟨Zs10 (.v (.sl .nil (List.map eS []))) (AG.d ag2176 8 (List.map eS v2175)) a0.fClasses (a0.fClasses.length : Int) v1507 v1517.fItems (v1517.fItems.length : Int) v2011 (q4 ((dP eS v2021.fTags)::(dI (v2021.fTags.length : Int))::(dI v2177)::q40 (q5 []))), [(b13_0 a0), .dead, .dead, (b13_1 v1517), .dead, .dead, (b13_2 v2021), .dead, (AG.o ag2176 1 (List.map eS v2175))]⟩ (by cases ag2176 <;> kernel_rfl) (seqQ.n (Wp.sq ?_)))
   have J13j2189 : ∀ (v2187 : (List ByteArray)) (ag2188 : AG), f13_j1 m v2177 v2187 = some sx2185 → (seqQ (X13 n) p13_6 (lpQ (X13 n) k13_0 7 p13_5 nx2180 (blkQ (X13 n) 4 k13_1 7 (blkQ (X13 n) 3 k13_1 6 (seqQ (X13 n) p13_4 (lpQ (X13 n) k13_1 4 p13_3 nx2014 (blkQ (X13 n) 2 k13_2 4 (blkQ (X13 n) 1 k13_2 3 (seqQ (X13 n) p13_2 (lpQ (X13 n) k13_2 1 p13_1 nx1510 (blkQ (X13 n) 0 [2, 3] 1 (seqQ (X13 n) p13_0 (fnQ (X13 n).E.T (resOf Proofs.Tryz.prog 13) ((eL eS) o)))))))))))))) .normal ⟨Zs10 (.v (.sl .nil (List.map eS []))) (AG.d ag2188 9 (List.map eS v2187)) a0.fClasses (a0.fClasses.length : Int) v1507 v1517.fItems (v1517.fItems.length : Int) v2011 (q4 ((dP eS v2021.fTags)::(dI (v2021.fTags.length : Int))::(dI v2177)::q40 (q5 []))), [(b13_0 a0), .dead, .dead, (b13_1 v1517), .dead, .dead, (b13_2 v2021), .dead, .dead, (AG.o ag2188 1 (List.map eS v2187))]⟩ := by
    intro v2187 ag2188 h
    unfold f13_j1 at h
    refine seqQ.n (Wp.rg (Ops.sg 2 2 (Ops.dn (lpQ.n ⟨Zs10 (.v (.sl .nil (List.map eS []))) (AG.d ag2188 7 (List.map eS v2187)) a0.fClasses (a0.fClasses.length : Int) v1507 v1517.fItems (v1517.fItems.length : Int) v2011 (q4 ((dP eS v2021.fTags)::(dI (v2021.fTags.length : Int))::(dI (w64 (v2177 + 1)))::q40 (q5 []))), [(b13_0 a0), .dead, .dead, (b13_1 v1517), .dead, .dead, (b13_2 v2021), (AG.o ag2188 1 (List.map eS v2187))]⟩ (by cases ag2188 <;> kernel_rfl) ?_))))
    cases h
    exact ihx2181 v2187 (w64 (v2177 + 1)) _ _ hsx2186 _ (by omega) hrx2182 hxx2183
   refine Wp.bk 5 k13_0 9 (Wp.sq (Wp.rg ?_))
   obtain ⟨v2190, ev2190, h⟩ := bnd_some h
   refine Ops.on 1 (fun h0 e0 => (ix_r (T := T) h0 29 9 1 .plain eS v2021.fTags v2177 v2190 ev2190 (by kernel_rfl) (by kernel_rfl) (fun _ => rfl))) ?_
   refine Ops.sg 2 3 (Ops.dn (seqQ.n (Wp.sq (Wp.rg (Ops.sg 1 1 (Ops.dn (seqQ.n (Wp.sq (Wp.bk 6 k13_3 9 ?_)))))))))
   have hLx2238 := f13_hLx2238 m a0 o n hn v2175 v2190 nx2180 nx2014 nx1510 ag2176 v1507 v1517 v2011 v2021 v2177
   refine Wp.loop' k13_3 9 (by kernel_rfl) ⟨q2 ((.v (.sl .nil (List.map eS [])))::(AG.d ag2176 9 (List.map eS v2175))::q5 ((.v (.str v2190))::(dI 0)::q1 ((dP e44 a0.fClasses)::(dI (a0.fClasses.length : Int))::(dI v1507)::q4 ((dP e46 v1517.fItems)::(dI (v1517.fItems.length : Int))::(dI v2011)::q4 ((dP eS v2021.fTags)::(dI (v2021.fTags.length : Int))::(dI v2177)::q40 (q5 [])))))), [(b13_0 a0), .dead, .dead, (b13_1 v1517), .dead, .dead, (b13_2 v2021), .dead, .dead, (AG.o ag2176 1 (List.map eS v2175))]⟩ (by cases ag2176 <;> kernel_rfl) ?_
   rcases brk_some h with ⟨r2240, er2240, h⟩ | ⟨y2239, ey2239, h⟩
   ·refine hLx2238 _ 0  _ er2240 n (by omega) (fun r er σ hσ => ?_) (fun y  ey => by cases ey)
    cases er
    refine seqQ.r (blkQ.r (seqQ.r (lpQ.r ?_)))
    cases h
    refine blkQ.r ?_
    exact hrx2182 _ hsx2186 _ (RetOk.forget k13_0 (by kernel_rfl) hσ)
   ·refine hLx2238 _ 0  _ ey2239 n (by omega) (fun r er => by cases er) (fun y  ey => ?_)
    cases ey
    refine seqQ.n (Wp.sq (Wp.rg (Ops.sg 2 2 ?_)))
    refine Ops.on 3 (fun h0 e0 => (len_g (T := T) h0 29 9 9 ag2176 eS v2175 (by kernel_rfl))) ?_
    refine Ops.sg 2 5 ?_
    refine Ops.hv (fun KQ => ∀ (d2243 d2244 d2245 d2246 d2247 d2248 : D) (v2249 v2250 : Bool), f13_r5 m v2175 v2177 v2190 y2239 v2250 = some sx2185 → KQ 12 ⟨Zs8 (.v (.sl .nil (List.map eS []))) (AG.d ag2176 9 (List.map eS v2175)) v2190 y2239 a0.fClasses (a0.fClasses.length : Int) v1507 v1517.fItems (v1517.fItems.length : Int) v2011 v2021.fTags (v2021.fTags.length : Int) v2177 (q17 ((dI y2239)::(AG.d ag2176 9 (List.map eS v2175))::(dI (v2175.length : Int))::(dB v2249)::(dB v2249)::d2243::d2244::d2245::d2246::d2247::d2248::(dB v2250)::q16 [])), [(b13_0 a0), .dead, .dead, (b13_1 v1517), .dead, .dead, (b13_2 v2021), .dead, .dead, (AG.o ag2176 1 (List.map eS v2175))]⟩) ?_ fun J13j2251 => ?_
    ·intro d2243 d2244 d2245 d2246 d2247 d2248 v2249 v2250 h
     unfold f13_r5 at h
     refine Ops.dn (seqQ.n ?_)
     have J13j2255 : ∀ (v2252 : (List ByteArray)) (ag2253 : AG) (oo2254 : OO), f13_j4 m v2177 v2252 = some sx2185 → (blkQ (X13 n) 5 k13_0 9 (seqQ (X13 n) p13_6 (lpQ (X13 n) k13_0 7 p13_5 nx2180 (blkQ (X13 n) 4 k13_1 7 (blkQ (X13 n) 3 k13_1 6 (seqQ (X13 n) p13_4 (lpQ (X13 n) k13_1 4 p13_3 nx2014 (blkQ (X13 n) 2 k13_2 4 (blkQ (X13 n) 1 k13_2 3 (seqQ (X13 n) p13_2 (lpQ (X13 n) k13_2 1 p13_1 nx1510 (blkQ (X13 n) 0 [2, 3] 1 (seqQ (X13 n) p13_0 (fnQ (X13 n).E.T (resOf Proofs.Tryz.prog 13) ((eL eS) o))))))))))))))) .normal ⟨Zs10 (.v (.sl .nil (List.map eS []))) (AG.d ag2253 10 (List.map eS v2252)) a0.fClasses (a0.fClasses.length : Int) v1507 v1517.fItems (v1517.fItems.length : Int) v2011 (q4 ((dP eS v2021.fTags)::(dI (v2021.fTags.length : Int))::(dI v2177)::q40 (q5 []))), [(b13_0 a0), .dead, .dead, (b13_1 v1517), .dead, .dead, (b13_2 v2021), .dead, .dead, (OO.o oo2254), (AG.o ag2253 1 (List.map eS v2252))]⟩ := by
      intro v2252 ag2253 oo2254 h
      unfold f13_j4 at h
      refine blkQ.n ⟨Zs10 (.v (.sl .nil (List.map eS []))) (AG.d ag2253 9 (List.map eS v2252)) a0.fClasses (a0.fClasses.length : Int) v1507 v1517.fItems (v1517.fItems.length : Int) v2011 (q4 ((dP eS v2021.fTags)::(dI (v2021.fTags.length : Int))::(dI v2177)::q40 (q5 []))), [(b13_0 a0), .dead, .dead, (b13_1 v1517), .dead, .dead, (b13_2 v2021), .dead, .dead, (AG.o ag2253 1 (List.map eS v2252))]⟩ (by cases ag2253 <;> kernel_rfl) ?_
      exact J13j2189 v2252 _ h
     refine Wp.cd h k13_0 10 (fun h => ?_) (fun h => ?_)
     ·refine Wp.rg (Ops.sg 3 3 ?_)
      obtain ⟨v2256, ev2256, h⟩ := bnd_some h
      refine Ops.on 4 (fun h0 e0 => (sub_x (T := T) h0 29 9 1 (AG.d ag2176 9 (List.map eS v2175)) eS v2175 v2256 none (some y2239) (AG.hd _ _ _) ev2256 (by kernel_rfl) (by kernel_rfl) (fun _ => rfl))) ?_
      obtain ⟨v2257, ev2257, h⟩ := bnd_some h
      refine Ops.on 5 (fun h0 e0 => (app_n (T := T) (g := .nonfull) h0 29 9 1 ti9 (sfl (dfl (AG.d ag2176 9 (List.map eS v2175))) v2175.length (some y2239)) eS v2256 v2257 ev2257 (by kernel_rfl) (by kernel_rfl) (by kernel_rfl) (by kernel_rfl) (fun _ => rfl))) ?_
      refine Ops.sg 2 7 ?_
      obtain ⟨v2258, ev2258, h⟩ := bnd_some h
      refine Ops.on 8 (fun h0 e0 => (app_r (T := T) (g := .nonfull) h0 29 9 10 1 ti9 .nonfull eS v2257 [v2190] v2258 ev2258 (by kernel_rfl) (by kernel_rfl) (by kernel_rfl) (by kernel_rfl) (fun _ => rfl) (hq_of e0 (by kernel_rfl)))) ?_
      refine Ops.sg 2 10 ?_
      obtain ⟨v2259, ev2259, h⟩ := bnd_some h
      refine Ops.on 11 (fun h0 e0 => (sub_x (T := T) h0 29 9 1 (AG.d ag2176 9 (List.map eS v2175)) eS v2175 v2259 (some y2239) none (AG.hd _ _ _) ev2259 (by kernel_rfl) (by kernel_rfl) (fun _ => rfl))) ?_
      obtain ⟨v2260, ev2260, h⟩ := bnd_some h
      refine Ops.on 12 (fun h0 e0 => (app_r (T := T) (g := .nonfull) h0 29 9 11 1 ti9 (sfl (dfl (AG.d ag2176 9 (List.map eS v2175))) v2175.length none) eS v2258 v2259 v2260 ev2260 (by kernel_rfl) (by kernel_rfl) (by kernel_rfl) (by kernel_rfl) (fun _ => rfl) (hq_of e0 (by kernel_rfl)))) ?_
      refine Ops.sg 1 13 (Ops.dn (sqQ.n ⟨Zs10 (.v (.sl .nil (List.map eS []))) (AG.d (AG.of .nonfull (List.map eS v2260)) 10 (List.map eS v2260)) a0.fClasses (a0.fClasses.length : Int) v1507 v1517.fItems (v1517.fItems.length : Int) v2011 (q4 ((dP eS v2021.fTags)::(dI (v2021.fTags.length : Int))::(dI v2177)::q40 (q5 []))), [(b13_0 a0), .dead, .dead, (b13_1 v1517), .dead, .dead, (b13_2 v2021), .dead, .dead, (OO.o (OO.ofg ag2176 1 (List.map eS v2175))), (AG.o (AG.of .nonfull (List.map eS v2260)) 1 (List.map eS v2260))]⟩ (by generalize v2260 = z0; cases ag2176 <;> cases z0 <;> (as_aux_lemma => kernel_rfl)) ?_))
      exact J13j2255 v2260 _ _ h
     ·refine Wp.sk (sqQ.n ⟨Zs10 (.v (.sl .nil (List.map eS []))) (AG.d ag2176 10 (List.map eS v2175)) a0.fClasses (a0.fClasses.length : Int) v1507 v1517.fItems (v1517.fItems.length : Int) v2011 (q4 ((dP eS v2021.fTags)::(dI (v2021.fTags.length : Int))::(dI v2177)::q40 (q5 []))), [(b13_0 a0), .dead, .dead, (b13_1 v1517), .dead, .dead, (b13_2 v2021), .dead, .dead, (OO.o none), (AG.o ag2176 1 (List.map eS v2175))]⟩ (by cases ag2176 <;> kernel_rfl) ?_)
      exact J13j2255 v2175 _ _ h
    obtain ⟨v2250, ev2250, h⟩ := bnd_some h
    refine Ops.hv (fun KQ => ∀ v2241 : Bool, (cnd v2241 (some true) (bnd (idx v2175 y2239) fun v2261 => some (!(v2261.toList == v2190.toList)))) = some v2250 → KQ 5 ⟨Zs8 (.v (.sl .nil (List.map eS []))) (AG.d ag2176 9 (List.map eS v2175)) v2190 y2239 a0.fClasses (a0.fClasses.length : Int) v1507 v1517.fItems (v1517.fItems.length : Int) v2011 v2021.fTags (v2021.fTags.length : Int) v2177 (q17 ((dI y2239)::(AG.d ag2176 9 (List.map eS v2175))::(dI (v2175.length : Int))::(dB v2241)::(dB v2241)::q23 [])), [(b13_0 a0), .dead, .dead, (b13_1 v1517), .dead, .dead, (b13_2 v2021), .dead, .dead, (AG.o ag2176 1 (List.map eS v2175))]⟩) ?_ fun G13g2242 => Ops.sx (G13g2242 (y2239 == (v2175.length : Int)) ev2250)
    intro v2241 ev2250
    cases v2241
    ·have ev2250 := cnd_f ev2250
     refine Ops.sg 2 7 ?_
     obtain ⟨v2261, ev2261, ev2250⟩ := bnd_some ev2250
     refine Ops.on 8 (fun h0 e0 => (ix_g (T := T) h0 29 9 1 9 ag2176 eS v2175 y2239 v2261 ev2261 (by kernel_rfl) (by kernel_rfl) (fun _ => rfl))) ?_
     refine Ops.sg 4 12 ?_
     exact Ops.sx (J13j2251 (AG.d ag2176 9 (List.map eS v2175)) (dI y2239) (.vptr [(.str v2261)]) (.v (.str v2261)) (.v (.str v2190)) (dB (!(v2261.toList == v2190.toList))) false (!(v2261.toList == v2190.toList)) (some_sub (fun v2250 => f13_r5 m v2175 v2177 v2190 y2239 v2250 = some sx2185) ev2250 h))
    ·have ev2250 := cnd_t ev2250
     refine Ops.sg 7 12 ?_
     exact Ops.sx (J13j2251 U U U U U U true true (some_sub (fun v2250 => f13_r5 m v2175 v2177 v2190 y2239 v2250 = some sx2185) ev2250 h))
  ·refine Wp.ex 4 (sqQ.x (seqQ.x ?_))
   cases h
   refine lpQ.x (blkQ.x ⟨Zs10 (.v (.sl .nil (List.map eS []))) (AG.d ag2176 7 (List.map eS v2175)) a0.fClasses (a0.fClasses.length : Int) v1507 v1517.fItems (v1517.fItems.length : Int) v2011 (q40 (q12 [])), [(b13_0 a0), .dead, .dead, (b13_1 v1517), .dead, .dead, (b13_2 v2021), (AG.o ag2176 1 (List.map eS v2175))]⟩ (by cases ag2176 <;> kernel_rfl) ?_)
   exact hxx2183 (v2175, v2177) _ hsx2186
theorem f13_hLx2268 (m : Nat) (a0 : S23) (o : (List ByteArray)) (n : Nat) (hn : m + 1 ≤ n + 1)  : ∀ (kx1509 : Nat) (v1505 : (List ByteArray)) (v1507 : Int) (ag1506 : AG) (ox1508 : (List ByteArray) ⊕ ((List ByteArray) × Int)), iter (fun (y : (List ByteArray) × Int) => f13_B8 m a0 y.1 y.2) kx1509 (v1505, v1507) = some ox1508 → ∀ nx1510, kx1509 ≤ nx1510 → (∀ r, ox1508 = .inl r → ∀ σ, RetOk (X13 n) (resOf Proofs.Tryz.prog 13) ((eL eS) r) σ → (seqQ (X13 n) p13_0 (fnQ (X13 n).E.T (resOf Proofs.Tryz.prog 13) ((eL eS) o))) .ret σ) → (∀ (y : (List ByteArray) × Int) (ag1506 : AG), ox1508 = .inr y → (seqQ (X13 n) p13_0 (fnQ (X13 n).E.T (resOf Proofs.Tryz.prog 13) ((eL eS) o))) .normal ⟨q2 ((.v (.sl .nil (List.map eS [])))::(AG.d ag1506 1 (List.map eS y.1))::q40 (q30 [])), [(b13_0 a0), (AG.o ag1506 1 (List.map eS y.1))]⟩) → Lp (X13 n) k13_2 1 p13_1 nx1510 ⟨Zs28 (.v (.sl .nil (List.map eS []))) (AG.d ag1506 1 (List.map eS v1505)) a0.fClasses (a0.fClasses.length : Int) v1507 [], [(b13_0 a0), (AG.o ag1506 1 (List.map eS v1505))]⟩ (blkQ (X13 n) 0 [2, 3] 1 (seqQ (X13 n) p13_0 (fnQ (X13 n).E.T (resOf Proofs.Tryz.prog 13) ((eL eS) o)))) := by
 intro kx1509
 induction kx1509 with
 | zero => intro v1505 v1507 ag1506 ox1508 h; exact (iter_zero h).elim
 | succ kx1509 ihx1511 =>
  intro v1505 v1507 ag1506 ox1508 h nx1510 hnx1514 hrx1512 hxx1513
  obtain ⟨nx1510, rfl⟩ : ∃ q, nx1510 = q + 1 := ⟨nx1510 - 1, by omega⟩
  obtain ⟨sx1515, h, hsx1516⟩ := iter_some h
  have h : f13_B8 m a0 v1505 v1507 = some sx1515 := h
  unfold f13_B8 at h
  refine Lp.succ (Wp.sq (Wp.rg (Ops.sg 1 1 (Ops.dn (seqQ.n (Wp.sq ?_))))))
  refine Wp.cd h k13_2 2 (fun h => ?_) (fun h => ?_)
  ·refine Wp.sk (sqQ.n ⟨Zs28 (.v (.sl .nil (List.map eS []))) (AG.d ag1506 2 (List.map eS v1505)) a0.fClasses (a0.fClasses.length : Int) v1507 [], [(b13_0 a0), .dead, (AG.o ag1506 1 (List.map eS v1505))]⟩ (by cases ag1506 <;> kernel_rfl) (seqQ.n (Wp.sq (Wp.bk 1 k13_2 3 (Wp.sq (Wp.rg ?_))))))
   obtain ⟨v1517, ev1517, h⟩ := bnd_some h
   refine Ops.on 1 (fun h0 e0 => (ix_r (T := T) h0 22 45 2 .plain e44 a0.fClasses v1507 v1517 ev1517 (by kernel_rfl) (by kernel_rfl) (fun _ => rfl))) ?_
   refine Ops.sg 3 4 (Ops.dn (seqQ.n (Wp.sq (Wp.rg (Ops.sg 2 2 ?_)))))
   refine Ops.on 3 (fun h0 e0 => (len_r (T := T) h0 43 47 .plain e46 v1517.fItems (by kernel_rfl))) ?_
   refine Ops.sg 1 4 (Ops.dn (seqQ.n (Wp.bk 2 k13_2 4 ?_)))
   have hLx2265 : ∀ (kx2013 : Nat) (v2009 : (List ByteArray)) (v2011 : Int) (ag2010 : AG) (ox2012 : (List ByteArray) ⊕ ((List ByteArray) × Int)), iter (fun (y : (List ByteArray) × Int) => f13_B7 m v1517 y.1 y.2) kx2013 (v2009, v2011) = some ox2012 → ∀ nx2014, kx2013 ≤ nx2014 → (∀ r, ox2012 = .inl r → ∀ σ, RetOk (X13 n) (resOf Proofs.Tryz.prog 13) ((eL eS) r) σ → (blkQ (X13 n) 1 k13_2 3 (seqQ (X13 n) p13_2 (lpQ (X13 n) k13_2 1 p13_1 nx1510 (blkQ (X13 n) 0 [2, 3] 1 (seqQ (X13 n) p13_0 (fnQ (X13 n).E.T (resOf Proofs.Tryz.prog 13) ((eL eS) o))))))) .ret σ) → (∀ (y : (List ByteArray) × Int) (ag2010 : AG), ox2012 = .inr y → (blkQ (X13 n) 1 k13_2 3 (seqQ (X13 n) p13_2 (lpQ (X13 n) k13_2 1 p13_1 nx1510 (blkQ (X13 n) 0 [2, 3] 1 (seqQ (X13 n) p13_0 (fnQ (X13 n).E.T (resOf Proofs.Tryz.prog 13) ((eL eS) o))))))) .normal ⟨Zs28 (.v (.sl .nil (List.map eS []))) (AG.d ag2010 4 (List.map eS y.1)) a0.fClasses (a0.fClasses.length : Int) v1507 [], [(b13_0 a0), .dead, .dead, (b13_1 v1517), (AG.o ag2010 1 (List.map eS y.1))]⟩) → Lp (X13 n) k13_1 4 p13_3 nx2014 ⟨Zs10 (.v (.sl .nil (List.map eS []))) (AG.d ag2010 4 (List.map eS v2009)) a0.fClasses (a0.fClasses.length : Int) v1507 v1517.fItems (v1517.fItems.length : Int) v2011 (q40 (q12 [])), [(b13_0 a0), .dead, .dead, (b13_1 v1517), (AG.o ag2010 1 (List.map eS v2009))]⟩ (blkQ (X13 n) 2 k13_2 4 (blkQ (X13 n) 1 k13_2 3 (seqQ (X13 n) p13_2 (lpQ (X13 n) k13_2 1 p13_1 nx1510 (blkQ (X13 n) 0 [2, 3] 1 (seqQ (X13 n) p13_0 (fnQ (X13 n).E.T (resOf Proofs.Tryz.prog 13) ((eL eS) o)))))))) := by
    intro kx2013
    induction kx2013 with
    | zero => intro v2009 v2011 ag2010 ox2012 h; exact (iter_zero h).elim
    | succ kx2013 ihx2015 =>
     intro v2009 v2011 ag2010 ox2012 h nx2014 hnx2018 hrx2016 hxx2017
     obtain ⟨nx2014, rfl⟩ : ∃ q, nx2014 = q + 1 := ⟨nx2014 - 1, by omega⟩
     obtain ⟨sx2019, h, hsx2020⟩ := iter_some h
     have h : f13_B7 m v1517 v2009 v2011 = some sx2019 := h
     unfold f13_B7 at h
     refine Lp.succ (Wp.sq (Wp.rg (Ops.sg 1 1 (Ops.dn (seqQ.n (Wp.sq ?_))))))
     refine Wp.cd h k13_1 5 (fun h => ?_) (fun h => ?_)
     ·refine Wp.sk (sqQ.n ⟨Zs10 (.v (.sl .nil (List.map eS []))) (AG.d ag2010 5 (List.map eS v2009)) a0.fClasses (a0.fClasses.length : Int) v1507 v1517.fItems (v1517.fItems.length : Int) v2011 (q40 (q12 [])), [(b13_0 a0), .dead, .dead, (b13_1 v1517), .dead, (AG.o ag2010 1 (List.map eS v2009))]⟩ (by cases ag2010 <;> kernel_rfl) (seqQ.n (Wp.sq (Wp.bk 3 k13_1 6 (Wp.sq (Wp.rg ?_))))))
      obtain ⟨v2021, ev2021, h⟩ := bnd_some h
      refine Ops.on 1 (fun h0 e0 => (ix_r (T := T) h0 43 47 5 .plain e46 v1517.fItems v2011 v2021 ev2021 (by kernel_rfl) (by kernel_rfl) (fun _ => rfl))) ?_
      refine Ops.sg 3 4 (Ops.dn (seqQ.n (Wp.sq (Wp.rg (Ops.sg 2 2 ?_)))))
      refine Ops.on 3 (fun h0 e0 => (len_r (T := T) h0 29 9 .plain eS v2021.fTags (by kernel_rfl))) ?_
      refine Ops.sg 1 4 (Ops.dn (seqQ.n (Wp.bk 4 k13_1 7 ?_)))
      have hLx2262 := f13_hLx2262 m a0 o n hn v2021 nx2014 nx1510 v1507 v1517 v2011
      refine Wp.loop' k13_0 7 (by kernel_rfl) ⟨Zs10 (.v (.sl .nil (List.map eS []))) (AG.d ag2010 7 (List.map eS v2009)) a0.fClasses (a0.fClasses.length : Int) v1507 v1517.fItems (v1517.fItems.length : Int) v2011 (q4 ((dP eS v2021.fTags)::(dI (v2021.fTags.length : Int))::(dI 0)::q40 (q5 []))), [(b13_0 a0), .dead, .dead, (b13_1 v1517), .dead, .dead, (b13_2 v2021), (AG.o ag2010 1 (List.map eS v2009))]⟩ (by cases ag2010 <;> kernel_rfl) ?_
      rcases brk_some h with ⟨r2264, er2264, h⟩ | ⟨y2263, ey2263, h⟩
      ·refine hLx2262 _ v2009 0 _ _ er2264 n (by omega) (fun r er σ hσ => ?_) (fun y ag2176 ey => by cases ey)
       cases er
       refine blkQ.r (seqQ.r (lpQ.r ?_))
       cases h
       refine blkQ.r ?_
       exact hrx2016 _ hsx2020 _ (RetOk.forget k13_1 (by kernel_rfl) hσ)
      ·refine hLx2262 _ v2009 0 _ _ ey2263 n (by omega) (fun r er => by cases er) (fun y ag2176 ey => ?_)
       cases ey
       refine blkQ.n ⟨Zs10 (.v (.sl .nil (List.map eS []))) (AG.d ag2176 6 (List.map eS y2263.1)) a0.fClasses (a0.fClasses.length : Int) v1507 v1517.fItems (v1517.fItems.length : Int) v2011 (q40 (q12 [])), [(b13_0 a0), .dead, .dead, (b13_1 v1517), .dead, .dead, (AG.o ag2176 1 (List.map eS y2263.1))]⟩ (by cases ag2176 <;> kernel_rfl) (seqQ.n (Wp.rg (Ops.sg 2 2 (Ops.dn (lpQ.n ⟨Zs10 (.v (.sl .nil (List.map eS []))) (AG.d ag2176 4 (List.map eS y2263.1)) a0.fClasses (a0.fClasses.length : Int) v1507 v1517.fItems (v1517.fItems.length : Int) (w64 (v2011 + 1)) (q40 (q12 [])), [(b13_0 a0), .dead, .dead, (b13_1 v1517), (AG.o ag2176 1 (List.map eS y2263.1))]⟩ (by cases ag2176 <;> kernel_rfl) ?_)))))
       cases h
       exact ihx2015 y2263.1 (w64 (v2011 + 1)) _ _ hsx2020 _ (by omega) hrx2016 hxx2017
     ·refine Wp.ex 2 (sqQ.x (seqQ.x ?_))
      cases h
      refine lpQ.x (blkQ.x ⟨Zs28 (.v (.sl .nil (List.map eS []))) (AG.d ag2010 4 (List.map eS v2009)) a0.fClasses (a0.fClasses.length : Int) v1507 [], [(b13_0 a0), .dead, .dead, (b13_1 v1517), (AG.o ag2010 1 (List.map eS v2009))]⟩ (by cases ag2010 <;> kernel_rfl) ?_)
      exact hxx2017 (v2009, v2011) _ hsx2020
   refine Wp.loop' k13_1 4 (by kernel_rfl) ⟨q2 ((.v (.sl .nil (List.map eS [])))::(AG.d ag1506 4 (List.map eS v1505))::q8 ((dP e44 a0.fClasses)::(dI (a0.fClasses.length : Int))::(dI v1507)::q4 ((dP e46 v1517.fItems)::(dI (v1517.fItems.length : Int))::(dI 0)::q40 (q12 [])))), [(b13_0 a0), .dead, .dead, (b13_1 v1517), (AG.o ag1506 1 (List.map eS v1505))]⟩ (by cases ag1506 <;> kernel_rfl) ?_
   rcases brk_some h with ⟨r2267, er2267, h⟩ | ⟨y2266, ey2266, h⟩
   ·refine hLx2265 _ v1505 0 _ _ er2267 n (by omega) (fun r er σ hσ => ?_) (fun y ag2010 ey => by cases ey)
    cases er
    refine blkQ.r (seqQ.r (lpQ.r ?_))
    cases h
    refine blkQ.r ?_
    exact hrx1512 _ hsx1516 _ (RetOk.forget k13_2 (by kernel_rfl) hσ)
   ·refine hLx2265 _ v1505 0 _ _ ey2266 n (by omega) (fun r er => by cases er) (fun y ag2010 ey => ?_)
    cases ey
    refine blkQ.n ⟨Zs28 (.v (.sl .nil (List.map eS []))) (AG.d ag2010 3 (List.map eS y2266.1)) a0.fClasses (a0.fClasses.length : Int) v1507 [], [(b13_0 a0), .dead, .dead, (AG.o ag2010 1 (List.map eS y2266.1))]⟩ (by cases ag2010 <;> kernel_rfl) (seqQ.n (Wp.rg (Ops.sg 2 2 (Ops.dn (lpQ.n ⟨Zs28 (.v (.sl .nil (List.map eS []))) (AG.d ag2010 1 (List.map eS y2266.1)) a0.fClasses (a0.fClasses.length : Int) (w64 (v1507 + 1)) [], [(b13_0 a0), (AG.o ag2010 1 (List.map eS y2266.1))]⟩ (by cases ag2010 <;> kernel_rfl) ?_)))))
    cases h
    exact ihx1511 y2266.1 (w64 (v1507 + 1)) _ _ hsx1516 _ (by omega) hrx1512 hxx1513
  ·refine Wp.ex 0 (sqQ.x (seqQ.x ?_))
   cases h
   refine lpQ.x (blkQ.x ⟨q2 ((.v (.sl .nil (List.map eS [])))::(AG.d ag1506 1 (List.map eS v1505))::q40 (q30 [])), [(b13_0 a0), (AG.o ag1506 1 (List.map eS v1505))]⟩ (by cases ag1506 <;> kernel_rfl) ?_)
   exact hxx1513 (v1505, v1507) _ hsx1516
theorem ok13 (m : Nat) (a0 : S23) (o : (List ByteArray)) (h : f13 m a0 = some o) (n : Nat) (hn : m + 1 ≤ n) : Fn Proofs.Tryz.prog EG n 13 [.v (e23 a0)] ((eL eS) o) := by
 obtain ⟨n, rfl⟩ : ∃ q, n = q + 1 := ⟨n - 1, by omega⟩
 unfold f13 at h
 refine Fn.of (by kernel_rfl) (by kernel_rfl) (by kernel_rfl) ⟨(.v (.agg [(vP e44 a0.fClasses)]))::u40 (u33 []), []⟩ (by kernel_rfl) (Wp.sq (Wp.rg (Ops.sg 2 2 (Ops.dn (seqQ.n (Wp.sq (Wp.rg (Ops.sg 1 1 (Ops.dn (seqQ.n (Wp.sq (Wp.sq (Wp.rg (Ops.sg 2 2 ?_))))))))))))))
 refine Ops.on 3 (fun h0 e0 => (len_r (T := T) h0 22 45 .plain e44 a0.fClasses (by kernel_rfl))) ?_
 refine Ops.sg 1 4 (Ops.dn (seqQ.n (Wp.bk 0 [2, 3] 1 ?_)))
 have hLx2268 := f13_hLx2268 m a0 o n hn
 refine Wp.loop' k13_2 1 (by kernel_rfl) ⟨q2 ((.v (.sl .nil (List.map eS [])))::(AG.d (AG.of .nil (List.map eS [])) 1 (List.map eS []))::q8 ((dP e44 a0.fClasses)::(dI (a0.fClasses.length : Int))::(dI 0)::q40 (q19 []))), [(b13_0 a0), (AG.o (AG.of .nil (List.map eS [])) 1 (List.map eS []))]⟩ (by kernel_rfl) ?_
 rcases brk_some h with ⟨r2270, er2270, h⟩ | ⟨y2269, ey2269, h⟩
 ·refine hLx2268 _ [] 0 _ _ er2270 n (by omega) (fun r er σ hσ => ?_) (fun y ag1506 ey => by cases ey)
  cases er
  refine seqQ.r ?_
  exact fnQ.r' (X13 n) (fun z => ((eL eS) z)) h hσ
 ·refine hLx2268 _ [] 0 _ _ ey2269 n (by omega) (fun r er => by cases er) (fun y ag1506 ey => ?_)
  cases ey
  refine seqQ.n (Wp.sq (Wp.rg (Ops.sg 2 2 (Ops.dn (seqQ.n (Wp.rt ?_))))))
  exact fnQ.r' (X13 n) (fun z => ((eL eS) z)) h (RetOk.mk' (AG.d ag1506 1 (List.map eS y2269.1)) (by kernel_rfl) (AG.frz _ _ _ _ _))
noncomputable def f3_r1 (m : Nat) (a0 : S23) (v2 : S26) (v3 : ((List ByteArray) × S26)) (v29 : Bool) : Option Bool :=
 cnd v29
 (some false)
 (cnd (!((v2.fCode == 0) && ((v2.fIndex == 0) && true)))
 (some ((v3.1.length : Int) == 0))
 (bnd (f13 m a0) fun v31 =>
 bnd (f12 m v3.1 v31) fun v32 =>
 some v32))
noncomputable def f3_r2 (m : Nat) (a0 : S23) (v2 : S26) (v3 : ((List ByteArray) × S26)) (v4 v5 : (ByteArray × S26)) (v21 : Bool) : Option Bool :=
 f3_r1 m a0 v2 v3 (v21 || (!((v4.2.fCode == v5.2.fCode) && ((v4.2.fIndex == v5.2.fIndex) && true))))
noncomputable def f3_r3 (m : Nat) (a0 : S23) (v2 : S26) (v3 : ((List ByteArray) × S26)) (v4 v5 : (ByteArray × S26)) (v13 : Bool) : Option Bool :=
 f3_r2 m a0 v2 v3 v4 v5 (v13 || (!(v4.1.toList == v5.1.toList)))
noncomputable def f3 (m : Nat) (a0 : S23) : Option Bool :=
 bnd (f6 m ) fun v1 =>
 cnd (!v1)
 (some false)
 (bnd (f7 m a0) fun v2 =>
 bnd (f8 m a0) fun v3 =>
 bnd (f9 m a0) fun v4 =>
 bnd (f10 m a0) fun v5 =>
 bnd (f11 m a0) fun v6 =>
 f3_r3 m a0 v2 v3 v4 v5 ((!((v6.fCode == v2.fCode) && ((v6.fIndex == v2.fIndex) && true))) || (!((v3.2.fCode == v2.fCode) && ((v3.2.fIndex == v2.fIndex) && true)))))
noncomputable abbrev X3 (n : Nat) : Cx := cxOf Proofs.Tryz.prog EG 3 n
abbrev b3_0 (w0 : S23) : AObj := .cells [(dP e44 w0.fClasses)]
abbrev b3_1 (w0 : S26) : AObj := .cells [(dI w0.fCode), (dI w0.fIndex)]
abbrev b3_2 (w0 : ((List ByteArray) × S26)) : AObj := .cells [(dI w0.2.fCode), (dI w0.2.fIndex)]
abbrev b3_3 (w0 : (ByteArray × S26)) : AObj := .cells [(dI w0.2.fCode), (dI w0.2.fIndex)]
theorem ok3 (m : Nat) (a0 : S23) (o : Bool) (h : f3 m a0 = some o) (n : Nat) (hn : 2 * m + 8 ≤ n) : Fn Proofs.Tryz.prog EG n 3 [.v (e23 a0)] (eB o) := by
 obtain ⟨n, rfl⟩ : ∃ q, n = q + 1 := ⟨n - 1, by omega⟩
 unfold f3 at h
 refine Fn.of (by kernel_rfl) (by kernel_rfl) (by kernel_rfl) ⟨(.v (.agg [(vP e44 a0.fClasses)]))::u40 (u17 []), []⟩ (by kernel_rfl) (Wp.sq (Wp.rg (Ops.sg 2 2 (Ops.dn (seqQ.n (Wp.sq (Wp.sq (Wp.rg ?_))))))))
 obtain ⟨v1, ev1, h⟩ := bnd_some h
 refine Ops.on 1 (fun h0 e0 => (call_ok (E' := EG) (h := h0) (by kernel_rfl) Args.nil (ok6 m  v1 ev1 n (by omega)))) ?_
 refine Ops.sg 1 2 (Ops.dn (seqQ.n ?_))
 refine Wp.cd h [1, 2] 1 (fun h => ?_) (fun h => ?_)
 ·refine Wp.sq (Wp.rg (Ops.sg 1 1 (Ops.dn (seqQ.n (Wp.rt (sqQ.r (seqQ.r ?_)))))))
  exact fnQ.r' (X3 n) (fun z => (eB z)) h (RetOk.mk' (dB false) (by kernel_rfl) (by kernel_rfl))
 ·refine Wp.sk (sqQ.n' (seqQ.n (Wp.sq (Wp.rg (Ops.sg 1 1 ?_)))))
  obtain ⟨v2, ev2, h⟩ := bnd_some h
  refine Ops.on 2 (fun h0 e0 => (call_ok (E' := EG) (h := h0) (by kernel_rfl) (Args.v (.agg [(vP e44 a0.fClasses)]) (e23 a0) (by kernel_rfl) Args.nil) (ok7g m a0 v2 ev2 n (by omega)))) ?_
  refine Ops.sg 2 4 (Ops.dn (seqQ.n (Wp.sq (Wp.rg (Ops.sg 1 1 ?_)))))
  obtain ⟨v3, ev3, h⟩ := bnd_some h
  refine Ops.on 2 (fun h0 e0 => (call_ok (E' := EG) (h := h0) (by kernel_rfl) (Args.v (.agg [(vP e44 a0.fClasses)]) (e23 a0) (by kernel_rfl) Args.nil) (ok8 m a0 v3 ev3 n (by omega)))) ?_
  refine Ops.sg 6 8 (Ops.dn (seqQ.n (Wp.sq (Wp.rg (Ops.sg 1 1 ?_)))))
  obtain ⟨v4, ev4, h⟩ := bnd_some h
  refine Ops.on 2 (fun h0 e0 => (call_ok (E' := EG) (h := h0) (by kernel_rfl) (Args.v (.agg [(vP e44 a0.fClasses)]) (e23 a0) (by kernel_rfl) Args.nil) (ok9 m a0 v4 ev4 n (by omega)))) ?_
  refine Ops.sg 6 8 (Ops.dn (seqQ.n (Wp.sq (Wp.rg (Ops.sg 1 1 ?_)))))
  obtain ⟨v5, ev5, h⟩ := bnd_some h
  refine Ops.on 2 (fun h0 e0 => (call_ok (E' := EG) (h := h0) (by kernel_rfl) (Args.v (.agg [(vP e44 a0.fClasses)]) (e23 a0) (by kernel_rfl) Args.nil) (ok10 m a0 v5 ev5 n (by omega)))) ?_
  refine Ops.sg 6 8 (Ops.dn (seqQ.n (Wp.sq (Wp.sq (Wp.rg (Ops.sg 1 1 ?_))))))
  obtain ⟨v6, ev6, h⟩ := bnd_some h
  refine Ops.on 2 (fun h0 e0 => (call_ok (E' := EG) (h := h0) (by kernel_rfl) (Args.v (.agg [(vP e44 a0.fClasses)]) (e23 a0) (by kernel_rfl) Args.nil) (ok11g m a0 v6 ev6 n (by omega)))) ?_
  refine Ops.seg 3 5 (by kernel_rfl) ⟨Zs1 (.v (.agg [(vP e44 a0.fClasses)])) v3.1 v4.1 v5.1 v1 (!v1) (.v (.agg [(vI v2.fCode), (vI v2.fIndex)])) (.v (.tuple [(vP eS v3.1), (.agg [(vI v3.2.fCode), (vI v3.2.fIndex)])])) (.v (.agg [(vI v3.2.fCode), (vI v3.2.fIndex)])) (.v (.tuple [(.str v4.1), (.agg [(vI v4.2.fCode), (vI v4.2.fIndex)])])) (.v (.agg [(vI v4.2.fCode), (vI v4.2.fIndex)])) (.v (.tuple [(.str v5.1), (.agg [(vI v5.2.fCode), (vI v5.2.fIndex)])])) (.v (.agg [(vI v5.2.fCode), (vI v5.2.fIndex)])) (.v (.agg [(vI v6.fCode), (vI v6.fIndex)])) (!((v6.fCode == v2.fCode) && ((v6.fIndex == v2.fIndex) && true))) (u24 []), [(b3_0 a0), (b3_1 v2), (b3_2 v3), (b3_3 v4), (b3_3 v5)]⟩ (by kernel_rfl) ?_
  refine Ops.hv (fun KQ => ∀ (d9 d10 d11 : D) (v12 v13 : Bool), f3_r3 m a0 v2 v3 v4 v5 v13 = some o → KQ 9 ⟨Zs1 (.v (.agg [(vP e44 a0.fClasses)])) v3.1 v4.1 v5.1 v1 (!v1) (.v (.agg [(vI v2.fCode), (vI v2.fIndex)])) (.v (.tuple [(vP eS v3.1), (.agg [(vI v3.2.fCode), (vI v3.2.fIndex)])])) (.v (.agg [(vI v3.2.fCode), (vI v3.2.fIndex)])) (.v (.tuple [(.str v4.1), (.agg [(vI v4.2.fCode), (vI v4.2.fIndex)])])) (.v (.agg [(vI v4.2.fCode), (vI v4.2.fIndex)])) (.v (.tuple [(.str v5.1), (.agg [(vI v5.2.fCode), (vI v5.2.fIndex)])])) (.v (.agg [(vI v5.2.fCode), (vI v5.2.fIndex)])) (.v (.agg [(vI v6.fCode), (vI v6.fIndex)])) v12 (d9::d10::d11::(dB v13)::u20 []), [(b3_0 a0), (b3_1 v2), (b3_2 v3), (b3_3 v4), (b3_3 v5)]⟩) ?_ fun J3j14 => ?_
  ·intro d9 d10 d11 v12 v13 h
   unfold f3_r3 at h
   refine Ops.sg 1 10 ?_
   refine Ops.hv (fun KQ => ∀ (d17 d18 d19 : D) (v20 v21 : Bool), f3_r2 m a0 v2 v3 v4 v5 v21 = some o → KQ 14 ⟨Zs1 (.v (.agg [(vP e44 a0.fClasses)])) v3.1 v4.1 v5.1 v1 (!v1) (.v (.agg [(vI v2.fCode), (vI v2.fIndex)])) (.v (.tuple [(vP eS v3.1), (.agg [(vI v3.2.fCode), (vI v3.2.fIndex)])])) (.v (.agg [(vI v3.2.fCode), (vI v3.2.fIndex)])) (.v (.tuple [(.str v4.1), (.agg [(vI v4.2.fCode), (vI v4.2.fIndex)])])) (.v (.agg [(vI v4.2.fCode), (vI v4.2.fIndex)])) (.v (.tuple [(.str v5.1), (.agg [(vI v5.2.fCode), (vI v5.2.fIndex)])])) (.v (.agg [(vI v5.2.fCode), (vI v5.2.fIndex)])) (.v (.agg [(vI v6.fCode), (vI v6.fIndex)])) v12 (d9::d10::d11::(dB v20)::(dB v20)::d17::d18::d19::(dB v21)::u15 []), [(b3_0 a0), (b3_1 v2), (b3_2 v3), (b3_3 v4), (b3_3 v5)]⟩) ?_ fun J3j22 => ?_
   ·intro d17 d18 d19 v20 v21 h
    unfold f3_r2 at h
    refine Ops.sg 1 15 ?_
    refine Ops.hv (fun KQ => ∀ (d25 d26 d27 : D) (v28 v29 : Bool), f3_r1 m a0 v2 v3 v29 = some o → KQ 19 ⟨Zs1 (.v (.agg [(vP e44 a0.fClasses)])) v3.1 v4.1 v5.1 v1 (!v1) (.v (.agg [(vI v2.fCode), (vI v2.fIndex)])) (.v (.tuple [(vP eS v3.1), (.agg [(vI v3.2.fCode), (vI v3.2.fIndex)])])) (.v (.agg [(vI v3.2.fCode), (vI v3.2.fIndex)])) (.v (.tuple [(.str v4.1), (.agg [(vI v4.2.fCode), (vI v4.2.fIndex)])])) (.v (.agg [(vI v4.2.fCode), (vI v4.2.fIndex)])) (.v (.tuple [(.str v5.1), (.agg [(vI v5.2.fCode), (vI v5.2.fIndex)])])) (.v (.agg [(vI v5.2.fCode), (vI v5.2.fIndex)])) (.v (.agg [(vI v6.fCode), (vI v6.fIndex)])) v12 (d9::d10::d11::(dB v20)::(dB v20)::d17::d18::d19::(dB v28)::(dB v28)::d25::d26::d27::(dB v29)::u10 []), [(b3_0 a0), (b3_1 v2), (b3_2 v3), (b3_3 v4), (b3_3 v5)]⟩) ?_ fun J3j30 => ?_
    ·intro d25 d26 d27 v28 v29 h
     unfold f3_r1 at h
     refine Ops.dn (seqQ.n ?_)
     refine Wp.cd h [1, 2, 3, 4] 5 (fun h => ?_) (fun h => ?_)
     ·refine Wp.sq (Wp.rg (Ops.sg 1 1 (Ops.dn (seqQ.n (Wp.rt (sqQ.r (seqQ.r ?_)))))))
      exact fnQ.r' (X3 n) (fun z => (eB z)) h (RetOk.mk' (dB false) (by kernel_rfl) (by kernel_rfl))
     ·refine Wp.sk (sqQ.n' (seqQ.n (Wp.sq (Wp.sq (Wp.rg (Ops.sg 3 3 (Ops.dn (seqQ.n ?_))))))))
      refine Wp.cd h [1, 2, 4] 5 (fun h => ?_) (fun h => ?_)
      ·refine Wp.sq (Wp.rg (Ops.sg 1 1 ?_))
       refine Ops.on 2 (fun h0 e0 => (len_r (T := T) h0 29 9 .plain eS v3.1 (by kernel_rfl))) ?_
       refine Ops.sg 2 4 (Ops.dn (seqQ.n (Wp.rt (sqQ.r (seqQ.r ?_)))))
       exact fnQ.r' (X3 n) (fun z => (eB z)) h (RetOk.mk' (dB ((v3.1.length : Int) == 0)) (by kernel_rfl) (by kernel_rfl))
      ·refine Wp.sk (sqQ.n' (seqQ.n (Wp.sq (Wp.rg (Ops.sg 2 2 ?_)))))
       obtain ⟨v31, ev31, h⟩ := bnd_some h
       refine Ops.on 3 (fun h0 e0 => (call_ok (E' := EG) (h := h0) (by kernel_rfl) (Args.v (.agg [(vP e44 a0.fClasses)]) (e23 a0) (by kernel_rfl) Args.nil) (ok13 m a0 v31 ev31 n (by omega)))) ?_
       obtain ⟨v32, ev32, h⟩ := bnd_some h
       refine Ops.on 4 (fun h0 e0 => (call_ok (E' := EG) (h := h0) (by kernel_rfl) (Args.v (vP eS v3.1) ((eL eS) v3.1) (by kernel_rfl) (Args.v (vP eS v31) ((eL eS) v31) (by kernel_rfl) Args.nil)) (ok12g m v3.1 v31 v32 ev32 n (by omega)))) ?_
       refine Ops.sg 1 5 (Ops.dn (seqQ.n (Wp.rt ?_)))
       exact fnQ.r' (X3 n) (fun z => (eB z)) h (RetOk.mk' (dB v32) (by kernel_rfl) (by kernel_rfl))
    refine Ops.hv (fun KQ => ∀ v23 : Bool, f3_r1 m a0 v2 v3 (v23 || (!((v4.2.fCode == v5.2.fCode) && ((v4.2.fIndex == v5.2.fIndex) && true)))) = some o → KQ 15 ⟨Zs1 (.v (.agg [(vP e44 a0.fClasses)])) v3.1 v4.1 v5.1 v1 (!v1) (.v (.agg [(vI v2.fCode), (vI v2.fIndex)])) (.v (.tuple [(vP eS v3.1), (.agg [(vI v3.2.fCode), (vI v3.2.fIndex)])])) (.v (.agg [(vI v3.2.fCode), (vI v3.2.fIndex)])) (.v (.tuple [(.str v4.1), (.agg [(vI v4.2.fCode), (vI v4.2.fIndex)])])) (.v (.agg [(vI v4.2.fCode), (vI v4.2.fIndex)])) (.v (.tuple [(.str v5.1), (.agg [(vI v5.2.fCode), (vI v5.2.fIndex)])])) (.v (.agg [(vI v5.2.fCode), (vI v5.2.fIndex)])) (.v (.agg [(vI v6.fCode), (vI v6.fIndex)])) v12 (d9::d10::d11::(dB v20)::(dB v20)::d17::d18::d19::(dB v23)::(dB v23)::u14 []), [(b3_0 a0), (b3_1 v2), (b3_2 v3), (b3_3 v4), (b3_3 v5)]⟩) ?_ fun G3g24 => Ops.sx (G3g24 v21 h)
    intro v23 h
    cases v23
    ·refine Ops.sg 4 19 ?_
     exact Ops.sx (J3j30 ((.v (.agg [(vI v4.2.fCode), (vI v4.2.fIndex)]))) ((.v (.agg [(vI v5.2.fCode), (vI v5.2.fIndex)]))) (dB (!((v4.2.fCode == v5.2.fCode) && ((v4.2.fIndex == v5.2.fIndex) && true)))) false (!((v4.2.fCode == v5.2.fCode) && ((v4.2.fIndex == v5.2.fIndex) && true))) h)
    ·refine Ops.sg 4 19 ?_
     exact Ops.sx (J3j30 U U U true true h)
   refine Ops.hv (fun KQ => ∀ v15 : Bool, f3_r2 m a0 v2 v3 v4 v5 (v15 || (!(v4.1.toList == v5.1.toList))) = some o → KQ 10 ⟨Zs1 (.v (.agg [(vP e44 a0.fClasses)])) v3.1 v4.1 v5.1 v1 (!v1) (.v (.agg [(vI v2.fCode), (vI v2.fIndex)])) (.v (.tuple [(vP eS v3.1), (.agg [(vI v3.2.fCode), (vI v3.2.fIndex)])])) (.v (.agg [(vI v3.2.fCode), (vI v3.2.fIndex)])) (.v (.tuple [(.str v4.1), (.agg [(vI v4.2.fCode), (vI v4.2.fIndex)])])) (.v (.agg [(vI v4.2.fCode), (vI v4.2.fIndex)])) (.v (.tuple [(.str v5.1), (.agg [(vI v5.2.fCode), (vI v5.2.fIndex)])])) (.v (.agg [(vI v5.2.fCode), (vI v5.2.fIndex)])) (.v (.agg [(vI v6.fCode), (vI v6.fIndex)])) v12 (d9::d10::d11::(dB v15)::(dB v15)::u19 []), [(b3_0 a0), (b3_1 v2), (b3_2 v3), (b3_3 v4), (b3_3 v5)]⟩) ?_ fun G3g16 => Ops.sx (G3g16 v13 h)
   intro v15 h
   cases v15
   ·refine Ops.sg 4 14 ?_
    exact Ops.sx (J3j22 (.v (.str v4.1)) (.v (.str v5.1)) (dB (!(v4.1.toList == v5.1.toList))) false (!(v4.1.toList == v5.1.toList)) h)
   ·refine Ops.sg 4 14 ?_
    exact Ops.sx (J3j22 U U U true true h)
  refine Ops.hv (fun KQ => ∀ v7 : Bool, f3_r3 m a0 v2 v3 v4 v5 (v7 || (!((v3.2.fCode == v2.fCode) && ((v3.2.fIndex == v2.fIndex) && true)))) = some o → KQ 5 ⟨Zs1 (.v (.agg [(vP e44 a0.fClasses)])) v3.1 v4.1 v5.1 v1 (!v1) (.v (.agg [(vI v2.fCode), (vI v2.fIndex)])) (.v (.tuple [(vP eS v3.1), (.agg [(vI v3.2.fCode), (vI v3.2.fIndex)])])) (.v (.agg [(vI v3.2.fCode), (vI v3.2.fIndex)])) (.v (.tuple [(.str v4.1), (.agg [(vI v4.2.fCode), (vI v4.2.fIndex)])])) (.v (.agg [(vI v4.2.fCode), (vI v4.2.fIndex)])) (.v (.tuple [(.str v5.1), (.agg [(vI v5.2.fCode), (vI v5.2.fIndex)])])) (.v (.agg [(vI v5.2.fCode), (vI v5.2.fIndex)])) (.v (.agg [(vI v6.fCode), (vI v6.fIndex)])) v7 (u24 []), [(b3_0 a0), (b3_1 v2), (b3_2 v3), (b3_3 v4), (b3_3 v5)]⟩) ?_ fun G3g8 => Ops.sx (G3g8 (!((v6.fCode == v2.fCode) && ((v6.fIndex == v2.fIndex) && true))) h)
  intro v7 h
  cases v7
  ·refine Ops.sg 4 9 ?_
   exact Ops.sx (J3j14 ((.v (.agg [(vI v3.2.fCode), (vI v3.2.fIndex)]))) ((.v (.agg [(vI v2.fCode), (vI v2.fIndex)]))) (dB (!((v3.2.fCode == v2.fCode) && ((v3.2.fIndex == v2.fIndex) && true)))) false (!((v3.2.fCode == v2.fCode) && ((v3.2.fIndex == v2.fIndex) && true))) h)
  ·refine Ops.sg 4 9 ?_
   exact Ops.sx (J3j14 U U U true true h)
noncomputable def f4_r1 (m : Nat) (v10 : Bool) : Option Bool :=
 some v10
noncomputable def f4 (m : Nat) (a0 : ByteArray) : Option Bool :=
 bnd (f6 m ) fun v1 =>
 cnd (!v1)
 (some false)
 (bnd (f14 m a0) fun v2 =>
 bnd (f15 m a0) fun v3 =>
 bnd (cnd ((v2.2.fCode == v3.2.fCode) && ((v2.2.fIndex == v3.2.fIndex) && true))
 (bnd (f16 m v2.1 v3.1) fun v12 =>
 some v12)
 (some false)) fun v10 =>
 f4_r1 m v10)
noncomputable abbrev X4 (n : Nat) : Cx := cxOf Proofs.Tryz.prog EG 4 n
theorem ok4 (m : Nat) (a0 : ByteArray) (o : Bool) (h : f4 m a0 = some o) (n : Nat) (hn : m + 8 ≤ n) : Fn Proofs.Tryz.prog EG n 4 [.v (eS a0)] (eB o) := by
 obtain ⟨n, rfl⟩ : ∃ q, n = q + 1 := ⟨n - 1, by omega⟩
 unfold f4 at h
 refine Fn.of (by kernel_rfl) (by kernel_rfl) (by kernel_rfl) ⟨(.v (.str a0))::u26 [], []⟩ (by kernel_rfl) (Wp.sq (Wp.rg (Ops.sg 1 1 (Ops.dn (seqQ.n (Wp.sq (Wp.sq (Wp.rg ?_))))))))
 obtain ⟨v1, ev1, h⟩ := bnd_some h
 refine Ops.on 1 (fun h0 e0 => (call_ok (E' := EG) (h := h0) (by kernel_rfl) Args.nil (ok6 m  v1 ev1 n (by omega)))) ?_
 refine Ops.sg 1 2 (Ops.dn (seqQ.n ?_))
 refine Wp.cd h [0, 2] 0 (fun h => ?_) (fun h => ?_)
 ·refine Wp.sq (Wp.rg (Ops.sg 1 1 (Ops.dn (seqQ.n (Wp.rt (sqQ.r (seqQ.r ?_)))))))
  exact fnQ.r' (X4 n) (fun z => (eB z)) h (RetOk.mk' (dB false) (by kernel_rfl) (by kernel_rfl))
 ·refine Wp.sk (sqQ.n' (seqQ.n (Wp.sq (Wp.rg (Ops.sg 1 1 ?_)))))
  obtain ⟨v2, ev2, h⟩ := bnd_some h
  refine Ops.on 2 (fun h0 e0 => (call_ok (E' := EG) (h := h0) (by kernel_rfl) (Args.v (.str a0) (eS a0) (by kernel_rfl) Args.nil) (ok14 m a0 v2 ev2 n (by omega)))) ?_
  refine Ops.sg 7 9 (Ops.dn (seqQ.n (Wp.sq (Wp.rg (Ops.sg 1 1 ?_)))))
  obtain ⟨v3, ev3, h⟩ := bnd_some h
  refine Ops.on 2 (fun h0 e0 => (call_ok (E' := EG) (h := h0) (by kernel_rfl) (Args.v (.str a0) (eS a0) (by kernel_rfl) Args.nil) (ok15 m a0 v3 ev3 n (by omega)))) ?_
  refine Ops.sg 7 9 (Ops.dn (seqQ.n (Wp.sq (Wp.rg (Ops.sg 4 4 ?_)))))
  refine Ops.hv (fun KQ => ∀ (d6 d7 d8 : D) (v9 v10 : Bool), f4_r1 m v10 = some o → KQ 8 ⟨Zs14 a0 v1 (!v1) (.v (.tuple [(.agg [(vP e44 v2.1.fClasses)]), (.agg [(vI v2.2.fCode), (vI v2.2.fIndex)])])) (.v (.agg [(vP e44 v2.1.fClasses)])) (.v (.agg [(vI v2.2.fCode), (vI v2.2.fIndex)])) (.v (.tuple [(.agg [(vP e44 v3.1.fClasses)]), (.agg [(vI v3.2.fCode), (vI v3.2.fIndex)])])) (.v (.agg [(vP e44 v3.1.fClasses)])) (.v (.agg [(vI v3.2.fCode), (vI v3.2.fIndex)])) v9 (d6::d7::d8::(dB v10)::[]), [(.cells [(dP e44 v2.1.fClasses)]), (.cells [(dI v2.2.fCode), (dI v2.2.fIndex)]), (.cells [(dP e44 v3.1.fClasses)]), (.cells [(dI v3.2.fCode), (dI v3.2.fIndex)])]⟩) ?_ fun J4j11 => ?_
  ·intro d6 d7 d8 v9 v10 h
   unfold f4_r1 at h
   refine Ops.sg 1 9 (Ops.dn (seqQ.n (Wp.rt ?_)))
   exact fnQ.r' (X4 n) (fun z => (eB z)) h (RetOk.mk' (dB v10) (by kernel_rfl) (by kernel_rfl))
  obtain ⟨v10, ev10, h⟩ := bnd_some h
  refine Ops.hv (fun KQ => ∀ v4 : Bool, (cnd v4 (bnd (f16 m v2.1 v3.1) fun v12 => some v12) (some false)) = some v10 → KQ 4 ⟨Zs14 a0 v1 (!v1) (.v (.tuple [(.agg [(vP e44 v2.1.fClasses)]), (.agg [(vI v2.2.fCode), (vI v2.2.fIndex)])])) (.v (.agg [(vP e44 v2.1.fClasses)])) (.v (.agg [(vI v2.2.fCode), (vI v2.2.fIndex)])) (.v (.tuple [(.agg [(vP e44 v3.1.fClasses)]), (.agg [(vI v3.2.fCode), (vI v3.2.fIndex)])])) (.v (.agg [(vP e44 v3.1.fClasses)])) (.v (.agg [(vI v3.2.fCode), (vI v3.2.fIndex)])) v4 (u4 []), [(.cells [(dP e44 v2.1.fClasses)]), (.cells [(dI v2.2.fCode), (dI v2.2.fIndex)]), (.cells [(dP e44 v3.1.fClasses)]), (.cells [(dI v3.2.fCode), (dI v3.2.fIndex)])]⟩) ?_ fun G4g5 => Ops.sx (G4g5 ((v2.2.fCode == v3.2.fCode) && ((v2.2.fIndex == v3.2.fIndex) && true)) ev10)
  intro v4 ev10
  cases v4
  ·have ev10 := cnd_f ev10
   refine Ops.sg 4 8 ?_
   exact Ops.sx (J4j11 U U U false false (some_sub (fun v10 => f4_r1 m v10 = some o) ev10 h))
  ·have ev10 := cnd_t ev10
   refine Ops.sg 2 6 ?_
   obtain ⟨v12, ev12, ev10⟩ := bnd_some ev10
   refine Ops.on 7 (fun h0 e0 => (call_ok (E' := EG) (h := h0) (by kernel_rfl) (Args.v (.agg [(vP e44 v2.1.fClasses)]) (e23 v2.1) (by kernel_rfl) (Args.v (.agg [(vP e44 v3.1.fClasses)]) (e23 v3.1) (by kernel_rfl) Args.nil)) (ok16 m v2.1 v3.1 v12 ev12 n (by omega)))) ?_
   refine Ops.sg 1 8 ?_
   exact Ops.sx (J4j11 (.v (.agg [(vP e44 v2.1.fClasses)])) (.v (.agg [(vP e44 v3.1.fClasses)])) (dB v12) true v12 (some_sub (fun v10 => f4_r1 m v10 = some o) ev10 h))
end Go.Abs
