import Derived.Test.YthjhdnonlkooiaaDoorLE
namespace Go.Abs
set_option linter.unusedVariables false
set_option maxRecDepth 100000

/-! ### 51 glosswright/glosswrightlaw6.dogs -/
def f51 (m : Nat)  : Option S51 :=
  some ((⟨[(⟨(⟨#[114, 111, 111, 116]⟩ : ByteArray), [(⟨(⟨#[100, 111, 103]⟩ : ByteArray), (⟨#[100, 111, 103]⟩ : ByteArray), [(⟨#[110]⟩ : ByteArray)], 1, 0⟩ : S90)]⟩ : S88), (⟨(⟨#[110, 117, 109, 98, 101, 114]⟩ : ByteArray), [(⟨ByteArray.empty, ByteArray.empty, [(⟨#[115, 103]⟩ : ByteArray)], (-1), 0⟩ : S90), (⟨ByteArray.empty, (⟨#[115]⟩ : ByteArray), [(⟨#[112, 108]⟩ : ByteArray)], (-1), 2⟩ : S90)]⟩ : S88)]⟩ : S51))
noncomputable abbrev X51 (n : Nat) : Cx := cxOf Proofs.Tryd.prog EG 51 n
noncomputable def C51 : Code := bodyOf Proofs.Tryd.prog 51
theorem ok51 (m : Nat)  (o : S51) (h : f51 m  = some o) (n : Nat) (hn : m + 1 ≤ n) : Fn Proofs.Tryd.prog EG n 51 [] (e51 o) := by
  obtain ⟨n, rfl⟩ : ∃ q, n = q + 1 := ⟨n - 1, by omega⟩
  unfold f51 at h
  refine Fn.of (by kernel_rfl) (by kernel_rfl) (by kernel_rfl) ⟨u13 [], []⟩ (by kernel_rfl) ?_
  refine Wp.seq' (by kernel_rfl) ?_
  refine Wp.region (by kernel_rfl) ?_
  refine Ops.seg' 1 1 (by kernel_rfl) ?_
  refine Ops.done (by kernel_rfl) ?_
  refine seqQ.n ?_
  refine Wp.seq' (by kernel_rfl) ?_
  refine Wp.region (by kernel_rfl) ?_
  refine Ops.seg' 13 13 (by kernel_rfl) ?_
  refine Ops.done (by kernel_rfl) ?_
  refine seqQ.n ?_
  refine Wp.ret (by kernel_rfl) ?_
  exact fnQ.r' (X51 n) (fun z => (e51 z)) h (RetOk.mk' (.v (.agg [(.sl .nonfull (List.map e88 ([(⟨(⟨#[114, 111, 111, 116]⟩ : ByteArray), [(⟨(⟨#[100, 111, 103]⟩ : ByteArray), (⟨#[100, 111, 103]⟩ : ByteArray), [(⟨#[110]⟩ : ByteArray)], 1, 0⟩ : S90)]⟩ : S88), (⟨(⟨#[110, 117, 109, 98, 101, 114]⟩ : ByteArray), [(⟨ByteArray.empty, ByteArray.empty, [(⟨#[115, 103]⟩ : ByteArray)], (-1), 0⟩ : S90), (⟨ByteArray.empty, (⟨#[115]⟩ : ByteArray), [(⟨#[112, 108]⟩ : ByteArray)], (-1), 2⟩ : S90)]⟩ : S88)])))])) (by kernel_rfl) (by kernel_rfl))

/-! ### 20 glosswright/glosswrightequal.TextLists -/
def f20_B1 (m : Nat) (a0 : (List ByteArray)) (a1 : (List ByteArray)) (v6 : Int) : Option (Stp Bool (Int)) :=
  cnd (decide (v6 < (a0.length : Int)))
  (bnd (idx a0 v6) fun v16 =>
  bnd (idx a1 v6) fun v17 =>
  cnd (!(v16.toList == v17.toList))
  (some (.ret false))
  (some (.nxt (w64 (v6 + 1)))))
  (some (.brk v6))
def f20 (m : Nat) (a0 : (List ByteArray)) (a1 : (List ByteArray)) : Option Bool :=
  cnd (((a0.length : Int)) != ((a1.length : Int)))
  (some false)
  (brk (iter (fun (y : Int) => f20_B1 m a0 a1 y) m 0) some fun y19 =>
  some true)
noncomputable abbrev X20 (n : Nat) : Cx := cxOf Proofs.Tryd.prog EG 20 n
noncomputable def C20 : Code := bodyOf Proofs.Tryd.prog 20
theorem ok20 (m : Nat) (a0 : (List ByteArray)) (a1 : (List ByteArray)) (o : Bool) (h : f20 m a0 a1 = some o) (n : Nat) (hn : m + 1 ≤ n) : Fn Proofs.Tryd.prog EG n 20 [.v ((eL eS) a0), .v ((eL eS) a1)] (eB o) := by
  obtain ⟨n, rfl⟩ : ∃ q, n = q + 1 := ⟨n - 1, by omega⟩
  unfold f20 at h
  refine Fn.of (by kernel_rfl) (by kernel_rfl) (by kernel_rfl) ⟨(dP eS a0) :: (dP eS a1) :: u24 [], []⟩ (by kernel_rfl) ?_
  refine Wp.seq' (by kernel_rfl) ?_
  refine Wp.region (by kernel_rfl) ?_
  refine Ops.seg' 1 1 (by kernel_rfl) ?_
  refine Ops.done (by kernel_rfl) ?_
  refine seqQ.n ?_
  refine Wp.seq' (by kernel_rfl) ?_
  refine Wp.seq' (by kernel_rfl) ?_
  refine Wp.region (by kernel_rfl) ?_
  refine Ops.seg' 1 1 (by kernel_rfl) ?_
  refine Ops.one' 2 (fun h0 e0 => (len_r (T := T) h0 36 9 .plain eS a0 (by kernel_rfl))) (by kernel_rfl) (by kernel_rfl) ?_
  refine Ops.seg' 1 3 (by kernel_rfl) ?_
  refine Ops.one' 4 (fun h0 e0 => (len_r (T := T) h0 36 9 .plain eS a1 (by kernel_rfl))) (by kernel_rfl) (by kernel_rfl) ?_
  refine Ops.seg' 1 5 (by kernel_rfl) ?_
  refine Ops.done (by kernel_rfl) ?_
  refine seqQ.n ?_
  refine Wp.cnd h [0, 1, 4] 0 (by kernel_rfl) (fun h => ?_) (fun h => ?_)
  · refine Wp.seq' (by kernel_rfl) ?_
    refine Wp.region (by kernel_rfl) ?_
    refine Ops.seg' 1 1 (by kernel_rfl) ?_
    refine Ops.done (by kernel_rfl) ?_
    refine seqQ.n ?_
    refine Wp.ret (by kernel_rfl) ?_
    refine sqQ.r ?_
    refine seqQ.r ?_
    exact fnQ.r' (X20 n) (fun z => (eB z)) h (RetOk.mk' (dB false) (by kernel_rfl) (by kernel_rfl))
  · refine Wp.skip (by kernel_rfl) ?_
    refine sqQ.n' ?_
    refine seqQ.n ?_
    refine Wp.seq' (by kernel_rfl) ?_
    refine Wp.seq' (by kernel_rfl) ?_
    refine Wp.region (by kernel_rfl) ?_
    refine Ops.seg' 1 1 (by kernel_rfl) ?_
    refine Ops.one' 2 (fun h0 e0 => (len_r (T := T) h0 36 9 .plain eS a0 (by kernel_rfl))) (by kernel_rfl) (by kernel_rfl) ?_
    refine Ops.seg' 1 3 (by kernel_rfl) ?_
    refine Ops.done (by kernel_rfl) ?_
    refine seqQ.n ?_
    refine Wp.block' 0 [4] 0 (by kernel_rfl) ?_
    have hLx18 : ∀ (kx8 : Nat) (v6 : Int)  (ox7 : Bool ⊕ (Int)), iter (fun (y : Int) => f20_B1 m a0 a1 y) kx8 v6 = some ox7 → ∀ nx9, kx8 ≤ nx9 → (∀ r, ox7 = .inl r → ∀ σ, RetOk (X20 n) (resOf Proofs.Tryd.prog 20) (eB r) σ → (seqQ (X20 n) (cR (cR (cR C20))) (fnQ (X20 n).E.T (resOf Proofs.Tryd.prog 20) (eB o))) .ret σ) → (∀ (y : Int) , ox7 = .inr y → (seqQ (X20 n) (cR (cR (cR C20))) (fnQ (X20 n).E.T (resOf Proofs.Tryd.prog 20) (eB o))) .normal ⟨(dP eS a0) :: (dP eS a1) :: q2 ((dB false) :: q7 ((dI ((a0.length : Int))) :: (dI y) :: q12 [])), []⟩) → Lp (X20 n) [0, 1, 4, 12, 13] 0 (cL (cL (cR (cL (cR (cR C20)))))) nx9 ⟨(dP eS a0) :: (dP eS a1) :: q2 ((dB false) :: q7 ((dI ((a0.length : Int))) :: (dI v6) :: q12 [])), []⟩ (blkQ (X20 n) 0 [4] 0 (seqQ (X20 n) (cR (cR (cR C20))) (fnQ (X20 n).E.T (resOf Proofs.Tryd.prog 20) (eB o)))) := by
      intro kx8
      induction kx8 with
      | zero => intro v6  ox7 h; exact (iter_zero h).elim
      | succ kx8 ihx10 =>
        intro v6  ox7 h nx9 hnx13 hrx11 hxx12
        obtain ⟨nx9, rfl⟩ : ∃ q, nx9 = q + 1 := ⟨nx9 - 1, by omega⟩
        obtain ⟨sx14, h, hsx15⟩ := iter_some h
        have h : f20_B1 m a0 a1 v6 = some sx14 := h
        unfold f20_B1 at h
        refine Lp.succ ?_
        refine Wp.seq' (by kernel_rfl) ?_
        refine Wp.region (by kernel_rfl) ?_
        refine Ops.seg' 1 1 (by kernel_rfl) ?_
        refine Ops.done (by kernel_rfl) ?_
        refine seqQ.n ?_
        refine Wp.seq' (by kernel_rfl) ?_
        refine Wp.cnd h [0, 1, 4, 12, 13] 0 (by kernel_rfl) (fun h => ?_) (fun h => ?_)
        · refine Wp.skip (by kernel_rfl) ?_
          refine sqQ.n' ?_
          refine seqQ.n ?_
          refine Wp.seq' (by kernel_rfl) ?_
          refine Wp.block' 1 [0, 1, 4, 12, 13] 0 (by kernel_rfl) ?_
          refine Wp.seq' (by kernel_rfl) ?_
          refine Wp.region (by kernel_rfl) ?_
          refine Ops.seg' 2 2 (by kernel_rfl) ?_
          refine Ops.done (by kernel_rfl) ?_
          refine seqQ.n ?_
          refine Wp.seq' (by kernel_rfl) ?_
          refine Wp.region (by kernel_rfl) ?_
          refine Ops.seg' 2 2 (by kernel_rfl) ?_
          obtain ⟨v16, ev16, h⟩ := bnd_some h
          refine Ops.one' 3 (fun h0 e0 => (ix_r (T := T) h0 36 9 1 .plain eS a0 v6 v16 ev16 (by kernel_rfl) (by kernel_rfl) (fun _ => rfl))) (by kernel_rfl) (by kernel_rfl) ?_
          refine Ops.seg' 3 6 (by kernel_rfl) ?_
          obtain ⟨v17, ev17, h⟩ := bnd_some h
          refine Ops.one' 7 (fun h0 e0 => (ix_r (T := T) h0 36 9 1 .plain eS a1 v6 v17 ev17 (by kernel_rfl) (by kernel_rfl) (fun _ => rfl))) (by kernel_rfl) (by kernel_rfl) ?_
          refine Ops.seg' 2 9 (by kernel_rfl) ?_
          refine Ops.done (by kernel_rfl) ?_
          refine seqQ.n ?_
          refine Wp.cnd h [0, 1, 4, 12, 13] 0 (by kernel_rfl) (fun h => ?_) (fun h => ?_)
          · refine Wp.seq' (by kernel_rfl) ?_
            refine Wp.region (by kernel_rfl) ?_
            refine Ops.seg' 1 1 (by kernel_rfl) ?_
            refine Ops.done (by kernel_rfl) ?_
            refine seqQ.n ?_
            refine Wp.ret (by kernel_rfl) ?_
            refine sqQ.r ?_
            refine blkQ.r ?_
            refine seqQ.r ?_
            cases h
            refine lpQ.r ?_
            refine blkQ.r ?_
            exact hrx11 _ hsx15 _ (RetOk.forget [0, 1, 4, 12, 13] (by kernel_rfl) (RetOk.mk' (dB false) (by kernel_rfl) (by kernel_rfl)))
          · refine Wp.skip (by kernel_rfl) ?_
            refine sqQ.n' ?_
            refine blkQ.n' ?_
            refine seqQ.n ?_
            refine Wp.region (by kernel_rfl) ?_
            refine Ops.seg' 2 2 (by kernel_rfl) ?_
            refine Ops.done (by kernel_rfl) ?_
            refine lpQ.n ⟨(dP eS a0) :: (dP eS a1) :: q2 ((dB false) :: q7 ((dI ((a0.length : Int))) :: (dI (w64 (v6 + 1))) :: q12 [])), []⟩ (by kernel_rfl) ?_
            cases h
            exact ihx10 (w64 (v6 + 1))  _ hsx15 _ (by omega) hrx11 hxx12
        · refine Wp.exit (id := 0) (by kernel_rfl) ?_
          refine sqQ.x ?_
          refine seqQ.x ?_
          cases h
          refine lpQ.x ?_
          refine blkQ.x ⟨(dP eS a0) :: (dP eS a1) :: q2 ((dB false) :: q7 ((dI ((a0.length : Int))) :: (dI v6) :: q12 [])), []⟩ (by kernel_rfl) ?_
          exact hxx12 v6  hsx15
    refine Wp.loop' [0, 1, 4, 12, 13] 0 (by kernel_rfl) ⟨(dP eS a0) :: (dP eS a1) :: q2 ((dB false) :: q7 ((dI ((a0.length : Int))) :: (dI 0) :: q12 [])), []⟩ (by kernel_rfl) ?_
    rcases brk_some h with ⟨r20, er20, h⟩ | ⟨y19, ey19, h⟩
    · refine hLx18 _ 0  _ er20 n (by omega) (fun r er σ hσ => ?_) (fun y  ey => by cases ey)
      cases er
      refine seqQ.r ?_
      exact fnQ.r' (X20 n) (fun z => (eB z)) h hσ
    · refine hLx18 _ 0  _ ey19 n (by omega) (fun r er => by cases er) (fun y  ey => ?_)
      cases ey
      refine seqQ.n ?_
      refine Wp.seq' (by kernel_rfl) ?_
      refine Wp.region (by kernel_rfl) ?_
      refine Ops.seg' 1 1 (by kernel_rfl) ?_
      refine Ops.done (by kernel_rfl) ?_
      refine seqQ.n ?_
      refine Wp.ret (by kernel_rfl) ?_
      exact fnQ.r' (X20 n) (fun z => (eB z)) h (RetOk.mk' (dB true) (by kernel_rfl) (by kernel_rfl))

/-! ### 30 glosswright/glosswrightequal.Entries -/
def f30_r1 (m : Nat) (v118 : Int) (v177 : Bool) : Option (Stp Bool (Int)) :=
  cnd v177
  (some (.ret false))
  (some (.nxt (w64 (v118 + 1))))
def f30_r2 (m : Nat) (a0 : (List S61)) (a1 : (List S61)) (v118 : Int) (v160 : Bool) : Option (Stp Bool (Int)) :=
  bnd (cnd v160
  (some true)
  (bnd (idx a0 v118) fun v179 =>
  bnd (idx a1 v118) fun v180 =>
  bnd (f20 m v179.fTags v180.fTags) fun v181 =>
  some (!v181))) fun v177 =>
  f30_r1 m v118 v177
def f30_r3 (m : Nat) (a0 : (List S61)) (a1 : (List S61)) (v118 : Int) (v144 : Bool) : Option (Stp Bool (Int)) :=
  bnd (cnd v144
  (some true)
  (bnd (idx a0 v118) fun v182 =>
  bnd (idx a1 v118) fun v183 =>
  some (v182.fWeight != v183.fWeight))) fun v160 =>
  f30_r2 m a0 a1 v118 v160
def f30_B4 (m : Nat) (a0 : (List S61)) (a1 : (List S61)) (v118 : Int) : Option (Stp Bool (Int)) :=
  cnd (decide (v118 < (a0.length : Int)))
  (bnd (idx a0 v118) fun v128 =>
  bnd (idx a1 v118) fun v129 =>
  bnd (cnd (!(v128.fBase.toList == v129.fBase.toList))
  (some true)
  (bnd (idx a0 v118) fun v184 =>
  bnd (idx a1 v118) fun v185 =>
  some (!(v184.fForm.toList == v185.fForm.toList)))) fun v144 =>
  f30_r3 m a0 a1 v118 v144)
  (some (.brk v118))
def f30 (m : Nat) (a0 : (List S61)) (a1 : (List S61)) : Option Bool :=
  cnd (((a0.length : Int)) != ((a1.length : Int)))
  (some false)
  (brk (iter (fun (y : Int) => f30_B4 m a0 a1 y) m 0) some fun y187 =>
  some true)
noncomputable abbrev X30 (n : Nat) : Cx := cxOf Proofs.Tryd.prog EG 30 n
noncomputable def C30 : Code := bodyOf Proofs.Tryd.prog 30
theorem f30_hLx186 (m : Nat) (a0 : (List S61)) (a1 : (List S61)) (o : Bool) (n : Nat) (hn : m + 2 ≤ n + 1)  : ∀ (kx120 : Nat) (v118 : Int)  (ox119 : Bool ⊕ (Int)), iter (fun (y : Int) => f30_B4 m a0 a1 y) kx120 v118 = some ox119 → ∀ nx121, kx120 ≤ nx121 → (∀ r, ox119 = .inl r → ∀ σ, RetOk (X30 n) (resOf Proofs.Tryd.prog 30) (eB r) σ → (seqQ (X30 n) (cR (cR (cR C30))) (fnQ (X30 n).E.T (resOf Proofs.Tryd.prog 30) (eB o))) .ret σ) → (∀ (y : Int) , ox119 = .inr y → (seqQ (X30 n) (cR (cR (cR C30))) (fnQ (X30 n).E.T (resOf Proofs.Tryd.prog 30) (eB o))) .normal ⟨(dP e61 a0) :: (dP e61 a1) :: q2 ((dB false) :: q7 ((dI ((a0.length : Int))) :: (dI y) :: q40 (q14 []))), []⟩) → Lp (X30 n) [0, 1, 4, 12, 13] 0 (cL (cL (cR (cL (cR (cR C30)))))) nx121 ⟨(dP e61 a0) :: (dP e61 a1) :: q2 ((dB false) :: q7 ((dI ((a0.length : Int))) :: (dI v118) :: q40 (q14 []))), []⟩ (blkQ (X30 n) 0 [4] 0 (seqQ (X30 n) (cR (cR (cR C30))) (fnQ (X30 n).E.T (resOf Proofs.Tryd.prog 30) (eB o)))) := by
  intro kx120
  induction kx120 with
  | zero => intro v118  ox119 h; exact (iter_zero h).elim
  | succ kx120 ihx122 =>
    intro v118  ox119 h nx121 hnx125 hrx123 hxx124
    obtain ⟨nx121, rfl⟩ : ∃ q, nx121 = q + 1 := ⟨nx121 - 1, by omega⟩
    obtain ⟨sx126, h, hsx127⟩ := iter_some h
    have h : f30_B4 m a0 a1 v118 = some sx126 := h
    unfold f30_B4 at h
    refine Lp.succ ?_
    refine Wp.seq' (by kernel_rfl) ?_
    refine Wp.region (by kernel_rfl) ?_
    refine Ops.seg' 1 1 (by kernel_rfl) ?_
    refine Ops.done (by kernel_rfl) ?_
    refine seqQ.n ?_
    refine Wp.seq' (by kernel_rfl) ?_
    refine Wp.cnd h [0, 1, 4, 12, 13] 0 (by kernel_rfl) (fun h => ?_) (fun h => ?_)
    · refine Wp.skip (by kernel_rfl) ?_
      refine sqQ.n' ?_
      refine seqQ.n ?_
      refine Wp.seq' (by kernel_rfl) ?_
      refine Wp.block' 1 [0, 1, 4, 12, 13] 0 (by kernel_rfl) ?_
      refine Wp.seq' (by kernel_rfl) ?_
      refine Wp.region (by kernel_rfl) ?_
      refine Ops.seg' 2 2 (by kernel_rfl) ?_
      refine Ops.done (by kernel_rfl) ?_
      refine seqQ.n ?_
      refine Wp.seq' (by kernel_rfl) ?_
      refine Wp.region (by kernel_rfl) ?_
      refine Ops.seg' 2 2 (by kernel_rfl) ?_
      obtain ⟨v128, ev128, h⟩ := bnd_some h
      refine Ops.one' 3 (fun h0 e0 => (ix_r (T := T) h0 53 62 4 .plain e61 a0 v118 v128 ev128 (by kernel_rfl) (by kernel_rfl) (fun _ => rfl))) (by kernel_rfl) (by kernel_rfl) ?_
      refine Ops.seg' 4 7 (by kernel_rfl) ?_
      obtain ⟨v129, ev129, h⟩ := bnd_some h
      refine Ops.one' 8 (fun h0 e0 => (ix_r (T := T) h0 53 62 4 .plain e61 a1 v118 v129 ev129 (by kernel_rfl) (by kernel_rfl) (fun _ => rfl))) (by kernel_rfl) (by kernel_rfl) ?_
      refine Ops.seg' 4 12 (by kernel_rfl) ?_
      have J30j145 : ∀ (d132 d133 d134 d135 d136 d137 d138 d139 d140 d141 d142 : D) (v143 : Bool) (v144 : Bool), f30_r3 m a0 a1 v118 v144 = some sx126 → Ops (X30 n) (opl (cL (cR (cL (cL (cR (cR (cL (cL (cR (cL (cR (cR C30))))))))))))) 24 ⟨(dP e61 a0) :: (dP e61 a1) :: q2 ((dB false) :: (dI v118) :: q6 ((dI ((a0.length : Int))) :: (dI v118) :: (dB (decide (v118 < (a0.length : Int)))) :: (dI v118) :: (dP e61 a0) :: (dI v118) :: (.vptr [(.str v128.fBase), (.str v128.fForm), (vP eS v128.fTags), (vI v128.fWeight)]) :: (.vptr [(.str v128.fBase), (.str v128.fForm), (vP eS v128.fTags), (vI v128.fWeight)]) :: (.v (.str v128.fBase)) :: (dP e61 a1) :: (dI v118) :: (.vptr [(.str v129.fBase), (.str v129.fForm), (vP eS v129.fTags), (vI v129.fWeight)]) :: (.vptr [(.str v129.fBase), (.str v129.fForm), (vP eS v129.fTags), (vI v129.fWeight)]) :: (.v (.str v129.fBase)) :: (dB v143) :: (dB v143) :: d132 :: d133 :: d134 :: d135 :: d136 :: d137 :: d138 :: d139 :: d140 :: d141 :: d142 :: (dB v144) :: q28 [])), []⟩ ((seqQ (X30 n) (cR (cR (cL (cL (cR (cR (cL (cL (cR (cL (cR (cR C30)))))))))))) (blkQ (X30 n) 1 [0, 1, 4, 12, 13] 0 (seqQ (X30 n) (cR (cR (cR (cL (cL (cR (cL (cR (cR C30))))))))) (lpQ (X30 n) [0, 1, 4, 12, 13] 0 (cL (cL (cR (cL (cR (cR C30)))))) nx121 (blkQ (X30 n) 0 [4] 0 (seqQ (X30 n) (cR (cR (cR C30))) (fnQ (X30 n).E.T (resOf Proofs.Tryd.prog 30) (eB o)))))))) .normal) := by
        intro d132 d133 d134 d135 d136 d137 d138 d139 d140 d141 d142 v143 v144 h
        unfold f30_r3 at h
        refine Ops.seg' 1 25 (by kernel_rfl) ?_
        have J30j161 : ∀ (d148 d149 d150 d151 d152 d153 d154 d155 d156 d157 d158 : D) (v159 : Bool) (v160 : Bool), f30_r2 m a0 a1 v118 v160 = some sx126 → Ops (X30 n) (opl (cL (cR (cL (cL (cR (cR (cL (cL (cR (cL (cR (cR C30))))))))))))) 37 ⟨(dP e61 a0) :: (dP e61 a1) :: q2 ((dB false) :: (dI v118) :: q6 ((dI ((a0.length : Int))) :: (dI v118) :: (dB (decide (v118 < (a0.length : Int)))) :: (dI v118) :: (dP e61 a0) :: (dI v118) :: (.vptr [(.str v128.fBase), (.str v128.fForm), (vP eS v128.fTags), (vI v128.fWeight)]) :: (.vptr [(.str v128.fBase), (.str v128.fForm), (vP eS v128.fTags), (vI v128.fWeight)]) :: (.v (.str v128.fBase)) :: (dP e61 a1) :: (dI v118) :: (.vptr [(.str v129.fBase), (.str v129.fForm), (vP eS v129.fTags), (vI v129.fWeight)]) :: (.vptr [(.str v129.fBase), (.str v129.fForm), (vP eS v129.fTags), (vI v129.fWeight)]) :: (.v (.str v129.fBase)) :: (dB v143) :: (dB v143) :: d132 :: d133 :: d134 :: d135 :: d136 :: d137 :: d138 :: d139 :: d140 :: d141 :: d142 :: (dB v159) :: (dB v159) :: d148 :: d149 :: d150 :: d151 :: d152 :: d153 :: d154 :: d155 :: d156 :: d157 :: d158 :: (dB v160) :: q15 [])), []⟩ ((seqQ (X30 n) (cR (cR (cL (cL (cR (cR (cL (cL (cR (cL (cR (cR C30)))))))))))) (blkQ (X30 n) 1 [0, 1, 4, 12, 13] 0 (seqQ (X30 n) (cR (cR (cR (cL (cL (cR (cL (cR (cR C30))))))))) (lpQ (X30 n) [0, 1, 4, 12, 13] 0 (cL (cL (cR (cL (cR (cR C30)))))) nx121 (blkQ (X30 n) 0 [4] 0 (seqQ (X30 n) (cR (cR (cR C30))) (fnQ (X30 n).E.T (resOf Proofs.Tryd.prog 30) (eB o)))))))) .normal) := by
          intro d148 d149 d150 d151 d152 d153 d154 d155 d156 d157 d158 v159 v160 h
          unfold f30_r2 at h
          refine Ops.seg' 1 38 (by kernel_rfl) ?_
          have J30j178 : ∀ (d164 d165 d166 d167 d168 d169 d170 d171 d172 d173 d174 d175 : D) (v176 : Bool) (v177 : Bool), f30_r1 m v118 v177 = some sx126 → Ops (X30 n) (opl (cL (cR (cL (cL (cR (cR (cL (cL (cR (cL (cR (cR C30))))))))))))) 51 ⟨(dP e61 a0) :: (dP e61 a1) :: q2 ((dB false) :: (dI v118) :: q6 ((dI ((a0.length : Int))) :: (dI v118) :: (dB (decide (v118 < (a0.length : Int)))) :: (dI v118) :: (dP e61 a0) :: (dI v118) :: (.vptr [(.str v128.fBase), (.str v128.fForm), (vP eS v128.fTags), (vI v128.fWeight)]) :: (.vptr [(.str v128.fBase), (.str v128.fForm), (vP eS v128.fTags), (vI v128.fWeight)]) :: (.v (.str v128.fBase)) :: (dP e61 a1) :: (dI v118) :: (.vptr [(.str v129.fBase), (.str v129.fForm), (vP eS v129.fTags), (vI v129.fWeight)]) :: (.vptr [(.str v129.fBase), (.str v129.fForm), (vP eS v129.fTags), (vI v129.fWeight)]) :: (.v (.str v129.fBase)) :: (dB v143) :: (dB v143) :: d132 :: d133 :: d134 :: d135 :: d136 :: d137 :: d138 :: d139 :: d140 :: d141 :: d142 :: (dB v159) :: (dB v159) :: d148 :: d149 :: d150 :: d151 :: d152 :: d153 :: d154 :: d155 :: d156 :: d157 :: d158 :: (dB v176) :: (dB v176) :: d164 :: d165 :: d166 :: d167 :: d168 :: d169 :: d170 :: d171 :: d172 :: d173 :: d174 :: d175 :: (dB v177) :: q1 [])), []⟩ ((seqQ (X30 n) (cR (cR (cL (cL (cR (cR (cL (cL (cR (cL (cR (cR C30)))))))))))) (blkQ (X30 n) 1 [0, 1, 4, 12, 13] 0 (seqQ (X30 n) (cR (cR (cR (cL (cL (cR (cL (cR (cR C30))))))))) (lpQ (X30 n) [0, 1, 4, 12, 13] 0 (cL (cL (cR (cL (cR (cR C30)))))) nx121 (blkQ (X30 n) 0 [4] 0 (seqQ (X30 n) (cR (cR (cR C30))) (fnQ (X30 n).E.T (resOf Proofs.Tryd.prog 30) (eB o)))))))) .normal) := by
            intro d164 d165 d166 d167 d168 d169 d170 d171 d172 d173 d174 d175 v176 v177 h
            unfold f30_r1 at h
            refine Ops.done (by kernel_rfl) ?_
            refine seqQ.n ?_
            refine Wp.cnd h [0, 1, 4, 12, 13] 0 (by kernel_rfl) (fun h => ?_) (fun h => ?_)
            · refine Wp.seq' (by kernel_rfl) ?_
              refine Wp.region (by kernel_rfl) ?_
              refine Ops.seg' 1 1 (by kernel_rfl) ?_
              refine Ops.done (by kernel_rfl) ?_
              refine seqQ.n ?_
              refine Wp.ret (by kernel_rfl) ?_
              refine sqQ.r ?_
              refine blkQ.r ?_
              refine seqQ.r ?_
              cases h
              refine lpQ.r ?_
              refine blkQ.r ?_
              exact hrx123 _ hsx127 _ (RetOk.forget [0, 1, 4, 12, 13] (by kernel_rfl) (RetOk.mk' (dB false) (by kernel_rfl) (by kernel_rfl)))
            · refine Wp.skip (by kernel_rfl) ?_
              refine sqQ.n' ?_
              refine blkQ.n' ?_
              refine seqQ.n ?_
              refine Wp.region (by kernel_rfl) ?_
              refine Ops.seg' 2 2 (by kernel_rfl) ?_
              refine Ops.done (by kernel_rfl) ?_
              refine lpQ.n ⟨(dP e61 a0) :: (dP e61 a1) :: q2 ((dB false) :: q7 ((dI ((a0.length : Int))) :: (dI (w64 (v118 + 1))) :: q40 (q14 []))), []⟩ (by kernel_rfl) ?_
              cases h
              exact ihx122 (w64 (v118 + 1))  _ hsx127 _ (by omega) hrx123 hxx124
          obtain ⟨v177, ev177, h⟩ := bnd_some h
          have G30g163 : ∀ v162 : Bool, (cnd v162 (some true) (bnd (idx a0 v118) fun v179 => bnd (idx a1 v118) fun v180 => bnd (f20 m v179.fTags v180.fTags) fun v181 => some (!v181))) = some v177 → Ops (X30 n) (opl (cL (cR (cL (cL (cR (cR (cL (cL (cR (cL (cR (cR C30))))))))))))) 38 ⟨(dP e61 a0) :: (dP e61 a1) :: q2 ((dB false) :: (dI v118) :: q6 ((dI ((a0.length : Int))) :: (dI v118) :: (dB (decide (v118 < (a0.length : Int)))) :: (dI v118) :: (dP e61 a0) :: (dI v118) :: (.vptr [(.str v128.fBase), (.str v128.fForm), (vP eS v128.fTags), (vI v128.fWeight)]) :: (.vptr [(.str v128.fBase), (.str v128.fForm), (vP eS v128.fTags), (vI v128.fWeight)]) :: (.v (.str v128.fBase)) :: (dP e61 a1) :: (dI v118) :: (.vptr [(.str v129.fBase), (.str v129.fForm), (vP eS v129.fTags), (vI v129.fWeight)]) :: (.vptr [(.str v129.fBase), (.str v129.fForm), (vP eS v129.fTags), (vI v129.fWeight)]) :: (.v (.str v129.fBase)) :: (dB v143) :: (dB v143) :: d132 :: d133 :: d134 :: d135 :: d136 :: d137 :: d138 :: d139 :: d140 :: d141 :: d142 :: (dB v159) :: (dB v159) :: d148 :: d149 :: d150 :: d151 :: d152 :: d153 :: d154 :: d155 :: d156 :: d157 :: d158 :: (dB v162) :: (dB v162) :: q14 [])), []⟩ ((seqQ (X30 n) (cR (cR (cL (cL (cR (cR (cL (cL (cR (cL (cR (cR C30)))))))))))) (blkQ (X30 n) 1 [0, 1, 4, 12, 13] 0 (seqQ (X30 n) (cR (cR (cR (cL (cL (cR (cL (cR (cR C30))))))))) (lpQ (X30 n) [0, 1, 4, 12, 13] 0 (cL (cL (cR (cL (cR (cR C30)))))) nx121 (blkQ (X30 n) 0 [4] 0 (seqQ (X30 n) (cR (cR (cR C30))) (fnQ (X30 n).E.T (resOf Proofs.Tryd.prog 30) (eB o)))))))) .normal) := by
            intro v162 ev177
            cases v162
            · have ev177 := cnd_f ev177
              refine Ops.seg' 2 40 (by kernel_rfl) ?_
              obtain ⟨v179, ev179, ev177⟩ := bnd_some ev177
              refine Ops.one' 41 (fun h0 e0 => (ix_r (T := T) h0 53 62 4 .plain e61 a0 v118 v179 ev179 (by kernel_rfl) (by kernel_rfl) (fun _ => rfl))) (by kernel_rfl) (by kernel_rfl) ?_
              refine Ops.seg' 4 45 (by kernel_rfl) ?_
              obtain ⟨v180, ev180, ev177⟩ := bnd_some ev177
              refine Ops.one' 46 (fun h0 e0 => (ix_r (T := T) h0 53 62 4 .plain e61 a1 v118 v180 ev180 (by kernel_rfl) (by kernel_rfl) (fun _ => rfl))) (by kernel_rfl) (by kernel_rfl) ?_
              refine Ops.seg' 2 48 (by kernel_rfl) ?_
              obtain ⟨v181, ev181, ev177⟩ := bnd_some ev177
              refine Ops.one' 49 (fun h0 e0 => (call_ok (E' := EG) (h := h0) (by kernel_rfl) (Args.v (vP eS v179.fTags) ((eL eS) v179.fTags) (by kernel_rfl) (Args.v (vP eS v180.fTags) ((eL eS) v180.fTags) (by kernel_rfl) Args.nil)) (ok20 m v179.fTags v180.fTags v181 ev181 n (by omega)))) (by kernel_rfl) (by kernel_rfl) ?_
              refine Ops.seg' 2 51 (by kernel_rfl) ?_
              refine Ops.st ⟨(dP e61 a0) :: (dP e61 a1) :: q2 ((dB false) :: (dI v118) :: q6 ((dI ((a0.length : Int))) :: (dI v118) :: (dB (decide (v118 < (a0.length : Int)))) :: (dI v118) :: (dP e61 a0) :: (dI v118) :: (.vptr [(.str v128.fBase), (.str v128.fForm), (vP eS v128.fTags), (vI v128.fWeight)]) :: (.vptr [(.str v128.fBase), (.str v128.fForm), (vP eS v128.fTags), (vI v128.fWeight)]) :: (.v (.str v128.fBase)) :: (dP e61 a1) :: (dI v118) :: (.vptr [(.str v129.fBase), (.str v129.fForm), (vP eS v129.fTags), (vI v129.fWeight)]) :: (.vptr [(.str v129.fBase), (.str v129.fForm), (vP eS v129.fTags), (vI v129.fWeight)]) :: (.v (.str v129.fBase)) :: (dB v143) :: (dB v143) :: d132 :: d133 :: d134 :: d135 :: d136 :: d137 :: d138 :: d139 :: d140 :: d141 :: d142 :: (dB v159) :: (dB v159) :: d148 :: d149 :: d150 :: d151 :: d152 :: d153 :: d154 :: d155 :: d156 :: d157 :: d158 :: (dB false) :: (dB false) :: (dP e61 a0) :: (dI v118) :: (.vptr [(.str v179.fBase), (.str v179.fForm), (vP eS v179.fTags), (vI v179.fWeight)]) :: (.vptr [(vP eS v179.fTags), (vI v179.fWeight)]) :: (dP eS v179.fTags) :: (dP e61 a1) :: (dI v118) :: (.vptr [(.str v180.fBase), (.str v180.fForm), (vP eS v180.fTags), (vI v180.fWeight)]) :: (.vptr [(vP eS v180.fTags), (vI v180.fWeight)]) :: (dP eS v180.fTags) :: (dB v181) :: (dB (!v181)) :: (dB (!v181)) :: q1 [])), []⟩ (by kernel_rfl) ?_
              exact J30j178 _ _ _ _ _ _ _ _ _ _ _ _ _ _ (some_sub (fun v177 => f30_r1 m v118 v177 = some sx126) ev177 h)
            · have ev177 := cnd_t ev177
              refine Ops.seg' 13 51 (by kernel_rfl) ?_
              refine Ops.st ⟨(dP e61 a0) :: (dP e61 a1) :: q2 ((dB false) :: (dI v118) :: q6 ((dI ((a0.length : Int))) :: (dI v118) :: (dB (decide (v118 < (a0.length : Int)))) :: (dI v118) :: (dP e61 a0) :: (dI v118) :: (.vptr [(.str v128.fBase), (.str v128.fForm), (vP eS v128.fTags), (vI v128.fWeight)]) :: (.vptr [(.str v128.fBase), (.str v128.fForm), (vP eS v128.fTags), (vI v128.fWeight)]) :: (.v (.str v128.fBase)) :: (dP e61 a1) :: (dI v118) :: (.vptr [(.str v129.fBase), (.str v129.fForm), (vP eS v129.fTags), (vI v129.fWeight)]) :: (.vptr [(.str v129.fBase), (.str v129.fForm), (vP eS v129.fTags), (vI v129.fWeight)]) :: (.v (.str v129.fBase)) :: (dB v143) :: (dB v143) :: d132 :: d133 :: d134 :: d135 :: d136 :: d137 :: d138 :: d139 :: d140 :: d141 :: d142 :: (dB v159) :: (dB v159) :: d148 :: d149 :: d150 :: d151 :: d152 :: d153 :: d154 :: d155 :: d156 :: d157 :: d158 :: (dB true) :: (dB true) :: u12 ((dB true) :: q1 []))), []⟩ (by kernel_rfl) ?_
              exact J30j178 _ _ _ _ _ _ _ _ _ _ _ _ _ _ (some_sub (fun v177 => f30_r1 m v118 v177 = some sx126) ev177 h)
          exact Ops.st ⟨(dP e61 a0) :: (dP e61 a1) :: q2 ((dB false) :: (dI v118) :: q6 ((dI ((a0.length : Int))) :: (dI v118) :: (dB (decide (v118 < (a0.length : Int)))) :: (dI v118) :: (dP e61 a0) :: (dI v118) :: (.vptr [(.str v128.fBase), (.str v128.fForm), (vP eS v128.fTags), (vI v128.fWeight)]) :: (.vptr [(.str v128.fBase), (.str v128.fForm), (vP eS v128.fTags), (vI v128.fWeight)]) :: (.v (.str v128.fBase)) :: (dP e61 a1) :: (dI v118) :: (.vptr [(.str v129.fBase), (.str v129.fForm), (vP eS v129.fTags), (vI v129.fWeight)]) :: (.vptr [(.str v129.fBase), (.str v129.fForm), (vP eS v129.fTags), (vI v129.fWeight)]) :: (.v (.str v129.fBase)) :: (dB v143) :: (dB v143) :: d132 :: d133 :: d134 :: d135 :: d136 :: d137 :: d138 :: d139 :: d140 :: d141 :: d142 :: (dB v159) :: (dB v159) :: d148 :: d149 :: d150 :: d151 :: d152 :: d153 :: d154 :: d155 :: d156 :: d157 :: d158 :: (dB v160) :: (dB v160) :: q14 [])), []⟩ (by kernel_rfl) (G30g163 v160 ev177)
        obtain ⟨v160, ev160, h⟩ := bnd_some h
        have G30g147 : ∀ v146 : Bool, (cnd v146 (some true) (bnd (idx a0 v118) fun v182 => bnd (idx a1 v118) fun v183 => some (v182.fWeight != v183.fWeight))) = some v160 → Ops (X30 n) (opl (cL (cR (cL (cL (cR (cR (cL (cL (cR (cL (cR (cR C30))))))))))))) 25 ⟨(dP e61 a0) :: (dP e61 a1) :: q2 ((dB false) :: (dI v118) :: q6 ((dI ((a0.length : Int))) :: (dI v118) :: (dB (decide (v118 < (a0.length : Int)))) :: (dI v118) :: (dP e61 a0) :: (dI v118) :: (.vptr [(.str v128.fBase), (.str v128.fForm), (vP eS v128.fTags), (vI v128.fWeight)]) :: (.vptr [(.str v128.fBase), (.str v128.fForm), (vP eS v128.fTags), (vI v128.fWeight)]) :: (.v (.str v128.fBase)) :: (dP e61 a1) :: (dI v118) :: (.vptr [(.str v129.fBase), (.str v129.fForm), (vP eS v129.fTags), (vI v129.fWeight)]) :: (.vptr [(.str v129.fBase), (.str v129.fForm), (vP eS v129.fTags), (vI v129.fWeight)]) :: (.v (.str v129.fBase)) :: (dB v143) :: (dB v143) :: d132 :: d133 :: d134 :: d135 :: d136 :: d137 :: d138 :: d139 :: d140 :: d141 :: d142 :: (dB v146) :: (dB v146) :: q27 [])), []⟩ ((seqQ (X30 n) (cR (cR (cL (cL (cR (cR (cL (cL (cR (cL (cR (cR C30)))))))))))) (blkQ (X30 n) 1 [0, 1, 4, 12, 13] 0 (seqQ (X30 n) (cR (cR (cR (cL (cL (cR (cL (cR (cR C30))))))))) (lpQ (X30 n) [0, 1, 4, 12, 13] 0 (cL (cL (cR (cL (cR (cR C30)))))) nx121 (blkQ (X30 n) 0 [4] 0 (seqQ (X30 n) (cR (cR (cR C30))) (fnQ (X30 n).E.T (resOf Proofs.Tryd.prog 30) (eB o)))))))) .normal) := by
          intro v146 ev160
          cases v146
          · have ev160 := cnd_f ev160
            refine Ops.seg' 2 27 (by kernel_rfl) ?_
            obtain ⟨v182, ev182, ev160⟩ := bnd_some ev160
            refine Ops.one' 28 (fun h0 e0 => (ix_r (T := T) h0 53 62 4 .plain e61 a0 v118 v182 ev182 (by kernel_rfl) (by kernel_rfl) (fun _ => rfl))) (by kernel_rfl) (by kernel_rfl) ?_
            refine Ops.seg' 4 32 (by kernel_rfl) ?_
            obtain ⟨v183, ev183, ev160⟩ := bnd_some ev160
            refine Ops.one' 33 (fun h0 e0 => (ix_r (T := T) h0 53 62 4 .plain e61 a1 v118 v183 ev183 (by kernel_rfl) (by kernel_rfl) (fun _ => rfl))) (by kernel_rfl) (by kernel_rfl) ?_
            refine Ops.seg' 4 37 (by kernel_rfl) ?_
            refine Ops.st ⟨(dP e61 a0) :: (dP e61 a1) :: q2 ((dB false) :: (dI v118) :: q6 ((dI ((a0.length : Int))) :: (dI v118) :: (dB (decide (v118 < (a0.length : Int)))) :: (dI v118) :: (dP e61 a0) :: (dI v118) :: (.vptr [(.str v128.fBase), (.str v128.fForm), (vP eS v128.fTags), (vI v128.fWeight)]) :: (.vptr [(.str v128.fBase), (.str v128.fForm), (vP eS v128.fTags), (vI v128.fWeight)]) :: (.v (.str v128.fBase)) :: (dP e61 a1) :: (dI v118) :: (.vptr [(.str v129.fBase), (.str v129.fForm), (vP eS v129.fTags), (vI v129.fWeight)]) :: (.vptr [(.str v129.fBase), (.str v129.fForm), (vP eS v129.fTags), (vI v129.fWeight)]) :: (.v (.str v129.fBase)) :: (dB v143) :: (dB v143) :: d132 :: d133 :: d134 :: d135 :: d136 :: d137 :: d138 :: d139 :: d140 :: d141 :: d142 :: (dB false) :: (dB false) :: (dP e61 a0) :: (dI v118) :: (.vptr [(.str v182.fBase), (.str v182.fForm), (vP eS v182.fTags), (vI v182.fWeight)]) :: (.vptr [(vI v182.fWeight)]) :: (dI v182.fWeight) :: (dP e61 a1) :: (dI v118) :: (.vptr [(.str v183.fBase), (.str v183.fForm), (vP eS v183.fTags), (vI v183.fWeight)]) :: (.vptr [(vI v183.fWeight)]) :: (dI v183.fWeight) :: (dB (v182.fWeight != v183.fWeight)) :: (dB (v182.fWeight != v183.fWeight)) :: q15 [])), []⟩ (by kernel_rfl) ?_
            exact J30j161 _ _ _ _ _ _ _ _ _ _ _ _ _ (some_sub (fun v160 => f30_r2 m a0 a1 v118 v160 = some sx126) ev160 h)
          · have ev160 := cnd_t ev160
            refine Ops.seg' 12 37 (by kernel_rfl) ?_
            refine Ops.st ⟨(dP e61 a0) :: (dP e61 a1) :: q2 ((dB false) :: (dI v118) :: q6 ((dI ((a0.length : Int))) :: (dI v118) :: (dB (decide (v118 < (a0.length : Int)))) :: (dI v118) :: (dP e61 a0) :: (dI v118) :: (.vptr [(.str v128.fBase), (.str v128.fForm), (vP eS v128.fTags), (vI v128.fWeight)]) :: (.vptr [(.str v128.fBase), (.str v128.fForm), (vP eS v128.fTags), (vI v128.fWeight)]) :: (.v (.str v128.fBase)) :: (dP e61 a1) :: (dI v118) :: (.vptr [(.str v129.fBase), (.str v129.fForm), (vP eS v129.fTags), (vI v129.fWeight)]) :: (.vptr [(.str v129.fBase), (.str v129.fForm), (vP eS v129.fTags), (vI v129.fWeight)]) :: (.v (.str v129.fBase)) :: (dB v143) :: (dB v143) :: d132 :: d133 :: d134 :: d135 :: d136 :: d137 :: d138 :: d139 :: d140 :: d141 :: d142 :: (dB true) :: (dB true) :: u11 ((dB true) :: q15 []))), []⟩ (by kernel_rfl) ?_
            exact J30j161 _ _ _ _ _ _ _ _ _ _ _ _ _ (some_sub (fun v160 => f30_r2 m a0 a1 v118 v160 = some sx126) ev160 h)
        exact Ops.st ⟨(dP e61 a0) :: (dP e61 a1) :: q2 ((dB false) :: (dI v118) :: q6 ((dI ((a0.length : Int))) :: (dI v118) :: (dB (decide (v118 < (a0.length : Int)))) :: (dI v118) :: (dP e61 a0) :: (dI v118) :: (.vptr [(.str v128.fBase), (.str v128.fForm), (vP eS v128.fTags), (vI v128.fWeight)]) :: (.vptr [(.str v128.fBase), (.str v128.fForm), (vP eS v128.fTags), (vI v128.fWeight)]) :: (.v (.str v128.fBase)) :: (dP e61 a1) :: (dI v118) :: (.vptr [(.str v129.fBase), (.str v129.fForm), (vP eS v129.fTags), (vI v129.fWeight)]) :: (.vptr [(.str v129.fBase), (.str v129.fForm), (vP eS v129.fTags), (vI v129.fWeight)]) :: (.v (.str v129.fBase)) :: (dB v143) :: (dB v143) :: d132 :: d133 :: d134 :: d135 :: d136 :: d137 :: d138 :: d139 :: d140 :: d141 :: d142 :: (dB v144) :: (dB v144) :: q27 [])), []⟩ (by kernel_rfl) (G30g147 v144 ev160)
      obtain ⟨v144, ev144, h⟩ := bnd_some h
      have G30g131 : ∀ v130 : Bool, (cnd v130 (some true) (bnd (idx a0 v118) fun v184 => bnd (idx a1 v118) fun v185 => some (!(v184.fForm.toList == v185.fForm.toList)))) = some v144 → Ops (X30 n) (opl (cL (cR (cL (cL (cR (cR (cL (cL (cR (cL (cR (cR C30))))))))))))) 12 ⟨(dP e61 a0) :: (dP e61 a1) :: q2 ((dB false) :: (dI v118) :: q6 ((dI ((a0.length : Int))) :: (dI v118) :: (dB (decide (v118 < (a0.length : Int)))) :: (dI v118) :: (dP e61 a0) :: (dI v118) :: (.vptr [(.str v128.fBase), (.str v128.fForm), (vP eS v128.fTags), (vI v128.fWeight)]) :: (.vptr [(.str v128.fBase), (.str v128.fForm), (vP eS v128.fTags), (vI v128.fWeight)]) :: (.v (.str v128.fBase)) :: (dP e61 a1) :: (dI v118) :: (.vptr [(.str v129.fBase), (.str v129.fForm), (vP eS v129.fTags), (vI v129.fWeight)]) :: (.vptr [(.str v129.fBase), (.str v129.fForm), (vP eS v129.fTags), (vI v129.fWeight)]) :: (.v (.str v129.fBase)) :: (dB v130) :: (dB v130) :: q40 [])), []⟩ ((seqQ (X30 n) (cR (cR (cL (cL (cR (cR (cL (cL (cR (cL (cR (cR C30)))))))))))) (blkQ (X30 n) 1 [0, 1, 4, 12, 13] 0 (seqQ (X30 n) (cR (cR (cR (cL (cL (cR (cL (cR (cR C30))))))))) (lpQ (X30 n) [0, 1, 4, 12, 13] 0 (cL (cL (cR (cL (cR (cR C30)))))) nx121 (blkQ (X30 n) 0 [4] 0 (seqQ (X30 n) (cR (cR (cR C30))) (fnQ (X30 n).E.T (resOf Proofs.Tryd.prog 30) (eB o)))))))) .normal) := by
        intro v130 ev144
        cases v130
        · have ev144 := cnd_f ev144
          refine Ops.seg' 2 14 (by kernel_rfl) ?_
          obtain ⟨v184, ev184, ev144⟩ := bnd_some ev144
          refine Ops.one' 15 (fun h0 e0 => (ix_r (T := T) h0 53 62 4 .plain e61 a0 v118 v184 ev184 (by kernel_rfl) (by kernel_rfl) (fun _ => rfl))) (by kernel_rfl) (by kernel_rfl) ?_
          refine Ops.seg' 4 19 (by kernel_rfl) ?_
          obtain ⟨v185, ev185, ev144⟩ := bnd_some ev144
          refine Ops.one' 20 (fun h0 e0 => (ix_r (T := T) h0 53 62 4 .plain e61 a1 v118 v185 ev185 (by kernel_rfl) (by kernel_rfl) (fun _ => rfl))) (by kernel_rfl) (by kernel_rfl) ?_
          refine Ops.seg' 4 24 (by kernel_rfl) ?_
          refine Ops.st ⟨(dP e61 a0) :: (dP e61 a1) :: q2 ((dB false) :: (dI v118) :: q6 ((dI ((a0.length : Int))) :: (dI v118) :: (dB (decide (v118 < (a0.length : Int)))) :: (dI v118) :: (dP e61 a0) :: (dI v118) :: (.vptr [(.str v128.fBase), (.str v128.fForm), (vP eS v128.fTags), (vI v128.fWeight)]) :: (.vptr [(.str v128.fBase), (.str v128.fForm), (vP eS v128.fTags), (vI v128.fWeight)]) :: (.v (.str v128.fBase)) :: (dP e61 a1) :: (dI v118) :: (.vptr [(.str v129.fBase), (.str v129.fForm), (vP eS v129.fTags), (vI v129.fWeight)]) :: (.vptr [(.str v129.fBase), (.str v129.fForm), (vP eS v129.fTags), (vI v129.fWeight)]) :: (.v (.str v129.fBase)) :: (dB false) :: (dB false) :: (dP e61 a0) :: (dI v118) :: (.vptr [(.str v184.fBase), (.str v184.fForm), (vP eS v184.fTags), (vI v184.fWeight)]) :: (.vptr [(.str v184.fForm), (vP eS v184.fTags), (vI v184.fWeight)]) :: (.v (.str v184.fForm)) :: (dP e61 a1) :: (dI v118) :: (.vptr [(.str v185.fBase), (.str v185.fForm), (vP eS v185.fTags), (vI v185.fWeight)]) :: (.vptr [(.str v185.fForm), (vP eS v185.fTags), (vI v185.fWeight)]) :: (.v (.str v185.fForm)) :: (dB (!(v184.fForm.toList == v185.fForm.toList))) :: (dB (!(v184.fForm.toList == v185.fForm.toList))) :: q28 [])), []⟩ (by kernel_rfl) ?_
          exact J30j145 _ _ _ _ _ _ _ _ _ _ _ _ _ (some_sub (fun v144 => f30_r3 m a0 a1 v118 v144 = some sx126) ev144 h)
        · have ev144 := cnd_t ev144
          refine Ops.seg' 12 24 (by kernel_rfl) ?_
          refine Ops.st ⟨(dP e61 a0) :: (dP e61 a1) :: q2 ((dB false) :: (dI v118) :: q6 ((dI ((a0.length : Int))) :: (dI v118) :: (dB (decide (v118 < (a0.length : Int)))) :: (dI v118) :: (dP e61 a0) :: (dI v118) :: (.vptr [(.str v128.fBase), (.str v128.fForm), (vP eS v128.fTags), (vI v128.fWeight)]) :: (.vptr [(.str v128.fBase), (.str v128.fForm), (vP eS v128.fTags), (vI v128.fWeight)]) :: (.v (.str v128.fBase)) :: (dP e61 a1) :: (dI v118) :: (.vptr [(.str v129.fBase), (.str v129.fForm), (vP eS v129.fTags), (vI v129.fWeight)]) :: (.vptr [(.str v129.fBase), (.str v129.fForm), (vP eS v129.fTags), (vI v129.fWeight)]) :: (.v (.str v129.fBase)) :: (dB true) :: (dB true) :: u11 ((dB true) :: q28 []))), []⟩ (by kernel_rfl) ?_
          exact J30j145 _ _ _ _ _ _ _ _ _ _ _ _ _ (some_sub (fun v144 => f30_r3 m a0 a1 v118 v144 = some sx126) ev144 h)
      exact Ops.st ⟨(dP e61 a0) :: (dP e61 a1) :: q2 ((dB false) :: (dI v118) :: q6 ((dI ((a0.length : Int))) :: (dI v118) :: (dB (decide (v118 < (a0.length : Int)))) :: (dI v118) :: (dP e61 a0) :: (dI v118) :: (.vptr [(.str v128.fBase), (.str v128.fForm), (vP eS v128.fTags), (vI v128.fWeight)]) :: (.vptr [(.str v128.fBase), (.str v128.fForm), (vP eS v128.fTags), (vI v128.fWeight)]) :: (.v (.str v128.fBase)) :: (dP e61 a1) :: (dI v118) :: (.vptr [(.str v129.fBase), (.str v129.fForm), (vP eS v129.fTags), (vI v129.fWeight)]) :: (.vptr [(.str v129.fBase), (.str v129.fForm), (vP eS v129.fTags), (vI v129.fWeight)]) :: (.v (.str v129.fBase)) :: (dB ((!(v128.fBase.toList == v129.fBase.toList)))) :: (dB ((!(v128.fBase.toList == v129.fBase.toList)))) :: q40 [])), []⟩ (by kernel_rfl) (G30g131 (!(v128.fBase.toList == v129.fBase.toList)) ev144)
    · refine Wp.exit (id := 0) (by kernel_rfl) ?_
      refine sqQ.x ?_
      refine seqQ.x ?_
      cases h
      refine lpQ.x ?_
      refine blkQ.x ⟨(dP e61 a0) :: (dP e61 a1) :: q2 ((dB false) :: q7 ((dI ((a0.length : Int))) :: (dI v118) :: q40 (q14 []))), []⟩ (by kernel_rfl) ?_
      exact hxx124 v118  hsx127
theorem ok30 (m : Nat) (a0 : (List S61)) (a1 : (List S61)) (o : Bool) (h : f30 m a0 a1 = some o) (n : Nat) (hn : m + 2 ≤ n) : Fn Proofs.Tryd.prog EG n 30 [.v ((eL e61) a0), .v ((eL e61) a1)] (eB o) := by
  obtain ⟨n, rfl⟩ : ∃ q, n = q + 1 := ⟨n - 1, by omega⟩
  unfold f30 at h
  refine Fn.of (by kernel_rfl) (by kernel_rfl) (by kernel_rfl) ⟨(dP e61 a0) :: (dP e61 a1) :: u40 (u26 []), []⟩ (by kernel_rfl) ?_
  refine Wp.seq' (by kernel_rfl) ?_
  refine Wp.region (by kernel_rfl) ?_
  refine Ops.seg' 1 1 (by kernel_rfl) ?_
  refine Ops.done (by kernel_rfl) ?_
  refine seqQ.n ?_
  refine Wp.seq' (by kernel_rfl) ?_
  refine Wp.seq' (by kernel_rfl) ?_
  refine Wp.region (by kernel_rfl) ?_
  refine Ops.seg' 1 1 (by kernel_rfl) ?_
  refine Ops.one' 2 (fun h0 e0 => (len_r (T := T) h0 53 62 .plain e61 a0 (by kernel_rfl))) (by kernel_rfl) (by kernel_rfl) ?_
  refine Ops.seg' 1 3 (by kernel_rfl) ?_
  refine Ops.one' 4 (fun h0 e0 => (len_r (T := T) h0 53 62 .plain e61 a1 (by kernel_rfl))) (by kernel_rfl) (by kernel_rfl) ?_
  refine Ops.seg' 1 5 (by kernel_rfl) ?_
  refine Ops.done (by kernel_rfl) ?_
  refine seqQ.n ?_
  refine Wp.cnd h [0, 1, 4] 0 (by kernel_rfl) (fun h => ?_) (fun h => ?_)
  · refine Wp.seq' (by kernel_rfl) ?_
    refine Wp.region (by kernel_rfl) ?_
    refine Ops.seg' 1 1 (by kernel_rfl) ?_
    refine Ops.done (by kernel_rfl) ?_
    refine seqQ.n ?_
    refine Wp.ret (by kernel_rfl) ?_
    refine sqQ.r ?_
    refine seqQ.r ?_
    exact fnQ.r' (X30 n) (fun z => (eB z)) h (RetOk.mk' (dB false) (by kernel_rfl) (by kernel_rfl))
  · refine Wp.skip (by kernel_rfl) ?_
    refine sqQ.n' ?_
    refine seqQ.n ?_
    refine Wp.seq' (by kernel_rfl) ?_
    refine Wp.seq' (by kernel_rfl) ?_
    refine Wp.region (by kernel_rfl) ?_
    refine Ops.seg' 1 1 (by kernel_rfl) ?_
    refine Ops.one' 2 (fun h0 e0 => (len_r (T := T) h0 53 62 .plain e61 a0 (by kernel_rfl))) (by kernel_rfl) (by kernel_rfl) ?_
    refine Ops.seg' 1 3 (by kernel_rfl) ?_
    refine Ops.done (by kernel_rfl) ?_
    refine seqQ.n ?_
    refine Wp.block' 0 [4] 0 (by kernel_rfl) ?_
    have hLx186 := f30_hLx186 m a0 a1 o n hn 
    refine Wp.loop' [0, 1, 4, 12, 13] 0 (by kernel_rfl) ⟨(dP e61 a0) :: (dP e61 a1) :: q2 ((dB false) :: q7 ((dI ((a0.length : Int))) :: (dI 0) :: q40 (q14 []))), []⟩ (by kernel_rfl) ?_
    rcases brk_some h with ⟨r188, er188, h⟩ | ⟨y187, ey187, h⟩
    · refine hLx186 _ 0  _ er188 n (by omega) (fun r er σ hσ => ?_) (fun y  ey => by cases ey)
      cases er
      refine seqQ.r ?_
      exact fnQ.r' (X30 n) (fun z => (eB z)) h hσ
    · refine hLx186 _ 0  _ ey187 n (by omega) (fun r er => by cases er) (fun y  ey => ?_)
      cases ey
      refine seqQ.n ?_
      refine Wp.seq' (by kernel_rfl) ?_
      refine Wp.region (by kernel_rfl) ?_
      refine Ops.seg' 1 1 (by kernel_rfl) ?_
      refine Ops.done (by kernel_rfl) ?_
      refine seqQ.n ?_
      refine Wp.ret (by kernel_rfl) ?_
      exact fnQ.r' (X30 n) (fun z => (eB z)) h (RetOk.mk' (dB true) (by kernel_rfl) (by kernel_rfl))

/-! ### 26 glosswright/glosswrightlaw6.entered -/
def f26_r1 (m : Nat) (v13 : Bool) : Option Bool :=
  some v13
def f26 (m : Nat)  : Option Bool :=
  bnd (f51 m ) fun v1 =>
  bnd (f27 m v1 2) fun v2 =>
  bnd (cnd (((v2.2.fCode == 0) && ((v2.2.fIndex == 0) && true)))
  (bnd (f30 m v2.1 ([(⟨(⟨#[100, 111, 103]⟩ : ByteArray), (⟨#[100, 111, 103]⟩ : ByteArray), [(⟨#[110]⟩ : ByteArray), (⟨#[115, 103]⟩ : ByteArray)], 0⟩ : S61), (⟨(⟨#[100, 111, 103]⟩ : ByteArray), (⟨#[100, 111, 103, 115]⟩ : ByteArray), [(⟨#[110]⟩ : ByteArray), (⟨#[112, 108]⟩ : ByteArray)], 2⟩ : S61)])) fun v15 =>
  some v15)
  (some false)) fun v13 =>
  f26_r1 m v13
noncomputable abbrev X26 (n : Nat) : Cx := cxOf Proofs.Tryd.prog EG 26 n
noncomputable def C26 : Code := bodyOf Proofs.Tryd.prog 26
theorem ok26 (m : Nat)  (o : Bool) (h : f26 m  = some o) (n : Nat) (hn : m + 3 ≤ n) : Fn Proofs.Tryd.prog EG n 26 [] (eB o) := by
  obtain ⟨n, rfl⟩ : ∃ q, n = q + 1 := ⟨n - 1, by omega⟩
  unfold f26 at h
  refine Fn.of (by kernel_rfl) (by kernel_rfl) (by kernel_rfl) ⟨u20 [], []⟩ (by kernel_rfl) ?_
  refine Wp.seq' (by kernel_rfl) ?_
  refine Wp.region (by kernel_rfl) ?_
  refine Ops.seg' 1 1 (by kernel_rfl) ?_
  refine Ops.done (by kernel_rfl) ?_
  refine seqQ.n ?_
  refine Wp.seq' (by kernel_rfl) ?_
  refine Wp.region (by kernel_rfl) ?_
  obtain ⟨v1, ev1, h⟩ := bnd_some h
  refine Ops.one' 1 (fun h0 e0 => (call_ok (E' := EG) (h := h0) (by kernel_rfl) Args.nil (ok51 m  v1 ev1 n (by omega)))) (by kernel_rfl) (by kernel_rfl) ?_
  obtain ⟨v2, ev2, h⟩ := bnd_some h
  refine Ops.one' 2 (fun h0 e0 => (call_ok (E' := EG) (h := h0) (by kernel_rfl) (Args.v (.agg [(vP e88 v1.fClasses)]) (e51 v1) (by kernel_rfl) (Args.v (vI 2) (eI 2) (by kernel_rfl) Args.nil)) (ok27 m v1 2 v2 ev2 n (by omega)))) (by kernel_rfl) (by kernel_rfl) ?_
  refine Ops.seg' 6 8 (by kernel_rfl) ?_
  refine Ops.done (by kernel_rfl) ?_
  refine seqQ.n ?_
  refine Wp.seq' (by kernel_rfl) ?_
  refine Wp.region (by kernel_rfl) ?_
  refine Ops.seg' 4 4 (by kernel_rfl) ?_
  have J26j14 : ∀ (d5 d6 d7 d8 d9 d10 d11 : D) (v12 : Bool) (v13 : Bool), f26_r1 m v13 = some o → Ops (X26 n) (opl (cL (cR (cR C26)))) 12 ⟨(dB false) :: (dP e61 v2.1) :: (.ptr 0 0) :: (.v (.tuple [(vP e61 v2.1), (.agg [(vI v2.2.fCode), (vI v2.2.fIndex)])])) :: (.v (.agg [(vP e88 v1.fClasses)])) :: (.v (.tuple [(vP e61 v2.1), (.agg [(vI v2.2.fCode), (vI v2.2.fIndex)])])) :: (dP e61 v2.1) :: (.v (.agg [(vI v2.2.fCode), (vI v2.2.fIndex)])) :: (.v (.agg [(vI v2.2.fCode), (vI v2.2.fIndex)])) :: (.v (.agg [(vI 0), (vI 0)])) :: (dB v12) :: (dB v12) :: d5 :: d6 :: d7 :: d8 :: d9 :: d10 :: d11 :: (dB v13) :: [], [(.cells [(dI v2.2.fCode), (dI v2.2.fIndex)])]⟩ ((seqQ (X26 n) (cR (cR (cR C26))) (fnQ (X26 n).E.T (resOf Proofs.Tryd.prog 26) (eB o))) .normal) := by
    intro d5 d6 d7 d8 d9 d10 d11 v12 v13 h
    unfold f26_r1 at h
    refine Ops.seg' 1 13 (by kernel_rfl) ?_
    refine Ops.done (by kernel_rfl) ?_
    refine seqQ.n ?_
    refine Wp.ret (by kernel_rfl) ?_
    exact fnQ.r' (X26 n) (fun z => (eB z)) h (RetOk.mk' (dB v13) (by kernel_rfl) (by kernel_rfl))
  obtain ⟨v13, ev13, h⟩ := bnd_some h
  have G26g4 : ∀ v3 : Bool, (cnd v3 (bnd (f30 m v2.1 ([(⟨(⟨#[100, 111, 103]⟩ : ByteArray), (⟨#[100, 111, 103]⟩ : ByteArray), [(⟨#[110]⟩ : ByteArray), (⟨#[115, 103]⟩ : ByteArray)], 0⟩ : S61), (⟨(⟨#[100, 111, 103]⟩ : ByteArray), (⟨#[100, 111, 103, 115]⟩ : ByteArray), [(⟨#[110]⟩ : ByteArray), (⟨#[112, 108]⟩ : ByteArray)], 2⟩ : S61)])) fun v15 => some v15) (some false)) = some v13 → Ops (X26 n) (opl (cL (cR (cR C26)))) 4 ⟨(dB false) :: (dP e61 v2.1) :: (.ptr 0 0) :: (.v (.tuple [(vP e61 v2.1), (.agg [(vI v2.2.fCode), (vI v2.2.fIndex)])])) :: (.v (.agg [(vP e88 v1.fClasses)])) :: (.v (.tuple [(vP e61 v2.1), (.agg [(vI v2.2.fCode), (vI v2.2.fIndex)])])) :: (dP e61 v2.1) :: (.v (.agg [(vI v2.2.fCode), (vI v2.2.fIndex)])) :: (.v (.agg [(vI v2.2.fCode), (vI v2.2.fIndex)])) :: (.v (.agg [(vI 0), (vI 0)])) :: (dB v3) :: (dB v3) :: u8 [], [(.cells [(dI v2.2.fCode), (dI v2.2.fIndex)])]⟩ ((seqQ (X26 n) (cR (cR (cR C26))) (fnQ (X26 n).E.T (resOf Proofs.Tryd.prog 26) (eB o))) .normal) := by
    intro v3 ev13
    cases v3
    · have ev13 := cnd_f ev13
      refine Ops.seg' 8 12 (by kernel_rfl) ?_
      refine Ops.st ⟨(dB false) :: (dP e61 v2.1) :: (.ptr 0 0) :: (.v (.tuple [(vP e61 v2.1), (.agg [(vI v2.2.fCode), (vI v2.2.fIndex)])])) :: (.v (.agg [(vP e88 v1.fClasses)])) :: (.v (.tuple [(vP e61 v2.1), (.agg [(vI v2.2.fCode), (vI v2.2.fIndex)])])) :: (dP e61 v2.1) :: (.v (.agg [(vI v2.2.fCode), (vI v2.2.fIndex)])) :: (.v (.agg [(vI v2.2.fCode), (vI v2.2.fIndex)])) :: (.v (.agg [(vI 0), (vI 0)])) :: (dB false) :: (dB false) :: u7 ((dB false) :: []), [(.cells [(dI v2.2.fCode), (dI v2.2.fIndex)])]⟩ (by kernel_rfl) ?_
      exact J26j14 _ _ _ _ _ _ _ _ _ (some_sub (fun v13 => f26_r1 m v13 = some o) ev13 h)
    · have ev13 := cnd_t ev13
      refine Ops.seg' 6 10 (by kernel_rfl) ?_
      obtain ⟨v15, ev15, ev13⟩ := bnd_some ev13
      refine Ops.one' 11 (fun h0 e0 => (call_ok (E' := EG) (h := h0) (by kernel_rfl) (Args.v (vP e61 v2.1) ((eL e61) v2.1) (by kernel_rfl) (Args.v (.sl .nonfull (List.map e61 ([(⟨(⟨#[100, 111, 103]⟩ : ByteArray), (⟨#[100, 111, 103]⟩ : ByteArray), [(⟨#[110]⟩ : ByteArray), (⟨#[115, 103]⟩ : ByteArray)], 0⟩ : S61), (⟨(⟨#[100, 111, 103]⟩ : ByteArray), (⟨#[100, 111, 103, 115]⟩ : ByteArray), [(⟨#[110]⟩ : ByteArray), (⟨#[112, 108]⟩ : ByteArray)], 2⟩ : S61)]))) ((eL e61) ([(⟨(⟨#[100, 111, 103]⟩ : ByteArray), (⟨#[100, 111, 103]⟩ : ByteArray), [(⟨#[110]⟩ : ByteArray), (⟨#[115, 103]⟩ : ByteArray)], 0⟩ : S61), (⟨(⟨#[100, 111, 103]⟩ : ByteArray), (⟨#[100, 111, 103, 115]⟩ : ByteArray), [(⟨#[110]⟩ : ByteArray), (⟨#[112, 108]⟩ : ByteArray)], 2⟩ : S61)])) (by kernel_rfl) Args.nil)) (ok30 m v2.1 ([(⟨(⟨#[100, 111, 103]⟩ : ByteArray), (⟨#[100, 111, 103]⟩ : ByteArray), [(⟨#[110]⟩ : ByteArray), (⟨#[115, 103]⟩ : ByteArray)], 0⟩ : S61), (⟨(⟨#[100, 111, 103]⟩ : ByteArray), (⟨#[100, 111, 103, 115]⟩ : ByteArray), [(⟨#[110]⟩ : ByteArray), (⟨#[112, 108]⟩ : ByteArray)], 2⟩ : S61)]) v15 ev15 n (by omega)))) (by kernel_rfl) (by kernel_rfl) ?_
      refine Ops.seg' 1 12 (by kernel_rfl) ?_
      refine Ops.st ⟨(dB false) :: (dP e61 v2.1) :: (.ptr 0 0) :: (.v (.tuple [(vP e61 v2.1), (.agg [(vI v2.2.fCode), (vI v2.2.fIndex)])])) :: (.v (.agg [(vP e88 v1.fClasses)])) :: (.v (.tuple [(vP e61 v2.1), (.agg [(vI v2.2.fCode), (vI v2.2.fIndex)])])) :: (dP e61 v2.1) :: (.v (.agg [(vI v2.2.fCode), (vI v2.2.fIndex)])) :: (.v (.agg [(vI v2.2.fCode), (vI v2.2.fIndex)])) :: (.v (.agg [(vI 0), (vI 0)])) :: (dB true) :: (dB true) :: (dP e61 v2.1) :: (.v (.sl .nonfull (List.map eS ([(⟨#[110]⟩ : ByteArray), (⟨#[115, 103]⟩ : ByteArray)])))) :: (.v (.agg [(.str ((⟨#[100, 111, 103]⟩ : ByteArray))), (.str ((⟨#[100, 111, 103]⟩ : ByteArray))), (.sl .nonfull (List.map eS ([(⟨#[110]⟩ : ByteArray), (⟨#[115, 103]⟩ : ByteArray)]))), (vI 0)])) :: (.v (.sl .nonfull (List.map eS ([(⟨#[110]⟩ : ByteArray), (⟨#[112, 108]⟩ : ByteArray)])))) :: (.v (.agg [(.str ((⟨#[100, 111, 103]⟩ : ByteArray))), (.str ((⟨#[100, 111, 103, 115]⟩ : ByteArray))), (.sl .nonfull (List.map eS ([(⟨#[110]⟩ : ByteArray), (⟨#[112, 108]⟩ : ByteArray)]))), (vI 2)])) :: (.v (.sl .nonfull (List.map e61 ([(⟨(⟨#[100, 111, 103]⟩ : ByteArray), (⟨#[100, 111, 103]⟩ : ByteArray), [(⟨#[110]⟩ : ByteArray), (⟨#[115, 103]⟩ : ByteArray)], 0⟩ : S61), (⟨(⟨#[100, 111, 103]⟩ : ByteArray), (⟨#[100, 111, 103, 115]⟩ : ByteArray), [(⟨#[110]⟩ : ByteArray), (⟨#[112, 108]⟩ : ByteArray)], 2⟩ : S61)])))) :: (dB v15) :: (dB v15) :: [], [(.cells [(dI v2.2.fCode), (dI v2.2.fIndex)])]⟩ (by kernel_rfl) ?_
      exact J26j14 _ _ _ _ _ _ _ _ _ (some_sub (fun v13 => f26_r1 m v13 = some o) ev13 h)
  exact Ops.st ⟨(dB false) :: (dP e61 v2.1) :: (.ptr 0 0) :: (.v (.tuple [(vP e61 v2.1), (.agg [(vI v2.2.fCode), (vI v2.2.fIndex)])])) :: (.v (.agg [(vP e88 v1.fClasses)])) :: (.v (.tuple [(vP e61 v2.1), (.agg [(vI v2.2.fCode), (vI v2.2.fIndex)])])) :: (dP e61 v2.1) :: (.v (.agg [(vI v2.2.fCode), (vI v2.2.fIndex)])) :: (.v (.agg [(vI v2.2.fCode), (vI v2.2.fIndex)])) :: (.v (.agg [(vI 0), (vI 0)])) :: (dB ((((v2.2.fCode == 0) && ((v2.2.fIndex == 0) && true))))) :: (dB ((((v2.2.fCode == 0) && ((v2.2.fIndex == 0) && true))))) :: u8 [], [(.cells [(dI v2.2.fCode), (dI v2.2.fIndex)])]⟩ (by kernel_rfl) (G26g4 (((v2.2.fCode == 0) && ((v2.2.fIndex == 0) && true))) ev13)

/-! ### 10 glosswright/glosswrightlaw6.LexiconEntriesGrow -/
def f10_j1 (m : Nat) (v83 : Int) (v93 : Int) : Option (Stp Bool (Int × Int)) :=
  some (.nxt (v93, w64 (v83 + 1)))
def f10_j2 (m : Nat) (v83 : Int) (v109 : Int) : Option (Stp Bool (Int × Int)) :=
  f10_j1 m v83 v109
def f10_r3 (m : Nat) (v82 : Int) (v83 : Int) (v107 : Bool) : Option (Stp Bool (Int × Int)) :=
  cnd v107
  (f10_j2 m v83 (w64 (v82 + 1)))
  (f10_j2 m v83 v82)
def f10_B4 (m : Nat) (v2 : ((List S61) × S27)) (v3 : ((List S61) × S27)) (v82 : Int) (v83 : Int) : Option (Stp Bool (Int × Int)) :=
  cnd (decide (v83 < (v3.1.length : Int)))
  (bnd (idx v3.1 v83) fun v95 =>
  bnd (cnd (decide (v82 < (v2.1.length : Int)))
  (bnd (sub v2.1 v82 (w64 (v82 + 1))) fun v121 =>
  bnd (f30 m v121 [v95]) fun v122 =>
  some v122)
  (some false)) fun v107 =>
  f10_r3 m v82 v83 v107)
  (some (.brk (v82, v83)))
def f10_r5 (m : Nat) (v2 : ((List S61) × S27)) (v3 : ((List S61) × S27)) (v18 : Bool) : Option Bool :=
  cnd v18
  (some true)
  (brk (iter (fun (y : Int × Int) => f10_B4 m v2 v3 y.1 y.2) m (0, 0)) some fun y124 =>
  some (y124.1 == ((v2.1.length : Int))))
def f10_r6 (m : Nat) (a1 : Int) (a2 : Int) (v2 : ((List S61) × S27)) (v3 : ((List S61) × S27)) (v10 : Bool) : Option Bool :=
  f10_r5 m v2 v3 ((v10 || (decide (a1 > a2))))
def f10 (m : Nat) (a0 : S51) (a1 : Int) (a2 : Int) : Option Bool :=
  bnd (f26 m ) fun v1 =>
  cnd (!v1)
  (some false)
  (bnd (f27 m a0 a1) fun v2 =>
  bnd (f27 m a0 a2) fun v3 =>
  f10_r6 m a1 a2 v2 v3 (((!((v2.2.fCode == 0) && ((v2.2.fIndex == 0) && true))) || (!((v3.2.fCode == 0) && ((v3.2.fIndex == 0) && true))))))
noncomputable abbrev X10 (n : Nat) : Cx := cxOf Proofs.Tryd.prog EG 10 n
noncomputable def C10 : Code := bodyOf Proofs.Tryd.prog 10
theorem f10_hLx123 (m : Nat) (a0 : S51) (a1 : Int) (a2 : Int) (o : Bool) (n : Nat) (hn : m + 4 ≤ n + 1) (v2 : ((List S61) × S27)) (v3 : ((List S61) × S27)) : ∀ (kx85 : Nat) (v82 : Int) (v83 : Int)  (ox84 : Bool ⊕ (Int × Int)), iter (fun (y : Int × Int) => f10_B4 m v2 v3 y.1 y.2) kx85 (v82, v83) = some ox84 → ∀ nx86, kx85 ≤ nx86 → (∀ r, ox84 = .inl r → ∀ σ, RetOk (X10 n) (resOf Proofs.Tryd.prog 10) (eB r) σ → (seqQ (X10 n) (cR (cR (cR (cR (cR (cR (cR C10))))))) (fnQ (X10 n).E.T (resOf Proofs.Tryd.prog 10) (eB o))) .ret σ) → (∀ (y : Int × Int) , ox84 = .inr y → (seqQ (X10 n) (cR (cR (cR (cR (cR (cR (cR C10))))))) (fnQ (X10 n).E.T (resOf Proofs.Tryd.prog 10) (eB o))) .normal ⟨q6 ((dB false) :: (dP e61 v2.1) :: q3 ((dI y.1) :: q29 ((dP e61 v3.1) :: (dI ((v3.1.length : Int))) :: (dI y.2) :: q24 []))), [(.cells [(dP e88 a0.fClasses)]), (.cells [(dI v2.2.fCode), (dI v2.2.fIndex)]), (.cells [(dI v3.2.fCode), (dI v3.2.fIndex)])]⟩) → Lp (X10 n) [6, 7, 11, 41, 42, 43] 3 (cL (cL (cR (cL (cR (cR (cR (cR (cR (cR C10)))))))))) nx86 ⟨q6 ((dB false) :: (dP e61 v2.1) :: q3 ((dI v82) :: q29 ((dP e61 v3.1) :: (dI ((v3.1.length : Int))) :: (dI v83) :: q24 []))), [(.cells [(dP e88 a0.fClasses)]), (.cells [(dI v2.2.fCode), (dI v2.2.fIndex)]), (.cells [(dI v3.2.fCode), (dI v3.2.fIndex)])]⟩ (blkQ (X10 n) 0 [6, 7, 11] 3 (seqQ (X10 n) (cR (cR (cR (cR (cR (cR (cR C10))))))) (fnQ (X10 n).E.T (resOf Proofs.Tryd.prog 10) (eB o)))) := by
  intro kx85
  induction kx85 with
  | zero => intro v82 v83  ox84 h; exact (iter_zero h).elim
  | succ kx85 ihx87 =>
    intro v82 v83  ox84 h nx86 hnx90 hrx88 hxx89
    obtain ⟨nx86, rfl⟩ : ∃ q, nx86 = q + 1 := ⟨nx86 - 1, by omega⟩
    obtain ⟨sx91, h, hsx92⟩ := iter_some h
    have h : f10_B4 m v2 v3 v82 v83 = some sx91 := h
    unfold f10_B4 at h
    refine Lp.succ ?_
    refine Wp.seq' (by kernel_rfl) ?_
    refine Wp.region (by kernel_rfl) ?_
    refine Ops.seg' 1 1 (by kernel_rfl) ?_
    refine Ops.done (by kernel_rfl) ?_
    refine seqQ.n ?_
    refine Wp.seq' (by kernel_rfl) ?_
    refine Wp.cnd h [6, 7, 11, 41, 42, 43] 3 (by kernel_rfl) (fun h => ?_) (fun h => ?_)
    · refine Wp.skip (by kernel_rfl) ?_
      refine sqQ.n' ?_
      refine seqQ.n ?_
      refine Wp.seq' (by kernel_rfl) ?_
      have J10j94 : ∀ (v93 : Int) , f10_j1 m v83 v93 = some sx91 → (seqQ (X10 n) (cR (cR (cR (cL (cL (cR (cL (cR (cR (cR (cR (cR (cR C10))))))))))))) (lpQ (X10 n) [6, 7, 11, 41, 42, 43] 3 (cL (cL (cR (cL (cR (cR (cR (cR (cR (cR C10)))))))))) nx86 (blkQ (X10 n) 0 [6, 7, 11] 3 (seqQ (X10 n) (cR (cR (cR (cR (cR (cR (cR C10))))))) (fnQ (X10 n).E.T (resOf Proofs.Tryd.prog 10) (eB o)))))) .normal ⟨q6 ((dB false) :: (dP e61 v2.1) :: q3 ((dI v93) :: q29 ((dP e61 v3.1) :: (dI ((v3.1.length : Int))) :: (dI v83) :: q24 []))), [(.cells [(dP e88 a0.fClasses)]), (.cells [(dI v2.2.fCode), (dI v2.2.fIndex)]), (.cells [(dI v3.2.fCode), (dI v3.2.fIndex)])]⟩ := by
        intro v93  h
        unfold f10_j1 at h
        refine seqQ.n ?_
        refine Wp.region (by kernel_rfl) ?_
        refine Ops.seg' 2 2 (by kernel_rfl) ?_
        refine Ops.done (by kernel_rfl) ?_
        refine lpQ.n ⟨q6 ((dB false) :: (dP e61 v2.1) :: q3 ((dI v93) :: q29 ((dP e61 v3.1) :: (dI ((v3.1.length : Int))) :: (dI (w64 (v83 + 1))) :: q24 []))), [(.cells [(dP e88 a0.fClasses)]), (.cells [(dI v2.2.fCode), (dI v2.2.fIndex)]), (.cells [(dI v3.2.fCode), (dI v3.2.fIndex)])]⟩ (by kernel_rfl) ?_
        cases h
        exact ihx87 v93 (w64 (v83 + 1))  _ hsx92 _ (by omega) hrx88 hxx89
      refine Wp.block' 1 [6, 7, 11, 41, 42, 43] 3 (by kernel_rfl) ?_
      refine Wp.seq' (by kernel_rfl) ?_
      refine Wp.region (by kernel_rfl) ?_
      obtain ⟨v95, ev95, h⟩ := bnd_some h
      refine Ops.one' 1 (fun h0 e0 => (ix_r (T := T) h0 53 62 4 .plain e61 v3.1 v83 v95 ev95 (by kernel_rfl) (by kernel_rfl) (fun _ => rfl))) (by kernel_rfl) (by kernel_rfl) ?_
      refine Ops.seg' 3 4 (by kernel_rfl) ?_
      refine Ops.done (by kernel_rfl) ?_
      refine seqQ.n ?_
      refine Wp.seq' (by kernel_rfl) ?_
      refine Wp.region (by kernel_rfl) ?_
      refine Ops.seg' 2 2 (by kernel_rfl) ?_
      refine Ops.one' 3 (fun h0 e0 => (len_r (T := T) h0 53 62 .plain e61 v2.1 (by kernel_rfl))) (by kernel_rfl) (by kernel_rfl) ?_
      refine Ops.seg' 2 5 (by kernel_rfl) ?_
      have J10j108 : ∀ (d98 d99 d100 d101 d102 d103 d104 d105 : D) (v106 : Bool) (v107 : Bool), f10_r3 m v82 v83 v107 = some sx91 → Ops (X10 n) (opl (cL (cR (cL (cL (cR (cR (cL (cL (cR (cL (cR (cR (cR (cR (cR (cR C10))))))))))))))))) 14 ⟨q6 ((dB false) :: (dP e61 v2.1) :: q3 ((dI v82) :: q1 ((.ptr 3 0) :: q27 ((dP e61 v3.1) :: (dI ((v3.1.length : Int))) :: (dI v83) :: (dB (decide (v83 < (v3.1.length : Int)))) :: (.vptr [(.str v95.fBase), (.str v95.fForm), (vP eS v95.fTags), (vI v95.fWeight)]) :: (.v (.agg [(.str v95.fBase), (.str v95.fForm), (vP eS v95.fTags), (vI v95.fWeight)])) :: (dI v82) :: (dP e61 v2.1) :: (dI ((v2.1.length : Int))) :: (dB v106) :: (dB v106) :: d98 :: d99 :: d100 :: d101 :: d102 :: d103 :: d104 :: d105 :: (dB v107) :: q7 [])))), [(.cells [(dP e88 a0.fClasses)]), (.cells [(dI v2.2.fCode), (dI v2.2.fIndex)]), (.cells [(dI v3.2.fCode), (dI v3.2.fIndex)]), (.cells [(.v (.str v95.fBase)), (.v (.str v95.fForm)), (dP eS v95.fTags), (dI v95.fWeight)])]⟩ ((seqQ (X10 n) (cR (cR (cL (cL (cR (cR (cL (cL (cR (cL (cR (cR (cR (cR (cR (cR C10)))))))))))))))) (blkQ (X10 n) 1 [6, 7, 11, 41, 42, 43] 3 (seqQ (X10 n) (cR (cR (cR (cL (cL (cR (cL (cR (cR (cR (cR (cR (cR C10))))))))))))) (lpQ (X10 n) [6, 7, 11, 41, 42, 43] 3 (cL (cL (cR (cL (cR (cR (cR (cR (cR (cR C10)))))))))) nx86 (blkQ (X10 n) 0 [6, 7, 11] 3 (seqQ (X10 n) (cR (cR (cR (cR (cR (cR (cR C10))))))) (fnQ (X10 n).E.T (resOf Proofs.Tryd.prog 10) (eB o)))))))) .normal) := by
        intro d98 d99 d100 d101 d102 d103 d104 d105 v106 v107 h
        unfold f10_r3 at h
        refine Ops.done (by kernel_rfl) ?_
        refine seqQ.n ?_
        have J10j120 : ∀ (v109 : Int) (d110 : D) (d111 : D) (d112 : D) (d113 : D) (d114 : D) (d115 : D) (d116 : D) (d117 : D) (d118 : D) (d119 : D), f10_j2 m v83 v109 = some sx91 → (blkQ (X10 n) 1 [6, 7, 11, 41, 42, 43] 3 (seqQ (X10 n) (cR (cR (cR (cL (cL (cR (cL (cR (cR (cR (cR (cR (cR C10))))))))))))) (lpQ (X10 n) [6, 7, 11, 41, 42, 43] 3 (cL (cL (cR (cL (cR (cR (cR (cR (cR (cR C10)))))))))) nx86 (blkQ (X10 n) 0 [6, 7, 11] 3 (seqQ (X10 n) (cR (cR (cR (cR (cR (cR (cR C10))))))) (fnQ (X10 n).E.T (resOf Proofs.Tryd.prog 10) (eB o))))))) .normal ⟨q6 ((dB false) :: (dP e61 v2.1) :: q3 ((dI v109) :: q1 ((.ptr 3 0) :: q27 ((dP e61 v3.1) :: (dI ((v3.1.length : Int))) :: (dI v83) :: (dB (decide (v83 < (v3.1.length : Int)))) :: (.vptr [(.str v95.fBase), (.str v95.fForm), (vP eS v95.fTags), (vI v95.fWeight)]) :: (.v (.agg [(.str v95.fBase), (.str v95.fForm), (vP eS v95.fTags), (vI v95.fWeight)])) :: (dI v82) :: (dP e61 v2.1) :: (dI ((v2.1.length : Int))) :: (dB v106) :: (dB v106) :: d110 :: d111 :: d112 :: d113 :: d114 :: d115 :: d116 :: d117 :: (dB v107) :: d118 :: d119 :: q5 [])))), [(.cells [(dP e88 a0.fClasses)]), (.cells [(dI v2.2.fCode), (dI v2.2.fIndex)]), (.cells [(dI v3.2.fCode), (dI v3.2.fIndex)]), (.cells [(.v (.str v95.fBase)), (.v (.str v95.fForm)), (dP eS v95.fTags), (dI v95.fWeight)])]⟩ := by
          intro v109 d110 d111 d112 d113 d114 d115 d116 d117 d118 d119 h
          unfold f10_j2 at h
          refine blkQ.n ⟨q6 ((dB false) :: (dP e61 v2.1) :: q3 ((dI v109) :: q29 ((dP e61 v3.1) :: (dI ((v3.1.length : Int))) :: (dI v83) :: q24 []))), [(.cells [(dP e88 a0.fClasses)]), (.cells [(dI v2.2.fCode), (dI v2.2.fIndex)]), (.cells [(dI v3.2.fCode), (dI v3.2.fIndex)])]⟩ (by kernel_rfl) ?_
          exact J10j94 v109  h
        refine Wp.cnd h [6, 7, 11, 41, 42, 43] 4 (by kernel_rfl) (fun h => ?_) (fun h => ?_)
        · refine Wp.region (by kernel_rfl) ?_
          refine Ops.seg' 3 3 (by kernel_rfl) ?_
          refine Ops.done (by kernel_rfl) ?_
          refine sqQ.n ⟨q6 ((dB false) :: (dP e61 v2.1) :: q3 ((dI (w64 (v82 + 1))) :: q1 ((.ptr 3 0) :: q27 ((dP e61 v3.1) :: (dI ((v3.1.length : Int))) :: (dI v83) :: (dB (decide (v83 < (v3.1.length : Int)))) :: (.vptr [(.str v95.fBase), (.str v95.fForm), (vP eS v95.fTags), (vI v95.fWeight)]) :: (.v (.agg [(.str v95.fBase), (.str v95.fForm), (vP eS v95.fTags), (vI v95.fWeight)])) :: (dI v82) :: (dP e61 v2.1) :: (dI ((v2.1.length : Int))) :: (dB v106) :: (dB v106) :: d98 :: d99 :: d100 :: d101 :: d102 :: d103 :: d104 :: d105 :: (dB v107) :: (dI v82) :: (dI (w64 (v82 + 1))) :: q5 [])))), [(.cells [(dP e88 a0.fClasses)]), (.cells [(dI v2.2.fCode), (dI v2.2.fIndex)]), (.cells [(dI v3.2.fCode), (dI v3.2.fIndex)]), (.cells [(.v (.str v95.fBase)), (.v (.str v95.fForm)), (dP eS v95.fTags), (dI v95.fWeight)])]⟩ (by kernel_rfl) ?_
          exact J10j120 (w64 (v82 + 1)) _ _ _ _ _ _ _ _ _ _ h
        · refine Wp.skip (by kernel_rfl) ?_
          refine sqQ.n ⟨q6 ((dB false) :: (dP e61 v2.1) :: q3 ((dI v82) :: q1 ((.ptr 3 0) :: q27 ((dP e61 v3.1) :: (dI ((v3.1.length : Int))) :: (dI v83) :: (dB (decide (v83 < (v3.1.length : Int)))) :: (.vptr [(.str v95.fBase), (.str v95.fForm), (vP eS v95.fTags), (vI v95.fWeight)]) :: (.v (.agg [(.str v95.fBase), (.str v95.fForm), (vP eS v95.fTags), (vI v95.fWeight)])) :: (dI v82) :: (dP e61 v2.1) :: (dI ((v2.1.length : Int))) :: (dB v106) :: (dB v106) :: d98 :: d99 :: d100 :: d101 :: d102 :: d103 :: d104 :: d105 :: (dB v107) :: q7 [])))), [(.cells [(dP e88 a0.fClasses)]), (.cells [(dI v2.2.fCode), (dI v2.2.fIndex)]), (.cells [(dI v3.2.fCode), (dI v3.2.fIndex)]), (.cells [(.v (.str v95.fBase)), (.v (.str v95.fForm)), (dP eS v95.fTags), (dI v95.fWeight)])]⟩ (by kernel_rfl) ?_
          exact J10j120 v82 _ _ _ _ _ _ _ _ _ _ h
      obtain ⟨v107, ev107, h⟩ := bnd_some h
      have G10g97 : ∀ v96 : Bool, (cnd v96 (bnd (sub v2.1 v82 (w64 (v82 + 1))) fun v121 => bnd (f30 m v121 [v95]) fun v122 => some v122) (some false)) = some v107 → Ops (X10 n) (opl (cL (cR (cL (cL (cR (cR (cL (cL (cR (cL (cR (cR (cR (cR (cR (cR C10))))))))))))))))) 5 ⟨q6 ((dB false) :: (dP e61 v2.1) :: q3 ((dI v82) :: q1 ((.ptr 3 0) :: q27 ((dP e61 v3.1) :: (dI ((v3.1.length : Int))) :: (dI v83) :: (dB (decide (v83 < (v3.1.length : Int)))) :: (.vptr [(.str v95.fBase), (.str v95.fForm), (vP eS v95.fTags), (vI v95.fWeight)]) :: (.v (.agg [(.str v95.fBase), (.str v95.fForm), (vP eS v95.fTags), (vI v95.fWeight)])) :: (dI v82) :: (dP e61 v2.1) :: (dI ((v2.1.length : Int))) :: (dB v96) :: (dB v96) :: q16 [])))), [(.cells [(dP e88 a0.fClasses)]), (.cells [(dI v2.2.fCode), (dI v2.2.fIndex)]), (.cells [(dI v3.2.fCode), (dI v3.2.fIndex)]), (.cells [(.v (.str v95.fBase)), (.v (.str v95.fForm)), (dP eS v95.fTags), (dI v95.fWeight)])]⟩ ((seqQ (X10 n) (cR (cR (cL (cL (cR (cR (cL (cL (cR (cL (cR (cR (cR (cR (cR (cR C10)))))))))))))))) (blkQ (X10 n) 1 [6, 7, 11, 41, 42, 43] 3 (seqQ (X10 n) (cR (cR (cR (cL (cL (cR (cL (cR (cR (cR (cR (cR (cR C10))))))))))))) (lpQ (X10 n) [6, 7, 11, 41, 42, 43] 3 (cL (cL (cR (cL (cR (cR (cR (cR (cR (cR C10)))))))))) nx86 (blkQ (X10 n) 0 [6, 7, 11] 3 (seqQ (X10 n) (cR (cR (cR (cR (cR (cR (cR C10))))))) (fnQ (X10 n).E.T (resOf Proofs.Tryd.prog 10) (eB o)))))))) .normal) := by
        intro v96 ev107
        cases v96
        · have ev107 := cnd_f ev107
          refine Ops.seg' 9 14 (by kernel_rfl) ?_
          refine Ops.st ⟨q6 ((dB false) :: (dP e61 v2.1) :: q3 ((dI v82) :: q1 ((.ptr 3 0) :: q27 ((dP e61 v3.1) :: (dI ((v3.1.length : Int))) :: (dI v83) :: (dB (decide (v83 < (v3.1.length : Int)))) :: (.vptr [(.str v95.fBase), (.str v95.fForm), (vP eS v95.fTags), (vI v95.fWeight)]) :: (.v (.agg [(.str v95.fBase), (.str v95.fForm), (vP eS v95.fTags), (vI v95.fWeight)])) :: (dI v82) :: (dP e61 v2.1) :: (dI ((v2.1.length : Int))) :: (dB false) :: (dB false) :: u8 ((dB false) :: q7 []))))), [(.cells [(dP e88 a0.fClasses)]), (.cells [(dI v2.2.fCode), (dI v2.2.fIndex)]), (.cells [(dI v3.2.fCode), (dI v3.2.fIndex)]), (.cells [(.v (.str v95.fBase)), (.v (.str v95.fForm)), (dP eS v95.fTags), (dI v95.fWeight)])]⟩ (by kernel_rfl) ?_
          exact J10j108 _ _ _ _ _ _ _ _ _ _ (some_sub (fun v107 => f10_r3 m v82 v83 v107 = some sx91) ev107 h)
        · have ev107 := cnd_t ev107
          refine Ops.seg' 4 9 (by kernel_rfl) ?_
          obtain ⟨v121, ev121, ev107⟩ := bnd_some ev107
          refine Ops.one' 10 (fun h0 e0 => (sub_r (T := T) h0 53 62 4 .plain e61 v2.1 v121 (some v82) (some (w64 (v82 + 1))) rfl ev121 (by kernel_rfl) (by kernel_rfl) (fun _ => rfl))) (by kernel_rfl) (by kernel_rfl) ?_
          refine Ops.seg' 2 12 (by kernel_rfl) ?_
          obtain ⟨v122, ev122, ev107⟩ := bnd_some ev107
          refine Ops.one' 13 (fun h0 e0 => (call_ok (E' := EG) (h := h0) (by kernel_rfl) (Args.v (vP e61 v121) ((eL e61) v121) (by kernel_rfl) (Args.v (.sl .nonfull (List.map e61 [v95])) ((eL e61) [v95]) (by kernel_rfl) Args.nil)) (ok30 m v121 [v95] v122 ev122 n (by omega)))) (by kernel_rfl) (by kernel_rfl) ?_
          refine Ops.seg' 1 14 (by kernel_rfl) ?_
          refine Ops.st ⟨q6 ((dB false) :: (dP e61 v2.1) :: q3 ((dI v82) :: q1 ((.ptr 3 0) :: q27 ((dP e61 v3.1) :: (dI ((v3.1.length : Int))) :: (dI v83) :: (dB (decide (v83 < (v3.1.length : Int)))) :: (.vptr [(.str v95.fBase), (.str v95.fForm), (vP eS v95.fTags), (vI v95.fWeight)]) :: (.v (.agg [(.str v95.fBase), (.str v95.fForm), (vP eS v95.fTags), (vI v95.fWeight)])) :: (dI v82) :: (dP e61 v2.1) :: (dI ((v2.1.length : Int))) :: (dB true) :: (dB true) :: (dP e61 v2.1) :: (dI v82) :: (dI v82) :: (dI (w64 (v82 + 1))) :: (dP e61 v121) :: (.v (.agg [(.str v95.fBase), (.str v95.fForm), (vP eS v95.fTags), (vI v95.fWeight)])) :: (.v (.sl .nonfull (List.map e61 [v95]))) :: (dB v122) :: (dB v122) :: q7 [])))), [(.cells [(dP e88 a0.fClasses)]), (.cells [(dI v2.2.fCode), (dI v2.2.fIndex)]), (.cells [(dI v3.2.fCode), (dI v3.2.fIndex)]), (.cells [(.v (.str v95.fBase)), (.v (.str v95.fForm)), (dP eS v95.fTags), (dI v95.fWeight)])]⟩ (by kernel_rfl) ?_
          exact J10j108 _ _ _ _ _ _ _ _ _ _ (some_sub (fun v107 => f10_r3 m v82 v83 v107 = some sx91) ev107 h)
      exact Ops.st ⟨q6 ((dB false) :: (dP e61 v2.1) :: q3 ((dI v82) :: q1 ((.ptr 3 0) :: q27 ((dP e61 v3.1) :: (dI ((v3.1.length : Int))) :: (dI v83) :: (dB (decide (v83 < (v3.1.length : Int)))) :: (.vptr [(.str v95.fBase), (.str v95.fForm), (vP eS v95.fTags), (vI v95.fWeight)]) :: (.v (.agg [(.str v95.fBase), (.str v95.fForm), (vP eS v95.fTags), (vI v95.fWeight)])) :: (dI v82) :: (dP e61 v2.1) :: (dI ((v2.1.length : Int))) :: (dB ((decide (v82 < (v2.1.length : Int))))) :: (dB ((decide (v82 < (v2.1.length : Int))))) :: q16 [])))), [(.cells [(dP e88 a0.fClasses)]), (.cells [(dI v2.2.fCode), (dI v2.2.fIndex)]), (.cells [(dI v3.2.fCode), (dI v3.2.fIndex)]), (.cells [(.v (.str v95.fBase)), (.v (.str v95.fForm)), (dP eS v95.fTags), (dI v95.fWeight)])]⟩ (by kernel_rfl) (G10g97 (decide (v82 < (v2.1.length : Int))) ev107)
    · refine Wp.exit (id := 0) (by kernel_rfl) ?_
      refine sqQ.x ?_
      refine seqQ.x ?_
      cases h
      refine lpQ.x ?_
      refine blkQ.x ⟨q6 ((dB false) :: (dP e61 v2.1) :: q3 ((dI v82) :: q29 ((dP e61 v3.1) :: (dI ((v3.1.length : Int))) :: (dI v83) :: q24 []))), [(.cells [(dP e88 a0.fClasses)]), (.cells [(dI v2.2.fCode), (dI v2.2.fIndex)]), (.cells [(dI v3.2.fCode), (dI v3.2.fIndex)])]⟩ (by kernel_rfl) ?_
      exact hxx89 (v82, v83)  hsx92
theorem ok10 (m : Nat) (a0 : S51) (a1 : Int) (a2 : Int) (o : Bool) (h : f10 m a0 a1 a2 = some o) (n : Nat) (hn : m + 4 ≤ n) : Fn Proofs.Tryd.prog EG n 10 [.v (e51 a0), .v (eI a1), .v (eI a2)] (eB o) := by
  obtain ⟨n, rfl⟩ : ∃ q, n = q + 1 := ⟨n - 1, by omega⟩
  unfold f10 at h
  refine Fn.of (by kernel_rfl) (by kernel_rfl) (by kernel_rfl) ⟨(.v (.agg [(vP e88 a0.fClasses)])) :: (dI a1) :: (dI a2) :: u40 (u25 []), []⟩ (by kernel_rfl) ?_
  refine Wp.seq' (by kernel_rfl) ?_
  refine Wp.region (by kernel_rfl) ?_
  refine Ops.seg' 2 2 (by kernel_rfl) ?_
  refine Ops.done (by kernel_rfl) ?_
  refine seqQ.n ?_
  refine Wp.seq' (by kernel_rfl) ?_
  refine Wp.seq' (by kernel_rfl) ?_
  refine Wp.region (by kernel_rfl) ?_
  obtain ⟨v1, ev1, h⟩ := bnd_some h
  refine Ops.one' 1 (fun h0 e0 => (call_ok (E' := EG) (h := h0) (by kernel_rfl) Args.nil (ok26 m  v1 ev1 n (by omega)))) (by kernel_rfl) (by kernel_rfl) ?_
  refine Ops.seg' 1 2 (by kernel_rfl) ?_
  refine Ops.done (by kernel_rfl) ?_
  refine seqQ.n ?_
  refine Wp.cnd h [1, 2, 3, 6] 1 (by kernel_rfl) (fun h => ?_) (fun h => ?_)
  · refine Wp.seq' (by kernel_rfl) ?_
    refine Wp.region (by kernel_rfl) ?_
    refine Ops.seg' 1 1 (by kernel_rfl) ?_
    refine Ops.done (by kernel_rfl) ?_
    refine seqQ.n ?_
    refine Wp.ret (by kernel_rfl) ?_
    refine sqQ.r ?_
    refine seqQ.r ?_
    exact fnQ.r' (X10 n) (fun z => (eB z)) h (RetOk.mk' (dB false) (by kernel_rfl) (by kernel_rfl))
  · refine Wp.skip (by kernel_rfl) ?_
    refine sqQ.n' ?_
    refine seqQ.n ?_
    refine Wp.seq' (by kernel_rfl) ?_
    refine Wp.region (by kernel_rfl) ?_
    refine Ops.seg' 2 2 (by kernel_rfl) ?_
    obtain ⟨v2, ev2, h⟩ := bnd_some h
    refine Ops.one' 3 (fun h0 e0 => (call_ok (E' := EG) (h := h0) (by kernel_rfl) (Args.v (.agg [(vP e88 a0.fClasses)]) (e51 a0) (by kernel_rfl) (Args.v (vI a1) (eI a1) (by kernel_rfl) Args.nil)) (ok27 m a0 a1 v2 ev2 n (by omega)))) (by kernel_rfl) (by kernel_rfl) ?_
    refine Ops.seg' 6 9 (by kernel_rfl) ?_
    refine Ops.done (by kernel_rfl) ?_
    refine seqQ.n ?_
    refine Wp.seq' (by kernel_rfl) ?_
    refine Wp.region (by kernel_rfl) ?_
    refine Ops.seg' 2 2 (by kernel_rfl) ?_
    obtain ⟨v3, ev3, h⟩ := bnd_some h
    refine Ops.one' 3 (fun h0 e0 => (call_ok (E' := EG) (h := h0) (by kernel_rfl) (Args.v (.agg [(vP e88 a0.fClasses)]) (e51 a0) (by kernel_rfl) (Args.v (vI a2) (eI a2) (by kernel_rfl) Args.nil)) (ok27 m a0 a2 v3 ev3 n (by omega)))) (by kernel_rfl) (by kernel_rfl) ?_
    refine Ops.seg' 6 9 (by kernel_rfl) ?_
    refine Ops.done (by kernel_rfl) ?_
    refine seqQ.n ?_
    refine Wp.seq' (by kernel_rfl) ?_
    refine Wp.seq' (by kernel_rfl) ?_
    refine Wp.region (by kernel_rfl) ?_
    refine Ops.seg' 4 4 (by kernel_rfl) ?_
    have J10j11 : ∀ (d6 d7 d8 : D) (v9 : Bool) (v10 : Bool), f10_r6 m a1 a2 v2 v3 v10 = some o → Ops (X10 n) (opl (cL (cL (cR (cR (cR (cR C10))))))) 8 ⟨(.v (.agg [(vP e88 a0.fClasses)])) :: (dI a1) :: (dI a2) :: (.ptr 0 0) :: u2 ((dB false) :: (dP e61 v2.1) :: (.ptr 1 0) :: (dP e61 v3.1) :: (.ptr 2 0) :: u3 ((dB v1) :: (dB (!v1)) :: (.v (.tuple [(vP e61 v2.1), (.agg [(vI v2.2.fCode), (vI v2.2.fIndex)])])) :: (.v (.agg [(vP e88 a0.fClasses)])) :: (dI a1) :: (.v (.tuple [(vP e61 v2.1), (.agg [(vI v2.2.fCode), (vI v2.2.fIndex)])])) :: (dP e61 v2.1) :: (.v (.agg [(vI v2.2.fCode), (vI v2.2.fIndex)])) :: (.v (.tuple [(vP e61 v3.1), (.agg [(vI v3.2.fCode), (vI v3.2.fIndex)])])) :: (.v (.agg [(vP e88 a0.fClasses)])) :: (dI a2) :: (.v (.tuple [(vP e61 v3.1), (.agg [(vI v3.2.fCode), (vI v3.2.fIndex)])])) :: (dP e61 v3.1) :: (.v (.agg [(vI v3.2.fCode), (vI v3.2.fIndex)])) :: (.v (.agg [(vI v2.2.fCode), (vI v2.2.fIndex)])) :: (.v (.agg [(vI 0), (vI 0)])) :: (dB v9) :: (dB v9) :: d6 :: d7 :: d8 :: (dB v10) :: u32 [])), [(.cells [(dP e88 a0.fClasses)]), (.cells [(dI v2.2.fCode), (dI v2.2.fIndex)]), (.cells [(dI v3.2.fCode), (dI v3.2.fIndex)])]⟩ ((seqQ (X10 n) (cR (cL (cR (cR (cR (cR C10)))))) (seqQ (X10 n) (cR (cR (cR (cR (cR C10))))) (fnQ (X10 n).E.T (resOf Proofs.Tryd.prog 10) (eB o)))) .normal) := by
      intro d6 d7 d8 v9 v10 h
      unfold f10_r6 at h
      refine Ops.seg' 1 9 (by kernel_rfl) ?_
      have J10j19 : ∀ (d14 d15 d16 : D) (v17 : Bool) (v18 : Bool), f10_r5 m v2 v3 v18 = some o → Ops (X10 n) (opl (cL (cL (cR (cR (cR (cR C10))))))) 13 ⟨(.v (.agg [(vP e88 a0.fClasses)])) :: (dI a1) :: (dI a2) :: (.ptr 0 0) :: u2 ((dB false) :: (dP e61 v2.1) :: (.ptr 1 0) :: (dP e61 v3.1) :: (.ptr 2 0) :: u3 ((dB v1) :: (dB (!v1)) :: (.v (.tuple [(vP e61 v2.1), (.agg [(vI v2.2.fCode), (vI v2.2.fIndex)])])) :: (.v (.agg [(vP e88 a0.fClasses)])) :: (dI a1) :: (.v (.tuple [(vP e61 v2.1), (.agg [(vI v2.2.fCode), (vI v2.2.fIndex)])])) :: (dP e61 v2.1) :: (.v (.agg [(vI v2.2.fCode), (vI v2.2.fIndex)])) :: (.v (.tuple [(vP e61 v3.1), (.agg [(vI v3.2.fCode), (vI v3.2.fIndex)])])) :: (.v (.agg [(vP e88 a0.fClasses)])) :: (dI a2) :: (.v (.tuple [(vP e61 v3.1), (.agg [(vI v3.2.fCode), (vI v3.2.fIndex)])])) :: (dP e61 v3.1) :: (.v (.agg [(vI v3.2.fCode), (vI v3.2.fIndex)])) :: (.v (.agg [(vI v2.2.fCode), (vI v2.2.fIndex)])) :: (.v (.agg [(vI 0), (vI 0)])) :: (dB v9) :: (dB v9) :: d6 :: d7 :: d8 :: (dB v17) :: (dB v17) :: d14 :: d15 :: d16 :: (dB v18) :: u27 [])), [(.cells [(dP e88 a0.fClasses)]), (.cells [(dI v2.2.fCode), (dI v2.2.fIndex)]), (.cells [(dI v3.2.fCode), (dI v3.2.fIndex)])]⟩ ((seqQ (X10 n) (cR (cL (cR (cR (cR (cR C10)))))) (seqQ (X10 n) (cR (cR (cR (cR (cR C10))))) (fnQ (X10 n).E.T (resOf Proofs.Tryd.prog 10) (eB o)))) .normal) := by
        intro d14 d15 d16 v17 v18 h
        unfold f10_r5 at h
        refine Ops.done (by kernel_rfl) ?_
        refine seqQ.n ?_
        refine Wp.cnd h [6, 7, 9] 3 (by kernel_rfl) (fun h => ?_) (fun h => ?_)
        · refine Wp.seq' (by kernel_rfl) ?_
          refine Wp.region (by kernel_rfl) ?_
          refine Ops.seg' 1 1 (by kernel_rfl) ?_
          refine Ops.done (by kernel_rfl) ?_
          refine seqQ.n ?_
          refine Wp.ret (by kernel_rfl) ?_
          refine sqQ.r ?_
          refine seqQ.r ?_
          exact fnQ.r' (X10 n) (fun z => (eB z)) h (RetOk.mk' (dB true) (by kernel_rfl) (by kernel_rfl))
        · refine Wp.skip (by kernel_rfl) ?_
          refine sqQ.n' ?_
          refine seqQ.n ?_
          refine Wp.seq' (by kernel_rfl) ?_
          refine Wp.region (by kernel_rfl) ?_
          refine Ops.seg' 1 1 (by kernel_rfl) ?_
          refine Ops.done (by kernel_rfl) ?_
          refine seqQ.n ?_
          refine Wp.seq' (by kernel_rfl) ?_
          refine Wp.seq' (by kernel_rfl) ?_
          refine Wp.region (by kernel_rfl) ?_
          refine Ops.seg' 1 1 (by kernel_rfl) ?_
          refine Ops.one' 2 (fun h0 e0 => (len_r (T := T) h0 53 62 .plain e61 v3.1 (by kernel_rfl))) (by kernel_rfl) (by kernel_rfl) ?_
          refine Ops.seg' 1 3 (by kernel_rfl) ?_
          refine Ops.done (by kernel_rfl) ?_
          refine seqQ.n ?_
          refine Wp.block' 0 [6, 7, 11] 3 (by kernel_rfl) ?_
          have hLx123 := f10_hLx123 m a0 a1 a2 o n hn v2 v3
          refine Wp.loop' [6, 7, 11, 41, 42, 43] 3 (by kernel_rfl) ⟨q6 ((dB false) :: (dP e61 v2.1) :: q3 ((dI 0) :: q29 ((dP e61 v3.1) :: (dI ((v3.1.length : Int))) :: (dI 0) :: q24 []))), [(.cells [(dP e88 a0.fClasses)]), (.cells [(dI v2.2.fCode), (dI v2.2.fIndex)]), (.cells [(dI v3.2.fCode), (dI v3.2.fIndex)])]⟩ (by kernel_rfl) ?_
          rcases brk_some h with ⟨r125, er125, h⟩ | ⟨y124, ey124, h⟩
          · refine hLx123 _ 0 0  _ er125 n (by omega) (fun r er σ hσ => ?_) (fun y  ey => by cases ey)
            cases er
            refine seqQ.r ?_
            exact fnQ.r' (X10 n) (fun z => (eB z)) h hσ
          · refine hLx123 _ 0 0  _ ey124 n (by omega) (fun r er => by cases er) (fun y  ey => ?_)
            cases ey
            refine seqQ.n ?_
            refine Wp.seq' (by kernel_rfl) ?_
            refine Wp.region (by kernel_rfl) ?_
            refine Ops.seg' 2 2 (by kernel_rfl) ?_
            refine Ops.one' 3 (fun h0 e0 => (len_r (T := T) h0 53 62 .plain e61 v2.1 (by kernel_rfl))) (by kernel_rfl) (by kernel_rfl) ?_
            refine Ops.seg' 2 5 (by kernel_rfl) ?_
            refine Ops.done (by kernel_rfl) ?_
            refine seqQ.n ?_
            refine Wp.ret (by kernel_rfl) ?_
            exact fnQ.r' (X10 n) (fun z => (eB z)) h (RetOk.mk' (dB (y124.1 == ((v2.1.length : Int)))) (by kernel_rfl) (by kernel_rfl))
      have G10g13 : ∀ v12 : Bool, f10_r5 m v2 v3 ((v12 || (decide (a1 > a2)))) = some o → Ops (X10 n) (opl (cL (cL (cR (cR (cR (cR C10))))))) 9 ⟨(.v (.agg [(vP e88 a0.fClasses)])) :: (dI a1) :: (dI a2) :: (.ptr 0 0) :: u2 ((dB false) :: (dP e61 v2.1) :: (.ptr 1 0) :: (dP e61 v3.1) :: (.ptr 2 0) :: u3 ((dB v1) :: (dB (!v1)) :: (.v (.tuple [(vP e61 v2.1), (.agg [(vI v2.2.fCode), (vI v2.2.fIndex)])])) :: (.v (.agg [(vP e88 a0.fClasses)])) :: (dI a1) :: (.v (.tuple [(vP e61 v2.1), (.agg [(vI v2.2.fCode), (vI v2.2.fIndex)])])) :: (dP e61 v2.1) :: (.v (.agg [(vI v2.2.fCode), (vI v2.2.fIndex)])) :: (.v (.tuple [(vP e61 v3.1), (.agg [(vI v3.2.fCode), (vI v3.2.fIndex)])])) :: (.v (.agg [(vP e88 a0.fClasses)])) :: (dI a2) :: (.v (.tuple [(vP e61 v3.1), (.agg [(vI v3.2.fCode), (vI v3.2.fIndex)])])) :: (dP e61 v3.1) :: (.v (.agg [(vI v3.2.fCode), (vI v3.2.fIndex)])) :: (.v (.agg [(vI v2.2.fCode), (vI v2.2.fIndex)])) :: (.v (.agg [(vI 0), (vI 0)])) :: (dB v9) :: (dB v9) :: d6 :: d7 :: d8 :: (dB v12) :: (dB v12) :: u31 [])), [(.cells [(dP e88 a0.fClasses)]), (.cells [(dI v2.2.fCode), (dI v2.2.fIndex)]), (.cells [(dI v3.2.fCode), (dI v3.2.fIndex)])]⟩ ((seqQ (X10 n) (cR (cL (cR (cR (cR (cR C10)))))) (seqQ (X10 n) (cR (cR (cR (cR (cR C10))))) (fnQ (X10 n).E.T (resOf Proofs.Tryd.prog 10) (eB o)))) .normal) := by
        intro v12 h
        cases v12
        · refine Ops.seg' 4 13 (by kernel_rfl) ?_
          refine Ops.st ⟨(.v (.agg [(vP e88 a0.fClasses)])) :: (dI a1) :: (dI a2) :: (.ptr 0 0) :: u2 ((dB false) :: (dP e61 v2.1) :: (.ptr 1 0) :: (dP e61 v3.1) :: (.ptr 2 0) :: u3 ((dB v1) :: (dB (!v1)) :: (.v (.tuple [(vP e61 v2.1), (.agg [(vI v2.2.fCode), (vI v2.2.fIndex)])])) :: (.v (.agg [(vP e88 a0.fClasses)])) :: (dI a1) :: (.v (.tuple [(vP e61 v2.1), (.agg [(vI v2.2.fCode), (vI v2.2.fIndex)])])) :: (dP e61 v2.1) :: (.v (.agg [(vI v2.2.fCode), (vI v2.2.fIndex)])) :: (.v (.tuple [(vP e61 v3.1), (.agg [(vI v3.2.fCode), (vI v3.2.fIndex)])])) :: (.v (.agg [(vP e88 a0.fClasses)])) :: (dI a2) :: (.v (.tuple [(vP e61 v3.1), (.agg [(vI v3.2.fCode), (vI v3.2.fIndex)])])) :: (dP e61 v3.1) :: (.v (.agg [(vI v3.2.fCode), (vI v3.2.fIndex)])) :: (.v (.agg [(vI v2.2.fCode), (vI v2.2.fIndex)])) :: (.v (.agg [(vI 0), (vI 0)])) :: (dB v9) :: (dB v9) :: d6 :: d7 :: d8 :: (dB false) :: (dB false) :: (dI a1) :: (dI a2) :: (dB (decide (a1 > a2))) :: (dB (decide (a1 > a2))) :: u27 [])), [(.cells [(dP e88 a0.fClasses)]), (.cells [(dI v2.2.fCode), (dI v2.2.fIndex)]), (.cells [(dI v3.2.fCode), (dI v3.2.fIndex)])]⟩ (by kernel_rfl) ?_
          exact J10j19 _ _ _ _ _ h
        · refine Ops.seg' 4 13 (by kernel_rfl) ?_
          refine Ops.st ⟨(.v (.agg [(vP e88 a0.fClasses)])) :: (dI a1) :: (dI a2) :: (.ptr 0 0) :: u2 ((dB false) :: (dP e61 v2.1) :: (.ptr 1 0) :: (dP e61 v3.1) :: (.ptr 2 0) :: u3 ((dB v1) :: (dB (!v1)) :: (.v (.tuple [(vP e61 v2.1), (.agg [(vI v2.2.fCode), (vI v2.2.fIndex)])])) :: (.v (.agg [(vP e88 a0.fClasses)])) :: (dI a1) :: (.v (.tuple [(vP e61 v2.1), (.agg [(vI v2.2.fCode), (vI v2.2.fIndex)])])) :: (dP e61 v2.1) :: (.v (.agg [(vI v2.2.fCode), (vI v2.2.fIndex)])) :: (.v (.tuple [(vP e61 v3.1), (.agg [(vI v3.2.fCode), (vI v3.2.fIndex)])])) :: (.v (.agg [(vP e88 a0.fClasses)])) :: (dI a2) :: (.v (.tuple [(vP e61 v3.1), (.agg [(vI v3.2.fCode), (vI v3.2.fIndex)])])) :: (dP e61 v3.1) :: (.v (.agg [(vI v3.2.fCode), (vI v3.2.fIndex)])) :: (.v (.agg [(vI v2.2.fCode), (vI v2.2.fIndex)])) :: (.v (.agg [(vI 0), (vI 0)])) :: (dB v9) :: (dB v9) :: d6 :: d7 :: d8 :: (dB true) :: (dB true) :: u3 ((dB true) :: u27 []))), [(.cells [(dP e88 a0.fClasses)]), (.cells [(dI v2.2.fCode), (dI v2.2.fIndex)]), (.cells [(dI v3.2.fCode), (dI v3.2.fIndex)])]⟩ (by kernel_rfl) ?_
          exact J10j19 _ _ _ _ _ h
      exact Ops.st ⟨(.v (.agg [(vP e88 a0.fClasses)])) :: (dI a1) :: (dI a2) :: (.ptr 0 0) :: u2 ((dB false) :: (dP e61 v2.1) :: (.ptr 1 0) :: (dP e61 v3.1) :: (.ptr 2 0) :: u3 ((dB v1) :: (dB (!v1)) :: (.v (.tuple [(vP e61 v2.1), (.agg [(vI v2.2.fCode), (vI v2.2.fIndex)])])) :: (.v (.agg [(vP e88 a0.fClasses)])) :: (dI a1) :: (.v (.tuple [(vP e61 v2.1), (.agg [(vI v2.2.fCode), (vI v2.2.fIndex)])])) :: (dP e61 v2.1) :: (.v (.agg [(vI v2.2.fCode), (vI v2.2.fIndex)])) :: (.v (.tuple [(vP e61 v3.1), (.agg [(vI v3.2.fCode), (vI v3.2.fIndex)])])) :: (.v (.agg [(vP e88 a0.fClasses)])) :: (dI a2) :: (.v (.tuple [(vP e61 v3.1), (.agg [(vI v3.2.fCode), (vI v3.2.fIndex)])])) :: (dP e61 v3.1) :: (.v (.agg [(vI v3.2.fCode), (vI v3.2.fIndex)])) :: (.v (.agg [(vI v2.2.fCode), (vI v2.2.fIndex)])) :: (.v (.agg [(vI 0), (vI 0)])) :: (dB v9) :: (dB v9) :: d6 :: d7 :: d8 :: (dB v10) :: (dB v10) :: u31 [])), [(.cells [(dP e88 a0.fClasses)]), (.cells [(dI v2.2.fCode), (dI v2.2.fIndex)]), (.cells [(dI v3.2.fCode), (dI v3.2.fIndex)])]⟩ (by kernel_rfl) (G10g13 v10 h)
    have G10g5 : ∀ v4 : Bool, f10_r6 m a1 a2 v2 v3 ((v4 || (!((v3.2.fCode == 0) && ((v3.2.fIndex == 0) && true))))) = some o → Ops (X10 n) (opl (cL (cL (cR (cR (cR (cR C10))))))) 4 ⟨(.v (.agg [(vP e88 a0.fClasses)])) :: (dI a1) :: (dI a2) :: (.ptr 0 0) :: u2 ((dB false) :: (dP e61 v2.1) :: (.ptr 1 0) :: (dP e61 v3.1) :: (.ptr 2 0) :: u3 ((dB v1) :: (dB (!v1)) :: (.v (.tuple [(vP e61 v2.1), (.agg [(vI v2.2.fCode), (vI v2.2.fIndex)])])) :: (.v (.agg [(vP e88 a0.fClasses)])) :: (dI a1) :: (.v (.tuple [(vP e61 v2.1), (.agg [(vI v2.2.fCode), (vI v2.2.fIndex)])])) :: (dP e61 v2.1) :: (.v (.agg [(vI v2.2.fCode), (vI v2.2.fIndex)])) :: (.v (.tuple [(vP e61 v3.1), (.agg [(vI v3.2.fCode), (vI v3.2.fIndex)])])) :: (.v (.agg [(vP e88 a0.fClasses)])) :: (dI a2) :: (.v (.tuple [(vP e61 v3.1), (.agg [(vI v3.2.fCode), (vI v3.2.fIndex)])])) :: (dP e61 v3.1) :: (.v (.agg [(vI v3.2.fCode), (vI v3.2.fIndex)])) :: (.v (.agg [(vI v2.2.fCode), (vI v2.2.fIndex)])) :: (.v (.agg [(vI 0), (vI 0)])) :: (dB v4) :: (dB v4) :: u36 [])), [(.cells [(dP e88 a0.fClasses)]), (.cells [(dI v2.2.fCode), (dI v2.2.fIndex)]), (.cells [(dI v3.2.fCode), (dI v3.2.fIndex)])]⟩ ((seqQ (X10 n) (cR (cL (cR (cR (cR (cR C10)))))) (seqQ (X10 n) (cR (cR (cR (cR (cR C10))))) (fnQ (X10 n).E.T (resOf Proofs.Tryd.prog 10) (eB o)))) .normal) := by
      intro v4 h
      cases v4
      · refine Ops.seg' 4 8 (by kernel_rfl) ?_
        refine Ops.st ⟨(.v (.agg [(vP e88 a0.fClasses)])) :: (dI a1) :: (dI a2) :: (.ptr 0 0) :: u2 ((dB false) :: (dP e61 v2.1) :: (.ptr 1 0) :: (dP e61 v3.1) :: (.ptr 2 0) :: u3 ((dB v1) :: (dB (!v1)) :: (.v (.tuple [(vP e61 v2.1), (.agg [(vI v2.2.fCode), (vI v2.2.fIndex)])])) :: (.v (.agg [(vP e88 a0.fClasses)])) :: (dI a1) :: (.v (.tuple [(vP e61 v2.1), (.agg [(vI v2.2.fCode), (vI v2.2.fIndex)])])) :: (dP e61 v2.1) :: (.v (.agg [(vI v2.2.fCode), (vI v2.2.fIndex)])) :: (.v (.tuple [(vP e61 v3.1), (.agg [(vI v3.2.fCode), (vI v3.2.fIndex)])])) :: (.v (.agg [(vP e88 a0.fClasses)])) :: (dI a2) :: (.v (.tuple [(vP e61 v3.1), (.agg [(vI v3.2.fCode), (vI v3.2.fIndex)])])) :: (dP e61 v3.1) :: (.v (.agg [(vI v3.2.fCode), (vI v3.2.fIndex)])) :: (.v (.agg [(vI v2.2.fCode), (vI v2.2.fIndex)])) :: (.v (.agg [(vI 0), (vI 0)])) :: (dB false) :: (dB false) :: (.v (.agg [(vI v3.2.fCode), (vI v3.2.fIndex)])) :: (.v (.agg [(vI 0), (vI 0)])) :: (dB (!((v3.2.fCode == 0) && ((v3.2.fIndex == 0) && true)))) :: (dB (!((v3.2.fCode == 0) && ((v3.2.fIndex == 0) && true)))) :: u32 [])), [(.cells [(dP e88 a0.fClasses)]), (.cells [(dI v2.2.fCode), (dI v2.2.fIndex)]), (.cells [(dI v3.2.fCode), (dI v3.2.fIndex)])]⟩ (by kernel_rfl) ?_
        exact J10j11 _ _ _ _ _ h
      · refine Ops.seg' 4 8 (by kernel_rfl) ?_
        refine Ops.st ⟨(.v (.agg [(vP e88 a0.fClasses)])) :: (dI a1) :: (dI a2) :: (.ptr 0 0) :: u2 ((dB false) :: (dP e61 v2.1) :: (.ptr 1 0) :: (dP e61 v3.1) :: (.ptr 2 0) :: u3 ((dB v1) :: (dB (!v1)) :: (.v (.tuple [(vP e61 v2.1), (.agg [(vI v2.2.fCode), (vI v2.2.fIndex)])])) :: (.v (.agg [(vP e88 a0.fClasses)])) :: (dI a1) :: (.v (.tuple [(vP e61 v2.1), (.agg [(vI v2.2.fCode), (vI v2.2.fIndex)])])) :: (dP e61 v2.1) :: (.v (.agg [(vI v2.2.fCode), (vI v2.2.fIndex)])) :: (.v (.tuple [(vP e61 v3.1), (.agg [(vI v3.2.fCode), (vI v3.2.fIndex)])])) :: (.v (.agg [(vP e88 a0.fClasses)])) :: (dI a2) :: (.v (.tuple [(vP e61 v3.1), (.agg [(vI v3.2.fCode), (vI v3.2.fIndex)])])) :: (dP e61 v3.1) :: (.v (.agg [(vI v3.2.fCode), (vI v3.2.fIndex)])) :: (.v (.agg [(vI v2.2.fCode), (vI v2.2.fIndex)])) :: (.v (.agg [(vI 0), (vI 0)])) :: (dB true) :: (dB true) :: u3 ((dB true) :: u32 []))), [(.cells [(dP e88 a0.fClasses)]), (.cells [(dI v2.2.fCode), (dI v2.2.fIndex)]), (.cells [(dI v3.2.fCode), (dI v3.2.fIndex)])]⟩ (by kernel_rfl) ?_
        exact J10j11 _ _ _ _ _ h
    exact Ops.st ⟨(.v (.agg [(vP e88 a0.fClasses)])) :: (dI a1) :: (dI a2) :: (.ptr 0 0) :: u2 ((dB false) :: (dP e61 v2.1) :: (.ptr 1 0) :: (dP e61 v3.1) :: (.ptr 2 0) :: u3 ((dB v1) :: (dB (!v1)) :: (.v (.tuple [(vP e61 v2.1), (.agg [(vI v2.2.fCode), (vI v2.2.fIndex)])])) :: (.v (.agg [(vP e88 a0.fClasses)])) :: (dI a1) :: (.v (.tuple [(vP e61 v2.1), (.agg [(vI v2.2.fCode), (vI v2.2.fIndex)])])) :: (dP e61 v2.1) :: (.v (.agg [(vI v2.2.fCode), (vI v2.2.fIndex)])) :: (.v (.tuple [(vP e61 v3.1), (.agg [(vI v3.2.fCode), (vI v3.2.fIndex)])])) :: (.v (.agg [(vP e88 a0.fClasses)])) :: (dI a2) :: (.v (.tuple [(vP e61 v3.1), (.agg [(vI v3.2.fCode), (vI v3.2.fIndex)])])) :: (dP e61 v3.1) :: (.v (.agg [(vI v3.2.fCode), (vI v3.2.fIndex)])) :: (.v (.agg [(vI v2.2.fCode), (vI v2.2.fIndex)])) :: (.v (.agg [(vI 0), (vI 0)])) :: (dB ((!((v2.2.fCode == 0) && ((v2.2.fIndex == 0) && true))))) :: (dB ((!((v2.2.fCode == 0) && ((v2.2.fIndex == 0) && true))))) :: u36 [])), [(.cells [(dP e88 a0.fClasses)]), (.cells [(dI v2.2.fCode), (dI v2.2.fIndex)]), (.cells [(dI v3.2.fCode), (dI v3.2.fIndex)])]⟩ (by kernel_rfl) (G10g5 (!((v2.2.fCode == 0) && ((v2.2.fIndex == 0) && true))) h)

end Go.Abs
