import Derived.Test.YthjhdnonlkooiaaDoorLE
namespace Go.Abs
set_option linter.unusedVariables false
set_option maxRecDepth 100000

/-! ### 51 glosswright/glosswrightlaw6.dogs -/
def f51 (m : Nat)  : Option S51 :=
  some ((⟨[(⟨(⟨#[114, 111, 111, 116]⟩ : ByteArray), [(⟨(⟨#[100, 111, 103]⟩ : ByteArray), (⟨#[100, 111, 103]⟩ : ByteArray), [(⟨#[110]⟩ : ByteArray)], 1, 0⟩ : S90)]⟩ : S88), (⟨(⟨#[110, 117, 109, 98, 101, 114]⟩ : ByteArray), [(⟨ByteArray.empty, ByteArray.empty, [(⟨#[115, 103]⟩ : ByteArray)], (-1), 0⟩ : S90), (⟨ByteArray.empty, (⟨#[115]⟩ : ByteArray), [(⟨#[112, 108]⟩ : ByteArray)], (-1), 2⟩ : S90)]⟩ : S88)]⟩ : S51))
noncomputable abbrev X51 (n : Nat) : Cx := cxOf Proofs.Tryd.prog EG 51 n
noncomputable def C51 : Code := bodyOf Proofs.Tryd.prog 51
theorem ok51 (m : Nat)  (o : S51) (h : f51 m  = some o) (n : Nat) (hn : m + 1 ≤ n) : Fn Proofs.Tryd.prog EG n 51 [] (e51 o) := by
  obtain ⟨n, rfl⟩ : ∃ q, n = q + 1 := ⟨n - 1, by omega⟩
  unfold f51 at h
  refine Fn.of (by kernel_rfl) (by kernel_rfl) (by kernel_rfl) ⟨u13 [], []⟩ (by kernel_rfl) ?_
  refine Wp.seq' (by kernel_rfl) ?_
  refine Wp.region (by kernel_rfl) ?_
  refine Ops.seg' 1 1 (by kernel_rfl) ?_
  refine Ops.done (by kernel_rfl) ?_
  refine seqQ.n ?_
  refine Wp.seq' (by kernel_rfl) ?_
  refine Wp.region (by kernel_rfl) ?_
  refine Ops.seg' 13 13 (by kernel_rfl) ?_
  refine Ops.done (by kernel_rfl) ?_
  refine seqQ.n ?_
  refine Wp.ret (by kernel_rfl) ?_
  exact fnQ.r' (X51 n) (fun z => (e51 z)) h (RetOk.mk' (.v (.agg [(.sl .nonfull (List.map e88 ([(⟨(⟨#[114, 111, 111, 116]⟩ : ByteArray), [(⟨(⟨#[100, 111, 103]⟩ : ByteArray), (⟨#[100, 111, 103]⟩ : ByteArray), [(⟨#[110]⟩ : ByteArray)], 1, 0⟩ : S90)]⟩ : S88), (⟨(⟨#[110, 117, 109, 98, 101, 114]⟩ : ByteArray), [(⟨ByteArray.empty, ByteArray.empty, [(⟨#[115, 103]⟩ : ByteArray)], (-1), 0⟩ : S90), (⟨ByteArray.empty, (⟨#[115]⟩ : ByteArray), [(⟨#[112, 108]⟩ : ByteArray)], (-1), 2⟩ : S90)]⟩ : S88)])))])) (by kernel_rfl) (by kernel_rfl))

/-! ### 20 glosswright/glosswrightequal.TextLists -/
def f20_B1 (m : Nat) (a0 : (List ByteArray)) (a1 : (List ByteArray)) (v6 : Int) : Option (Stp Bool (Int)) :=
  cnd (decide (v6 < (a0.length : Int)))
  (bnd (idx a0 v6) fun v16 =>
  bnd (idx a1 v6) fun v17 =>
  cnd (!(v16.toList == v17.toList))
  (some (.ret false))
  (some (.nxt (w64 (v6 + 1)))))
  (some (.brk v6))
def f20 (m : Nat) (a0 : (List ByteArray)) (a1 : (List ByteArray)) : Option Bool :=
  cnd ((a0.length : Int) != (a1.length : Int))
  (some false)
  (brk (iter (fun (y : Int) => f20_B1 m a0 a1 y) m 0) some fun y19 =>
  some true)
noncomputable abbrev X20 (n : Nat) : Cx := cxOf Proofs.Tryd.prog EG 20 n
noncomputable def C20 : Code := bodyOf Proofs.Tryd.prog 20
theorem ok20 (m : Nat) (a0 : (List ByteArray)) (a1 : (List ByteArray)) (o : Bool) (h : f20 m a0 a1 = some o) (n : Nat) (hn : m + 1 ≤ n) : Fn Proofs.Tryd.prog EG n 20 [.v ((eL eS) a0), .v ((eL eS) a1)] (eB o) := by
  obtain ⟨n, rfl⟩ : ∃ q, n = q + 1 := ⟨n - 1, by omega⟩
  unfold f20 at h
  refine Fn.of (by kernel_rfl) (by kernel_rfl) (by kernel_rfl) ⟨(dP eS a0) :: (dP eS a1) :: u24 [], []⟩ (by kernel_rfl) ?_
  refine Wp.seq' (by kernel_rfl) ?_
  refine Wp.region (by kernel_rfl) ?_
  refine Ops.seg' 1 1 (by kernel_rfl) ?_
  refine Ops.done (by kernel_rfl) ?_
  refine seqQ.n ?_
  refine Wp.seq' (by kernel_rfl) ?_
  refine Wp.seq' (by kernel_rfl) ?_
  refine Wp.region (by kernel_rfl) ?_
  refine Ops.seg' 1 1 (by kernel_rfl) ?_
  refine Ops.one' 2 (fun h0 e0 => (len_r (T := T) h0 36 9 .plain eS a0 (by kernel_rfl))) (by kernel_rfl) (by kernel_rfl) ?_
  refine Ops.seg' 1 3 (by kernel_rfl) ?_
  refine Ops.one' 4 (fun h0 e0 => (len_r (T := T) h0 36 9 .plain eS a1 (by kernel_rfl))) (by kernel_rfl) (by kernel_rfl) ?_
  refine Ops.seg' 1 5 (by kernel_rfl) ?_
  refine Ops.done (by kernel_rfl) ?_
  refine seqQ.n ?_
  refine Wp.cnd h [0, 1, 4] 0 (by kernel_rfl) (fun h => ?_) (fun h => ?_)
  · refine Wp.seq' (by kernel_rfl) ?_
    refine Wp.region (by kernel_rfl) ?_
    refine Ops.seg' 1 1 (by kernel_rfl) ?_
    refine Ops.done (by kernel_rfl) ?_
    refine seqQ.n ?_
    refine Wp.ret (by kernel_rfl) ?_
    refine sqQ.r ?_
    refine seqQ.r ?_
    exact fnQ.r' (X20 n) (fun z => (eB z)) h (RetOk.mk' (dB false) (by kernel_rfl) (by kernel_rfl))
  · refine Wp.skip (by kernel_rfl) ?_
    refine sqQ.n' ?_
    refine seqQ.n ?_
    refine Wp.seq' (by kernel_rfl) ?_
    refine Wp.seq' (by kernel_rfl) ?_
    refine Wp.region (by kernel_rfl) ?_
    refine Ops.seg' 1 1 (by kernel_rfl) ?_
    refine Ops.one' 2 (fun h0 e0 => (len_r (T := T) h0 36 9 .plain eS a0 (by kernel_rfl))) (by kernel_rfl) (by kernel_rfl) ?_
    refine Ops.seg' 1 3 (by kernel_rfl) ?_
    refine Ops.done (by kernel_rfl) ?_
    refine seqQ.n ?_
    refine Wp.block' 0 [4] 0 (by kernel_rfl) ?_
    have hLx18 : ∀ (kx8 : Nat) (v6 : Int)  (ox7 : Bool ⊕ (Int)), iter (fun (y : Int) => f20_B1 m a0 a1 y) kx8 v6 = some ox7 → ∀ nx9, kx8 ≤ nx9 → (∀ r, ox7 = .inl r → ∀ σ, RetOk (X20 n) (resOf Proofs.Tryd.prog 20) (eB r) σ → (seqQ (X20 n) (cR (cR (cR C20))) (fnQ (X20 n).E.T (resOf Proofs.Tryd.prog 20) (eB o))) .ret σ) → (∀ (y : Int) , ox7 = .inr y → (seqQ (X20 n) (cR (cR (cR C20))) (fnQ (X20 n).E.T (resOf Proofs.Tryd.prog 20) (eB o))) .normal ⟨(dP eS a0) :: (dP eS a1) :: q2 ((dB false) :: q7 ((dI (a0.length : Int)) :: (dI y) :: q12 [])), []⟩) → Lp (X20 n) [0, 1, 4, 12, 13] 0 (cL (cL (cR (cL (cR (cR C20)))))) nx9 ⟨(dP eS a0) :: (dP eS a1) :: q2 ((dB false) :: q7 ((dI (a0.length : Int)) :: (dI v6) :: q12 [])), []⟩ (blkQ (X20 n) 0 [4] 0 (seqQ (X20 n) (cR (cR (cR C20))) (fnQ (X20 n).E.T (resOf Proofs.Tryd.prog 20) (eB o)))) := by
      intro kx8
      induction kx8 with
      | zero => intro v6  ox7 h; exact (iter_zero h).elim
      | succ kx8 ihx10 =>
        intro v6  ox7 h nx9 hnx13 hrx11 hxx12
        obtain ⟨nx9, rfl⟩ : ∃ q, nx9 = q + 1 := ⟨nx9 - 1, by omega⟩
        obtain ⟨sx14, h, hsx15⟩ := iter_some h
        have h : f20_B1 m a0 a1 v6 = some sx14 := h
        unfold f20_B1 at h
        refine Lp.succ ?_
        refine Wp.seq' (by kernel_rfl) ?_
        refine Wp.region (by kernel_rfl) ?_
        refine Ops.seg' 1 1 (by kernel_rfl) ?_
        refine Ops.done (by kernel_rfl) ?_
        refine seqQ.n ?_
        refine Wp.seq' (by kernel_rfl) ?_
        refine Wp.cnd h [0, 1, 4, 12, 13] 0 (by kernel_rfl) (fun h => ?_) (fun h => ?_)
        · refine Wp.skip (by kernel_rfl) ?_
          refine sqQ.n' ?_
          refine seqQ.n ?_
          refine Wp.seq' (by kernel_rfl) ?_
          refine Wp.block' 1 [0, 1, 4, 12, 13] 0 (by kernel_rfl) ?_
          refine Wp.seq' (by kernel_rfl) ?_
          refine Wp.region (by kernel_rfl) ?_
          refine Ops.seg' 2 2 (by kernel_rfl) ?_
          refine Ops.done (by kernel_rfl) ?_
          refine seqQ.n ?_
          refine Wp.seq' (by kernel_rfl) ?_
          refine Wp.region (by kernel_rfl) ?_
          refine Ops.seg' 2 2 (by kernel_rfl) ?_
          obtain ⟨v16, ev16, h⟩ := bnd_some h
          refine Ops.one' 3 (fun h0 e0 => (ix_r (T := T) h0 36 9 1 .plain eS a0 v6 v16 ev16 (by kernel_rfl) (by kernel_rfl) (fun _ => rfl))) (by kernel_rfl) (by kernel_rfl) ?_
          refine Ops.seg' 3 6 (by kernel_rfl) ?_
          obtain ⟨v17, ev17, h⟩ := bnd_some h
          refine Ops.one' 7 (fun h0 e0 => (ix_r (T := T) h0 36 9 1 .plain eS a1 v6 v17 ev17 (by kernel_rfl) (by kernel_rfl) (fun _ => rfl))) (by kernel_rfl) (by kernel_rfl) ?_
          refine Ops.seg' 2 9 (by kernel_rfl) ?_
          refine Ops.done (by kernel_rfl) ?_
          refine seqQ.n ?_
          refine Wp.cnd h [0, 1, 4, 12, 13] 0 (by kernel_rfl) (fun h => ?_) (fun h => ?_)
          · refine Wp.seq' (by kernel_rfl) ?_
            refine Wp.region (by kernel_rfl) ?_
            refine Ops.seg' 1 1 (by kernel_rfl) ?_
            refine Ops.done (by kernel_rfl) ?_
            refine seqQ.n ?_
            refine Wp.ret (by kernel_rfl) ?_
            refine sqQ.r ?_
            refine blkQ.r ?_
            refine seqQ.r ?_
            cases h
            refine lpQ.r ?_
            refine blkQ.r ?_
            exact hrx11 _ hsx15 _ (RetOk.forget [0, 1, 4, 12, 13] (by kernel_rfl) (RetOk.mk' (dB false) (by kernel_rfl) (by kernel_rfl)))
          · refine Wp.skip (by kernel_rfl) ?_
            refine sqQ.n' ?_
            refine blkQ.n' ?_
            refine seqQ.n ?_
            refine Wp.region (by kernel_rfl) ?_
            refine Ops.seg' 2 2 (by kernel_rfl) ?_
            refine Ops.done (by kernel_rfl) ?_
            refine lpQ.n ⟨(dP eS a0) :: (dP eS a1) :: q2 ((dB false) :: q7 ((dI (a0.length : Int)) :: (dI (w64 (v6 + 1))) :: q12 [])), []⟩ (by kernel_rfl) ?_
            cases h
            exact ihx10 (w64 (v6 + 1))  _ hsx15 _ (by omega) hrx11 hxx12
        · refine Wp.exit (id := 0) (by kernel_rfl) ?_
          refine sqQ.x ?_
          refine seqQ.x ?_
          cases h
          refine lpQ.x ?_
          refine blkQ.x ⟨(dP eS a0) :: (dP eS a1) :: q2 ((dB false) :: q7 ((dI (a0.length : Int)) :: (dI v6) :: q12 [])), []⟩ (by kernel_rfl) ?_
          exact hxx12 v6  hsx15
    refine Wp.loop' [0, 1, 4, 12, 13] 0 (by kernel_rfl) ⟨(dP eS a0) :: (dP eS a1) :: q2 ((dB false) :: q7 ((dI (a0.length : Int)) :: (dI 0) :: q12 [])), []⟩ (by kernel_rfl) ?_
    rcases brk_some h with ⟨r20, er20, h⟩ | ⟨y19, ey19, h⟩
    · refine hLx18 _ 0  _ er20 n (by omega) (fun r er σ hσ => ?_) (fun y  ey => by cases ey)
      cases er
      refine seqQ.r ?_
      exact fnQ.r' (X20 n) (fun z => (eB z)) h hσ
    · refine hLx18 _ 0  _ ey19 n (by omega) (fun r er => by cases er) (fun y  ey => ?_)
      cases ey
      refine seqQ.n ?_
      refine Wp.seq' (by kernel_rfl) ?_
      refine Wp.region (by kernel_rfl) ?_
      refine Ops.seg' 1 1 (by kernel_rfl) ?_
      refine Ops.done (by kernel_rfl) ?_
      refine seqQ.n ?_
      refine Wp.ret (by kernel_rfl) ?_
      exact fnQ.r' (X20 n) (fun z => (eB z)) h (RetOk.mk' (dB true) (by kernel_rfl) (by kernel_rfl))

/-! ### 30 glosswright/glosswrightequal.Entries -/
def f30_r1 (m : Nat) (v118 : Int) (v177 : Bool) : Option (Stp Bool (Int)) :=
  cnd v177
  (some (.ret false))
  (some (.nxt (w64 (v118 + 1))))
def f30_r2 (m : Nat) (a0 : (List S61)) (a1 : (List S61)) (v118 : Int) (v160 : Bool) : Option (Stp Bool (Int)) :=
  bnd (cnd v160
  (some true)
  (bnd (idx a0 v118) fun v179 =>
  bnd (idx a1 v118) fun v180 =>
  bnd (f20 m v179.fTags v180.fTags) fun v181 =>
  some (!v181))) fun v177 =>
  f30_r1 m v118 v177
def f30_r3 (m : Nat) (a0 : (List S61)) (a1 : (List S61)) (v118 : Int) (v144 : Bool) : Option (Stp Bool (Int)) :=
  bnd (cnd v144
  (some true)
  (bnd (idx a0 v118) fun v182 =>
  bnd (idx a1 v118) fun v183 =>
  some (v182.fWeight != v183.fWeight))) fun v160 =>
  f30_r2 m a0 a1 v118 v160
def f30_B4 (m : Nat) (a0 : (List S61)) (a1 : (List S61)) (v118 : Int) : Option (Stp Bool (Int)) :=
  cnd (decide (v118 < (a0.length : Int)))
  (bnd (idx a0 v118) fun v128 =>
  bnd (idx a1 v118) fun v129 =>
  bnd (cnd (!(v128.fBase.toList == v129.fBase.toList))
  (some true)
  (bnd (idx a0 v118) fun v184 =>
  bnd (idx a1 v118) fun v185 =>
  some (!(v184.fForm.toList == v185.fForm.toList)))) fun v144 =>
  f30_r3 m a0 a1 v118 v144)
  (some (.brk v118))
def f30 (m : Nat) (a0 : (List S61)) (a1 : (List S61)) : Option Bool :=
  cnd ((a0.length : Int) != (a1.length : Int))
  (some false)
  (brk (iter (fun (y : Int) => f30_B4 m a0 a1 y) m 0) some fun y187 =>
  some true)
noncomputable abbrev X30 (n : Nat) : Cx := cxOf Proofs.Tryd.prog EG 30 n
noncomputable def C30 : Code := bodyOf Proofs.Tryd.prog 30
theorem ok30 (m : Nat) (a0 : (List S61)) (a1 : (List S61)) (o : Bool) (h : f30 m a0 a1 = some o) (n : Nat) (hn : m + 2 ≤ n) : Fn Proofs.Tryd.prog EG n 30 [.v ((eL e61) a0), .v ((eL e61) a1)] (eB o) := by
  obtain ⟨n, rfl⟩ : ∃ q, n = q + 1 := ⟨n - 1, by omega⟩
  unfold f30 at h
  refine Fn.of (by kernel_rfl) (by kernel_rfl) (by kernel_rfl) ⟨(dP e61 a0) :: (dP e61 a1) :: u40 (u26 []), []⟩ (by kernel_rfl) ?_
  refine Wp.seq' (by kernel_rfl) ?_
  refine Wp.region (by kernel_rfl) ?_
  refine Ops.seg' 1 1 (by kernel_rfl) ?_
  refine Ops.done (by kernel_rfl) ?_
  refine seqQ.n ?_
  refine Wp.seq' (by kernel_rfl) ?_
  refine Wp.seq' (by kernel_rfl) ?_
  refine Wp.region (by kernel_rfl) ?_
  refine Ops.seg' 1 1 (by kernel_rfl) ?_
  refine Ops.one' 2 (fun h0 e0 => (len_r (T := T) h0 53 62 .plain e61 a0 (by kernel_rfl))) (by kernel_rfl) (by kernel_rfl) ?_
  refine Ops.seg' 1 3 (by kernel_rfl) ?_
  refine Ops.one' 4 (fun h0 e0 => (len_r (T := T) h0 53 62 .plain e61 a1 (by kernel_rfl))) (by kernel_rfl) (by kernel_rfl) ?_
  refine Ops.seg' 1 5 (by kernel_rfl) ?_
  refine Ops.done (by kernel_rfl) ?_
  refine seqQ.n ?_
  refine Wp.cnd h [0, 1, 4] 0 (by kernel_rfl) (fun h => ?_) (fun h => ?_)
  · refine Wp.seq' (by kernel_rfl) ?_
    refine Wp.region (by kernel_rfl) ?_
    refine Ops.seg' 1 1 (by kernel_rfl) ?_
    refine Ops.done (by kernel_rfl) ?_
    refine seqQ.n ?_
    refine Wp.ret (by kernel_rfl) ?_
    refine sqQ.r ?_
    refine seqQ.r ?_
    exact fnQ.r' (X30 n) (fun z => (eB z)) h (RetOk.mk' (dB false) (by kernel_rfl) (by kernel_rfl))
  · refine Wp.skip (by kernel_rfl) ?_
    refine sqQ.n' ?_
    refine seqQ.n ?_
    refine Wp.seq' (by kernel_rfl) ?_
    refine Wp.seq' (by kernel_rfl) ?_
    refine Wp.region (by kernel_rfl) ?_
    refine Ops.seg' 1 1 (by kernel_rfl) ?_
    refine Ops.one' 2 (fun h0 e0 => (len_r (T := T) h0 53 62 .plain e61 a0 (by kernel_rfl))) (by kernel_rfl) (by kernel_rfl) ?_
    refine Ops.seg' 1 3 (by kernel_rfl) ?_
    refine Ops.done (by kernel_rfl) ?_
    refine seqQ.n ?_
    refine Wp.block' 0 [4] 0 (by kernel_rfl) ?_
    have hLx186 : ∀ (kx120 : Nat) (v118 : Int)  (ox119 : Bool ⊕ (Int)), iter (fun (y : Int) => f30_B4 m a0 a1 y) kx120 v118 = some ox119 → ∀ nx121, kx120 ≤ nx121 → (∀ r, ox119 = .inl r → ∀ σ, RetOk (X30 n) (resOf Proofs.Tryd.prog 30) (eB r) σ → (seqQ (X30 n) (cR (cR (cR C30))) (fnQ (X30 n).E.T (resOf Proofs.Tryd.prog 30) (eB o))) .ret σ) → (∀ (y : Int) , ox119 = .inr y → (seqQ (X30 n) (cR (cR (cR C30))) (fnQ (X30 n).E.T (resOf Proofs.Tryd.prog 30) (eB o))) .normal ⟨(dP e61 a0) :: (dP e61 a1) :: q2 ((dB false) :: q7 ((dI (a0.length : Int)) :: (dI y) :: q40 (q14 []))), []⟩) → Lp (X30 n) [0, 1, 4, 12, 13] 0 (cL (cL (cR (cL (cR (cR C30)))))) nx121 ⟨(dP e61 a0) :: (dP e61 a1) :: q2 ((dB false) :: q7 ((dI (a0.length : Int)) :: (dI v118) :: q40 (q14 []))), []⟩ (blkQ (X30 n) 0 [4] 0 (seqQ (X30 n) (cR (cR (cR C30))) (fnQ (X30 n).E.T (resOf Proofs.Tryd.prog 30) (eB o)))) := by
      intro kx120
      induction kx120 with
      | zero => intro v118  ox119 h; exact (iter_zero h).elim
      | succ kx120 ihx122 =>
        intro v118  ox119 h nx121 hnx125 hrx123 hxx124
        obtain ⟨nx121, rfl⟩ : ∃ q, nx121 = q + 1 := ⟨nx121 - 1, by omega⟩
        obtain ⟨sx126, h, hsx127⟩ := iter_some h
        have h : f30_B4 m a0 a1 v118 = some sx126 := h
        unfold f30_B4 at h
        refine Lp.succ ?_
        refine Wp.seq' (by kernel_rfl) ?_
        refine Wp.region (by kernel_rfl) ?_
        refine Ops.seg' 1 1 (by kernel_rfl) ?_
        refine Ops.done (by kernel_rfl) ?_
        refine seqQ.n ?_
        refine Wp.seq' (by kernel_rfl) ?_
        refine Wp.cnd h [0, 1, 4, 12, 13] 0 (by kernel_rfl) (fun h => ?_) (fun h => ?_)
        · refine Wp.skip (by kernel_rfl) ?_
          refine sqQ.n' ?_
          refine seqQ.n ?_
          refine Wp.seq' (by kernel_rfl) ?_
          refine Wp.block' 1 [0, 1, 4, 12, 13] 0 (by kernel_rfl) ?_
          refine Wp.seq' (by kernel_rfl) ?_
          refine Wp.region (by kernel_rfl) ?_
          refine Ops.seg' 2 2 (by kernel_rfl) ?_
          refine Ops.done (by kernel_rfl) ?_
          refine seqQ.n ?_
          refine Wp.seq' (by kernel_rfl) ?_
          refine Wp.region (by kernel_rfl) ?_
          refine Ops.seg' 2 2 (by kernel_rfl) ?_
          obtain ⟨v128, ev128, h⟩ := bnd_some h
          refine Ops.one' 3 (fun h0 e0 => (ix_r (T := T) h0 53 62 4 .plain e61 a0 v118 v128 ev128 (by kernel_rfl) (by kernel_rfl) (fun _ => rfl))) (by kernel_rfl) (by kernel_rfl) ?_
          refine Ops.seg' 4 7 (by kernel_rfl) ?_
          obtain ⟨v129, ev129, h⟩ := bnd_some h
          refine Ops.one' 8 (fun h0 e0 => (ix_r (T := T) h0 53 62 4 .plain e61 a1 v118 v129 ev129 (by kernel_rfl) (by kernel_rfl) (fun _ => rfl))) (by kernel_rfl) (by kernel_rfl) ?_
          refine Ops.seg' 4 12 (by kernel_rfl) ?_
          refine Ops.hv (fun K => ∀ (d132 d133 d134 d135 d136 d137 d138 d139 d140 d141 d142 : D) (v143 : Bool) (v144 : Bool), f30_r3 m a0 a1 v118 v144 = some sx126 → K 24 ⟨(dP e61 a0) :: (dP e61 a1) :: q2 ((dB false) :: (dI v118) :: q6 ((dI (a0.length : Int)) :: (dI v118) :: (dB (decide (v118 < (a0.length : Int)))) :: (dI v118) :: (dP e61 a0) :: (dI v118) :: (.vptr [(.str v128.fBase), (.str v128.fForm), (vP eS v128.fTags), (vI v128.fWeight)]) :: (.vptr [(.str v128.fBase), (.str v128.fForm), (vP eS v128.fTags), (vI v128.fWeight)]) :: (.v (.str v128.fBase)) :: (dP e61 a1) :: (dI v118) :: (.vptr [(.str v129.fBase), (.str v129.fForm), (vP eS v129.fTags), (vI v129.fWeight)]) :: (.vptr [(.str v129.fBase), (.str v129.fForm), (vP eS v129.fTags), (vI v129.fWeight)]) :: (.v (.str v129.fBase)) :: (dB v143) :: (dB v143) :: d132 :: d133 :: d134 :: d135 :: d136 :: d137 :: d138 :: d139 :: d140 :: d141 :: d142 :: (dB v144) :: q28 [])), []⟩) ?_ fun J30j145 => ?_
          · intro d132 d133 d134 d135 d136 d137 d138 d139 d140 d141 d142 v143 v144 h
            unfold f30_r3 at h
            refine Ops.seg' 1 25 (by kernel_rfl) ?_
            refine Ops.hv (fun K => ∀ (d148 d149 d150 d151 d152 d153 d154 d155 d156 d157 d158 : D) (v159 : Bool) (v160 : Bool), f30_r2 m a0 a1 v118 v160 = some sx126 → K 37 ⟨(dP e61 a0) :: (dP e61 a1) :: q2 ((dB false) :: (dI v118) :: q6 ((dI (a0.length : Int)) :: (dI v118) :: (dB (decide (v118 < (a0.length : Int)))) :: (dI v118) :: (dP e61 a0) :: (dI v118) :: (.vptr [(.str v128.fBase), (.str v128.fForm), (vP eS v128.fTags), (vI v128.fWeight)]) :: (.vptr [(.str v128.fBase), (.str v128.fForm), (vP eS v128.fTags), (vI v128.fWeight)]) :: (.v (.str v128.fBase)) :: (dP e61 a1) :: (dI v118) :: (.vptr [(.str v129.fBase), (.str v129.fForm), (vP eS v129.fTags), (vI v129.fWeight)]) :: (.vptr [(.str v129.fBase), (.str v129.fForm), (vP eS v129.fTags), (vI v129.fWeight)]) :: (.v (.str v129.fBase)) :: (dB v143) :: (dB v143) :: d132 :: d133 :: d134 :: d135 :: d136 :: d137 :: d138 :: d139 :: d140 :: d141 :: d142 :: (dB v159) :: (dB v159) :: d148 :: d149 :: d150 :: d151 :: d152 :: d153 :: d154 :: d155 :: d156 :: d157 :: d158 :: (dB v160) :: q15 [])), []⟩) ?_ fun J30j161 => ?_
            · intro d148 d149 d150 d151 d152 d153 d154 d155 d156 d157 d158 v159 v160 h
              unfold f30_r2 at h
              refine Ops.seg' 1 38 (by kernel_rfl) ?_
              refine Ops.hv (fun K => ∀ (d164 d165 d166 d167 d168 d169 d170 d171 d172 d173 d174 d175 : D) (v176 : Bool) (v177 : Bool), f30_r1 m v118 v177 = some sx126 → K 51 ⟨(dP e61 a0) :: (dP e61 a1) :: q2 ((dB false) :: (dI v118) :: q6 ((dI (a0.length : Int)) :: (dI v118) :: (dB (decide (v118 < (a0.length : Int)))) :: (dI v118) :: (dP e61 a0) :: (dI v118) :: (.vptr [(.str v128.fBase), (.str v128.fForm), (vP eS v128.fTags), (vI v128.fWeight)]) :: (.vptr [(.str v128.fBase), (.str v128.fForm), (vP eS v128.fTags), (vI v128.fWeight)]) :: (.v (.str v128.fBase)) :: (dP e61 a1) :: (dI v118) :: (.vptr [(.str v129.fBase), (.str v129.fForm), (vP eS v129.fTags), (vI v129.fWeight)]) :: (.vptr [(.str v129.fBase), (.str v129.fForm), (vP eS v129.fTags), (vI v129.fWeight)]) :: (.v (.str v129.fBase)) :: (dB v143) :: (dB v143) :: d132 :: d133 :: d134 :: d135 :: d136 :: d137 :: d138 :: d139 :: d140 :: d141 :: d142 :: (dB v159) :: (dB v159) :: d148 :: d149 :: d150 :: d151 :: d152 :: d153 :: d154 :: d155 :: d156 :: d157 :: d158 :: (dB v176) :: (dB v176) :: d164 :: d165 :: d166 :: d167 :: d168 :: d169 :: d170 :: d171 :: d172 :: d173 :: d174 :: d175 :: (dB v177) :: q1 [])), []⟩) ?_ fun J30j178 => ?_
              · intro d164 d165 d166 d167 d168 d169 d170 d171 d172 d173 d174 d175 v176 v177 h
                unfold f30_r1 at h
                refine Ops.done (by kernel_rfl) ?_
                refine seqQ.n ?_
                refine Wp.cnd h [0, 1, 4, 12, 13] 0 (by kernel_rfl) (fun h => ?_) (fun h => ?_)
                · refine Wp.seq' (by kernel_rfl) ?_
                  refine Wp.region (by kernel_rfl) ?_
                  refine Ops.seg' 1 1 (by kernel_rfl) ?_
                  refine Ops.done (by kernel_rfl) ?_
                  refine seqQ.n ?_
                  refine Wp.ret (by kernel_rfl) ?_
                  refine sqQ.r ?_
                  refine blkQ.r ?_
                  refine seqQ.r ?_
                  cases h
                  refine lpQ.r ?_
                  refine blkQ.r ?_
                  exact hrx123 _ hsx127 _ (RetOk.forget [0, 1, 4, 12, 13] (by kernel_rfl) (RetOk.mk' (dB false) (by kernel_rfl) (by kernel_rfl)))
                · refine Wp.skip (by kernel_rfl) ?_
                  refine sqQ.n' ?_
                  refine blkQ.n' ?_
                  refine seqQ.n ?_
                  refine Wp.region (by kernel_rfl) ?_
                  refine Ops.seg' 2 2 (by kernel_rfl) ?_
                  refine Ops.done (by kernel_rfl) ?_
                  refine lpQ.n ⟨(dP e61 a0) :: (dP e61 a1) :: q2 ((dB false) :: q7 ((dI (a0.length : Int)) :: (dI (w64 (v118 + 1))) :: q40 (q14 []))), []⟩ (by kernel_rfl) ?_
                  cases h
                  exact ihx122 (w64 (v118 + 1))  _ hsx127 _ (by omega) hrx123 hxx124
              obtain ⟨v177, ev177, h⟩ := bnd_some h
              refine Ops.hv (fun K => ∀ v162 : Bool, (cnd v162 (some true) (bnd (idx a0 v118) fun v179 => bnd (idx a1 v118) fun v180 => bnd (f20 m v179.fTags v180.fTags) fun v181 => some (!v181))) = some v177 → K 38 ⟨(dP e61 a0) :: (dP e61 a1) :: q2 ((dB false) :: (dI v118) :: q6 ((dI (a0.length : Int)) :: (dI v118) :: (dB (decide (v118 < (a0.length : Int)))) :: (dI v118) :: (dP e61 a0) :: (dI v118) :: (.vptr [(.str v128.fBase), (.str v128.fForm), (vP eS v128.fTags), (vI v128.fWeight)]) :: (.vptr [(.str v128.fBase), (.str v128.fForm), (vP eS v128.fTags), (vI v128.fWeight)]) :: (.v (.str v128.fBase)) :: (dP e61 a1) :: (dI v118) :: (.vptr [(.str v129.fBase), (.str v129.fForm), (vP eS v129.fTags), (vI v129.fWeight)]) :: (.vptr [(.str v129.fBase), (.str v129.fForm), (vP eS v129.fTags), (vI v129.fWeight)]) :: (.v (.str v129.fBase)) :: (dB v143) :: (dB v143) :: d132 :: d133 :: d134 :: d135 :: d136 :: d137 :: d138 :: d139 :: d140 :: d141 :: d142 :: (dB v159) :: (dB v159) :: d148 :: d149 :: d150 :: d151 :: d152 :: d153 :: d154 :: d155 :: d156 :: d157 :: d158 :: (dB v162) :: (dB v162) :: q14 [])), []⟩) ?_ fun G30g163 => Ops.st _ (by kernel_rfl) (G30g163 v160 ev177)
              intro v162 ev177
              cases v162
              · have ev177 := cnd_f ev177
                refine Ops.seg' 2 40 (by kernel_rfl) ?_
                obtain ⟨v179, ev179, ev177⟩ := bnd_some ev177
                refine Ops.one' 41 (fun h0 e0 => (ix_r (T := T) h0 53 62 4 .plain e61 a0 v118 v179 ev179 (by kernel_rfl) (by kernel_rfl) (fun _ => rfl))) (by kernel_rfl) (by kernel_rfl) ?_
                refine Ops.seg' 4 45 (by kernel_rfl) ?_
                obtain ⟨v180, ev180, ev177⟩ := bnd_some ev177
                refine Ops.one' 46 (fun h0 e0 => (ix_r (T := T) h0 53 62 4 .plain e61 a1 v118 v180 ev180 (by kernel_rfl) (by kernel_rfl) (fun _ => rfl))) (by kernel_rfl) (by kernel_rfl) ?_
                refine Ops.seg' 2 48 (by kernel_rfl) ?_
                obtain ⟨v181, ev181, ev177⟩ := bnd_some ev177
                refine Ops.one' 49 (fun h0 e0 => (call_ok (E' := EG) (h := h0) (by kernel_rfl) (Args.v (vP eS v179.fTags) ((eL eS) v179.fTags) (by kernel_rfl) (Args.v (vP eS v180.fTags) ((eL eS) v180.fTags) (by kernel_rfl) Args.nil)) (ok20 m v179.fTags v180.fTags v181 ev181 n (by omega)))) (by kernel_rfl) (by kernel_rfl) ?_
                refine Ops.seg' 2 51 (by kernel_rfl) ?_
                exact Ops.st _ (by kernel_rfl) (J30j178 (dP e61 a0) (dI v118) ((.vptr [(.str v179.fBase), (.str v179.fForm), (vP eS v179.fTags), (vI v179.fWeight)])) ((.vptr [(vP eS v179.fTags), (vI v179.fWeight)])) (dP eS v179.fTags) (dP e61 a1) (dI v118) ((.vptr [(.str v180.fBase), (.str v180.fForm), (vP eS v180.fTags), (vI v180.fWeight)])) ((.vptr [(vP eS v180.fTags), (vI v180.fWeight)])) (dP eS v180.fTags) (dB v181) (dB (!v181)) false (!v181) (some_sub (fun v177 => f30_r1 m v118 v177 = some sx126) ev177 h))
              · have ev177 := cnd_t ev177
                refine Ops.seg' 13 51 (by kernel_rfl) ?_
                exact Ops.st _ (by kernel_rfl) (J30j178 U U U U U U U U U U U U true true (some_sub (fun v177 => f30_r1 m v118 v177 = some sx126) ev177 h))
            obtain ⟨v160, ev160, h⟩ := bnd_some h
            refine Ops.hv (fun K => ∀ v146 : Bool, (cnd v146 (some true) (bnd (idx a0 v118) fun v182 => bnd (idx a1 v118) fun v183 => some (v182.fWeight != v183.fWeight))) = some v160 → K 25 ⟨(dP e61 a0) :: (dP e61 a1) :: q2 ((dB false) :: (dI v118) :: q6 ((dI (a0.length : Int)) :: (dI v118) :: (dB (decide (v118 < (a0.length : Int)))) :: (dI v118) :: (dP e61 a0) :: (dI v118) :: (.vptr [(.str v128.fBase), (.str v128.fForm), (vP eS v128.fTags), (vI v128.fWeight)]) :: (.vptr [(.str v128.fBase), (.str v128.fForm), (vP eS v128.fTags), (vI v128.fWeight)]) :: (.v (.str v128.fBase)) :: (dP e61 a1) :: (dI v118) :: (.vptr [(.str v129.fBase), (.str v129.fForm), (vP eS v129.fTags), (vI v129.fWeight)]) :: (.vptr [(.str v129.fBase), (.str v129.fForm), (vP eS v129.fTags), (vI v129.fWeight)]) :: (.v (.str v129.fBase)) :: (dB v143) :: (dB v143) :: d132 :: d133 :: d134 :: d135 :: d136 :: d137 :: d138 :: d139 :: d140 :: d141 :: d142 :: (dB v146) :: (dB v146) :: q27 [])), []⟩) ?_ fun G30g147 => Ops.st _ (by kernel_rfl) (G30g147 v144 ev160)
            intro v146 ev160
            cases v146
            · have ev160 := cnd_f ev160
              refine Ops.seg' 2 27 (by kernel_rfl) ?_
              obtain ⟨v182, ev182, ev160⟩ := bnd_some ev160
              refine Ops.one' 28 (fun h0 e0 => (ix_r (T := T) h0 53 62 4 .plain e61 a0 v118 v182 ev182 (by kernel_rfl) (by kernel_rfl) (fun _ => rfl))) (by kernel_rfl) (by kernel_rfl) ?_
              refine Ops.seg' 4 32 (by kernel_rfl) ?_
              obtain ⟨v183, ev183, ev160⟩ := bnd_some ev160
              refine Ops.one' 33 (fun h0 e0 => (ix_r (T := T) h0 53 62 4 .plain e61 a1 v118 v183 ev183 (by kernel_rfl) (by kernel_rfl) (fun _ => rfl))) (by kernel_rfl) (by kernel_rfl) ?_
              refine Ops.seg' 4 37 (by kernel_rfl) ?_
              exact Ops.st _ (by kernel_rfl) (J30j161 (dP e61 a0) (dI v118) ((.vptr [(.str v182.fBase), (.str v182.fForm), (vP eS v182.fTags), (vI v182.fWeight)])) (.vptr [(vI v182.fWeight)]) (dI v182.fWeight) (dP e61 a1) (dI v118) ((.vptr [(.str v183.fBase), (.str v183.fForm), (vP eS v183.fTags), (vI v183.fWeight)])) (.vptr [(vI v183.fWeight)]) (dI v183.fWeight) (dB (v182.fWeight != v183.fWeight)) false (v182.fWeight != v183.fWeight) (some_sub (fun v160 => f30_r2 m a0 a1 v118 v160 = some sx126) ev160 h))
            · have ev160 := cnd_t ev160
              refine Ops.seg' 12 37 (by kernel_rfl) ?_
              exact Ops.st _ (by kernel_rfl) (J30j161 U U U U U U U U U U U true true (some_sub (fun v160 => f30_r2 m a0 a1 v118 v160 = some sx126) ev160 h))
          obtain ⟨v144, ev144, h⟩ := bnd_some h
          refine Ops.hv (fun K => ∀ v130 : Bool, (cnd v130 (some true) (bnd (idx a0 v118) fun v184 => bnd (idx a1 v118) fun v185 => some (!(v184.fForm.toList == v185.fForm.toList)))) = some v144 → K 12 ⟨(dP e61 a0) :: (dP e61 a1) :: q2 ((dB false) :: (dI v118) :: q6 ((dI (a0.length : Int)) :: (dI v118) :: (dB (decide (v118 < (a0.length : Int)))) :: (dI v118) :: (dP e61 a0) :: (dI v118) :: (.vptr [(.str v128.fBase), (.str v128.fForm), (vP eS v128.fTags), (vI v128.fWeight)]) :: (.vptr [(.str v128.fBase), (.str v128.fForm), (vP eS v128.fTags), (vI v128.fWeight)]) :: (.v (.str v128.fBase)) :: (dP e61 a1) :: (dI v118) :: (.vptr [(.str v129.fBase), (.str v129.fForm), (vP eS v129.fTags), (vI v129.fWeight)]) :: (.vptr [(.str v129.fBase), (.str v129.fForm), (vP eS v129.fTags), (vI v129.fWeight)]) :: (.v (.str v129.fBase)) :: (dB v130) :: (dB v130) :: q40 [])), []⟩) ?_ fun G30g131 => Ops.st _ (by kernel_rfl) (G30g131 (!(v128.fBase.toList == v129.fBase.toList)) ev144)
          intro v130 ev144
          cases v130
          · have ev144 := cnd_f ev144
            refine Ops.seg' 2 14 (by kernel_rfl) ?_
            obtain ⟨v184, ev184, ev144⟩ := bnd_some ev144
            refine Ops.one' 15 (fun h0 e0 => (ix_r (T := T) h0 53 62 4 .plain e61 a0 v118 v184 ev184 (by kernel_rfl) (by kernel_rfl) (fun _ => rfl))) (by kernel_rfl) (by kernel_rfl) ?_
            refine Ops.seg' 4 19 (by kernel_rfl) ?_
            obtain ⟨v185, ev185, ev144⟩ := bnd_some ev144
            refine Ops.one' 20 (fun h0 e0 => (ix_r (T := T) h0 53 62 4 .plain e61 a1 v118 v185 ev185 (by kernel_rfl) (by kernel_rfl) (fun _ => rfl))) (by kernel_rfl) (by kernel_rfl) ?_
            refine Ops.seg' 4 24 (by kernel_rfl) ?_
            exact Ops.st _ (by kernel_rfl) (J30j145 (dP e61 a0) (dI v118) ((.vptr [(.str v184.fBase), (.str v184.fForm), (vP eS v184.fTags), (vI v184.fWeight)])) ((.vptr [(.str v184.fForm), (vP eS v184.fTags), (vI v184.fWeight)])) (.v (.str v184.fForm)) (dP e61 a1) (dI v118) ((.vptr [(.str v185.fBase), (.str v185.fForm), (vP eS v185.fTags), (vI v185.fWeight)])) ((.vptr [(.str v185.fForm), (vP eS v185.fTags), (vI v185.fWeight)])) (.v (.str v185.fForm)) (dB (!(v184.fForm.toList == v185.fForm.toList))) false (!(v184.fForm.toList == v185.fForm.toList)) (some_sub (fun v144 => f30_r3 m a0 a1 v118 v144 = some sx126) ev144 h))
          · have ev144 := cnd_t ev144
            refine Ops.seg' 12 24 (by kernel_rfl) ?_
            exact Ops.st _ (by kernel_rfl) (J30j145 U U U U U U U U U U U true true (some_sub (fun v144 => f30_r3 m a0 a1 v118 v144 = some sx126) ev144 h))
        · refine Wp.exit (id := 0) (by kernel_rfl) ?_
          refine sqQ.x ?_
          refine seqQ.x ?_
          cases h
          refine lpQ.x ?_
          refine blkQ.x ⟨(dP e61 a0) :: (dP e61 a1) :: q2 ((dB false) :: q7 ((dI (a0.length : Int)) :: (dI v118) :: q40 (q14 []))), []⟩ (by kernel_rfl) ?_
          exact hxx124 v118  hsx127
    refine Wp.loop' [0, 1, 4, 12, 13] 0 (by kernel_rfl) ⟨(dP e61 a0) :: (dP e61 a1) :: q2 ((dB false) :: q7 ((dI (a0.length : Int)) :: (dI 0) :: q40 (q14 []))), []⟩ (by kernel_rfl) ?_
    rcases brk_some h with ⟨r188, er188, h⟩ | ⟨y187, ey187, h⟩
    · refine hLx186 _ 0  _ er188 n (by omega) (fun r er σ hσ => ?_) (fun y  ey => by cases ey)
      cases er
      refine seqQ.r ?_
      exact fnQ.r' (X30 n) (fun z => (eB z)) h hσ
    · refine hLx186 _ 0  _ ey187 n (by omega) (fun r er => by cases er) (fun y  ey => ?_)
      cases ey
      refine seqQ.n ?_
      refine Wp.seq' (by kernel_rfl) ?_
      refine Wp.region (by kernel_rfl) ?_
      refine Ops.seg' 1 1 (by kernel_rfl) ?_
      refine Ops.done (by kernel_rfl) ?_
      refine seqQ.n ?_
      refine Wp.ret (by kernel_rfl) ?_
      exact fnQ.r' (X30 n) (fun z => (eB z)) h (RetOk.mk' (dB true) (by kernel_rfl) (by kernel_rfl))

/-! ### 26 glosswright/glosswrightlaw6.entered -/
def f26_r1 (m : Nat) (v13 : Bool) : Option Bool :=
  some v13
def f26 (m : Nat)  : Option Bool :=
  bnd (f51 m ) fun v1 =>
  bnd (f27 m v1 2) fun v2 =>
  bnd (cnd ((v2.2.fCode == 0) && ((v2.2.fIndex == 0) && true))
  (bnd (f30 m v2.1 ([(⟨(⟨#[100, 111, 103]⟩ : ByteArray), (⟨#[100, 111, 103]⟩ : ByteArray), [(⟨#[110]⟩ : ByteArray), (⟨#[115, 103]⟩ : ByteArray)], 0⟩ : S61), (⟨(⟨#[100, 111, 103]⟩ : ByteArray), (⟨#[100, 111, 103, 115]⟩ : ByteArray), [(⟨#[110]⟩ : ByteArray), (⟨#[112, 108]⟩ : ByteArray)], 2⟩ : S61)])) fun v15 =>
  some v15)
  (some false)) fun v13 =>
  f26_r1 m v13
noncomputable abbrev X26 (n : Nat) : Cx := cxOf Proofs.Tryd.prog EG 26 n
noncomputable def C26 : Code := bodyOf Proofs.Tryd.prog 26
theorem ok26 (m : Nat)  (o : Bool) (h : f26 m  = some o) (n : Nat) (hn : m + 3 ≤ n) : Fn Proofs.Tryd.prog EG n 26 [] (eB o) := by
  obtain ⟨n, rfl⟩ : ∃ q, n = q + 1 := ⟨n - 1, by omega⟩
  unfold f26 at h
  refine Fn.of (by kernel_rfl) (by kernel_rfl) (by kernel_rfl) ⟨u20 [], []⟩ (by kernel_rfl) ?_
  refine Wp.seq' (by kernel_rfl) ?_
  refine Wp.region (by kernel_rfl) ?_
  refine Ops.seg' 1 1 (by kernel_rfl) ?_
  refine Ops.done (by kernel_rfl) ?_
  refine seqQ.n ?_
  refine Wp.seq' (by kernel_rfl) ?_
  refine Wp.region (by kernel_rfl) ?_
  obtain ⟨v1, ev1, h⟩ := bnd_some h
  refine Ops.one' 1 (fun h0 e0 => (call_ok (E' := EG) (h := h0) (by kernel_rfl) Args.nil (ok51 m  v1 ev1 n (by omega)))) (by kernel_rfl) (by kernel_rfl) ?_
  obtain ⟨v2, ev2, h⟩ := bnd_some h
  refine Ops.one' 2 (fun h0 e0 => (call_ok (E' := EG) (h := h0) (by kernel_rfl) (Args.v (.agg [(vP e88 v1.fClasses)]) (e51 v1) (by kernel_rfl) (Args.v (vI 2) (eI 2) (by kernel_rfl) Args.nil)) (ok27 m v1 2 v2 ev2 n (by omega)))) (by kernel_rfl) (by kernel_rfl) ?_
  refine Ops.seg' 6 8 (by kernel_rfl) ?_
  refine Ops.done (by kernel_rfl) ?_
  refine seqQ.n ?_
  refine Wp.seq' (by kernel_rfl) ?_
  refine Wp.region (by kernel_rfl) ?_
  refine Ops.seg' 4 4 (by kernel_rfl) ?_
  refine Ops.hv (fun K => ∀ (d5 d6 d7 d8 d9 d10 d11 : D) (v12 : Bool) (v13 : Bool), f26_r1 m v13 = some o → K 12 ⟨(dB false) :: (dP e61 v2.1) :: (.ptr 0 0) :: (.v (.tuple [(vP e61 v2.1), (.agg [(vI v2.2.fCode), (vI v2.2.fIndex)])])) :: (.v (.agg [(vP e88 v1.fClasses)])) :: (.v (.tuple [(vP e61 v2.1), (.agg [(vI v2.2.fCode), (vI v2.2.fIndex)])])) :: (dP e61 v2.1) :: (.v (.agg [(vI v2.2.fCode), (vI v2.2.fIndex)])) :: (.v (.agg [(vI v2.2.fCode), (vI v2.2.fIndex)])) :: (.v (.agg [(vI 0), (vI 0)])) :: (dB v12) :: (dB v12) :: d5 :: d6 :: d7 :: d8 :: d9 :: d10 :: d11 :: (dB v13) :: [], [(.cells [(dI v2.2.fCode), (dI v2.2.fIndex)])]⟩) ?_ fun J26j14 => ?_
  · intro d5 d6 d7 d8 d9 d10 d11 v12 v13 h
    unfold f26_r1 at h
    refine Ops.seg' 1 13 (by kernel_rfl) ?_
    refine Ops.done (by kernel_rfl) ?_
    refine seqQ.n ?_
    refine Wp.ret (by kernel_rfl) ?_
    exact fnQ.r' (X26 n) (fun z => (eB z)) h (RetOk.mk' (dB v13) (by kernel_rfl) (by kernel_rfl))
  obtain ⟨v13, ev13, h⟩ := bnd_some h
  refine Ops.hv (fun K => ∀ v3 : Bool, (cnd v3 (bnd (f30 m v2.1 ([(⟨(⟨#[100, 111, 103]⟩ : ByteArray), (⟨#[100, 111, 103]⟩ : ByteArray), [(⟨#[110]⟩ : ByteArray), (⟨#[115, 103]⟩ : ByteArray)], 0⟩ : S61), (⟨(⟨#[100, 111, 103]⟩ : ByteArray), (⟨#[100, 111, 103, 115]⟩ : ByteArray), [(⟨#[110]⟩ : ByteArray), (⟨#[112, 108]⟩ : ByteArray)], 2⟩ : S61)])) fun v15 => some v15) (some false)) = some v13 → K 4 ⟨(dB false) :: (dP e61 v2.1) :: (.ptr 0 0) :: (.v (.tuple [(vP e61 v2.1), (.agg [(vI v2.2.fCode), (vI v2.2.fIndex)])])) :: (.v (.agg [(vP e88 v1.fClasses)])) :: (.v (.tuple [(vP e61 v2.1), (.agg [(vI v2.2.fCode), (vI v2.2.fIndex)])])) :: (dP e61 v2.1) :: (.v (.agg [(vI v2.2.fCode), (vI v2.2.fIndex)])) :: (.v (.agg [(vI v2.2.fCode), (vI v2.2.fIndex)])) :: (.v (.agg [(vI 0), (vI 0)])) :: (dB v3) :: (dB v3) :: u8 [], [(.cells [(dI v2.2.fCode), (dI v2.2.fIndex)])]⟩) ?_ fun G26g4 => Ops.st _ (by kernel_rfl) (G26g4 ((v2.2.fCode == 0) && ((v2.2.fIndex == 0) && true)) ev13)
  intro v3 ev13
  cases v3
  · have ev13 := cnd_f ev13
    refine Ops.seg' 8 12 (by kernel_rfl) ?_
    exact Ops.st _ (by kernel_rfl) (J26j14 U U U U U U U false false (some_sub (fun v13 => f26_r1 m v13 = some o) ev13 h))
  · have ev13 := cnd_t ev13
    refine Ops.seg' 6 10 (by kernel_rfl) ?_
    obtain ⟨v15, ev15, ev13⟩ := bnd_some ev13
    refine Ops.one' 11 (fun h0 e0 => (call_ok (E' := EG) (h := h0) (by kernel_rfl) (Args.v (vP e61 v2.1) ((eL e61) v2.1) (by kernel_rfl) (Args.v (.sl .nonfull (List.map e61 ([(⟨(⟨#[100, 111, 103]⟩ : ByteArray), (⟨#[100, 111, 103]⟩ : ByteArray), [(⟨#[110]⟩ : ByteArray), (⟨#[115, 103]⟩ : ByteArray)], 0⟩ : S61), (⟨(⟨#[100, 111, 103]⟩ : ByteArray), (⟨#[100, 111, 103, 115]⟩ : ByteArray), [(⟨#[110]⟩ : ByteArray), (⟨#[112, 108]⟩ : ByteArray)], 2⟩ : S61)]))) ((eL e61) ([(⟨(⟨#[100, 111, 103]⟩ : ByteArray), (⟨#[100, 111, 103]⟩ : ByteArray), [(⟨#[110]⟩ : ByteArray), (⟨#[115, 103]⟩ : ByteArray)], 0⟩ : S61), (⟨(⟨#[100, 111, 103]⟩ : ByteArray), (⟨#[100, 111, 103, 115]⟩ : ByteArray), [(⟨#[110]⟩ : ByteArray), (⟨#[112, 108]⟩ : ByteArray)], 2⟩ : S61)])) (by kernel_rfl) Args.nil)) (ok30 m v2.1 ([(⟨(⟨#[100, 111, 103]⟩ : ByteArray), (⟨#[100, 111, 103]⟩ : ByteArray), [(⟨#[110]⟩ : ByteArray), (⟨#[115, 103]⟩ : ByteArray)], 0⟩ : S61), (⟨(⟨#[100, 111, 103]⟩ : ByteArray), (⟨#[100, 111, 103, 115]⟩ : ByteArray), [(⟨#[110]⟩ : ByteArray), (⟨#[112, 108]⟩ : ByteArray)], 2⟩ : S61)]) v15 ev15 n (by omega)))) (by kernel_rfl) (by kernel_rfl) ?_
    refine Ops.seg' 1 12 (by kernel_rfl) ?_
    exact Ops.st _ (by kernel_rfl) (J26j14 (dP e61 v2.1) ((.v (.sl .nonfull (List.map eS ([(⟨#[110]⟩ : ByteArray), (⟨#[115, 103]⟩ : ByteArray)]))))) ((.v (.agg [(.str ((⟨#[100, 111, 103]⟩ : ByteArray))), (.str ((⟨#[100, 111, 103]⟩ : ByteArray))), (.sl .nonfull (List.map eS ([(⟨#[110]⟩ : ByteArray), (⟨#[115, 103]⟩ : ByteArray)]))), (vI 0)]))) ((.v (.sl .nonfull (List.map eS ([(⟨#[110]⟩ : ByteArray), (⟨#[112, 108]⟩ : ByteArray)]))))) ((.v (.agg [(.str ((⟨#[100, 111, 103]⟩ : ByteArray))), (.str ((⟨#[100, 111, 103, 115]⟩ : ByteArray))), (.sl .nonfull (List.map eS ([(⟨#[110]⟩ : ByteArray), (⟨#[112, 108]⟩ : ByteArray)]))), (vI 2)]))) ((.v (.sl .nonfull (List.map e61 ([(⟨(⟨#[100, 111, 103]⟩ : ByteArray), (⟨#[100, 111, 103]⟩ : ByteArray), [(⟨#[110]⟩ : ByteArray), (⟨#[115, 103]⟩ : ByteArray)], 0⟩ : S61), (⟨(⟨#[100, 111, 103]⟩ : ByteArray), (⟨#[100, 111, 103, 115]⟩ : ByteArray), [(⟨#[110]⟩ : ByteArray), (⟨#[112, 108]⟩ : ByteArray)], 2⟩ : S61)]))))) (dB v15) true v15 (some_sub (fun v13 => f26_r1 m v13 = some o) ev13 h))

/-! ### 36 glosswright/glosswrightref6.fault -/
def f36 (m : Nat) (a0 : Int) (a1 : Int) : Option S27 :=
  some ((⟨a0, a1⟩ : S27))
noncomputable abbrev X36 (n : Nat) : Cx := cxOf Proofs.Tryd.prog EG 36 n
noncomputable def C36 : Code := bodyOf Proofs.Tryd.prog 36
theorem ok36 (m : Nat) (a0 : Int) (a1 : Int) (o : S27) (h : f36 m a0 a1 = some o) (n : Nat) (hn : m + 1 ≤ n) : Fn Proofs.Tryd.prog EG n 36 [.v (eI a0), .v (eI a1)] (e27 o) := by
  obtain ⟨n, rfl⟩ : ∃ q, n = q + 1 := ⟨n - 1, by omega⟩
  unfold f36 at h
  refine Fn.of (by kernel_rfl) (by kernel_rfl) (by kernel_rfl) ⟨(dI a0) :: (dI a1) :: u6 [], []⟩ (by kernel_rfl) ?_
  refine Wp.seq' (by kernel_rfl) ?_
  refine Wp.region (by kernel_rfl) ?_
  refine Ops.seg' 1 1 (by kernel_rfl) ?_
  refine Ops.done (by kernel_rfl) ?_
  refine seqQ.n ?_
  refine Wp.seq' (by kernel_rfl) ?_
  refine Wp.region (by kernel_rfl) ?_
  refine Ops.seg' 4 4 (by kernel_rfl) ?_
  refine Ops.done (by kernel_rfl) ?_
  refine seqQ.n ?_
  refine Wp.ret (by kernel_rfl) ?_
  exact fnQ.r' (X36 n) (fun z => (e27 z)) h (RetOk.mk' (.v (.agg [(vI a0), (vI a1)])) (by kernel_rfl) (by kernel_rfl))

/-! ### 35 glosswright/glosswrightref6.Name -/
def f35_r1 (m : Nat) (v96 : Int) (v137 : Bool) : Option (Stp Bool (Int)) :=
  cnd (!v137)
  (some (.ret false))
  (some (.nxt (w64 (v96 + 1))))
def f35_r2 (m : Nat) (v96 : Int) (v106 : Int) (v130 : Bool) : Option (Stp Bool (Int)) :=
  f35_r1 m v96 (v130 || (v106 == 45))
def f35_r3 (m : Nat) (v96 : Int) (v106 : Int) (v123 : Bool) : Option (Stp Bool (Int)) :=
  f35_r2 m v96 v106 (v123 || (v106 == 95))
def f35_r4 (m : Nat) (v96 : Int) (v106 : Int) (v112 : Bool) : Option (Stp Bool (Int)) :=
  f35_r3 m v96 v106 (v112 || ((decide (v106 ≥ 48)) && (decide (v106 ≤ 57))))
def f35_B5 (m : Nat) (a0 : ByteArray) (v96 : Int) : Option (Stp Bool (Int)) :=
  cnd (decide (v96 < (a0.size : Int)))
  (bnd (sidx a0 v96) fun v106 =>
  f35_r4 m v96 v106 ((decide (v106 ≥ 97)) && (decide (v106 ≤ 122))))
  (some (.brk v96))
def f35_r6 (m : Nat) (a0 : ByteArray) (v23 : Bool) : Option Bool :=
  cnd v23
  (some false)
  (brk (iter (fun (y : Int) => f35_B5 m a0 y) m 0) some fun y142 =>
  some true)
def f35_r7 (m : Nat) (a0 : ByteArray) (v15 : Bool) : Option Bool :=
  bnd (cnd v15
  (some true)
  (bnd (sidx a0 0) fun v144 =>
  some (decide (v144 > 122)))) fun v23 =>
  f35_r6 m a0 v23
def f35_r8 (m : Nat) (a0 : ByteArray) (v7 : Bool) : Option Bool :=
  bnd (cnd v7
  (some true)
  (bnd (sidx a0 0) fun v145 =>
  some (decide (v145 < 97)))) fun v15 =>
  f35_r7 m a0 v15
def f35 (m : Nat) (a0 : ByteArray) : Option Bool :=
  f35_r8 m a0 (((a0.size : Int) == 0) || (decide ((a0.size : Int) > 30)))
noncomputable abbrev X35 (n : Nat) : Cx := cxOf Proofs.Tryd.prog EG 35 n
noncomputable def C35 : Code := bodyOf Proofs.Tryd.prog 35
theorem ok35 (m : Nat) (a0 : ByteArray) (o : Bool) (h : f35 m a0 = some o) (n : Nat) (hn : m + 1 ≤ n) : Fn Proofs.Tryd.prog EG n 35 [.v (eS a0)] (eB o) := by
  obtain ⟨n, rfl⟩ : ∃ q, n = q + 1 := ⟨n - 1, by omega⟩
  unfold f35 at h
  refine Fn.of (by kernel_rfl) (by kernel_rfl) (by kernel_rfl) ⟨(.v (.str a0)) :: u40 (u14 []), []⟩ (by kernel_rfl) ?_
  refine Wp.seq' (by kernel_rfl) ?_
  refine Wp.region (by kernel_rfl) ?_
  refine Ops.seg' 1 1 (by kernel_rfl) ?_
  refine Ops.done (by kernel_rfl) ?_
  refine seqQ.n ?_
  refine Wp.seq' (by kernel_rfl) ?_
  refine Wp.seq' (by kernel_rfl) ?_
  refine Wp.region (by kernel_rfl) ?_
  refine Ops.seg' 4 4 (by kernel_rfl) ?_
  refine Ops.hv (fun K => ∀ (d3 d4 d5 : D) (v6 : Bool) (v7 : Bool), f35_r8 m a0 v7 = some o → K 8 ⟨(.v (.str a0)) :: u1 ((dB false) :: u2 ((.v (.str a0)) :: (dI (a0.size : Int)) :: (dB v6) :: (dB v6) :: d3 :: d4 :: d5 :: (dB v7) :: u40 (u2 []))), []⟩) ?_ fun J35j8 => ?_
  · intro d3 d4 d5 v6 v7 h
    unfold f35_r8 at h
    refine Ops.seg' 1 9 (by kernel_rfl) ?_
    refine Ops.hv (fun K => ∀ (d11 d12 d13 : D) (v14 : Bool) (v15 : Bool), f35_r7 m a0 v15 = some o → K 13 ⟨(.v (.str a0)) :: u1 ((dB false) :: u2 ((.v (.str a0)) :: (dI (a0.size : Int)) :: (dB v6) :: (dB v6) :: d3 :: d4 :: d5 :: (dB v14) :: (dB v14) :: d11 :: d12 :: d13 :: (dB v15) :: u37 [])), []⟩) ?_ fun J35j16 => ?_
    · intro d11 d12 d13 v14 v15 h
      unfold f35_r7 at h
      refine Ops.seg' 1 14 (by kernel_rfl) ?_
      refine Ops.hv (fun K => ∀ (d19 d20 d21 : D) (v22 : Bool) (v23 : Bool), f35_r6 m a0 v23 = some o → K 18 ⟨(.v (.str a0)) :: u1 ((dB false) :: u2 ((.v (.str a0)) :: (dI (a0.size : Int)) :: (dB v6) :: (dB v6) :: d3 :: d4 :: d5 :: (dB v14) :: (dB v14) :: d11 :: d12 :: d13 :: (dB v22) :: (dB v22) :: d19 :: d20 :: d21 :: (dB v23) :: u32 [])), []⟩) ?_ fun J35j24 => ?_
      · intro d19 d20 d21 v22 v23 h
        unfold f35_r6 at h
        refine Ops.done (by kernel_rfl) ?_
        refine seqQ.n ?_
        refine Wp.cnd h [0, 2] 0 (by kernel_rfl) (fun h => ?_) (fun h => ?_)
        · refine Wp.seq' (by kernel_rfl) ?_
          refine Wp.region (by kernel_rfl) ?_
          refine Ops.seg' 1 1 (by kernel_rfl) ?_
          refine Ops.done (by kernel_rfl) ?_
          refine seqQ.n ?_
          refine Wp.ret (by kernel_rfl) ?_
          refine sqQ.r ?_
          refine seqQ.r ?_
          exact fnQ.r' (X35 n) (fun z => (eB z)) h (RetOk.mk' (dB false) (by kernel_rfl) (by kernel_rfl))
        · refine Wp.skip (by kernel_rfl) ?_
          refine sqQ.n' ?_
          refine seqQ.n ?_
          refine Wp.seq' (by kernel_rfl) ?_
          refine Wp.seq' (by kernel_rfl) ?_
          refine Wp.region (by kernel_rfl) ?_
          refine Ops.seg' 1 1 (by kernel_rfl) ?_
          refine Ops.done (by kernel_rfl) ?_
          refine seqQ.n ?_
          refine Wp.block' 0 [2] 0 (by kernel_rfl) ?_
          have hLx141 : ∀ (kx98 : Nat) (v96 : Int)  (ox97 : Bool ⊕ (Int)), iter (fun (y : Int) => f35_B5 m a0 y) kx98 v96 = some ox97 → ∀ nx99, kx98 ≤ nx99 → (∀ r, ox97 = .inl r → ∀ σ, RetOk (X35 n) (resOf Proofs.Tryd.prog 35) (eB r) σ → (seqQ (X35 n) (cR (cR (cR C35))) (fnQ (X35 n).E.T (resOf Proofs.Tryd.prog 35) (eB o))) .ret σ) → (∀ (y : Int) , ox97 = .inr y → (seqQ (X35 n) (cR (cR (cR C35))) (fnQ (X35 n).E.T (resOf Proofs.Tryd.prog 35) (eB o))) .normal ⟨(.v (.str a0)) :: q1 ((dB false) :: (dI y) :: q40 (q11 [])), []⟩) → Lp (X35 n) [0, 2, 3] 0 (cL (cL (cR (cL (cR (cR C35)))))) nx99 ⟨(.v (.str a0)) :: q1 ((dB false) :: (dI v96) :: q40 (q11 [])), []⟩ (blkQ (X35 n) 0 [2] 0 (seqQ (X35 n) (cR (cR (cR C35))) (fnQ (X35 n).E.T (resOf Proofs.Tryd.prog 35) (eB o)))) := by
            intro kx98
            induction kx98 with
            | zero => intro v96  ox97 h; exact (iter_zero h).elim
            | succ kx98 ihx100 =>
              intro v96  ox97 h nx99 hnx103 hrx101 hxx102
              obtain ⟨nx99, rfl⟩ : ∃ q, nx99 = q + 1 := ⟨nx99 - 1, by omega⟩
              obtain ⟨sx104, h, hsx105⟩ := iter_some h
              have h : f35_B5 m a0 v96 = some sx104 := h
              unfold f35_B5 at h
              refine Lp.succ ?_
              refine Wp.seq' (by kernel_rfl) ?_
              refine Wp.seq' (by kernel_rfl) ?_
              refine Wp.region (by kernel_rfl) ?_
              refine Ops.seg' 4 4 (by kernel_rfl) ?_
              refine Ops.done (by kernel_rfl) ?_
              refine seqQ.n ?_
              refine Wp.cnd h [0, 2, 3] 0 (by kernel_rfl) (fun h => ?_) (fun h => ?_)
              · refine Wp.skip (by kernel_rfl) ?_
                refine sqQ.n' ?_
                refine seqQ.n ?_
                refine Wp.seq' (by kernel_rfl) ?_
                refine Wp.block' 1 [0, 2, 3] 0 (by kernel_rfl) ?_
                refine Wp.seq' (by kernel_rfl) ?_
                refine Wp.region (by kernel_rfl) ?_
                refine Ops.seg' 2 2 (by kernel_rfl) ?_
                obtain ⟨v106, ev106, h⟩ := bnd_some h
                refine Ops.one' 3 (fun h0 e0 => (str_ix (T := T) h0 9 a0 v96 v106 ev106 (by kernel_rfl))) (by kernel_rfl) (by kernel_rfl) ?_
                refine Ops.seg' 1 4 (by kernel_rfl) ?_
                refine Ops.done (by kernel_rfl) ?_
                refine seqQ.n ?_
                refine Wp.seq' (by kernel_rfl) ?_
                refine Wp.region (by kernel_rfl) ?_
                refine Ops.seg' 3 3 (by kernel_rfl) ?_
                refine Ops.hv (fun K => ∀ (d109 d110 : D) (v111 : Bool) (v112 : Bool), f35_r4 m v96 v106 v112 = some sx104 → K 6 ⟨(.v (.str a0)) :: q1 ((dB false) :: (dI v96) :: (.v (.int .u8 v106)) :: q18 ((dI v96) :: (.v (.str a0)) :: (dI (a0.size : Int)) :: (dB (decide (v96 < (a0.size : Int)))) :: q2 ((.v (.str a0)) :: (dI v96) :: (.v (.int .u8 v106)) :: (.v (.int .u8 v106)) :: (dB v111) :: (dB v111) :: d109 :: d110 :: (dB v112) :: q17 []))), []⟩) ?_ fun J35j113 => ?_
                · intro d109 d110 v111 v112 h
                  unfold f35_r4 at h
                  refine Ops.seg' 1 7 (by kernel_rfl) ?_
                  refine Ops.hv (fun K => ∀ (d116 d117 d118 d119 d120 d121 : D) (v122 : Bool) (v123 : Bool), f35_r3 m v96 v106 v123 = some sx104 → K 14 ⟨(.v (.str a0)) :: q1 ((dB false) :: (dI v96) :: (.v (.int .u8 v106)) :: q18 ((dI v96) :: (.v (.str a0)) :: (dI (a0.size : Int)) :: (dB (decide (v96 < (a0.size : Int)))) :: q2 ((.v (.str a0)) :: (dI v96) :: (.v (.int .u8 v106)) :: (.v (.int .u8 v106)) :: (dB v111) :: (dB v111) :: d109 :: d110 :: (dB v122) :: (dB v122) :: d116 :: d117 :: d118 :: d119 :: d120 :: d121 :: (dB v123) :: q9 []))), []⟩) ?_ fun J35j124 => ?_
                  · intro d116 d117 d118 d119 d120 d121 v122 v123 h
                    unfold f35_r3 at h
                    refine Ops.seg' 1 15 (by kernel_rfl) ?_
                    refine Ops.hv (fun K => ∀ (d127 d128 : D) (v129 : Bool) (v130 : Bool), f35_r2 m v96 v106 v130 = some sx104 → K 18 ⟨(.v (.str a0)) :: q1 ((dB false) :: (dI v96) :: (.v (.int .u8 v106)) :: q18 ((dI v96) :: (.v (.str a0)) :: (dI (a0.size : Int)) :: (dB (decide (v96 < (a0.size : Int)))) :: q2 ((.v (.str a0)) :: (dI v96) :: (.v (.int .u8 v106)) :: (.v (.int .u8 v106)) :: (dB v111) :: (dB v111) :: d109 :: d110 :: (dB v122) :: (dB v122) :: d116 :: d117 :: d118 :: d119 :: d120 :: d121 :: (dB v129) :: (dB v129) :: d127 :: d128 :: (dB v130) :: q5 []))), []⟩) ?_ fun J35j131 => ?_
                    · intro d127 d128 v129 v130 h
                      unfold f35_r2 at h
                      refine Ops.seg' 1 19 (by kernel_rfl) ?_
                      refine Ops.hv (fun K => ∀ (d134 d135 : D) (v136 : Bool) (v137 : Bool), f35_r1 m v96 v137 = some sx104 → K 22 ⟨(.v (.str a0)) :: q1 ((dB false) :: (dI v96) :: (.v (.int .u8 v106)) :: q18 ((dI v96) :: (.v (.str a0)) :: (dI (a0.size : Int)) :: (dB (decide (v96 < (a0.size : Int)))) :: q2 ((.v (.str a0)) :: (dI v96) :: (.v (.int .u8 v106)) :: (.v (.int .u8 v106)) :: (dB v111) :: (dB v111) :: d109 :: d110 :: (dB v122) :: (dB v122) :: d116 :: d117 :: d118 :: d119 :: d120 :: d121 :: (dB v129) :: (dB v129) :: d127 :: d128 :: (dB v136) :: (dB v136) :: d134 :: d135 :: (dB v137) :: q1 []))), []⟩) ?_ fun J35j138 => ?_
                      · intro d134 d135 v136 v137 h
                        unfold f35_r1 at h
                        refine Ops.seg' 1 23 (by kernel_rfl) ?_
                        refine Ops.done (by kernel_rfl) ?_
                        refine seqQ.n ?_
                        refine Wp.cnd h [0, 2, 3] 0 (by kernel_rfl) (fun h => ?_) (fun h => ?_)
                        · refine Wp.seq' (by kernel_rfl) ?_
                          refine Wp.region (by kernel_rfl) ?_
                          refine Ops.seg' 1 1 (by kernel_rfl) ?_
                          refine Ops.done (by kernel_rfl) ?_
                          refine seqQ.n ?_
                          refine Wp.ret (by kernel_rfl) ?_
                          refine sqQ.r ?_
                          refine blkQ.r ?_
                          refine seqQ.r ?_
                          cases h
                          refine lpQ.r ?_
                          refine blkQ.r ?_
                          exact hrx101 _ hsx105 _ (RetOk.forget [0, 2, 3] (by kernel_rfl) (RetOk.mk' (dB false) (by kernel_rfl) (by kernel_rfl)))
                        · refine Wp.skip (by kernel_rfl) ?_
                          refine sqQ.n' ?_
                          refine blkQ.n' ?_
                          refine seqQ.n ?_
                          refine Wp.region (by kernel_rfl) ?_
                          refine Ops.seg' 3 3 (by kernel_rfl) ?_
                          refine Ops.done (by kernel_rfl) ?_
                          refine lpQ.n ⟨(.v (.str a0)) :: q1 ((dB false) :: (dI (w64 (v96 + 1))) :: q40 (q11 [])), []⟩ (by kernel_rfl) ?_
                          cases h
                          exact ihx100 (w64 (v96 + 1))  _ hsx105 _ (by omega) hrx101 hxx102
                      refine Ops.hv (fun K => ∀ v132 : Bool, f35_r1 m v96 (v132 || (v106 == 45)) = some sx104 → K 19 ⟨(.v (.str a0)) :: q1 ((dB false) :: (dI v96) :: (.v (.int .u8 v106)) :: q18 ((dI v96) :: (.v (.str a0)) :: (dI (a0.size : Int)) :: (dB (decide (v96 < (a0.size : Int)))) :: q2 ((.v (.str a0)) :: (dI v96) :: (.v (.int .u8 v106)) :: (.v (.int .u8 v106)) :: (dB v111) :: (dB v111) :: d109 :: d110 :: (dB v122) :: (dB v122) :: d116 :: d117 :: d118 :: d119 :: d120 :: d121 :: (dB v129) :: (dB v129) :: d127 :: d128 :: (dB v132) :: (dB v132) :: q4 []))), []⟩) ?_ fun G35g133 => Ops.st _ (by kernel_rfl) (G35g133 v130 h)
                      intro v132 h
                      cases v132
                      · refine Ops.seg' 3 22 (by kernel_rfl) ?_
                        exact Ops.st _ (by kernel_rfl) (J35j138 (.v (.int .u8 v106)) (dB (v106 == 45)) false (v106 == 45) h)
                      · refine Ops.seg' 3 22 (by kernel_rfl) ?_
                        exact Ops.st _ (by kernel_rfl) (J35j138 U U true true h)
                    refine Ops.hv (fun K => ∀ v125 : Bool, f35_r2 m v96 v106 (v125 || (v106 == 95)) = some sx104 → K 15 ⟨(.v (.str a0)) :: q1 ((dB false) :: (dI v96) :: (.v (.int .u8 v106)) :: q18 ((dI v96) :: (.v (.str a0)) :: (dI (a0.size : Int)) :: (dB (decide (v96 < (a0.size : Int)))) :: q2 ((.v (.str a0)) :: (dI v96) :: (.v (.int .u8 v106)) :: (.v (.int .u8 v106)) :: (dB v111) :: (dB v111) :: d109 :: d110 :: (dB v122) :: (dB v122) :: d116 :: d117 :: d118 :: d119 :: d120 :: d121 :: (dB v125) :: (dB v125) :: q8 []))), []⟩) ?_ fun G35g126 => Ops.st _ (by kernel_rfl) (G35g126 v123 h)
                    intro v125 h
                    cases v125
                    · refine Ops.seg' 3 18 (by kernel_rfl) ?_
                      exact Ops.st _ (by kernel_rfl) (J35j131 (.v (.int .u8 v106)) (dB (v106 == 95)) false (v106 == 95) h)
                    · refine Ops.seg' 3 18 (by kernel_rfl) ?_
                      exact Ops.st _ (by kernel_rfl) (J35j131 U U true true h)
                  refine Ops.hv (fun K => ∀ v114 : Bool, f35_r3 m v96 v106 (v114 || ((decide (v106 ≥ 48)) && (decide (v106 ≤ 57)))) = some sx104 → K 7 ⟨(.v (.str a0)) :: q1 ((dB false) :: (dI v96) :: (.v (.int .u8 v106)) :: q18 ((dI v96) :: (.v (.str a0)) :: (dI (a0.size : Int)) :: (dB (decide (v96 < (a0.size : Int)))) :: q2 ((.v (.str a0)) :: (dI v96) :: (.v (.int .u8 v106)) :: (.v (.int .u8 v106)) :: (dB v111) :: (dB v111) :: d109 :: d110 :: (dB v114) :: (dB v114) :: q16 []))), []⟩) ?_ fun G35g115 => Ops.st _ (by kernel_rfl) (G35g115 v112 h)
                  intro v114 h
                  cases v114
                  · refine Ops.seg' 3 10 (by kernel_rfl) ?_
                    refine Ops.hv (fun K => ∀ v139 : Bool, (f35_r3 m v96 v106 (false || (v139 && (decide (v106 ≤ 57))))) = some sx104 → K 10 ⟨(.v (.str a0)) :: q1 ((dB false) :: (dI v96) :: (.v (.int .u8 v106)) :: q18 ((dI v96) :: (.v (.str a0)) :: (dI (a0.size : Int)) :: (dB (decide (v96 < (a0.size : Int)))) :: q2 ((.v (.str a0)) :: (dI v96) :: (.v (.int .u8 v106)) :: (.v (.int .u8 v106)) :: (dB v111) :: (dB v111) :: d109 :: d110 :: (dB false) :: (dB false) :: (.v (.int .u8 v106)) :: (dB v139) :: (dB v139) :: q13 []))), []⟩) ?_ fun G35g140 => Ops.st _ (by kernel_rfl) (G35g140 (decide (v106 ≥ 48)) h)
                    intro v139 h
                    cases v139
                    · refine Ops.seg' 4 14 (by kernel_rfl) ?_
                      exact Ops.st _ (by kernel_rfl) (J35j124 (.v (.int .u8 v106)) (dB false) (dB false) U U (dB false) false false h)
                    · refine Ops.seg' 4 14 (by kernel_rfl) ?_
                      exact Ops.st _ (by kernel_rfl) (J35j124 (.v (.int .u8 v106)) (dB true) (dB true) (.v (.int .u8 v106)) (dB (decide (v106 ≤ 57))) (dB (decide (v106 ≤ 57))) false (decide (v106 ≤ 57)) h)
                  · refine Ops.seg' 7 14 (by kernel_rfl) ?_
                    exact Ops.st _ (by kernel_rfl) (J35j124 U U U U U U true true h)
                refine Ops.hv (fun K => ∀ v107 : Bool, f35_r4 m v96 v106 (v107 && (decide (v106 ≤ 122))) = some sx104 → K 3 ⟨(.v (.str a0)) :: q1 ((dB false) :: (dI v96) :: (.v (.int .u8 v106)) :: q18 ((dI v96) :: (.v (.str a0)) :: (dI (a0.size : Int)) :: (dB (decide (v96 < (a0.size : Int)))) :: q2 ((.v (.str a0)) :: (dI v96) :: (.v (.int .u8 v106)) :: (.v (.int .u8 v106)) :: (dB v107) :: (dB v107) :: q20 []))), []⟩) ?_ fun G35g108 => Ops.st _ (by kernel_rfl) (G35g108 (decide (v106 ≥ 97)) h)
                intro v107 h
                cases v107
                · refine Ops.seg' 3 6 (by kernel_rfl) ?_
                  exact Ops.st _ (by kernel_rfl) (J35j113 U U false false h)
                · refine Ops.seg' 3 6 (by kernel_rfl) ?_
                  exact Ops.st _ (by kernel_rfl) (J35j113 (.v (.int .u8 v106)) (dB (decide (v106 ≤ 122))) true (decide (v106 ≤ 122)) h)
              · refine Wp.exit (id := 0) (by kernel_rfl) ?_
                refine sqQ.x ?_
                refine seqQ.x ?_
                cases h
                refine lpQ.x ?_
                refine blkQ.x ⟨(.v (.str a0)) :: q1 ((dB false) :: (dI v96) :: q40 (q11 [])), []⟩ (by kernel_rfl) ?_
                exact hxx102 v96  hsx105
          refine Wp.loop' [0, 2, 3] 0 (by kernel_rfl) ⟨(.v (.str a0)) :: q1 ((dB false) :: (dI 0) :: q40 (q11 [])), []⟩ (by kernel_rfl) ?_
          rcases brk_some h with ⟨r143, er143, h⟩ | ⟨y142, ey142, h⟩
          · refine hLx141 _ 0  _ er143 n (by omega) (fun r er σ hσ => ?_) (fun y  ey => by cases ey)
            cases er
            refine seqQ.r ?_
            exact fnQ.r' (X35 n) (fun z => (eB z)) h hσ
          · refine hLx141 _ 0  _ ey142 n (by omega) (fun r er => by cases er) (fun y  ey => ?_)
            cases ey
            refine seqQ.n ?_
            refine Wp.seq' (by kernel_rfl) ?_
            refine Wp.region (by kernel_rfl) ?_
            refine Ops.seg' 1 1 (by kernel_rfl) ?_
            refine Ops.done (by kernel_rfl) ?_
            refine seqQ.n ?_
            refine Wp.ret (by kernel_rfl) ?_
            exact fnQ.r' (X35 n) (fun z => (eB z)) h (RetOk.mk' (dB true) (by kernel_rfl) (by kernel_rfl))
      obtain ⟨v23, ev23, h⟩ := bnd_some h
      refine Ops.hv (fun K => ∀ v17 : Bool, (cnd v17 (some true) (bnd (sidx a0 0) fun v144 => some (decide (v144 > 122)))) = some v23 → K 14 ⟨(.v (.str a0)) :: u1 ((dB false) :: u2 ((.v (.str a0)) :: (dI (a0.size : Int)) :: (dB v6) :: (dB v6) :: d3 :: d4 :: d5 :: (dB v14) :: (dB v14) :: d11 :: d12 :: d13 :: (dB v17) :: (dB v17) :: u36 [])), []⟩) ?_ fun G35g18 => Ops.st _ (by kernel_rfl) (G35g18 v15 ev23)
      intro v17 ev23
      cases v17
      · have ev23 := cnd_f ev23
        refine Ops.seg' 1 15 (by kernel_rfl) ?_
        obtain ⟨v144, ev144, ev23⟩ := bnd_some ev23
        refine Ops.one' 16 (fun h0 e0 => (str_ix (T := T) h0 9 a0 0 v144 ev144 (by kernel_rfl))) (by kernel_rfl) (by kernel_rfl) ?_
        refine Ops.seg' 2 18 (by kernel_rfl) ?_
        exact Ops.st _ (by kernel_rfl) (J35j24 (.v (.str a0)) (.v (.int .u8 v144)) (dB (decide (v144 > 122))) false (decide (v144 > 122)) (some_sub (fun v23 => f35_r6 m a0 v23 = some o) ev23 h))
      · have ev23 := cnd_t ev23
        refine Ops.seg' 4 18 (by kernel_rfl) ?_
        exact Ops.st _ (by kernel_rfl) (J35j24 U U U true true (some_sub (fun v23 => f35_r6 m a0 v23 = some o) ev23 h))
    obtain ⟨v15, ev15, h⟩ := bnd_some h
    refine Ops.hv (fun K => ∀ v9 : Bool, (cnd v9 (some true) (bnd (sidx a0 0) fun v145 => some (decide (v145 < 97)))) = some v15 → K 9 ⟨(.v (.str a0)) :: u1 ((dB false) :: u2 ((.v (.str a0)) :: (dI (a0.size : Int)) :: (dB v6) :: (dB v6) :: d3 :: d4 :: d5 :: (dB v9) :: (dB v9) :: u40 (u1 []))), []⟩) ?_ fun G35g10 => Ops.st _ (by kernel_rfl) (G35g10 v7 ev15)
    intro v9 ev15
    cases v9
    · have ev15 := cnd_f ev15
      refine Ops.seg' 1 10 (by kernel_rfl) ?_
      obtain ⟨v145, ev145, ev15⟩ := bnd_some ev15
      refine Ops.one' 11 (fun h0 e0 => (str_ix (T := T) h0 9 a0 0 v145 ev145 (by kernel_rfl))) (by kernel_rfl) (by kernel_rfl) ?_
      refine Ops.seg' 2 13 (by kernel_rfl) ?_
      exact Ops.st _ (by kernel_rfl) (J35j16 (.v (.str a0)) (.v (.int .u8 v145)) (dB (decide (v145 < 97))) false (decide (v145 < 97)) (some_sub (fun v15 => f35_r7 m a0 v15 = some o) ev15 h))
    · have ev15 := cnd_t ev15
      refine Ops.seg' 4 13 (by kernel_rfl) ?_
      exact Ops.st _ (by kernel_rfl) (J35j16 U U U true true (some_sub (fun v15 => f35_r7 m a0 v15 = some o) ev15 h))
  refine Ops.hv (fun K => ∀ v1 : Bool, f35_r8 m a0 (v1 || (decide ((a0.size : Int) > 30))) = some o → K 4 ⟨(.v (.str a0)) :: u1 ((dB false) :: u2 ((.v (.str a0)) :: (dI (a0.size : Int)) :: (dB v1) :: (dB v1) :: u40 (u6 []))), []⟩) ?_ fun G35g2 => Ops.st _ (by kernel_rfl) (G35g2 ((a0.size : Int) == 0) h)
  intro v1 h
  cases v1
  · refine Ops.seg' 4 8 (by kernel_rfl) ?_
    exact Ops.st _ (by kernel_rfl) (J35j8 (.v (.str a0)) (dI (a0.size : Int)) (dB (decide ((a0.size : Int) > 30))) false (decide ((a0.size : Int) > 30)) h)
  · refine Ops.seg' 4 8 (by kernel_rfl) ?_
    exact Ops.st _ (by kernel_rfl) (J35j8 U U U true true h)

/-! ### 64 glosswright/glosswrightref5.fault -/
def f64 (m : Nat) (a0 : Int) (a1 : Int) : Option S27 :=
  some ((⟨a0, a1⟩ : S27))
noncomputable abbrev X64 (n : Nat) : Cx := cxOf Proofs.Tryd.prog EG 64 n
noncomputable def C64 : Code := bodyOf Proofs.Tryd.prog 64
theorem ok64 (m : Nat) (a0 : Int) (a1 : Int) (o : S27) (h : f64 m a0 a1 = some o) (n : Nat) (hn : m + 1 ≤ n) : Fn Proofs.Tryd.prog EG n 64 [.v (eI a0), .v (eI a1)] (e27 o) := by
  obtain ⟨n, rfl⟩ : ∃ q, n = q + 1 := ⟨n - 1, by omega⟩
  unfold f64 at h
  refine Fn.of (by kernel_rfl) (by kernel_rfl) (by kernel_rfl) ⟨(dI a0) :: (dI a1) :: u6 [], []⟩ (by kernel_rfl) ?_
  refine Wp.seq' (by kernel_rfl) ?_
  refine Wp.region (by kernel_rfl) ?_
  refine Ops.seg' 1 1 (by kernel_rfl) ?_
  refine Ops.done (by kernel_rfl) ?_
  refine seqQ.n ?_
  refine Wp.seq' (by kernel_rfl) ?_
  refine Wp.region (by kernel_rfl) ?_
  refine Ops.seg' 4 4 (by kernel_rfl) ?_
  refine Ops.done (by kernel_rfl) ?_
  refine seqQ.n ?_
  refine Wp.ret (by kernel_rfl) ?_
  exact fnQ.r' (X64 n) (fun z => (e27 z)) h (RetOk.mk' (.v (.agg [(vI a0), (vI a1)])) (by kernel_rfl) (by kernel_rfl))

/-! ### 85 glosswright/glosswrightref5.Scalar -/
def f85_r1 (m : Nat) (v17 : Bool) : Option Bool :=
  some v17
def f85_r2 (m : Nat) (a0 : Int) (v6 : Bool) : Option Bool :=
  f85_r1 m (v6 || ((decide (a0 > 57343)) && (decide (a0 ≤ 1114111))))
def f85 (m : Nat) (a0 : Int) : Option Bool :=
  f85_r2 m a0 ((decide (a0 ≥ 0)) && (decide (a0 < 55296)))
noncomputable abbrev X85 (n : Nat) : Cx := cxOf Proofs.Tryd.prog EG 85 n
noncomputable def C85 : Code := bodyOf Proofs.Tryd.prog 85
theorem ok85 (m : Nat) (a0 : Int) (o : Bool) (h : f85 m a0 = some o) (n : Nat) (hn : m + 1 ≤ n) : Fn Proofs.Tryd.prog EG n 85 [.v (eI a0)] (eB o) := by
  obtain ⟨n, rfl⟩ : ∃ q, n = q + 1 := ⟨n - 1, by omega⟩
  unfold f85 at h
  refine Fn.of (by kernel_rfl) (by kernel_rfl) (by kernel_rfl) ⟨(dI a0) :: u16 [], []⟩ (by kernel_rfl) ?_
  refine Wp.seq' (by kernel_rfl) ?_
  refine Wp.region (by kernel_rfl) ?_
  refine Ops.seg' 1 1 (by kernel_rfl) ?_
  refine Ops.done (by kernel_rfl) ?_
  refine seqQ.n ?_
  refine Wp.seq' (by kernel_rfl) ?_
  refine Wp.region (by kernel_rfl) ?_
  refine Ops.seg' 3 3 (by kernel_rfl) ?_
  refine Ops.hv (fun K => ∀ (d3 d4 : D) (v5 : Bool) (v6 : Bool), f85_r2 m a0 v6 = some o → K 6 ⟨(dI a0) :: u1 ((dB false) :: (dI a0) :: (dB v5) :: (dB v5) :: d3 :: d4 :: (dB v6) :: u8 []), []⟩) ?_ fun J85j7 => ?_
  · intro d3 d4 v5 v6 h
    unfold f85_r2 at h
    refine Ops.seg' 1 7 (by kernel_rfl) ?_
    refine Ops.hv (fun K => ∀ (d10 d11 d12 d13 d14 d15 : D) (v16 : Bool) (v17 : Bool), f85_r1 m v17 = some o → K 14 ⟨(dI a0) :: u1 ((dB false) :: (dI a0) :: (dB v5) :: (dB v5) :: d3 :: d4 :: (dB v16) :: (dB v16) :: d10 :: d11 :: d12 :: d13 :: d14 :: d15 :: (dB v17) :: []), []⟩) ?_ fun J85j18 => ?_
    · intro d10 d11 d12 d13 d14 d15 v16 v17 h
      unfold f85_r1 at h
      refine Ops.seg' 1 15 (by kernel_rfl) ?_
      refine Ops.done (by kernel_rfl) ?_
      refine seqQ.n ?_
      refine Wp.ret (by kernel_rfl) ?_
      exact fnQ.r' (X85 n) (fun z => (eB z)) h (RetOk.mk' (dB v17) (by kernel_rfl) (by kernel_rfl))
    refine Ops.hv (fun K => ∀ v8 : Bool, f85_r1 m (v8 || ((decide (a0 > 57343)) && (decide (a0 ≤ 1114111)))) = some o → K 7 ⟨(dI a0) :: u1 ((dB false) :: (dI a0) :: (dB v5) :: (dB v5) :: d3 :: d4 :: (dB v8) :: (dB v8) :: u7 []), []⟩) ?_ fun G85g9 => Ops.st _ (by kernel_rfl) (G85g9 v6 h)
    intro v8 h
    cases v8
    · refine Ops.seg' 3 10 (by kernel_rfl) ?_
      refine Ops.hv (fun K => ∀ v19 : Bool, (f85_r1 m (false || (v19 && (decide (a0 ≤ 1114111))))) = some o → K 10 ⟨(dI a0) :: u1 ((dB false) :: (dI a0) :: (dB v5) :: (dB v5) :: d3 :: d4 :: (dB false) :: (dB false) :: (dI a0) :: (dB v19) :: (dB v19) :: u4 []), []⟩) ?_ fun G85g20 => Ops.st _ (by kernel_rfl) (G85g20 (decide (a0 > 57343)) h)
      intro v19 h
      cases v19
      · refine Ops.seg' 4 14 (by kernel_rfl) ?_
        exact Ops.st _ (by kernel_rfl) (J85j18 (dI a0) (dB false) (dB false) U U (dB false) false false h)
      · refine Ops.seg' 4 14 (by kernel_rfl) ?_
        exact Ops.st _ (by kernel_rfl) (J85j18 (dI a0) (dB true) (dB true) (dI a0) (dB (decide (a0 ≤ 1114111))) (dB (decide (a0 ≤ 1114111))) false (decide (a0 ≤ 1114111)) h)
    · refine Ops.seg' 7 14 (by kernel_rfl) ?_
      exact Ops.st _ (by kernel_rfl) (J85j18 U U U U U U true true h)
  refine Ops.hv (fun K => ∀ v1 : Bool, f85_r2 m a0 (v1 && (decide (a0 < 55296))) = some o → K 3 ⟨(dI a0) :: u1 ((dB false) :: (dI a0) :: (dB v1) :: (dB v1) :: u11 []), []⟩) ?_ fun G85g2 => Ops.st _ (by kernel_rfl) (G85g2 (decide (a0 ≥ 0)) h)
  intro v1 h
  cases v1
  · refine Ops.seg' 3 6 (by kernel_rfl) ?_
    exact Ops.st _ (by kernel_rfl) (J85j7 U U false false h)
  · refine Ops.seg' 3 6 (by kernel_rfl) ?_
    exact Ops.st _ (by kernel_rfl) (J85j7 (dI a0) (dB (decide (a0 < 55296))) true (decide (a0 < 55296)) h)

/-! ### 66 glosswright/glosswrightref5.Width -/
def f66 (m : Nat) (a0 : Int) : Option Int :=
  cnd (decide (a0 < 128))
  (some 1)
  (cnd (decide (a0 < 2048))
  (some 2)
  (cnd (decide (a0 < 65536))
  (some 3)
  (some 4)))
noncomputable abbrev X66 (n : Nat) : Cx := cxOf Proofs.Tryd.prog EG 66 n
noncomputable def C66 : Code := bodyOf Proofs.Tryd.prog 66
theorem ok66 (m : Nat) (a0 : Int) (o : Int) (h : f66 m a0 = some o) (n : Nat) (hn : m + 1 ≤ n) : Fn Proofs.Tryd.prog EG n 66 [.v (eI a0)] (eI o) := by
  obtain ⟨n, rfl⟩ : ∃ q, n = q + 1 := ⟨n - 1, by omega⟩
  unfold f66 at h
  refine Fn.of (by kernel_rfl) (by kernel_rfl) (by kernel_rfl) ⟨(dI a0) :: u8 [], []⟩ (by kernel_rfl) ?_
  refine Wp.seq' (by kernel_rfl) ?_
  refine Wp.region (by kernel_rfl) ?_
  refine Ops.seg' 1 1 (by kernel_rfl) ?_
  refine Ops.done (by kernel_rfl) ?_
  refine seqQ.n ?_
  refine Wp.seq' (by kernel_rfl) ?_
  refine Wp.seq' (by kernel_rfl) ?_
  refine Wp.region (by kernel_rfl) ?_
  refine Ops.seg' 2 2 (by kernel_rfl) ?_
  refine Ops.done (by kernel_rfl) ?_
  refine seqQ.n ?_
  refine Wp.cnd h [0, 2] 0 (by kernel_rfl) (fun h => ?_) (fun h => ?_)
  · refine Wp.seq' (by kernel_rfl) ?_
    refine Wp.region (by kernel_rfl) ?_
    refine Ops.seg' 1 1 (by kernel_rfl) ?_
    refine Ops.done (by kernel_rfl) ?_
    refine seqQ.n ?_
    refine Wp.ret (by kernel_rfl) ?_
    refine sqQ.r ?_
    refine seqQ.r ?_
    exact fnQ.r' (X66 n) (fun z => (eI z)) h (RetOk.mk' (dI 1) (by kernel_rfl) (by kernel_rfl))
  · refine Wp.skip (by kernel_rfl) ?_
    refine sqQ.n' ?_
    refine seqQ.n ?_
    refine Wp.seq' (by kernel_rfl) ?_
    refine Wp.seq' (by kernel_rfl) ?_
    refine Wp.region (by kernel_rfl) ?_
    refine Ops.seg' 2 2 (by kernel_rfl) ?_
    refine Ops.done (by kernel_rfl) ?_
    refine seqQ.n ?_
    refine Wp.cnd h [0, 2] 0 (by kernel_rfl) (fun h => ?_) (fun h => ?_)
    · refine Wp.seq' (by kernel_rfl) ?_
      refine Wp.region (by kernel_rfl) ?_
      refine Ops.seg' 1 1 (by kernel_rfl) ?_
      refine Ops.done (by kernel_rfl) ?_
      refine seqQ.n ?_
      refine Wp.ret (by kernel_rfl) ?_
      refine sqQ.r ?_
      refine seqQ.r ?_
      exact fnQ.r' (X66 n) (fun z => (eI z)) h (RetOk.mk' (dI 2) (by kernel_rfl) (by kernel_rfl))
    · refine Wp.skip (by kernel_rfl) ?_
      refine sqQ.n' ?_
      refine seqQ.n ?_
      refine Wp.seq' (by kernel_rfl) ?_
      refine Wp.seq' (by kernel_rfl) ?_
      refine Wp.region (by kernel_rfl) ?_
      refine Ops.seg' 2 2 (by kernel_rfl) ?_
      refine Ops.done (by kernel_rfl) ?_
      refine seqQ.n ?_
      refine Wp.cnd h [2] 0 (by kernel_rfl) (fun h => ?_) (fun h => ?_)
      · refine Wp.seq' (by kernel_rfl) ?_
        refine Wp.region (by kernel_rfl) ?_
        refine Ops.seg' 1 1 (by kernel_rfl) ?_
        refine Ops.done (by kernel_rfl) ?_
        refine seqQ.n ?_
        refine Wp.ret (by kernel_rfl) ?_
        refine sqQ.r ?_
        refine seqQ.r ?_
        exact fnQ.r' (X66 n) (fun z => (eI z)) h (RetOk.mk' (dI 3) (by kernel_rfl) (by kernel_rfl))
      · refine Wp.skip (by kernel_rfl) ?_
        refine sqQ.n' ?_
        refine seqQ.n ?_
        refine Wp.seq' (by kernel_rfl) ?_
        refine Wp.region (by kernel_rfl) ?_
        refine Ops.seg' 1 1 (by kernel_rfl) ?_
        refine Ops.done (by kernel_rfl) ?_
        refine seqQ.n ?_
        refine Wp.ret (by kernel_rfl) ?_
        exact fnQ.r' (X66 n) (fun z => (eI z)) h (RetOk.mk' (dI 4) (by kernel_rfl) (by kernel_rfl))

/-! ### 65 glosswright/glosswrightref5.one -/
def f65_r1 (m : Nat) (v35 : Int) (v36 : Int) (v46 : Int) (v52 : Bool) : Option (Stp Int (Int × Int)) :=
  cnd v52
  (some (.ret (-1)))
  (some (.nxt (w64 (w64 (w64 (v35 * 64) + w64 v46) - 128), w64 (v36 + 1))))
def f65_B2 (m : Nat) (a0 : ByteArray) (a1 : Int) (v2 : Int) (v35 : Int) (v36 : Int) : Option (Stp Int (Int × Int)) :=
  cnd (decide (v36 < v2))
  (bnd (sidx a0 (w64 (a1 + v36))) fun v46 =>
  f65_r1 m v35 v36 v46 ((decide (w64 v46 < 128)) || (decide (w64 v46 > 191))))
  (some (.brk (v35, v36)))
def f65_r3 (m : Nat) (y55 : Int × Int) (v65 : Bool) : Option Int :=
  cnd v65
  (some (-1))
  (some y55.1)
def f65_j4 (m : Nat) (a0 : ByteArray) (a1 : Int) (v2 : Int) (v3 : Int) : Option Int :=
  cnd (decide (w64 (a1 + v2) > (a0.size : Int)))
  (some (-1))
  (brk (iter (fun (y : Int × Int) => f65_B2 m a0 a1 v2 y.1 y.2) m (v3, 1)) some fun y55 =>
  bnd (f85 m y55.1) fun v57 =>
  bnd (cnd (!v57)
  (some true)
  (bnd (f66 m y55.1) fun v67 =>
  some (v67 != v2))) fun v65 =>
  f65_r3 m y55 v65)
def f65_j5 (m : Nat) (a0 : ByteArray) (a1 : Int) (v68 : Int) (v69 : Int) : Option Int :=
  f65_j4 m a0 a1 v68 v69
def f65_j6 (m : Nat) (a0 : ByteArray) (a1 : Int) (v79 : Int) (v80 : Int) : Option Int :=
  f65_j5 m a0 a1 v79 v80
def f65 (m : Nat) (a0 : ByteArray) (a1 : Int) : Option Int :=
  bnd (sidx a0 a1) fun v1 =>
  cnd (decide (w64 v1 ≥ 240))
  (f65_j4 m a0 a1 4 (w64 (w64 v1 - 240)))
  (cnd (decide (w64 v1 ≥ 224))
  (f65_j5 m a0 a1 3 (w64 (w64 v1 - 224)))
  (cnd (decide (w64 v1 ≥ 192))
  (f65_j6 m a0 a1 2 (w64 (w64 v1 - 192)))
  (cnd (decide (w64 v1 ≥ 128))
  (some (-1))
  (f65_j6 m a0 a1 1 (w64 v1)))))
noncomputable abbrev X65 (n : Nat) : Cx := cxOf Proofs.Tryd.prog EG 65 n
noncomputable def C65 : Code := bodyOf Proofs.Tryd.prog 65
theorem ok65 (m : Nat) (a0 : ByteArray) (a1 : Int) (o : Int) (h : f65 m a0 a1 = some o) (n : Nat) (hn : m + 2 ≤ n) : Fn Proofs.Tryd.prog EG n 65 [.v (eS a0), .v (eI a1)] (eI o) := by
  obtain ⟨n, rfl⟩ : ∃ q, n = q + 1 := ⟨n - 1, by omega⟩
  unfold f65 at h
  refine Fn.of (by kernel_rfl) (by kernel_rfl) (by kernel_rfl) ⟨(.v (.str a0)) :: (dI a1) :: u40 (u25 []), []⟩ (by kernel_rfl) ?_
  refine Wp.seq' (by kernel_rfl) ?_
  refine Wp.region (by kernel_rfl) ?_
  refine Ops.seg' 1 1 (by kernel_rfl) ?_
  refine Ops.done (by kernel_rfl) ?_
  refine seqQ.n ?_
  refine Wp.seq' (by kernel_rfl) ?_
  refine Wp.region (by kernel_rfl) ?_
  refine Ops.seg' 2 2 (by kernel_rfl) ?_
  obtain ⟨v1, ev1, h⟩ := bnd_some h
  refine Ops.one' 3 (fun h0 e0 => (str_ix (T := T) h0 9 a0 a1 v1 ev1 (by kernel_rfl))) (by kernel_rfl) (by kernel_rfl) ?_
  refine Ops.seg' 2 5 (by kernel_rfl) ?_
  refine Ops.done (by kernel_rfl) ?_
  refine seqQ.n ?_
  refine Wp.seq' (by kernel_rfl) ?_
  refine Wp.region (by kernel_rfl) ?_
  refine Ops.seg' 1 1 (by kernel_rfl) ?_
  refine Ops.done (by kernel_rfl) ?_
  refine seqQ.n ?_
  refine Wp.seq' (by kernel_rfl) ?_
  refine Wp.region (by kernel_rfl) ?_
  refine Ops.seg' 2 2 (by kernel_rfl) ?_
  refine Ops.done (by kernel_rfl) ?_
  refine seqQ.n ?_
  refine Wp.seq' (by kernel_rfl) ?_
  refine Wp.seq' (by kernel_rfl) ?_
  refine Wp.region (by kernel_rfl) ?_
  refine Ops.seg' 2 2 (by kernel_rfl) ?_
  refine Ops.done (by kernel_rfl) ?_
  refine seqQ.n ?_
  have J65j16 : ∀ (v2 : Int) (v3 : Int) (d4 : D) (d5 : D) (d6 : D) (d7 : D) (d8 : D) (d9 : D) (d10 : D) (d11 : D) (d12 : D) (d13 : D) (d14 : D) (d15 : D), f65_j4 m a0 a1 v2 v3 = some o → (seqQ (X65 n) (cR (cR (cR (cR (cR C65))))) (fnQ (X65 n).E.T (resOf Proofs.Tryd.prog 65) (eI o))) .normal ⟨(.v (.str a0)) :: (dI a1) :: u2 ((dI 0) :: (dI (w64 v1)) :: (dI v2) :: (dI v3) :: u2 ((.v (.str a0)) :: (dI a1) :: (.v (.int .u8 v1)) :: (dI (w64 v1)) :: (dI (w64 v1)) :: (dI (w64 v1)) :: (dB (decide (w64 v1 ≥ 240))) :: d4 :: d5 :: d6 :: d7 :: d8 :: d9 :: d10 :: d11 :: d12 :: d13 :: d14 :: d15 :: u38 [])), []⟩ := by
    intro v2 v3 d4 d5 d6 d7 d8 d9 d10 d11 d12 d13 d14 d15 h
    unfold f65_j4 at h
    refine seqQ.n ?_
    refine Wp.seq' (by kernel_rfl) ?_
    refine Wp.seq' (by kernel_rfl) ?_
    refine Wp.region (by kernel_rfl) ?_
    refine Ops.seg' 6 6 (by kernel_rfl) ?_
    refine Ops.done (by kernel_rfl) ?_
    refine seqQ.n ?_
    refine Wp.cnd h [0, 1, 4, 6, 7] 0 (by kernel_rfl) (fun h => ?_) (fun h => ?_)
    · refine Wp.seq' (by kernel_rfl) ?_
      refine Wp.region (by kernel_rfl) ?_
      refine Ops.seg' 1 1 (by kernel_rfl) ?_
      refine Ops.done (by kernel_rfl) ?_
      refine seqQ.n ?_
      refine Wp.ret (by kernel_rfl) ?_
      refine sqQ.r ?_
      refine seqQ.r ?_
      exact fnQ.r' (X65 n) (fun z => (eI z)) h (RetOk.mk' (dI (-1)) (by kernel_rfl) (by kernel_rfl))
    · refine Wp.skip (by kernel_rfl) ?_
      refine sqQ.n' ?_
      refine seqQ.n ?_
      refine Wp.seq' (by kernel_rfl) ?_
      refine Wp.seq' (by kernel_rfl) ?_
      refine Wp.region (by kernel_rfl) ?_
      refine Ops.seg' 1 1 (by kernel_rfl) ?_
      refine Ops.done (by kernel_rfl) ?_
      refine seqQ.n ?_
      refine Wp.block' 0 [4, 6, 7] 0 (by kernel_rfl) ?_
      have hLx54 : ∀ (kx38 : Nat) (v35 : Int) (v36 : Int)  (ox37 : Int ⊕ (Int × Int)), iter (fun (y : Int × Int) => f65_B2 m a0 a1 v2 y.1 y.2) kx38 (v35, v36) = some ox37 → ∀ nx39, kx38 ≤ nx39 → (∀ r, ox37 = .inl r → ∀ σ, RetOk (X65 n) (resOf Proofs.Tryd.prog 65) (eI r) σ → (seqQ (X65 n) (cR (cR (cR (cR (cR (cR (cR C65))))))) (fnQ (X65 n).E.T (resOf Proofs.Tryd.prog 65) (eI o))) .ret σ) → (∀ (y : Int × Int) , ox37 = .inr y → (seqQ (X65 n) (cR (cR (cR (cR (cR (cR (cR C65))))))) (fnQ (X65 n).E.T (resOf Proofs.Tryd.prog 65) (eI o))) .normal ⟨(.v (.str a0)) :: (dI a1) :: q2 ((dI 0) :: q1 ((dI v2) :: (dI y.1) :: (dI y.2) :: q40 (q18 []))), []⟩) → Lp (X65 n) [0, 1, 4, 6, 7, 8] 0 (cL (cL (cR (cL (cR (cR (cR (cR (cR (cR C65)))))))))) nx39 ⟨(.v (.str a0)) :: (dI a1) :: q2 ((dI 0) :: q1 ((dI v2) :: (dI v35) :: (dI v36) :: q40 (q18 []))), []⟩ (blkQ (X65 n) 0 [4, 6, 7] 0 (seqQ (X65 n) (cR (cR (cR (cR (cR (cR (cR C65))))))) (fnQ (X65 n).E.T (resOf Proofs.Tryd.prog 65) (eI o)))) := by
        intro kx38
        induction kx38 with
        | zero => intro v35 v36  ox37 h; exact (iter_zero h).elim
        | succ kx38 ihx40 =>
          intro v35 v36  ox37 h nx39 hnx43 hrx41 hxx42
          obtain ⟨nx39, rfl⟩ : ∃ q, nx39 = q + 1 := ⟨nx39 - 1, by omega⟩
          obtain ⟨sx44, h, hsx45⟩ := iter_some h
          have h : f65_B2 m a0 a1 v2 v35 v36 = some sx44 := h
          unfold f65_B2 at h
          refine Lp.succ ?_
          refine Wp.seq' (by kernel_rfl) ?_
          refine Wp.seq' (by kernel_rfl) ?_
          refine Wp.region (by kernel_rfl) ?_
          refine Ops.seg' 3 3 (by kernel_rfl) ?_
          refine Ops.done (by kernel_rfl) ?_
          refine seqQ.n ?_
          refine Wp.cnd h [0, 1, 4, 6, 7, 8] 0 (by kernel_rfl) (fun h => ?_) (fun h => ?_)
          · refine Wp.skip (by kernel_rfl) ?_
            refine sqQ.n' ?_
            refine seqQ.n ?_
            refine Wp.seq' (by kernel_rfl) ?_
            refine Wp.block' 1 [0, 1, 4, 6, 7, 8] 0 (by kernel_rfl) ?_
            refine Wp.seq' (by kernel_rfl) ?_
            refine Wp.region (by kernel_rfl) ?_
            refine Ops.seg' 4 4 (by kernel_rfl) ?_
            obtain ⟨v46, ev46, h⟩ := bnd_some h
            refine Ops.one' 5 (fun h0 e0 => (str_ix (T := T) h0 9 a0 (w64 (a1 + v36)) v46 ev46 (by kernel_rfl))) (by kernel_rfl) (by kernel_rfl) ?_
            refine Ops.seg' 2 7 (by kernel_rfl) ?_
            refine Ops.done (by kernel_rfl) ?_
            refine seqQ.n ?_
            refine Wp.seq' (by kernel_rfl) ?_
            refine Wp.seq' (by kernel_rfl) ?_
            refine Wp.region (by kernel_rfl) ?_
            refine Ops.seg' 3 3 (by kernel_rfl) ?_
            refine Ops.hv (fun K => ∀ (d49 d50 : D) (v51 : Bool) (v52 : Bool), f65_r1 m v35 v36 v46 v52 = some sx44 → K 6 ⟨(.v (.str a0)) :: (dI a1) :: q2 ((dI 0) :: q1 ((dI v2) :: (dI v35) :: (dI v36) :: (dI (w64 v46)) :: q25 ((dI v36) :: (dI v2) :: (dB (decide (v36 < v2))) :: q2 ((.v (.str a0)) :: (dI a1) :: (dI v36) :: (dI (w64 (a1 + v36))) :: (.v (.int .u8 v46)) :: (dI (w64 v46)) :: (dI (w64 v46)) :: (dB v51) :: (dB v51) :: d49 :: d50 :: (dB v52) :: q15 [])))), []⟩) ?_ fun J65j53 => ?_
            · intro d49 d50 v51 v52 h
              unfold f65_r1 at h
              refine Ops.done (by kernel_rfl) ?_
              refine seqQ.n ?_
              refine Wp.cnd h [0, 1, 4, 6, 7, 8, 9] 0 (by kernel_rfl) (fun h => ?_) (fun h => ?_)
              · refine Wp.seq' (by kernel_rfl) ?_
                refine Wp.region (by kernel_rfl) ?_
                refine Ops.seg' 1 1 (by kernel_rfl) ?_
                refine Ops.done (by kernel_rfl) ?_
                refine seqQ.n ?_
                refine Wp.ret (by kernel_rfl) ?_
                refine sqQ.r ?_
                refine seqQ.r ?_
                refine blkQ.r ?_
                refine seqQ.r ?_
                cases h
                refine lpQ.r ?_
                refine blkQ.r ?_
                exact hrx41 _ hsx45 _ (RetOk.forget [0, 1, 4, 6, 7, 8] (by kernel_rfl) (RetOk.mk' (dI (-1)) (by kernel_rfl) (by kernel_rfl)))
              · refine Wp.skip (by kernel_rfl) ?_
                refine sqQ.n' ?_
                refine seqQ.n ?_
                refine Wp.region (by kernel_rfl) ?_
                refine Ops.seg' 6 6 (by kernel_rfl) ?_
                refine Ops.done (by kernel_rfl) ?_
                refine blkQ.n' ?_
                refine seqQ.n ?_
                refine Wp.region (by kernel_rfl) ?_
                refine Ops.seg' 3 3 (by kernel_rfl) ?_
                refine Ops.done (by kernel_rfl) ?_
                refine lpQ.n ⟨(.v (.str a0)) :: (dI a1) :: q2 ((dI 0) :: q1 ((dI v2) :: (dI (w64 (w64 (w64 (v35 * 64) + w64 v46) - 128))) :: (dI (w64 (v36 + 1))) :: q40 (q18 []))), []⟩ (by kernel_rfl) ?_
                cases h
                exact ihx40 (w64 (w64 (w64 (v35 * 64) + w64 v46) - 128)) (w64 (v36 + 1))  _ hsx45 _ (by omega) hrx41 hxx42
            refine Ops.hv (fun K => ∀ v47 : Bool, f65_r1 m v35 v36 v46 (v47 || (decide (w64 v46 > 191))) = some sx44 → K 3 ⟨(.v (.str a0)) :: (dI a1) :: q2 ((dI 0) :: q1 ((dI v2) :: (dI v35) :: (dI v36) :: (dI (w64 v46)) :: q25 ((dI v36) :: (dI v2) :: (dB (decide (v36 < v2))) :: q2 ((.v (.str a0)) :: (dI a1) :: (dI v36) :: (dI (w64 (a1 + v36))) :: (.v (.int .u8 v46)) :: (dI (w64 v46)) :: (dI (w64 v46)) :: (dB v47) :: (dB v47) :: q18 [])))), []⟩) ?_ fun G65g48 => Ops.st _ (by kernel_rfl) (G65g48 (decide (w64 v46 < 128)) h)
            intro v47 h
            cases v47
            · refine Ops.seg' 3 6 (by kernel_rfl) ?_
              exact Ops.st _ (by kernel_rfl) (J65j53 (dI (w64 v46)) (dB (decide (w64 v46 > 191))) false (decide (w64 v46 > 191)) h)
            · refine Ops.seg' 3 6 (by kernel_rfl) ?_
              exact Ops.st _ (by kernel_rfl) (J65j53 U U true true h)
          · refine Wp.exit (id := 0) (by kernel_rfl) ?_
            refine sqQ.x ?_
            refine seqQ.x ?_
            cases h
            refine lpQ.x ?_
            refine blkQ.x ⟨(.v (.str a0)) :: (dI a1) :: q2 ((dI 0) :: q1 ((dI v2) :: (dI v35) :: (dI v36) :: q40 (q18 []))), []⟩ (by kernel_rfl) ?_
            exact hxx42 (v35, v36)  hsx45
      refine Wp.loop' [0, 1, 4, 6, 7, 8] 0 (by kernel_rfl) ⟨(.v (.str a0)) :: (dI a1) :: q2 ((dI 0) :: q1 ((dI v2) :: (dI v3) :: (dI 1) :: q40 (q18 []))), []⟩ (by kernel_rfl) ?_
      rcases brk_some h with ⟨r56, er56, h⟩ | ⟨y55, ey55, h⟩
      · refine hLx54 _ v3 1  _ er56 n (by omega) (fun r er σ hσ => ?_) (fun y  ey => by cases ey)
        cases er
        refine seqQ.r ?_
        exact fnQ.r' (X65 n) (fun z => (eI z)) h hσ
      · refine hLx54 _ v3 1  _ ey55 n (by omega) (fun r er => by cases er) (fun y  ey => ?_)
        cases ey
        refine seqQ.n ?_
        refine Wp.seq' (by kernel_rfl) ?_
        refine Wp.seq' (by kernel_rfl) ?_
        refine Wp.region (by kernel_rfl) ?_
        refine Ops.seg' 1 1 (by kernel_rfl) ?_
        obtain ⟨v57, ev57, h⟩ := bnd_some h
        refine Ops.one' 2 (fun h0 e0 => (call_ok (E' := EG) (h := h0) (by kernel_rfl) (Args.v (vI y55.1) (eI y55.1) (by kernel_rfl) Args.nil) (ok85 m y55.1 v57 ev57 n (by omega)))) (by kernel_rfl) (by kernel_rfl) ?_
        refine Ops.seg' 2 4 (by kernel_rfl) ?_
        refine Ops.hv (fun K => ∀ (d60 d61 d62 d63 : D) (v64 : Bool) (v65 : Bool), f65_r3 m y55 v65 = some o → K 9 ⟨(.v (.str a0)) :: (dI a1) :: q2 ((dI 0) :: q1 ((dI v2) :: (dI y55.1) :: (dI y55.2) :: q40 (q8 ((dI y55.1) :: (dB v57) :: (dB v64) :: (dB v64) :: d60 :: d61 :: d62 :: d63 :: (dB v65) :: q1 [])))), []⟩) ?_ fun J65j66 => ?_
        · intro d60 d61 d62 d63 v64 v65 h
          unfold f65_r3 at h
          refine Ops.done (by kernel_rfl) ?_
          refine seqQ.n ?_
          refine Wp.cnd h [4, 7] 0 (by kernel_rfl) (fun h => ?_) (fun h => ?_)
          · refine Wp.seq' (by kernel_rfl) ?_
            refine Wp.region (by kernel_rfl) ?_
            refine Ops.seg' 1 1 (by kernel_rfl) ?_
            refine Ops.done (by kernel_rfl) ?_
            refine seqQ.n ?_
            refine Wp.ret (by kernel_rfl) ?_
            refine sqQ.r ?_
            refine seqQ.r ?_
            exact fnQ.r' (X65 n) (fun z => (eI z)) h (RetOk.mk' (dI (-1)) (by kernel_rfl) (by kernel_rfl))
          · refine Wp.skip (by kernel_rfl) ?_
            refine sqQ.n' ?_
            refine seqQ.n ?_
            refine Wp.seq' (by kernel_rfl) ?_
            refine Wp.region (by kernel_rfl) ?_
            refine Ops.seg' 2 2 (by kernel_rfl) ?_
            refine Ops.done (by kernel_rfl) ?_
            refine seqQ.n ?_
            refine Wp.ret (by kernel_rfl) ?_
            exact fnQ.r' (X65 n) (fun z => (eI z)) h (RetOk.mk' (dI y55.1) (by kernel_rfl) (by kernel_rfl))
        obtain ⟨v65, ev65, h⟩ := bnd_some h
        refine Ops.hv (fun K => ∀ v58 : Bool, (cnd v58 (some true) (bnd (f66 m y55.1) fun v67 => some (v67 != v2))) = some v65 → K 4 ⟨(.v (.str a0)) :: (dI a1) :: q2 ((dI 0) :: q1 ((dI v2) :: (dI y55.1) :: (dI y55.2) :: q40 (q8 ((dI y55.1) :: (dB v57) :: (dB v58) :: (dB v58) :: q6 [])))), []⟩) ?_ fun G65g59 => Ops.st _ (by kernel_rfl) (G65g59 (!v57) ev65)
        intro v58 ev65
        cases v58
        · have ev65 := cnd_f ev65
          refine Ops.seg' 1 5 (by kernel_rfl) ?_
          obtain ⟨v67, ev67, ev65⟩ := bnd_some ev65
          refine Ops.one' 6 (fun h0 e0 => (call_ok (E' := EG) (h := h0) (by kernel_rfl) (Args.v (vI y55.1) (eI y55.1) (by kernel_rfl) Args.nil) (ok66 m y55.1 v67 ev67 n (by omega)))) (by kernel_rfl) (by kernel_rfl) ?_
          refine Ops.seg' 3 9 (by kernel_rfl) ?_
          exact Ops.st _ (by kernel_rfl) (J65j66 (dI y55.1) (dI v67) (dI v2) (dB (v67 != v2)) false (v67 != v2) (some_sub (fun v65 => f65_r3 m y55 v65 = some o) ev65 h))
        · have ev65 := cnd_t ev65
          refine Ops.seg' 5 9 (by kernel_rfl) ?_
          exact Ops.st _ (by kernel_rfl) (J65j66 U U U U true true (some_sub (fun v65 => f65_r3 m y55 v65 = some o) ev65 h))
  refine Wp.cnd h [0, 1, 4, 6, 7] 0 (by kernel_rfl) (fun h => ?_) (fun h => ?_)
  · refine Wp.seq' (by kernel_rfl) ?_
    refine Wp.region (by kernel_rfl) ?_
    refine Ops.seg' 1 1 (by kernel_rfl) ?_
    refine Ops.done (by kernel_rfl) ?_
    refine seqQ.n ?_
    refine Wp.region (by kernel_rfl) ?_
    refine Ops.seg' 3 3 (by kernel_rfl) ?_
    refine Ops.done (by kernel_rfl) ?_
    refine sqQ.n ⟨(.v (.str a0)) :: (dI a1) :: u2 ((dI 0) :: (dI (w64 v1)) :: (dI 4) :: (dI (w64 (w64 v1 - 240))) :: u2 ((.v (.str a0)) :: (dI a1) :: (.v (.int .u8 v1)) :: (dI (w64 v1)) :: (dI (w64 v1)) :: (dI (w64 v1)) :: (dB (decide (w64 v1 ≥ 240))) :: (dI (w64 v1)) :: (dI (w64 (w64 v1 - 240))) :: u40 (u8 []))), []⟩ (by kernel_rfl) ?_
    exact J65j16 4 (w64 (w64 v1 - 240)) _ _ _ _ _ _ _ _ _ _ _ _ h
  · refine Wp.seq' (by kernel_rfl) ?_
    refine Wp.region (by kernel_rfl) ?_
    refine Ops.seg' 2 2 (by kernel_rfl) ?_
    refine Ops.done (by kernel_rfl) ?_
    refine seqQ.n ?_
    have J65j78 : ∀ (v68 : Int) (v69 : Int) (d70 : D) (d71 : D) (d72 : D) (d73 : D) (d74 : D) (d75 : D) (d76 : D) (d77 : D), f65_j5 m a0 a1 v68 v69 = some o → (sqQ (X65 n) [0, 1, 4, 6, 7] 0 (seqQ (X65 n) (cR (cR (cR (cR (cR C65))))) (fnQ (X65 n).E.T (resOf Proofs.Tryd.prog 65) (eI o)))) .normal ⟨(.v (.str a0)) :: (dI a1) :: u2 ((dI 0) :: (dI (w64 v1)) :: (dI v68) :: (dI v69) :: u2 ((.v (.str a0)) :: (dI a1) :: (.v (.int .u8 v1)) :: (dI (w64 v1)) :: (dI (w64 v1)) :: (dI (w64 v1)) :: (dB (decide (w64 v1 ≥ 240))) :: u2 ((dI (w64 v1)) :: (dB (decide (w64 v1 ≥ 224))) :: d70 :: d71 :: d72 :: d73 :: d74 :: d75 :: d76 :: d77 :: u38 []))), []⟩ := by
      intro v68 v69 d70 d71 d72 d73 d74 d75 d76 d77 h
      unfold f65_j5 at h
      refine sqQ.n ⟨(.v (.str a0)) :: (dI a1) :: u2 ((dI 0) :: (dI (w64 v1)) :: (dI v68) :: (dI v69) :: u2 ((.v (.str a0)) :: (dI a1) :: (.v (.int .u8 v1)) :: (dI (w64 v1)) :: (dI (w64 v1)) :: (dI (w64 v1)) :: (dB (decide (w64 v1 ≥ 240))) :: u2 ((dI (w64 v1)) :: (dB (decide (w64 v1 ≥ 224))) :: d70 :: d71 :: d72 :: d73 :: d74 :: d75 :: d76 :: d77 :: u38 []))), []⟩ (by kernel_rfl) ?_
      exact J65j16 v68 v69 _ _ _ _ _ _ _ _ _ _ _ _ h
    refine Wp.cnd h [0, 1, 4, 6, 7] 0 (by kernel_rfl) (fun h => ?_) (fun h => ?_)
    · refine Wp.seq' (by kernel_rfl) ?_
      refine Wp.region (by kernel_rfl) ?_
      refine Ops.seg' 1 1 (by kernel_rfl) ?_
      refine Ops.done (by kernel_rfl) ?_
      refine seqQ.n ?_
      refine Wp.region (by kernel_rfl) ?_
      refine Ops.seg' 3 3 (by kernel_rfl) ?_
      refine Ops.done (by kernel_rfl) ?_
      refine sqQ.n ⟨(.v (.str a0)) :: (dI a1) :: u2 ((dI 0) :: (dI (w64 v1)) :: (dI 3) :: (dI (w64 (w64 v1 - 224))) :: u2 ((.v (.str a0)) :: (dI a1) :: (.v (.int .u8 v1)) :: (dI (w64 v1)) :: (dI (w64 v1)) :: (dI (w64 v1)) :: (dB (decide (w64 v1 ≥ 240))) :: u2 ((dI (w64 v1)) :: (dB (decide (w64 v1 ≥ 224))) :: (dI (w64 v1)) :: (dI (w64 (w64 v1 - 224))) :: u40 (u4 [])))), []⟩ (by kernel_rfl) ?_
      exact J65j78 3 (w64 (w64 v1 - 224)) _ _ _ _ _ _ _ _ h
    · refine Wp.seq' (by kernel_rfl) ?_
      refine Wp.region (by kernel_rfl) ?_
      refine Ops.seg' 2 2 (by kernel_rfl) ?_
      refine Ops.done (by kernel_rfl) ?_
      refine seqQ.n ?_
      have J65j85 : ∀ (v79 : Int) (v80 : Int) (d81 : D) (d82 : D) (d83 : D) (d84 : D), f65_j6 m a0 a1 v79 v80 = some o → (sqQ (X65 n) [0, 1, 4, 6, 7] 0 (sqQ (X65 n) [0, 1, 4, 6, 7] 0 (seqQ (X65 n) (cR (cR (cR (cR (cR C65))))) (fnQ (X65 n).E.T (resOf Proofs.Tryd.prog 65) (eI o))))) .normal ⟨(.v (.str a0)) :: (dI a1) :: u2 ((dI 0) :: (dI (w64 v1)) :: (dI v79) :: (dI v80) :: u2 ((.v (.str a0)) :: (dI a1) :: (.v (.int .u8 v1)) :: (dI (w64 v1)) :: (dI (w64 v1)) :: (dI (w64 v1)) :: (dB (decide (w64 v1 ≥ 240))) :: u2 ((dI (w64 v1)) :: (dB (decide (w64 v1 ≥ 224))) :: u2 ((dI (w64 v1)) :: (dB (decide (w64 v1 ≥ 192))) :: d81 :: d82 :: d83 :: d84 :: u38 [])))), []⟩ := by
        intro v79 v80 d81 d82 d83 d84 h
        unfold f65_j6 at h
        refine sqQ.n ⟨(.v (.str a0)) :: (dI a1) :: u2 ((dI 0) :: (dI (w64 v1)) :: (dI v79) :: (dI v80) :: u2 ((.v (.str a0)) :: (dI a1) :: (.v (.int .u8 v1)) :: (dI (w64 v1)) :: (dI (w64 v1)) :: (dI (w64 v1)) :: (dB (decide (w64 v1 ≥ 240))) :: u2 ((dI (w64 v1)) :: (dB (decide (w64 v1 ≥ 224))) :: u2 ((dI (w64 v1)) :: (dB (decide (w64 v1 ≥ 192))) :: d81 :: d82 :: d83 :: d84 :: u38 [])))), []⟩ (by kernel_rfl) ?_
        exact J65j78 v79 v80 _ _ _ _ _ _ _ _ h
      refine Wp.cnd h [0, 1, 4, 6, 7] 0 (by kernel_rfl) (fun h => ?_) (fun h => ?_)
      · refine Wp.seq' (by kernel_rfl) ?_
        refine Wp.region (by kernel_rfl) ?_
        refine Ops.seg' 1 1 (by kernel_rfl) ?_
        refine Ops.done (by kernel_rfl) ?_
        refine seqQ.n ?_
        refine Wp.region (by kernel_rfl) ?_
        refine Ops.seg' 3 3 (by kernel_rfl) ?_
        refine Ops.done (by kernel_rfl) ?_
        refine sqQ.n ⟨(.v (.str a0)) :: (dI a1) :: u2 ((dI 0) :: (dI (w64 v1)) :: (dI 2) :: (dI (w64 (w64 v1 - 192))) :: u2 ((.v (.str a0)) :: (dI a1) :: (.v (.int .u8 v1)) :: (dI (w64 v1)) :: (dI (w64 v1)) :: (dI (w64 v1)) :: (dB (decide (w64 v1 ≥ 240))) :: u2 ((dI (w64 v1)) :: (dB (decide (w64 v1 ≥ 224))) :: u2 ((dI (w64 v1)) :: (dB (decide (w64 v1 ≥ 192))) :: (dI (w64 v1)) :: (dI (w64 (w64 v1 - 192))) :: u40 [])))), []⟩ (by kernel_rfl) ?_
        exact J65j85 2 (w64 (w64 v1 - 192)) _ _ _ _ h
      · refine Wp.seq' (by kernel_rfl) ?_
        refine Wp.region (by kernel_rfl) ?_
        refine Ops.seg' 2 2 (by kernel_rfl) ?_
        refine Ops.done (by kernel_rfl) ?_
        refine seqQ.n ?_
        refine Wp.cnd h [0, 1, 4, 6, 7] 0 (by kernel_rfl) (fun h => ?_) (fun h => ?_)
        · refine Wp.seq' (by kernel_rfl) ?_
          refine Wp.region (by kernel_rfl) ?_
          refine Ops.seg' 1 1 (by kernel_rfl) ?_
          refine Ops.done (by kernel_rfl) ?_
          refine seqQ.n ?_
          refine Wp.ret (by kernel_rfl) ?_
          refine sqQ.r ?_
          refine sqQ.r ?_
          refine sqQ.r ?_
          refine sqQ.r ?_
          refine seqQ.r ?_
          exact fnQ.r' (X65 n) (fun z => (eI z)) h (RetOk.mk' (dI (-1)) (by kernel_rfl) (by kernel_rfl))
        · refine Wp.skip (by kernel_rfl) ?_
          refine sqQ.n' ?_
          refine sqQ.n ⟨(.v (.str a0)) :: (dI a1) :: u2 ((dI 0) :: (dI (w64 v1)) :: (dI 1) :: (dI (w64 v1)) :: u2 ((.v (.str a0)) :: (dI a1) :: (.v (.int .u8 v1)) :: (dI (w64 v1)) :: (dI (w64 v1)) :: (dI (w64 v1)) :: (dB (decide (w64 v1 ≥ 240))) :: u2 ((dI (w64 v1)) :: (dB (decide (w64 v1 ≥ 224))) :: u2 ((dI (w64 v1)) :: (dB (decide (w64 v1 ≥ 192))) :: u2 ((dI (w64 v1)) :: (dB (decide (w64 v1 ≥ 128))) :: u38 []))))), []⟩ (by kernel_rfl) ?_
          exact J65j85 1 (w64 v1) _ _ _ _ h

/-! ### 41 glosswright/glosswrightref5.Points -/
def f41_B1 (m : Nat) (a0 : ByteArray) (v12 : (List Int)) (v13 : Int) : Option (Stp ((List Int) × S27) ((List Int) × Int)) :=
  cnd (decide (v13 < (a0.size : Int)))
  (bnd (f65 m a0 v13) fun v23 =>
  cnd (decide (v23 < 0))
  (bnd (f64 m 5 v13) fun v24 =>
  some (.ret (([], v24))))
  (bnd (app 8 v12 [v23]) fun v25 =>
  bnd (f66 m v23) fun v26 =>
  some (.nxt (v25, w64 (v13 + v26)))))
  (some (.brk (v12, v13)))
def f41 (m : Nat) (a0 : ByteArray) : Option ((List Int) × S27) :=
  cnd (decide ((a0.size : Int) > 4000))
  (bnd (f64 m 1 (-1)) fun v1 =>
  some (([], v1)))
  (brk (iter (fun (y : (List Int) × Int) => f41_B1 m a0 y.1 y.2) m ([], 0)) some fun y28 =>
  some ((y28.1, (⟨0, 0⟩ : S27))))
noncomputable abbrev X41 (n : Nat) : Cx := cxOf Proofs.Tryd.prog EG 41 n
noncomputable def C41 : Code := bodyOf Proofs.Tryd.prog 41
theorem ok41 (m : Nat) (a0 : ByteArray) (o : ((List Int) × S27)) (h : f41 m a0 = some o) (n : Nat) (hn : m + 3 ≤ n) : Fn Proofs.Tryd.prog EG n 41 [.v (eS a0)] (.tuple [(eL eI) o.1, e27 o.2]) := by
  obtain ⟨n, rfl⟩ : ∃ q, n = q + 1 := ⟨n - 1, by omega⟩
  unfold f41 at h
  refine Fn.of (by kernel_rfl) (by kernel_rfl) (by kernel_rfl) ⟨(.v (.str a0)) :: u31 [], []⟩ (by kernel_rfl) ?_
  refine Wp.seq' (by kernel_rfl) ?_
  refine Wp.region (by kernel_rfl) ?_
  refine Ops.seg' 2 2 (by kernel_rfl) ?_
  refine Ops.done (by kernel_rfl) ?_
  refine seqQ.n ?_
  refine Wp.seq' (by kernel_rfl) ?_
  refine Wp.seq' (by kernel_rfl) ?_
  refine Wp.region (by kernel_rfl) ?_
  refine Ops.seg' 3 3 (by kernel_rfl) ?_
  refine Ops.done (by kernel_rfl) ?_
  refine seqQ.n ?_
  refine Wp.cnd h [0, 2, 3] 1 (by kernel_rfl) (fun h => ?_) (fun h => ?_)
  · refine Wp.seq' (by kernel_rfl) ?_
    refine Wp.region (by kernel_rfl) ?_
    obtain ⟨v1, ev1, h⟩ := bnd_some h
    refine Ops.one' 1 (fun h0 e0 => (call_ok (E' := EG) (h := h0) (by kernel_rfl) (Args.v (vI 1) (eI 1) (by kernel_rfl) (Args.v (vI (-1)) (eI (-1)) (by kernel_rfl) Args.nil)) (ok64 m 1 (-1) v1 ev1 n (by omega)))) (by kernel_rfl) (by kernel_rfl) ?_
    refine Ops.seg' 2 3 (by kernel_rfl) ?_
    refine Ops.done (by kernel_rfl) ?_
    refine seqQ.n ?_
    refine Wp.ret (by kernel_rfl) ?_
    refine sqQ.r ?_
    refine seqQ.r ?_
    exact fnQ.r' (X41 n) (fun z => (.tuple [(eL eI) z.1, e27 z.2])) h (RetOk.mk' (.v (.tuple [(.sl .nil (List.map eI [])), (.agg [(vI v1.fCode), (vI v1.fIndex)])])) (by kernel_rfl) (by kernel_rfl))
  · refine Wp.skip (by kernel_rfl) ?_
    refine sqQ.n' ?_
    refine seqQ.n ?_
    refine Wp.seq' (by kernel_rfl) ?_
    refine Wp.region (by kernel_rfl) ?_
    refine Ops.seg' 1 1 (by kernel_rfl) ?_
    refine Ops.done (by kernel_rfl) ?_
    refine seqQ.n ?_
    refine Wp.seq' (by kernel_rfl) ?_
    refine Wp.seq' (by kernel_rfl) ?_
    refine Wp.region (by kernel_rfl) ?_
    refine Ops.seg' 1 1 (by kernel_rfl) ?_
    refine Ops.done (by kernel_rfl) ?_
    refine seqQ.n ?_
    refine Wp.block' 0 [2, 3, 4] 2 (by kernel_rfl) ?_
    have hLx27 : ∀ (kx15 : Nat) (v12 : (List Int)) (v13 : Int)  (ox14 : ((List Int) × S27) ⊕ ((List Int) × Int)), iter (fun (y : (List Int) × Int) => f41_B1 m a0 y.1 y.2) kx15 (v12, v13) = some ox14 → ∀ nx16, kx15 ≤ nx16 → (∀ r, ox14 = .inl r → ∀ σ, RetOk (X41 n) (resOf Proofs.Tryd.prog 41) (.tuple [(eL eI) r.1, e27 r.2]) σ → (seqQ (X41 n) (cR (cR (cR (cR C41)))) (fnQ (X41 n).E.T (resOf Proofs.Tryd.prog 41) (.tuple [(eL eI) o.1, e27 o.2]))) .ret σ) → (∀ (y : (List Int) × Int) , ox14 = .inr y → (seqQ (X41 n) (cR (cR (cR (cR C41)))) (fnQ (X41 n).E.T (resOf Proofs.Tryd.prog 41) (.tuple [(eL eI) o.1, e27 o.2]))) .normal ⟨q2 ((.v (.sl .nil (List.map eI []))) :: (.ptr 0 0) :: (appD 2 (List.map eI y.1)) :: q27 []), [(.cells [(dI 0), (dI 0)]), .dead, (appO 1 (List.map eI y.1))]⟩) → Lp (X41 n) [0, 2, 3, 4, 5] 2 (cL (cL (cR (cL (cR (cR (cR C41))))))) nx16 ⟨(.v (.str a0)) :: q1 ((.v (.sl .nil (List.map eI []))) :: (.ptr 0 0) :: (appD 2 (List.map eI v12)) :: (dI v13) :: q26 []), [(.cells [(dI 0), (dI 0)]), .dead, (appO 1 (List.map eI v12))]⟩ (blkQ (X41 n) 0 [2, 3, 4] 2 (seqQ (X41 n) (cR (cR (cR (cR C41)))) (fnQ (X41 n).E.T (resOf Proofs.Tryd.prog 41) (.tuple [(eL eI) o.1, e27 o.2])))) := by
      intro kx15
      induction kx15 with
      | zero => intro v12 v13  ox14 h; exact (iter_zero h).elim
      | succ kx15 ihx17 =>
        intro v12 v13  ox14 h nx16 hnx20 hrx18 hxx19
        obtain ⟨nx16, rfl⟩ : ∃ q, nx16 = q + 1 := ⟨nx16 - 1, by omega⟩
        obtain ⟨sx21, h, hsx22⟩ := iter_some h
        have h : f41_B1 m a0 v12 v13 = some sx21 := h
        unfold f41_B1 at h
        refine Lp.succ ?_
        refine Wp.seq' (by kernel_rfl) ?_
        refine Wp.seq' (by kernel_rfl) ?_
        refine Wp.region (by kernel_rfl) ?_
        refine Ops.seg' 4 4 (by kernel_rfl) ?_
        refine Ops.done (by kernel_rfl) ?_
        refine seqQ.n ?_
        refine Wp.cnd h [0, 2, 3, 4, 5] 3 (by kernel_rfl) (fun h => ?_) (fun h => ?_)
        · refine Wp.skip (by kernel_rfl) ?_
          refine sqQ.n ⟨(.v (.str a0)) :: q1 ((.v (.sl .nil (List.map eI []))) :: (.ptr 0 0) :: (appD 3 (List.map eI v12)) :: (dI v13) :: q26 []), [(.cells [(dI 0), (dI 0)]), .dead, .dead, (appO 1 (List.map eI v12))]⟩ (by generalize v12 = z0; cases z0 <;> kernel_rfl) ?_
          refine seqQ.n ?_
          refine Wp.block' 1 [0, 2, 3, 4, 5] 4 (by kernel_rfl) ?_
          refine Wp.seq' (by kernel_rfl) ?_
          refine Wp.region (by kernel_rfl) ?_
          refine Ops.seg' 2 2 (by kernel_rfl) ?_
          obtain ⟨v23, ev23, h⟩ := bnd_some h
          refine Ops.one' 3 (fun h0 e0 => (call_ok (E' := EG) (h := h0) (by kernel_rfl) (Args.v (.str a0) (eS a0) (by kernel_rfl) (Args.v (vI v13) (eI v13) (by kernel_rfl) Args.nil)) (ok65 m a0 v13 v23 ev23 n (by omega)))) (by kernel_rfl) (by kernel_rfl) ?_
          refine Ops.seg' 1 4 (by kernel_rfl) ?_
          refine Ops.done (by kernel_rfl) ?_
          refine seqQ.n ?_
          refine Wp.seq' (by kernel_rfl) ?_
          refine Wp.seq' (by kernel_rfl) ?_
          refine Wp.region (by kernel_rfl) ?_
          refine Ops.seg' 2 2 (by kernel_rfl) ?_
          refine Ops.done (by kernel_rfl) ?_
          refine seqQ.n ?_
          refine Wp.cnd h [0, 2, 3, 4, 5, 6] 4 (by kernel_rfl) (fun h => ?_) (fun h => ?_)
          · refine Wp.seq' (by kernel_rfl) ?_
            refine Wp.region (by kernel_rfl) ?_
            refine Ops.seg' 1 1 (by kernel_rfl) ?_
            obtain ⟨v24, ev24, h⟩ := bnd_some h
            refine Ops.one' 2 (fun h0 e0 => (call_ok (E' := EG) (h := h0) (by kernel_rfl) (Args.v (vI 5) (eI 5) (by kernel_rfl) (Args.v (vI v13) (eI v13) (by kernel_rfl) Args.nil)) (ok64 m 5 v13 v24 ev24 n (by omega)))) (by kernel_rfl) (by kernel_rfl) ?_
            refine Ops.seg' 2 4 (by kernel_rfl) ?_
            refine Ops.done (by kernel_rfl) ?_
            refine seqQ.n ?_
            refine Wp.ret (by kernel_rfl) ?_
            refine sqQ.r ?_
            refine seqQ.r ?_
            refine blkQ.r ?_
            cases h
            refine lpQ.r ?_
            refine blkQ.r ?_
            exact hrx18 _ hsx22 _ (RetOk.forget [0, 2, 3, 4, 5] (by kernel_rfl) (RetOk.mk' (.v (.tuple [(.sl .nil (List.map eI [])), (.agg [(vI v24.fCode), (vI v24.fIndex)])])) (by kernel_rfl) (by kernel_rfl)))
          · refine Wp.skip (by kernel_rfl) ?_
            refine sqQ.n ⟨(.v (.str a0)) :: q1 ((.v (.sl .nil (List.map eI []))) :: (.ptr 0 0) :: (appD 4 (List.map eI v12)) :: (dI v13) :: (dI v23) :: q25 []), [(.cells [(dI 0), (dI 0)]), .dead, .dead, .dead, (appO 1 (List.map eI v12))]⟩ (by generalize v12 = z0; cases z0 <;> kernel_rfl) ?_
            refine seqQ.n ?_
            refine Wp.seq' (by kernel_rfl) ?_
            refine Wp.region (by kernel_rfl) ?_
            refine Ops.seg' 3 3 (by kernel_rfl) ?_
            obtain ⟨v25, ev25, h⟩ := bnd_some h
            refine Ops.one' 4 (fun h0 e0 => (app_r (T := T) (g := .nil) h0 44 3 4 1 ti3 .nonfull eI v12 [v23] v25 ev25 (by kernel_rfl) (by kernel_rfl) (by kernel_rfl) (by kernel_rfl) (fun _ => rfl) (hq_of e0 (by kernel_rfl)))) (by kernel_rfl) (by kernel_rfl) ?_
            refine Ops.seg' 1 5 (by kernel_rfl) ?_
            refine Ops.done (by kernel_rfl) ?_
            refine seqQ.n ?_
            refine Wp.region (by kernel_rfl) ?_
            refine Ops.seg' 2 2 (by kernel_rfl) ?_
            obtain ⟨v26, ev26, h⟩ := bnd_some h
            refine Ops.one' 3 (fun h0 e0 => (call_ok (E' := EG) (h := h0) (by kernel_rfl) (Args.v (vI v23) (eI v23) (by kernel_rfl) Args.nil) (ok66 m v23 v26 ev26 n (by omega)))) (by kernel_rfl) (by kernel_rfl) ?_
            refine Ops.seg' 2 5 (by kernel_rfl) ?_
            refine Ops.done (by kernel_rfl) ?_
            refine blkQ.n ⟨(.v (.str a0)) :: q1 ((.v (.sl .nil (List.map eI []))) :: (.ptr 0 0) :: (appD 4 (List.map eI v25)) :: (dI (w64 (v13 + v26))) :: q26 []), [(.cells [(dI 0), (dI 0)]), .dead, .dead, .dead, (appO 1 (List.map eI v25))]⟩ (by generalize v25 = z0; cases z0 <;> kernel_rfl) ?_
            refine lpQ.n ⟨(.v (.str a0)) :: q1 ((.v (.sl .nil (List.map eI []))) :: (.ptr 0 0) :: (appD 2 (List.map eI v25)) :: (dI (w64 (v13 + v26))) :: q26 []), [(.cells [(dI 0), (dI 0)]), .dead, (appO 1 (List.map eI v25))]⟩ (by generalize v25 = z0; cases z0 <;> kernel_rfl) ?_
            cases h
            exact ihx17 v25 (w64 (v13 + v26))  _ hsx22 _ (by omega) hrx18 hxx19
        · refine Wp.exit (id := 0) (by kernel_rfl) ?_
          refine sqQ.x ?_
          refine seqQ.x ?_
          cases h
          refine lpQ.x ?_
          refine blkQ.x ⟨q2 ((.v (.sl .nil (List.map eI []))) :: (.ptr 0 0) :: (appD 2 (List.map eI v12)) :: q27 []), [(.cells [(dI 0), (dI 0)]), .dead, (appO 1 (List.map eI v12))]⟩ (by generalize v12 = z0; cases z0 <;> kernel_rfl) ?_
          exact hxx19 (v12, v13)  hsx22
    refine Wp.loop' [0, 2, 3, 4, 5] 2 (by kernel_rfl) ⟨(.v (.str a0)) :: q1 ((.v (.sl .nil (List.map eI []))) :: (.ptr 0 0) :: (appD 2 (List.map eI [])) :: (dI 0) :: q26 []), [(.cells [(dI 0), (dI 0)]), .dead, .dead]⟩ (by kernel_rfl) ?_
    rcases brk_some h with ⟨r29, er29, h⟩ | ⟨y28, ey28, h⟩
    · refine hLx27 _ [] 0  _ er29 n (by omega) (fun r er σ hσ => ?_) (fun y  ey => by cases ey)
      cases er
      refine seqQ.r ?_
      exact fnQ.r' (X41 n) (fun z => (.tuple [(eL eI) z.1, e27 z.2])) h hσ
    · refine hLx27 _ [] 0  _ ey28 n (by omega) (fun r er => by cases er) (fun y  ey => ?_)
      cases ey
      refine seqQ.n ?_
      refine Wp.seq' (by kernel_rfl) ?_
      refine Wp.region (by kernel_rfl) ?_
      refine Ops.seg' 4 4 (by kernel_rfl) ?_
      refine Ops.done (by kernel_rfl) ?_
      refine seqQ.n ?_
      refine Wp.ret (by kernel_rfl) ?_
      exact fnQ.r' (X41 n) (fun z => (.tuple [(eL eI) z.1, e27 z.2])) h (RetOk.tup [(appD 2 (List.map eI y28.1)), (.v (.agg [(vI 0), (vI 0)]))] (by kernel_rfl) (.d (appD 2 (List.map eI y28.1)) _ (appD_frz _ _ _ _) (appF_nt _ _ _) (.v (.agg [(vI 0), (vI 0)]) _ (by kernel_rfl) (by kernel_rfl) .nil)))

/-! ### 16 glosswright/glosswrightref6.Word -/
def f16_B1 (m : Nat) (v65 : Int) (v69 : Int) : Option (Stp Bool (Int)) :=
  cnd (decide (v69 < (([0, 9, 10, 32, 40, 41, 91, 93, 44, 59]).length : Int)))
  (bnd (idx ([0, 9, 10, 32, 40, 41, 91, 93, 44, 59]) v69) fun v79 =>
  cnd (v65 == v79)
  (some (.ret false))
  (some (.nxt (w64 (v69 + 1)))))
  (some (.brk v69))
def f16_B2 (m : Nat) (v1 : ((List Int) × S27)) (v55 : Int) : Option (Stp Bool (Int)) :=
  cnd (decide (v55 < (v1.1.length : Int)))
  (bnd (idx v1.1 v55) fun v65 =>
  brk (iter (fun (y : Int) => f16_B1 m v65 y) m 0) (fun r => some (.ret r)) fun y81 =>
  cnd (decide (v65 ≥ 983040))
  (some (.ret false))
  (some (.nxt (w64 (v55 + 1)))))
  (some (.brk v55))
def f16_r3 (m : Nat) (v1 : ((List Int) × S27)) (v16 : Bool) : Option Bool :=
  cnd v16
  (some false)
  (brk (iter (fun (y : Int) => f16_B2 m v1 y) m 0) some fun y84 =>
  some true)
def f16_r4 (m : Nat) (v1 : ((List Int) × S27)) (v8 : Bool) : Option Bool :=
  f16_r3 m v1 (v8 || (decide ((v1.1.length : Int) > 30)))
def f16 (m : Nat) (a0 : ByteArray) : Option Bool :=
  bnd (f41 m a0) fun v1 =>
  f16_r4 m v1 ((!((v1.2.fCode == 0) && ((v1.2.fIndex == 0) && true))) || ((v1.1.length : Int) == 0))
noncomputable abbrev X16 (n : Nat) : Cx := cxOf Proofs.Tryd.prog EG 16 n
noncomputable def C16 : Code := bodyOf Proofs.Tryd.prog 16
theorem ok16 (m : Nat) (a0 : ByteArray) (o : Bool) (h : f16 m a0 = some o) (n : Nat) (hn : m + 4 ≤ n) : Fn Proofs.Tryd.prog EG n 16 [.v (eS a0)] (eB o) := by
  obtain ⟨n, rfl⟩ : ∃ q, n = q + 1 := ⟨n - 1, by omega⟩
  unfold f16 at h
  refine Fn.of (by kernel_rfl) (by kernel_rfl) (by kernel_rfl) ⟨(.v (.str a0)) :: u40 (u5 []), []⟩ (by kernel_rfl) ?_
  refine Wp.seq' (by kernel_rfl) ?_
  refine Wp.region (by kernel_rfl) ?_
  refine Ops.seg' 1 1 (by kernel_rfl) ?_
  refine Ops.done (by kernel_rfl) ?_
  refine seqQ.n ?_
  refine Wp.seq' (by kernel_rfl) ?_
  refine Wp.region (by kernel_rfl) ?_
  refine Ops.seg' 1 1 (by kernel_rfl) ?_
  obtain ⟨v1, ev1, h⟩ := bnd_some h
  refine Ops.one' 2 (fun h0 e0 => (call_ok (E' := EG) (h := h0) (by kernel_rfl) (Args.v (.str a0) (eS a0) (by kernel_rfl) Args.nil) (ok41 m a0 v1 ev1 n (by omega)))) (by kernel_rfl) (by kernel_rfl) ?_
  refine Ops.seg' 6 8 (by kernel_rfl) ?_
  refine Ops.done (by kernel_rfl) ?_
  refine seqQ.n ?_
  refine Wp.seq' (by kernel_rfl) ?_
  refine Wp.seq' (by kernel_rfl) ?_
  refine Wp.region (by kernel_rfl) ?_
  refine Ops.seg' 4 4 (by kernel_rfl) ?_
  refine Ops.hv (fun K => ∀ (d4 d5 d6 : D) (v7 : Bool) (v8 : Bool), f16_r4 m v1 v8 = some o → K 8 ⟨(.v (.str a0)) :: u1 ((dB false) :: (dP eI v1.1) :: (.ptr 0 0) :: u4 ((.v (.tuple [(vP eI v1.1), (.agg [(vI v1.2.fCode), (vI v1.2.fIndex)])])) :: (.v (.str a0)) :: (.v (.tuple [(vP eI v1.1), (.agg [(vI v1.2.fCode), (vI v1.2.fIndex)])])) :: (dP eI v1.1) :: (.v (.agg [(vI v1.2.fCode), (vI v1.2.fIndex)])) :: (.v (.agg [(vI v1.2.fCode), (vI v1.2.fIndex)])) :: (.v (.agg [(vI 0), (vI 0)])) :: (dB v7) :: (dB v7) :: d4 :: d5 :: d6 :: (dB v8) :: u24 [])), [(.cells [(dI v1.2.fCode), (dI v1.2.fIndex)])]⟩) ?_ fun J16j9 => ?_
  · intro d4 d5 d6 v7 v8 h
    unfold f16_r4 at h
    refine Ops.seg' 1 9 (by kernel_rfl) ?_
    refine Ops.hv (fun K => ∀ (d12 d13 d14 : D) (v15 : Bool) (v16 : Bool), f16_r3 m v1 v16 = some o → K 13 ⟨(.v (.str a0)) :: u1 ((dB false) :: (dP eI v1.1) :: (.ptr 0 0) :: u4 ((.v (.tuple [(vP eI v1.1), (.agg [(vI v1.2.fCode), (vI v1.2.fIndex)])])) :: (.v (.str a0)) :: (.v (.tuple [(vP eI v1.1), (.agg [(vI v1.2.fCode), (vI v1.2.fIndex)])])) :: (dP eI v1.1) :: (.v (.agg [(vI v1.2.fCode), (vI v1.2.fIndex)])) :: (.v (.agg [(vI v1.2.fCode), (vI v1.2.fIndex)])) :: (.v (.agg [(vI 0), (vI 0)])) :: (dB v7) :: (dB v7) :: d4 :: d5 :: d6 :: (dB v15) :: (dB v15) :: d12 :: d13 :: d14 :: (dB v16) :: u19 [])), [(.cells [(dI v1.2.fCode), (dI v1.2.fIndex)])]⟩) ?_ fun J16j17 => ?_
    · intro d12 d13 d14 v15 v16 h
      unfold f16_r3 at h
      refine Ops.done (by kernel_rfl) ?_
      refine seqQ.n ?_
      refine Wp.cnd h [2, 3] 1 (by kernel_rfl) (fun h => ?_) (fun h => ?_)
      · refine Wp.seq' (by kernel_rfl) ?_
        refine Wp.region (by kernel_rfl) ?_
        refine Ops.seg' 1 1 (by kernel_rfl) ?_
        refine Ops.done (by kernel_rfl) ?_
        refine seqQ.n ?_
        refine Wp.ret (by kernel_rfl) ?_
        refine sqQ.r ?_
        refine seqQ.r ?_
        exact fnQ.r' (X16 n) (fun z => (eB z)) h (RetOk.mk' (dB false) (by kernel_rfl) (by kernel_rfl))
      · refine Wp.skip (by kernel_rfl) ?_
        refine sqQ.n' ?_
        refine seqQ.n ?_
        refine Wp.seq' (by kernel_rfl) ?_
        refine Wp.seq' (by kernel_rfl) ?_
        refine Wp.region (by kernel_rfl) ?_
        refine Ops.seg' 1 1 (by kernel_rfl) ?_
        refine Ops.one' 2 (fun h0 e0 => (len_r (T := T) h0 44 3 .plain eI v1.1 (by kernel_rfl))) (by kernel_rfl) (by kernel_rfl) ?_
        refine Ops.seg' 1 3 (by kernel_rfl) ?_
        refine Ops.done (by kernel_rfl) ?_
        refine seqQ.n ?_
        refine Wp.block' 0 [2] 1 (by kernel_rfl) ?_
        have hLx83 : ∀ (kx57 : Nat) (v55 : Int)  (ox56 : Bool ⊕ (Int)), iter (fun (y : Int) => f16_B2 m v1 y) kx57 v55 = some ox56 → ∀ nx58, kx57 ≤ nx58 → (∀ r, ox56 = .inl r → ∀ σ, RetOk (X16 n) (resOf Proofs.Tryd.prog 16) (eB r) σ → (seqQ (X16 n) (cR (cR (cR (cR C16)))) (fnQ (X16 n).E.T (resOf Proofs.Tryd.prog 16) (eB o))) .ret σ) → (∀ (y : Int) , ox56 = .inr y → (seqQ (X16 n) (cR (cR (cR (cR C16)))) (fnQ (X16 n).E.T (resOf Proofs.Tryd.prog 16) (eB o))) .normal ⟨q2 ((dB false) :: q24 ((dP eI v1.1) :: (dI (v1.1.length : Int)) :: (dI y) :: q16 [])), [(.cells [(dI v1.2.fCode), (dI v1.2.fIndex)])]⟩) → Lp (X16 n) [2, 27, 28, 29] 1 (cL (cL (cR (cL (cR (cR (cR C16))))))) nx58 ⟨q2 ((dB false) :: q24 ((dP eI v1.1) :: (dI (v1.1.length : Int)) :: (dI v55) :: q16 [])), [(.cells [(dI v1.2.fCode), (dI v1.2.fIndex)])]⟩ (blkQ (X16 n) 0 [2] 1 (seqQ (X16 n) (cR (cR (cR (cR C16)))) (fnQ (X16 n).E.T (resOf Proofs.Tryd.prog 16) (eB o)))) := by
          intro kx57
          induction kx57 with
          | zero => intro v55  ox56 h; exact (iter_zero h).elim
          | succ kx57 ihx59 =>
            intro v55  ox56 h nx58 hnx62 hrx60 hxx61
            obtain ⟨nx58, rfl⟩ : ∃ q, nx58 = q + 1 := ⟨nx58 - 1, by omega⟩
            obtain ⟨sx63, h, hsx64⟩ := iter_some h
            have h : f16_B2 m v1 v55 = some sx63 := h
            unfold f16_B2 at h
            refine Lp.succ ?_
            refine Wp.seq' (by kernel_rfl) ?_
            refine Wp.region (by kernel_rfl) ?_
            refine Ops.seg' 1 1 (by kernel_rfl) ?_
            refine Ops.done (by kernel_rfl) ?_
            refine seqQ.n ?_
            refine Wp.seq' (by kernel_rfl) ?_
            refine Wp.cnd h [2, 27, 28, 29] 1 (by kernel_rfl) (fun h => ?_) (fun h => ?_)
            · refine Wp.skip (by kernel_rfl) ?_
              refine sqQ.n' ?_
              refine seqQ.n ?_
              refine Wp.seq' (by kernel_rfl) ?_
              refine Wp.block' 1 [2, 27, 28, 29] 1 (by kernel_rfl) ?_
              refine Wp.seq' (by kernel_rfl) ?_
              refine Wp.region (by kernel_rfl) ?_
              obtain ⟨v65, ev65, h⟩ := bnd_some h
              refine Ops.one' 1 (fun h0 e0 => (ix_r (T := T) h0 44 3 1 .plain eI v1.1 v55 v65 ev65 (by kernel_rfl) (by kernel_rfl) (fun _ => rfl))) (by kernel_rfl) (by kernel_rfl) ?_
              refine Ops.seg' 2 3 (by kernel_rfl) ?_
              refine Ops.done (by kernel_rfl) ?_
              refine seqQ.n ?_
              refine Wp.seq' (by kernel_rfl) ?_
              refine Wp.seq' (by kernel_rfl) ?_
              refine Wp.region (by kernel_rfl) ?_
              refine Ops.seg' 1 1 (by kernel_rfl) ?_
              refine Ops.one' 2 (fun h0 e0 => (len_r (T := T) h0 44 3 .nonfull eI ([0, 9, 10, 32, 40, 41, 91, 93, 44, 59]) (by kernel_rfl))) (by kernel_rfl) (by kernel_rfl) ?_
              refine Ops.seg' 1 3 (by kernel_rfl) ?_
              refine Ops.done (by kernel_rfl) ?_
              refine seqQ.n ?_
              refine Wp.block' 2 [2, 6, 27, 28, 29] 1 (by kernel_rfl) ?_
              have hLx80 : ∀ (kx71 : Nat) (v69 : Int)  (ox70 : Bool ⊕ (Int)), iter (fun (y : Int) => f16_B1 m v65 y) kx71 v69 = some ox70 → ∀ nx72, kx71 ≤ nx72 → (∀ r, ox70 = .inl r → ∀ σ, RetOk (X16 n) (resOf Proofs.Tryd.prog 16) (eB r) σ → (seqQ (X16 n) (cR (cR (cL (cL (cR (cR (cL (cL (cR (cL (cR (cR (cR C16))))))))))))) (blkQ (X16 n) 1 [2, 27, 28, 29] 1 (seqQ (X16 n) (cR (cR (cR (cL (cL (cR (cL (cR (cR (cR C16)))))))))) (lpQ (X16 n) [2, 27, 28, 29] 1 (cL (cL (cR (cL (cR (cR (cR C16))))))) nx58 (blkQ (X16 n) 0 [2] 1 (seqQ (X16 n) (cR (cR (cR (cR C16)))) (fnQ (X16 n).E.T (resOf Proofs.Tryd.prog 16) (eB o)))))))) .ret σ) → (∀ (y : Int) , ox70 = .inr y → (seqQ (X16 n) (cR (cR (cL (cL (cR (cR (cL (cL (cR (cL (cR (cR (cR C16))))))))))))) (blkQ (X16 n) 1 [2, 27, 28, 29] 1 (seqQ (X16 n) (cR (cR (cR (cL (cL (cR (cL (cR (cR (cR C16)))))))))) (lpQ (X16 n) [2, 27, 28, 29] 1 (cL (cL (cR (cL (cR (cR (cR C16))))))) nx58 (blkQ (X16 n) 0 [2] 1 (seqQ (X16 n) (cR (cR (cR (cR C16)))) (fnQ (X16 n).E.T (resOf Proofs.Tryd.prog 16) (eB o)))))))) .normal ⟨q2 ((dB false) :: q3 ((dI v65) :: q20 ((dP eI v1.1) :: (dI (v1.1.length : Int)) :: (dI v55) :: q3 ((.v (.sl .nonfull (List.map eI ([0, 9, 10, 32, 40, 41, 91, 93, 44, 59])))) :: (dI ((([0, 9, 10, 32, 40, 41, 91, 93, 44, 59]).length : Int))) :: (dI y) :: q10 [])))), [(.cells [(dI v1.2.fCode), (dI v1.2.fIndex)])]⟩) → Lp (X16 n) [2, 6, 27, 28, 29, 33, 34, 35] 1 (cL (cL (cR (cL (cR (cL (cL (cR (cR (cL (cL (cR (cL (cR (cR (cR C16)))))))))))))))) nx72 ⟨q2 ((dB false) :: q3 ((dI v65) :: q20 ((dP eI v1.1) :: (dI (v1.1.length : Int)) :: (dI v55) :: q3 ((.v (.sl .nonfull (List.map eI ([0, 9, 10, 32, 40, 41, 91, 93, 44, 59])))) :: (dI ((([0, 9, 10, 32, 40, 41, 91, 93, 44, 59]).length : Int))) :: (dI v69) :: q10 [])))), [(.cells [(dI v1.2.fCode), (dI v1.2.fIndex)])]⟩ (blkQ (X16 n) 2 [2, 6, 27, 28, 29] 1 (seqQ (X16 n) (cR (cR (cL (cL (cR (cR (cL (cL (cR (cL (cR (cR (cR C16))))))))))))) (blkQ (X16 n) 1 [2, 27, 28, 29] 1 (seqQ (X16 n) (cR (cR (cR (cL (cL (cR (cL (cR (cR (cR C16)))))))))) (lpQ (X16 n) [2, 27, 28, 29] 1 (cL (cL (cR (cL (cR (cR (cR C16))))))) nx58 (blkQ (X16 n) 0 [2] 1 (seqQ (X16 n) (cR (cR (cR (cR C16)))) (fnQ (X16 n).E.T (resOf Proofs.Tryd.prog 16) (eB o))))))))) := by
                intro kx71
                induction kx71 with
                | zero => intro v69  ox70 h; exact (iter_zero h).elim
                | succ kx71 ihx73 =>
                  intro v69  ox70 h nx72 hnx76 hrx74 hxx75
                  obtain ⟨nx72, rfl⟩ : ∃ q, nx72 = q + 1 := ⟨nx72 - 1, by omega⟩
                  obtain ⟨sx77, h, hsx78⟩ := iter_some h
                  have h : f16_B1 m v65 v69 = some sx77 := h
                  unfold f16_B1 at h
                  refine Lp.succ ?_
                  refine Wp.seq' (by kernel_rfl) ?_
                  refine Wp.region (by kernel_rfl) ?_
                  refine Ops.seg' 1 1 (by kernel_rfl) ?_
                  refine Ops.done (by kernel_rfl) ?_
                  refine seqQ.n ?_
                  refine Wp.seq' (by kernel_rfl) ?_
                  refine Wp.cnd h [2, 6, 27, 28, 29, 33, 34, 35] 1 (by kernel_rfl) (fun h => ?_) (fun h => ?_)
                  · refine Wp.skip (by kernel_rfl) ?_
                    refine sqQ.n' ?_
                    refine seqQ.n ?_
                    refine Wp.seq' (by kernel_rfl) ?_
                    refine Wp.block' 3 [2, 6, 27, 28, 29, 33, 34, 35] 1 (by kernel_rfl) ?_
                    refine Wp.seq' (by kernel_rfl) ?_
                    refine Wp.region (by kernel_rfl) ?_
                    obtain ⟨v79, ev79, h⟩ := bnd_some h
                    refine Ops.one' 1 (fun h0 e0 => (ix_r (T := T) h0 44 3 1 .nonfull eI ([0, 9, 10, 32, 40, 41, 91, 93, 44, 59]) v69 v79 ev79 (by kernel_rfl) (by kernel_rfl) (fun _ => rfl))) (by kernel_rfl) (by kernel_rfl) ?_
                    refine Ops.seg' 2 3 (by kernel_rfl) ?_
                    refine Ops.done (by kernel_rfl) ?_
                    refine seqQ.n ?_
                    refine Wp.seq' (by kernel_rfl) ?_
                    refine Wp.region (by kernel_rfl) ?_
                    refine Ops.seg' 3 3 (by kernel_rfl) ?_
                    refine Ops.done (by kernel_rfl) ?_
                    refine seqQ.n ?_
                    refine Wp.cnd h [2, 6, 27, 28, 29, 33, 34, 35] 1 (by kernel_rfl) (fun h => ?_) (fun h => ?_)
                    · refine Wp.seq' (by kernel_rfl) ?_
                      refine Wp.region (by kernel_rfl) ?_
                      refine Ops.seg' 1 1 (by kernel_rfl) ?_
                      refine Ops.done (by kernel_rfl) ?_
                      refine seqQ.n ?_
                      refine Wp.ret (by kernel_rfl) ?_
                      refine sqQ.r ?_
                      refine blkQ.r ?_
                      refine seqQ.r ?_
                      cases h
                      refine lpQ.r ?_
                      refine blkQ.r ?_
                      exact hrx74 _ hsx78 _ (RetOk.forget [2, 6, 27, 28, 29, 33, 34, 35] (by kernel_rfl) (RetOk.mk' (dB false) (by kernel_rfl) (by kernel_rfl)))
                    · refine Wp.skip (by kernel_rfl) ?_
                      refine sqQ.n' ?_
                      refine blkQ.n' ?_
                      refine seqQ.n ?_
                      refine Wp.region (by kernel_rfl) ?_
                      refine Ops.seg' 2 2 (by kernel_rfl) ?_
                      refine Ops.done (by kernel_rfl) ?_
                      refine lpQ.n ⟨q2 ((dB false) :: q3 ((dI v65) :: q20 ((dP eI v1.1) :: (dI (v1.1.length : Int)) :: (dI v55) :: q3 ((.v (.sl .nonfull (List.map eI ([0, 9, 10, 32, 40, 41, 91, 93, 44, 59])))) :: (dI ((([0, 9, 10, 32, 40, 41, 91, 93, 44, 59]).length : Int))) :: (dI (w64 (v69 + 1))) :: q10 [])))), [(.cells [(dI v1.2.fCode), (dI v1.2.fIndex)])]⟩ (by kernel_rfl) ?_
                      cases h
                      exact ihx73 (w64 (v69 + 1))  _ hsx78 _ (by omega) hrx74 hxx75
                  · refine Wp.exit (id := 2) (by kernel_rfl) ?_
                    refine sqQ.x ?_
                    refine seqQ.x ?_
                    cases h
                    refine lpQ.x ?_
                    refine blkQ.x ⟨q2 ((dB false) :: q3 ((dI v65) :: q20 ((dP eI v1.1) :: (dI (v1.1.length : Int)) :: (dI v55) :: q3 ((.v (.sl .nonfull (List.map eI ([0, 9, 10, 32, 40, 41, 91, 93, 44, 59])))) :: (dI ((([0, 9, 10, 32, 40, 41, 91, 93, 44, 59]).length : Int))) :: (dI v69) :: q10 [])))), [(.cells [(dI v1.2.fCode), (dI v1.2.fIndex)])]⟩ (by kernel_rfl) ?_
                    exact hxx75 v69  hsx78
              refine Wp.loop' [2, 6, 27, 28, 29, 33, 34, 35] 1 (by kernel_rfl) ⟨q2 ((dB false) :: q3 ((dI v65) :: q20 ((dP eI v1.1) :: (dI (v1.1.length : Int)) :: (dI v55) :: q3 ((.v (.sl .nonfull (List.map eI ([0, 9, 10, 32, 40, 41, 91, 93, 44, 59])))) :: (dI ((([0, 9, 10, 32, 40, 41, 91, 93, 44, 59]).length : Int))) :: (dI 0) :: q10 [])))), [(.cells [(dI v1.2.fCode), (dI v1.2.fIndex)])]⟩ (by kernel_rfl) ?_
              rcases brk_some h with ⟨r82, er82, h⟩ | ⟨y81, ey81, h⟩
              · refine hLx80 _ 0  _ er82 n (by omega) (fun r er σ hσ => ?_) (fun y  ey => by cases ey)
                cases er
                refine seqQ.r ?_
                refine blkQ.r ?_
                refine seqQ.r ?_
                refine lpQ.r ?_
                cases h
                refine blkQ.r ?_
                exact hrx60 _ hsx64 _ (RetOk.forget [2, 27, 28, 29] (by kernel_rfl) hσ)
              · refine hLx80 _ 0  _ ey81 n (by omega) (fun r er => by cases er) (fun y  ey => ?_)
                cases ey
                refine seqQ.n ?_
                refine Wp.seq' (by kernel_rfl) ?_
                refine Wp.region (by kernel_rfl) ?_
                refine Ops.seg' 2 2 (by kernel_rfl) ?_
                refine Ops.done (by kernel_rfl) ?_
                refine seqQ.n ?_
                refine Wp.cnd h [2, 27, 28, 29] 1 (by kernel_rfl) (fun h => ?_) (fun h => ?_)
                · refine Wp.seq' (by kernel_rfl) ?_
                  refine Wp.region (by kernel_rfl) ?_
                  refine Ops.seg' 1 1 (by kernel_rfl) ?_
                  refine Ops.done (by kernel_rfl) ?_
                  refine seqQ.n ?_
                  refine Wp.ret (by kernel_rfl) ?_
                  refine sqQ.r ?_
                  refine blkQ.r ?_
                  refine seqQ.r ?_
                  cases h
                  refine lpQ.r ?_
                  refine blkQ.r ?_
                  exact hrx60 _ hsx64 _ (RetOk.forget [2, 27, 28, 29] (by kernel_rfl) (RetOk.mk' (dB false) (by kernel_rfl) (by kernel_rfl)))
                · refine Wp.skip (by kernel_rfl) ?_
                  refine sqQ.n' ?_
                  refine blkQ.n' ?_
                  refine seqQ.n ?_
                  refine Wp.region (by kernel_rfl) ?_
                  refine Ops.seg' 2 2 (by kernel_rfl) ?_
                  refine Ops.done (by kernel_rfl) ?_
                  refine lpQ.n ⟨q2 ((dB false) :: q24 ((dP eI v1.1) :: (dI (v1.1.length : Int)) :: (dI (w64 (v55 + 1))) :: q16 [])), [(.cells [(dI v1.2.fCode), (dI v1.2.fIndex)])]⟩ (by kernel_rfl) ?_
                  cases h
                  exact ihx59 (w64 (v55 + 1))  _ hsx64 _ (by omega) hrx60 hxx61
            · refine Wp.exit (id := 0) (by kernel_rfl) ?_
              refine sqQ.x ?_
              refine seqQ.x ?_
              cases h
              refine lpQ.x ?_
              refine blkQ.x ⟨q2 ((dB false) :: q24 ((dP eI v1.1) :: (dI (v1.1.length : Int)) :: (dI v55) :: q16 [])), [(.cells [(dI v1.2.fCode), (dI v1.2.fIndex)])]⟩ (by kernel_rfl) ?_
              exact hxx61 v55  hsx64
        refine Wp.loop' [2, 27, 28, 29] 1 (by kernel_rfl) ⟨q2 ((dB false) :: q24 ((dP eI v1.1) :: (dI (v1.1.length : Int)) :: (dI 0) :: q16 [])), [(.cells [(dI v1.2.fCode), (dI v1.2.fIndex)])]⟩ (by kernel_rfl) ?_
        rcases brk_some h with ⟨r85, er85, h⟩ | ⟨y84, ey84, h⟩
        · refine hLx83 _ 0  _ er85 n (by omega) (fun r er σ hσ => ?_) (fun y  ey => by cases ey)
          cases er
          refine seqQ.r ?_
          exact fnQ.r' (X16 n) (fun z => (eB z)) h hσ
        · refine hLx83 _ 0  _ ey84 n (by omega) (fun r er => by cases er) (fun y  ey => ?_)
          cases ey
          refine seqQ.n ?_
          refine Wp.seq' (by kernel_rfl) ?_
          refine Wp.region (by kernel_rfl) ?_
          refine Ops.seg' 1 1 (by kernel_rfl) ?_
          refine Ops.done (by kernel_rfl) ?_
          refine seqQ.n ?_
          refine Wp.ret (by kernel_rfl) ?_
          exact fnQ.r' (X16 n) (fun z => (eB z)) h (RetOk.mk' (dB true) (by kernel_rfl) (by kernel_rfl))
    refine Ops.hv (fun K => ∀ v10 : Bool, f16_r3 m v1 (v10 || (decide ((v1.1.length : Int) > 30))) = some o → K 9 ⟨(.v (.str a0)) :: u1 ((dB false) :: (dP eI v1.1) :: (.ptr 0 0) :: u4 ((.v (.tuple [(vP eI v1.1), (.agg [(vI v1.2.fCode), (vI v1.2.fIndex)])])) :: (.v (.str a0)) :: (.v (.tuple [(vP eI v1.1), (.agg [(vI v1.2.fCode), (vI v1.2.fIndex)])])) :: (dP eI v1.1) :: (.v (.agg [(vI v1.2.fCode), (vI v1.2.fIndex)])) :: (.v (.agg [(vI v1.2.fCode), (vI v1.2.fIndex)])) :: (.v (.agg [(vI 0), (vI 0)])) :: (dB v7) :: (dB v7) :: d4 :: d5 :: d6 :: (dB v10) :: (dB v10) :: u23 [])), [(.cells [(dI v1.2.fCode), (dI v1.2.fIndex)])]⟩) ?_ fun G16g11 => Ops.st _ (by kernel_rfl) (G16g11 v8 h)
    intro v10 h
    cases v10
    · refine Ops.seg' 1 10 (by kernel_rfl) ?_
      refine Ops.one' 11 (fun h0 e0 => (len_r (T := T) h0 44 3 .plain eI v1.1 (by kernel_rfl))) (by kernel_rfl) (by kernel_rfl) ?_
      refine Ops.seg' 2 13 (by kernel_rfl) ?_
      exact Ops.st _ (by kernel_rfl) (J16j17 (dP eI v1.1) (dI (v1.1.length : Int)) (dB (decide ((v1.1.length : Int) > 30))) false (decide ((v1.1.length : Int) > 30)) h)
    · refine Ops.seg' 4 13 (by kernel_rfl) ?_
      exact Ops.st _ (by kernel_rfl) (J16j17 U U U true true h)
  refine Ops.hv (fun K => ∀ v2 : Bool, f16_r4 m v1 (v2 || ((v1.1.length : Int) == 0)) = some o → K 4 ⟨(.v (.str a0)) :: u1 ((dB false) :: (dP eI v1.1) :: (.ptr 0 0) :: u4 ((.v (.tuple [(vP eI v1.1), (.agg [(vI v1.2.fCode), (vI v1.2.fIndex)])])) :: (.v (.str a0)) :: (.v (.tuple [(vP eI v1.1), (.agg [(vI v1.2.fCode), (vI v1.2.fIndex)])])) :: (dP eI v1.1) :: (.v (.agg [(vI v1.2.fCode), (vI v1.2.fIndex)])) :: (.v (.agg [(vI v1.2.fCode), (vI v1.2.fIndex)])) :: (.v (.agg [(vI 0), (vI 0)])) :: (dB v2) :: (dB v2) :: u28 [])), [(.cells [(dI v1.2.fCode), (dI v1.2.fIndex)])]⟩) ?_ fun G16g3 => Ops.st _ (by kernel_rfl) (G16g3 (!((v1.2.fCode == 0) && ((v1.2.fIndex == 0) && true))) h)
  intro v2 h
  cases v2
  · refine Ops.seg' 1 5 (by kernel_rfl) ?_
    refine Ops.one' 6 (fun h0 e0 => (len_r (T := T) h0 44 3 .plain eI v1.1 (by kernel_rfl))) (by kernel_rfl) (by kernel_rfl) ?_
    refine Ops.seg' 2 8 (by kernel_rfl) ?_
    exact Ops.st _ (by kernel_rfl) (J16j9 (dP eI v1.1) (dI (v1.1.length : Int)) (dB ((v1.1.length : Int) == 0)) false ((v1.1.length : Int) == 0) h)
  · refine Ops.seg' 4 8 (by kernel_rfl) ?_
    exact Ops.st _ (by kernel_rfl) (J16j9 U U U true true h)

/-! ### 38 glosswright/glosswrightref6.Part -/
def f38_r1 (m : Nat) (v6 : Bool) : Option Bool :=
  some v6
def f38 (m : Nat) (a0 : ByteArray) : Option Bool :=
  bnd (cnd (a0.toList == (⟨#[]⟩ : ByteArray).toList)
  (some true)
  (bnd (f16 m a0) fun v8 =>
  some v8)) fun v6 =>
  f38_r1 m v6
noncomputable abbrev X38 (n : Nat) : Cx := cxOf Proofs.Tryd.prog EG 38 n
noncomputable def C38 : Code := bodyOf Proofs.Tryd.prog 38
theorem ok38 (m : Nat) (a0 : ByteArray) (o : Bool) (h : f38 m a0 = some o) (n : Nat) (hn : m + 5 ≤ n) : Fn Proofs.Tryd.prog EG n 38 [.v (eS a0)] (eB o) := by
  obtain ⟨n, rfl⟩ : ∃ q, n = q + 1 := ⟨n - 1, by omega⟩
  unfold f38 at h
  refine Fn.of (by kernel_rfl) (by kernel_rfl) (by kernel_rfl) ⟨(.v (.str a0)) :: u8 [], []⟩ (by kernel_rfl) ?_
  refine Wp.seq' (by kernel_rfl) ?_
  refine Wp.region (by kernel_rfl) ?_
  refine Ops.seg' 1 1 (by kernel_rfl) ?_
  refine Ops.done (by kernel_rfl) ?_
  refine seqQ.n ?_
  refine Wp.seq' (by kernel_rfl) ?_
  refine Wp.region (by kernel_rfl) ?_
  refine Ops.seg' 3 3 (by kernel_rfl) ?_
  refine Ops.hv (fun K => ∀ (d3 d4 : D) (v5 : Bool) (v6 : Bool), f38_r1 m v6 = some o → K 6 ⟨(.v (.str a0)) :: u1 ((dB false) :: (.v (.str a0)) :: (dB v5) :: (dB v5) :: d3 :: d4 :: (dB v6) :: []), []⟩) ?_ fun J38j7 => ?_
  · intro d3 d4 v5 v6 h
    unfold f38_r1 at h
    refine Ops.seg' 1 7 (by kernel_rfl) ?_
    refine Ops.done (by kernel_rfl) ?_
    refine seqQ.n ?_
    refine Wp.ret (by kernel_rfl) ?_
    exact fnQ.r' (X38 n) (fun z => (eB z)) h (RetOk.mk' (dB v6) (by kernel_rfl) (by kernel_rfl))
  obtain ⟨v6, ev6, h⟩ := bnd_some h
  refine Ops.hv (fun K => ∀ v1 : Bool, (cnd v1 (some true) (bnd (f16 m a0) fun v8 => some v8)) = some v6 → K 3 ⟨(.v (.str a0)) :: u1 ((dB false) :: (.v (.str a0)) :: (dB v1) :: (dB v1) :: u3 []), []⟩) ?_ fun G38g2 => Ops.st _ (by kernel_rfl) (G38g2 (a0.toList == (⟨#[]⟩ : ByteArray).toList) ev6)
  intro v1 ev6
  cases v1
  · have ev6 := cnd_f ev6
    refine Ops.seg' 1 4 (by kernel_rfl) ?_
    obtain ⟨v8, ev8, ev6⟩ := bnd_some ev6
    refine Ops.one' 5 (fun h0 e0 => (call_ok (E' := EG) (h := h0) (by kernel_rfl) (Args.v (.str a0) (eS a0) (by kernel_rfl) Args.nil) (ok16 m a0 v8 ev8 n (by omega)))) (by kernel_rfl) (by kernel_rfl) ?_
    refine Ops.seg' 1 6 (by kernel_rfl) ?_
    exact Ops.st _ (by kernel_rfl) (J38j7 (.v (.str a0)) (dB v8) false v8 (some_sub (fun v6 => f38_r1 m v6 = some o) ev6 h))
  · have ev6 := cnd_t ev6
    refine Ops.seg' 3 6 (by kernel_rfl) ?_
    exact Ops.st _ (by kernel_rfl) (J38j7 U U true true (some_sub (fun v6 => f38_r1 m v6 = some o) ev6 h))

/-! ### 37 glosswright/glosswrightref6.TagsFault -/
def f37_B1 (m : Nat) (a0 : (List ByteArray)) (v6 : Int) : Option (Stp Int (Int)) :=
  cnd (decide (v6 < (a0.length : Int)))
  (bnd (idx a0 v6) fun v16 =>
  bnd (f35 m v16) fun v17 =>
  cnd (!v17)
  (some (.ret 10))
  (some (.nxt (w64 (v6 + 1)))))
  (some (.brk v6))
def f37 (m : Nat) (a0 : (List ByteArray)) (a1 : Int) : Option Int :=
  cnd (decide ((a0.length : Int) > a1))
  (some 2)
  (brk (iter (fun (y : Int) => f37_B1 m a0 y) m 0) some fun y19 =>
  some 0)
noncomputable abbrev X37 (n : Nat) : Cx := cxOf Proofs.Tryd.prog EG 37 n
noncomputable def C37 : Code := bodyOf Proofs.Tryd.prog 37
theorem ok37 (m : Nat) (a0 : (List ByteArray)) (a1 : Int) (o : Int) (h : f37 m a0 a1 = some o) (n : Nat) (hn : m + 2 ≤ n) : Fn Proofs.Tryd.prog EG n 37 [.v ((eL eS) a0), .v (eI a1)] (eI o) := by
  obtain ⟨n, rfl⟩ : ∃ q, n = q + 1 := ⟨n - 1, by omega⟩
  unfold f37 at h
  refine Fn.of (by kernel_rfl) (by kernel_rfl) (by kernel_rfl) ⟨(dP eS a0) :: (dI a1) :: u19 [], []⟩ (by kernel_rfl) ?_
  refine Wp.seq' (by kernel_rfl) ?_
  refine Wp.region (by kernel_rfl) ?_
  refine Ops.seg' 1 1 (by kernel_rfl) ?_
  refine Ops.done (by kernel_rfl) ?_
  refine seqQ.n ?_
  refine Wp.seq' (by kernel_rfl) ?_
  refine Wp.seq' (by kernel_rfl) ?_
  refine Wp.region (by kernel_rfl) ?_
  refine Ops.seg' 1 1 (by kernel_rfl) ?_
  refine Ops.one' 2 (fun h0 e0 => (len_r (T := T) h0 36 9 .plain eS a0 (by kernel_rfl))) (by kernel_rfl) (by kernel_rfl) ?_
  refine Ops.seg' 2 4 (by kernel_rfl) ?_
  refine Ops.done (by kernel_rfl) ?_
  refine seqQ.n ?_
  refine Wp.cnd h [0, 4] 0 (by kernel_rfl) (fun h => ?_) (fun h => ?_)
  · refine Wp.seq' (by kernel_rfl) ?_
    refine Wp.region (by kernel_rfl) ?_
    refine Ops.seg' 1 1 (by kernel_rfl) ?_
    refine Ops.done (by kernel_rfl) ?_
    refine seqQ.n ?_
    refine Wp.ret (by kernel_rfl) ?_
    refine sqQ.r ?_
    refine seqQ.r ?_
    exact fnQ.r' (X37 n) (fun z => (eI z)) h (RetOk.mk' (dI 2) (by kernel_rfl) (by kernel_rfl))
  · refine Wp.skip (by kernel_rfl) ?_
    refine sqQ.n' ?_
    refine seqQ.n ?_
    refine Wp.seq' (by kernel_rfl) ?_
    refine Wp.seq' (by kernel_rfl) ?_
    refine Wp.region (by kernel_rfl) ?_
    refine Ops.seg' 1 1 (by kernel_rfl) ?_
    refine Ops.one' 2 (fun h0 e0 => (len_r (T := T) h0 36 9 .plain eS a0 (by kernel_rfl))) (by kernel_rfl) (by kernel_rfl) ?_
    refine Ops.seg' 1 3 (by kernel_rfl) ?_
    refine Ops.done (by kernel_rfl) ?_
    refine seqQ.n ?_
    refine Wp.block' 0 [4] 0 (by kernel_rfl) ?_
    have hLx18 : ∀ (kx8 : Nat) (v6 : Int)  (ox7 : Int ⊕ (Int)), iter (fun (y : Int) => f37_B1 m a0 y) kx8 v6 = some ox7 → ∀ nx9, kx8 ≤ nx9 → (∀ r, ox7 = .inl r → ∀ σ, RetOk (X37 n) (resOf Proofs.Tryd.prog 37) (eI r) σ → (seqQ (X37 n) (cR (cR (cR C37))) (fnQ (X37 n).E.T (resOf Proofs.Tryd.prog 37) (eI o))) .ret σ) → (∀ (y : Int) , ox7 = .inr y → (seqQ (X37 n) (cR (cR (cR C37))) (fnQ (X37 n).E.T (resOf Proofs.Tryd.prog 37) (eI o))) .normal ⟨q4 ((dI 0) :: q6 ((dP eS a0) :: (dI (a0.length : Int)) :: (dI y) :: q7 [])), []⟩) → Lp (X37 n) [4, 11, 12, 13] 0 (cL (cL (cR (cL (cR (cR C37)))))) nx9 ⟨q4 ((dI 0) :: q6 ((dP eS a0) :: (dI (a0.length : Int)) :: (dI v6) :: q7 [])), []⟩ (blkQ (X37 n) 0 [4] 0 (seqQ (X37 n) (cR (cR (cR C37))) (fnQ (X37 n).E.T (resOf Proofs.Tryd.prog 37) (eI o)))) := by
      intro kx8
      induction kx8 with
      | zero => intro v6  ox7 h; exact (iter_zero h).elim
      | succ kx8 ihx10 =>
        intro v6  ox7 h nx9 hnx13 hrx11 hxx12
        obtain ⟨nx9, rfl⟩ : ∃ q, nx9 = q + 1 := ⟨nx9 - 1, by omega⟩
        obtain ⟨sx14, h, hsx15⟩ := iter_some h
        have h : f37_B1 m a0 v6 = some sx14 := h
        unfold f37_B1 at h
        refine Lp.succ ?_
        refine Wp.seq' (by kernel_rfl) ?_
        refine Wp.region (by kernel_rfl) ?_
        refine Ops.seg' 1 1 (by kernel_rfl) ?_
        refine Ops.done (by kernel_rfl) ?_
        refine seqQ.n ?_
        refine Wp.seq' (by kernel_rfl) ?_
        refine Wp.cnd h [4, 11, 12, 13] 0 (by kernel_rfl) (fun h => ?_) (fun h => ?_)
        · refine Wp.skip (by kernel_rfl) ?_
          refine sqQ.n' ?_
          refine seqQ.n ?_
          refine Wp.seq' (by kernel_rfl) ?_
          refine Wp.block' 1 [4, 11, 12, 13] 0 (by kernel_rfl) ?_
          refine Wp.seq' (by kernel_rfl) ?_
          refine Wp.region (by kernel_rfl) ?_
          obtain ⟨v16, ev16, h⟩ := bnd_some h
          refine Ops.one' 1 (fun h0 e0 => (ix_r (T := T) h0 36 9 1 .plain eS a0 v6 v16 ev16 (by kernel_rfl) (by kernel_rfl) (fun _ => rfl))) (by kernel_rfl) (by kernel_rfl) ?_
          refine Ops.seg' 2 3 (by kernel_rfl) ?_
          refine Ops.done (by kernel_rfl) ?_
          refine seqQ.n ?_
          refine Wp.seq' (by kernel_rfl) ?_
          refine Wp.region (by kernel_rfl) ?_
          refine Ops.seg' 1 1 (by kernel_rfl) ?_
          obtain ⟨v17, ev17, h⟩ := bnd_some h
          refine Ops.one' 2 (fun h0 e0 => (call_ok (E' := EG) (h := h0) (by kernel_rfl) (Args.v (.str v16) (eS v16) (by kernel_rfl) Args.nil) (ok35 m v16 v17 ev17 n (by omega)))) (by kernel_rfl) (by kernel_rfl) ?_
          refine Ops.seg' 1 3 (by kernel_rfl) ?_
          refine Ops.done (by kernel_rfl) ?_
          refine seqQ.n ?_
          refine Wp.cnd h [4, 11, 12, 13] 0 (by kernel_rfl) (fun h => ?_) (fun h => ?_)
          · refine Wp.seq' (by kernel_rfl) ?_
            refine Wp.region (by kernel_rfl) ?_
            refine Ops.seg' 1 1 (by kernel_rfl) ?_
            refine Ops.done (by kernel_rfl) ?_
            refine seqQ.n ?_
            refine Wp.ret (by kernel_rfl) ?_
            refine sqQ.r ?_
            refine blkQ.r ?_
            refine seqQ.r ?_
            cases h
            refine lpQ.r ?_
            refine blkQ.r ?_
            exact hrx11 _ hsx15 _ (RetOk.forget [4, 11, 12, 13] (by kernel_rfl) (RetOk.mk' (dI 10) (by kernel_rfl) (by kernel_rfl)))
          · refine Wp.skip (by kernel_rfl) ?_
            refine sqQ.n' ?_
            refine blkQ.n' ?_
            refine seqQ.n ?_
            refine Wp.region (by kernel_rfl) ?_
            refine Ops.seg' 2 2 (by kernel_rfl) ?_
            refine Ops.done (by kernel_rfl) ?_
            refine lpQ.n ⟨q4 ((dI 0) :: q6 ((dP eS a0) :: (dI (a0.length : Int)) :: (dI (w64 (v6 + 1))) :: q7 [])), []⟩ (by kernel_rfl) ?_
            cases h
            exact ihx10 (w64 (v6 + 1))  _ hsx15 _ (by omega) hrx11 hxx12
        · refine Wp.exit (id := 0) (by kernel_rfl) ?_
          refine sqQ.x ?_
          refine seqQ.x ?_
          cases h
          refine lpQ.x ?_
          refine blkQ.x ⟨q4 ((dI 0) :: q6 ((dP eS a0) :: (dI (a0.length : Int)) :: (dI v6) :: q7 [])), []⟩ (by kernel_rfl) ?_
          exact hxx12 v6  hsx15
    refine Wp.loop' [4, 11, 12, 13] 0 (by kernel_rfl) ⟨q4 ((dI 0) :: q6 ((dP eS a0) :: (dI (a0.length : Int)) :: (dI 0) :: q7 [])), []⟩ (by kernel_rfl) ?_
    rcases brk_some h with ⟨r20, er20, h⟩ | ⟨y19, ey19, h⟩
    · refine hLx18 _ 0  _ er20 n (by omega) (fun r er σ hσ => ?_) (fun y  ey => by cases ey)
      cases er
      refine seqQ.r ?_
      exact fnQ.r' (X37 n) (fun z => (eI z)) h hσ
    · refine hLx18 _ 0  _ ey19 n (by omega) (fun r er => by cases er) (fun y  ey => ?_)
      cases ey
      refine seqQ.n ?_
      refine Wp.seq' (by kernel_rfl) ?_
      refine Wp.region (by kernel_rfl) ?_
      refine Ops.seg' 1 1 (by kernel_rfl) ?_
      refine Ops.done (by kernel_rfl) ?_
      refine seqQ.n ?_
      refine Wp.ret (by kernel_rfl) ?_
      exact fnQ.r' (X37 n) (fun z => (eI z)) h (RetOk.mk' (dI 0) (by kernel_rfl) (by kernel_rfl))

/-! ### 28 glosswright/glosswrightref6.LexiconFault -/
def f28_B1 (m : Nat) (a0 : S51) (v332 : Int) (v342 : S88) (v350 : Int) : Option (Stp S27 (Int)) :=
  cnd (decide (v350 < v332))
  (bnd (idx a0.fClasses v350) fun v360 =>
  cnd (v360.fName.toList == v342.fName.toList)
  (bnd (f36 m 7 v332) fun v361 =>
  some (.ret v361))
  (some (.nxt (w64 (v350 + 1)))))
  (some (.brk v350))
def f28_r2 (m : Nat) (v332 : Int) (v449 : Int) (v496 : Bool) : Option (Stp S27 (Int)) :=
  cnd v496
  (bnd (f36 m 3 v332) fun v498 =>
  some (.ret v498))
  (some (.nxt (w64 (v449 + 1))))
def f28_r3 (m : Nat) (v332 : Int) (v449 : Int) (v459 : S90) (v488 : Bool) : Option (Stp S27 (Int)) :=
  f28_r2 m v332 v449 (v488 || (decide (v459.fWeight > 1000000)))
def f28_r4 (m : Nat) (v332 : Int) (v449 : Int) (v459 : S90) (v480 : Bool) : Option (Stp S27 (Int)) :=
  f28_r3 m v332 v449 v459 (v480 || (decide (v459.fWeight < 0)))
def f28_r5 (m : Nat) (a0 : S51) (v332 : Int) (v449 : Int) (v459 : S90) (v468 : Bool) : Option (Stp S27 (Int)) :=
  cnd v468
  (bnd (f36 m 5 v332) fun v470 =>
  some (.ret v470))
  (bnd (f37 m v459.fTags 4) fun v471 =>
  cnd (v471 != 0)
  (bnd (f36 m v471 v332) fun v472 =>
  some (.ret v472))
  (f28_r4 m v332 v449 v459 ((decide (v459.fNext < (-1))) || (decide (v459.fNext ≥ (a0.fClasses.length : Int))))))
def f28_B6 (m : Nat) (a0 : S51) (v332 : Int) (v342 : S88) (v449 : Int) : Option (Stp S27 (Int)) :=
  cnd (decide (v449 < (v342.fItems.length : Int)))
  (bnd (idx v342.fItems v449) fun v459 =>
  bnd (f38 m v459.fBase) fun v460 =>
  bnd (cnd (!v460)
  (some true)
  (bnd (f38 m v459.fForm) fun v499 =>
  some (!v499))) fun v468 =>
  f28_r5 m a0 v332 v449 v459 v468)
  (some (.brk v449))
def f28_B7 (m : Nat) (a0 : S51) (v332 : Int) : Option (Stp S27 (Int)) :=
  cnd (decide (v332 < (a0.fClasses.length : Int)))
  (bnd (idx a0.fClasses v332) fun v342 =>
  bnd (f35 m v342.fName) fun v343 =>
  cnd (!v343)
  (bnd (f36 m 10 v332) fun v344 =>
  some (.ret v344))
  (brk (iter (fun (y : Int) => f28_B1 m a0 v332 v342 y) m 0) (fun r => some (.ret r)) fun y363 =>
  cnd (decide ((v342.fItems.length : Int) > 100))
  (bnd (f36 m 2 v332) fun v365 =>
  some (.ret v365))
  (brk (iter (fun (y : Int) => f28_B6 m a0 v332 v342 y) m 0) (fun r => some (.ret r)) fun y501 =>
  some (.nxt (w64 (v332 + 1))))))
  (some (.brk v332))
def f28_r8 (m : Nat) (a0 : S51) (v6 : Bool) : Option S27 :=
  cnd v6
  (bnd (f36 m 9 (-1)) fun v8 =>
  some v8)
  (brk (iter (fun (y : Int) => f28_B7 m a0 y) m 0) some fun y504 =>
  some ((⟨0, 0⟩ : S27)))
def f28 (m : Nat) (a0 : S51) : Option S27 :=
  f28_r8 m a0 (((a0.fClasses.length : Int) == 0) || (decide ((a0.fClasses.length : Int) > 40)))
noncomputable abbrev X28 (n : Nat) : Cx := cxOf Proofs.Tryd.prog EG 28 n
noncomputable def C28 : Code := bodyOf Proofs.Tryd.prog 28
theorem f28_hLx500 (m : Nat) (a0 : S51) (o : S27) (n : Nat) (hn : m + 6 ≤ n + 1) (v332 : Int) (v342 : S88) (nx335 : Nat) : ∀ (kx451 : Nat) (v449 : Int)  (ox450 : S27 ⊕ (Int)), iter (fun (y : Int) => f28_B6 m a0 v332 v342 y) kx451 v449 = some ox450 → ∀ nx452, kx451 ≤ nx452 → (∀ r, ox450 = .inl r → ∀ σ, RetOk (X28 n) (resOf Proofs.Tryd.prog 28) (e27 r) σ → (blkQ (X28 n) 1 [1, 2, 3, 21, 22, 23] 2 (seqQ (X28 n) (cR (cR (cR (cL (cL (cR (cL (cR (cR (cR C28)))))))))) (lpQ (X28 n) [1, 2, 3, 21, 22, 23] 2 (cL (cL (cR (cL (cR (cR (cR C28))))))) nx335 (blkQ (X28 n) 0 [2] 2 (seqQ (X28 n) (cR (cR (cR (cR C28)))) (fnQ (X28 n).E.T (resOf Proofs.Tryd.prog 28) (e27 o))))))) .ret σ) → (∀ (y : Int) , ox450 = .inr y → (blkQ (X28 n) 1 [1, 2, 3, 21, 22, 23] 2 (seqQ (X28 n) (cR (cR (cR (cL (cL (cR (cL (cR (cR (cR C28)))))))))) (lpQ (X28 n) [1, 2, 3, 21, 22, 23] 2 (cL (cL (cR (cL (cR (cR (cR C28))))))) nx335 (blkQ (X28 n) 0 [2] 2 (seqQ (X28 n) (cR (cR (cR (cR C28)))) (fnQ (X28 n).E.T (resOf Proofs.Tryd.prog 28) (e27 o))))))) .normal ⟨q1 ((.ptr 0 0) :: (.ptr 1 0) :: (dI (a0.fClasses.length : Int)) :: (dI v332) :: q16 ((dP e88 a0.fClasses) :: (dI (a0.fClasses.length : Int)) :: (dI v332) :: q33 ((dP e90 v342.fItems) :: (dI (v342.fItems.length : Int)) :: (dI y) :: q40 (q7 [])))), [(.cells [(dP e88 a0.fClasses)]), (.cells [(dI 0), (dI 0)]), (.cells [(.v (.str v342.fName)), (dP e90 v342.fItems)])]⟩) → Lp (X28 n) [1, 2, 3, 4, 21, 22, 23, 57, 58, 59] 3 (cL (cL (cR (cR (cR (cR (cR (cL (cL (cR (cR (cL (cL (cR (cL (cR (cR (cR C28)))))))))))))))))) nx452 ⟨q1 ((.ptr 0 0) :: (.ptr 1 0) :: (dI (a0.fClasses.length : Int)) :: (dI v332) :: q16 ((dP e88 a0.fClasses) :: (dI (a0.fClasses.length : Int)) :: (dI v332) :: q33 ((dP e90 v342.fItems) :: (dI (v342.fItems.length : Int)) :: (dI v449) :: q40 (q7 [])))), [(.cells [(dP e88 a0.fClasses)]), (.cells [(dI 0), (dI 0)]), (.cells [(.v (.str v342.fName)), (dP e90 v342.fItems)])]⟩ (blkQ (X28 n) 4 [1, 2, 3, 21, 22, 23] 3 (blkQ (X28 n) 1 [1, 2, 3, 21, 22, 23] 2 (seqQ (X28 n) (cR (cR (cR (cL (cL (cR (cL (cR (cR (cR C28)))))))))) (lpQ (X28 n) [1, 2, 3, 21, 22, 23] 2 (cL (cL (cR (cL (cR (cR (cR C28))))))) nx335 (blkQ (X28 n) 0 [2] 2 (seqQ (X28 n) (cR (cR (cR (cR C28)))) (fnQ (X28 n).E.T (resOf Proofs.Tryd.prog 28) (e27 o)))))))) := by
  intro kx451
  induction kx451 with
  | zero => intro v449  ox450 h; exact (iter_zero h).elim
  | succ kx451 ihx453 =>
    intro v449  ox450 h nx452 hnx456 hrx454 hxx455
    obtain ⟨nx452, rfl⟩ : ∃ q, nx452 = q + 1 := ⟨nx452 - 1, by omega⟩
    obtain ⟨sx457, h, hsx458⟩ := iter_some h
    have h : f28_B6 m a0 v332 v342 v449 = some sx457 := h
    unfold f28_B6 at h
    refine Lp.succ ?_
    refine Wp.seq' (by kernel_rfl) ?_
    refine Wp.region (by kernel_rfl) ?_
    refine Ops.seg' 1 1 (by kernel_rfl) ?_
    refine Ops.done (by kernel_rfl) ?_
    refine seqQ.n ?_
    refine Wp.seq' (by kernel_rfl) ?_
    refine Wp.cnd h [1, 2, 3, 4, 21, 22, 23, 57, 58, 59] 3 (by kernel_rfl) (fun h => ?_) (fun h => ?_)
    · refine Wp.skip (by kernel_rfl) ?_
      refine sqQ.n' ?_
      refine seqQ.n ?_
      refine Wp.seq' (by kernel_rfl) ?_
      refine Wp.block' 5 [1, 2, 3, 4, 21, 22, 23, 57, 58, 59] 3 (by kernel_rfl) ?_
      refine Wp.seq' (by kernel_rfl) ?_
      refine Wp.region (by kernel_rfl) ?_
      obtain ⟨v459, ev459, h⟩ := bnd_some h
      refine Ops.one' 1 (fun h0 e0 => (ix_r (T := T) h0 87 91 5 .plain e90 v342.fItems v449 v459 ev459 (by kernel_rfl) (by kernel_rfl) (fun _ => rfl))) (by kernel_rfl) (by kernel_rfl) ?_
      refine Ops.seg' 3 4 (by kernel_rfl) ?_
      refine Ops.done (by kernel_rfl) ?_
      refine seqQ.n ?_
      refine Wp.seq' (by kernel_rfl) ?_
      refine Wp.seq' (by kernel_rfl) ?_
      refine Wp.region (by kernel_rfl) ?_
      refine Ops.seg' 2 2 (by kernel_rfl) ?_
      obtain ⟨v460, ev460, h⟩ := bnd_some h
      refine Ops.one' 3 (fun h0 e0 => (call_ok (E' := EG) (h := h0) (by kernel_rfl) (Args.v (.str v459.fBase) (eS v459.fBase) (by kernel_rfl) Args.nil) (ok38 m v459.fBase v460 ev460 n (by omega)))) (by kernel_rfl) (by kernel_rfl) ?_
      refine Ops.seg' 2 5 (by kernel_rfl) ?_
      refine Ops.hv (fun K => ∀ (d463 d464 d465 d466 : D) (v467 : Bool) (v468 : Bool), f28_r5 m a0 v332 v449 v459 v468 = some sx457 → K 10 ⟨q1 ((.ptr 0 0) :: (.ptr 1 0) :: (dI (a0.fClasses.length : Int)) :: (dI v332) :: q3 ((.ptr 3 0) :: q12 ((dP e88 a0.fClasses) :: (dI (a0.fClasses.length : Int)) :: (dI v332) :: q33 ((dP e90 v342.fItems) :: (dI (v342.fItems.length : Int)) :: (dI v449) :: (dB (decide (v449 < (v342.fItems.length : Int)))) :: (.vptr [(.str v459.fBase), (.str v459.fForm), (vP eS v459.fTags), (vI v459.fNext), (vI v459.fWeight)]) :: (.v (.agg [(.str v459.fBase), (.str v459.fForm), (vP eS v459.fTags), (vI v459.fNext), (vI v459.fWeight)])) :: (.ptr 3 0) :: (.v (.str v459.fBase)) :: (dB v460) :: (dB v467) :: (dB v467) :: d463 :: d464 :: d465 :: d466 :: (dB v468) :: q34 [])))), [(.cells [(dP e88 a0.fClasses)]), (.cells [(dI 0), (dI 0)]), (.cells [(.v (.str v342.fName)), (dP e90 v342.fItems)]), (.cells [(.v (.str v459.fBase)), (.v (.str v459.fForm)), (dP eS v459.fTags), (dI v459.fNext), (dI v459.fWeight)])]⟩) ?_ fun J28j469 => ?_
      · intro d463 d464 d465 d466 v467 v468 h
        unfold f28_r5 at h
        refine Ops.done (by kernel_rfl) ?_
        refine seqQ.n ?_
        refine Wp.cnd h [1, 2, 3, 4, 8, 21, 22, 23, 57, 58, 59] 4 (by kernel_rfl) (fun h => ?_) (fun h => ?_)
        · refine Wp.seq' (by kernel_rfl) ?_
          refine Wp.region (by kernel_rfl) ?_
          refine Ops.seg' 1 1 (by kernel_rfl) ?_
          obtain ⟨v470, ev470, h⟩ := bnd_some h
          refine Ops.one' 2 (fun h0 e0 => (call_ok (E' := EG) (h := h0) (by kernel_rfl) (Args.v (vI 5) (eI 5) (by kernel_rfl) (Args.v (vI v332) (eI v332) (by kernel_rfl) Args.nil)) (ok36 m 5 v332 v470 ev470 n (by omega)))) (by kernel_rfl) (by kernel_rfl) ?_
          refine Ops.seg' 1 3 (by kernel_rfl) ?_
          refine Ops.done (by kernel_rfl) ?_
          refine seqQ.n ?_
          refine Wp.ret (by kernel_rfl) ?_
          refine sqQ.r ?_
          refine seqQ.r ?_
          refine blkQ.r ?_
          refine seqQ.r ?_
          cases h
          refine lpQ.r ?_
          refine blkQ.r ?_
          exact hrx454 _ hsx458 _ (RetOk.forget [1, 2, 3, 4, 21, 22, 23, 57, 58, 59] (by kernel_rfl) (RetOk.mk' (.v (.agg [(vI v470.fCode), (vI v470.fIndex)])) (by kernel_rfl) (by kernel_rfl)))
        · refine Wp.skip (by kernel_rfl) ?_
          refine sqQ.n' ?_
          refine seqQ.n ?_
          refine Wp.seq' (by kernel_rfl) ?_
          refine Wp.seq' (by kernel_rfl) ?_
          refine Wp.region (by kernel_rfl) ?_
          refine Ops.seg' 2 2 (by kernel_rfl) ?_
          obtain ⟨v471, ev471, h⟩ := bnd_some h
          refine Ops.one' 3 (fun h0 e0 => (call_ok (E' := EG) (h := h0) (by kernel_rfl) (Args.v (vP eS v459.fTags) ((eL eS) v459.fTags) (by kernel_rfl) (Args.v (vI 4) (eI 4) (by kernel_rfl) Args.nil)) (ok37 m v459.fTags 4 v471 ev471 n (by omega)))) (by kernel_rfl) (by kernel_rfl) ?_
          refine Ops.seg' 1 4 (by kernel_rfl) ?_
          refine Ops.done (by kernel_rfl) ?_
          refine seqQ.n ?_
          refine Wp.seq' (by kernel_rfl) ?_
          refine Wp.region (by kernel_rfl) ?_
          refine Ops.seg' 2 2 (by kernel_rfl) ?_
          refine Ops.done (by kernel_rfl) ?_
          refine seqQ.n ?_
          refine Wp.cnd h [1, 2, 3, 4, 8, 21, 22, 23, 57, 58, 59] 4 (by kernel_rfl) (fun h => ?_) (fun h => ?_)
          · refine Wp.seq' (by kernel_rfl) ?_
            refine Wp.region (by kernel_rfl) ?_
            refine Ops.seg' 2 2 (by kernel_rfl) ?_
            obtain ⟨v472, ev472, h⟩ := bnd_some h
            refine Ops.one' 3 (fun h0 e0 => (call_ok (E' := EG) (h := h0) (by kernel_rfl) (Args.v (vI v471) (eI v471) (by kernel_rfl) (Args.v (vI v332) (eI v332) (by kernel_rfl) Args.nil)) (ok36 m v471 v332 v472 ev472 n (by omega)))) (by kernel_rfl) (by kernel_rfl) ?_
            refine Ops.seg' 1 4 (by kernel_rfl) ?_
            refine Ops.done (by kernel_rfl) ?_
            refine seqQ.n ?_
            refine Wp.ret (by kernel_rfl) ?_
            refine sqQ.r ?_
            refine seqQ.r ?_
            refine blkQ.r ?_
            refine seqQ.r ?_
            cases h
            refine lpQ.r ?_
            refine blkQ.r ?_
            exact hrx454 _ hsx458 _ (RetOk.forget [1, 2, 3, 4, 21, 22, 23, 57, 58, 59] (by kernel_rfl) (RetOk.mk' (.v (.agg [(vI v472.fCode), (vI v472.fIndex)])) (by kernel_rfl) (by kernel_rfl)))
          · refine Wp.skip (by kernel_rfl) ?_
            refine sqQ.n' ?_
            refine seqQ.n ?_
            refine Wp.seq' (by kernel_rfl) ?_
            refine Wp.region (by kernel_rfl) ?_
            refine Ops.seg' 4 4 (by kernel_rfl) ?_
            refine Ops.hv (fun K => ∀ (d475 d476 d477 d478 : D) (v479 : Bool) (v480 : Bool), f28_r4 m v332 v449 v459 v480 = some sx457 → K 9 ⟨q1 ((.ptr 0 0) :: (.ptr 1 0) :: (dI (a0.fClasses.length : Int)) :: (dI v332) :: q3 ((.ptr 3 0) :: (dI v471) :: q11 ((dP e88 a0.fClasses) :: (dI (a0.fClasses.length : Int)) :: (dI v332) :: q33 ((dP e90 v342.fItems) :: (dI (v342.fItems.length : Int)) :: (dI v449) :: (dB (decide (v449 < (v342.fItems.length : Int)))) :: (.vptr [(.str v459.fBase), (.str v459.fForm), (vP eS v459.fTags), (vI v459.fNext), (vI v459.fWeight)]) :: (.v (.agg [(.str v459.fBase), (.str v459.fForm), (vP eS v459.fTags), (vI v459.fNext), (vI v459.fWeight)])) :: (.ptr 3 0) :: (.v (.str v459.fBase)) :: (dB v460) :: (dB v467) :: (dB v467) :: d463 :: d464 :: d465 :: d466 :: (dB v468) :: q2 ((.ptr 3 2) :: (dP eS v459.fTags) :: (dI v471) :: (dI v471) :: (dB (v471 != 0)) :: q3 ((.ptr 3 3) :: (dI v459.fNext) :: (dB v479) :: (dB v479) :: d475 :: d476 :: d477 :: d478 :: (dB v480) :: q15 [])))))), [(.cells [(dP e88 a0.fClasses)]), (.cells [(dI 0), (dI 0)]), (.cells [(.v (.str v342.fName)), (dP e90 v342.fItems)]), (.cells [(.v (.str v459.fBase)), (.v (.str v459.fForm)), (dP eS v459.fTags), (dI v459.fNext), (dI v459.fWeight)])]⟩) ?_ fun J28j481 => ?_
            · intro d475 d476 d477 d478 v479 v480 h
              unfold f28_r4 at h
              refine Ops.seg' 1 10 (by kernel_rfl) ?_
              refine Ops.hv (fun K => ∀ (d484 d485 d486 : D) (v487 : Bool) (v488 : Bool), f28_r3 m v332 v449 v459 v488 = some sx457 → K 14 ⟨q1 ((.ptr 0 0) :: (.ptr 1 0) :: (dI (a0.fClasses.length : Int)) :: (dI v332) :: q3 ((.ptr 3 0) :: (dI v471) :: q11 ((dP e88 a0.fClasses) :: (dI (a0.fClasses.length : Int)) :: (dI v332) :: q33 ((dP e90 v342.fItems) :: (dI (v342.fItems.length : Int)) :: (dI v449) :: (dB (decide (v449 < (v342.fItems.length : Int)))) :: (.vptr [(.str v459.fBase), (.str v459.fForm), (vP eS v459.fTags), (vI v459.fNext), (vI v459.fWeight)]) :: (.v (.agg [(.str v459.fBase), (.str v459.fForm), (vP eS v459.fTags), (vI v459.fNext), (vI v459.fWeight)])) :: (.ptr 3 0) :: (.v (.str v459.fBase)) :: (dB v460) :: (dB v467) :: (dB v467) :: d463 :: d464 :: d465 :: d466 :: (dB v468) :: q2 ((.ptr 3 2) :: (dP eS v459.fTags) :: (dI v471) :: (dI v471) :: (dB (v471 != 0)) :: q3 ((.ptr 3 3) :: (dI v459.fNext) :: (dB v479) :: (dB v479) :: d475 :: d476 :: d477 :: d478 :: (dB v487) :: (dB v487) :: d484 :: d485 :: d486 :: (dB v488) :: q10 [])))))), [(.cells [(dP e88 a0.fClasses)]), (.cells [(dI 0), (dI 0)]), (.cells [(.v (.str v342.fName)), (dP e90 v342.fItems)]), (.cells [(.v (.str v459.fBase)), (.v (.str v459.fForm)), (dP eS v459.fTags), (dI v459.fNext), (dI v459.fWeight)])]⟩) ?_ fun J28j489 => ?_
              · intro d484 d485 d486 v487 v488 h
                unfold f28_r3 at h
                refine Ops.seg' 1 15 (by kernel_rfl) ?_
                refine Ops.hv (fun K => ∀ (d492 d493 d494 : D) (v495 : Bool) (v496 : Bool), f28_r2 m v332 v449 v496 = some sx457 → K 19 ⟨q1 ((.ptr 0 0) :: (.ptr 1 0) :: (dI (a0.fClasses.length : Int)) :: (dI v332) :: q3 ((.ptr 3 0) :: (dI v471) :: q11 ((dP e88 a0.fClasses) :: (dI (a0.fClasses.length : Int)) :: (dI v332) :: q33 ((dP e90 v342.fItems) :: (dI (v342.fItems.length : Int)) :: (dI v449) :: (dB (decide (v449 < (v342.fItems.length : Int)))) :: (.vptr [(.str v459.fBase), (.str v459.fForm), (vP eS v459.fTags), (vI v459.fNext), (vI v459.fWeight)]) :: (.v (.agg [(.str v459.fBase), (.str v459.fForm), (vP eS v459.fTags), (vI v459.fNext), (vI v459.fWeight)])) :: (.ptr 3 0) :: (.v (.str v459.fBase)) :: (dB v460) :: (dB v467) :: (dB v467) :: d463 :: d464 :: d465 :: d466 :: (dB v468) :: q2 ((.ptr 3 2) :: (dP eS v459.fTags) :: (dI v471) :: (dI v471) :: (dB (v471 != 0)) :: q3 ((.ptr 3 3) :: (dI v459.fNext) :: (dB v479) :: (dB v479) :: d475 :: d476 :: d477 :: d478 :: (dB v487) :: (dB v487) :: d484 :: d485 :: d486 :: (dB v495) :: (dB v495) :: d492 :: d493 :: d494 :: (dB v496) :: q5 [])))))), [(.cells [(dP e88 a0.fClasses)]), (.cells [(dI 0), (dI 0)]), (.cells [(.v (.str v342.fName)), (dP e90 v342.fItems)]), (.cells [(.v (.str v459.fBase)), (.v (.str v459.fForm)), (dP eS v459.fTags), (dI v459.fNext), (dI v459.fWeight)])]⟩) ?_ fun J28j497 => ?_
                · intro d492 d493 d494 v495 v496 h
                  unfold f28_r2 at h
                  refine Ops.done (by kernel_rfl) ?_
                  refine seqQ.n ?_
                  refine Wp.cnd h [1, 2, 3, 4, 21, 22, 23, 57, 58, 59] 4 (by kernel_rfl) (fun h => ?_) (fun h => ?_)
                  · refine Wp.seq' (by kernel_rfl) ?_
                    refine Wp.region (by kernel_rfl) ?_
                    refine Ops.seg' 1 1 (by kernel_rfl) ?_
                    obtain ⟨v498, ev498, h⟩ := bnd_some h
                    refine Ops.one' 2 (fun h0 e0 => (call_ok (E' := EG) (h := h0) (by kernel_rfl) (Args.v (vI 3) (eI 3) (by kernel_rfl) (Args.v (vI v332) (eI v332) (by kernel_rfl) Args.nil)) (ok36 m 3 v332 v498 ev498 n (by omega)))) (by kernel_rfl) (by kernel_rfl) ?_
                    refine Ops.seg' 1 3 (by kernel_rfl) ?_
                    refine Ops.done (by kernel_rfl) ?_
                    refine seqQ.n ?_
                    refine Wp.ret (by kernel_rfl) ?_
                    refine sqQ.r ?_
                    refine blkQ.r ?_
                    refine seqQ.r ?_
                    cases h
                    refine lpQ.r ?_
                    refine blkQ.r ?_
                    exact hrx454 _ hsx458 _ (RetOk.forget [1, 2, 3, 4, 21, 22, 23, 57, 58, 59] (by kernel_rfl) (RetOk.mk' (.v (.agg [(vI v498.fCode), (vI v498.fIndex)])) (by kernel_rfl) (by kernel_rfl)))
                  · refine Wp.skip (by kernel_rfl) ?_
                    refine sqQ.n' ?_
                    refine blkQ.n' ?_
                    refine seqQ.n ?_
                    refine Wp.region (by kernel_rfl) ?_
                    refine Ops.seg' 2 2 (by kernel_rfl) ?_
                    refine Ops.done (by kernel_rfl) ?_
                    refine lpQ.n ⟨q1 ((.ptr 0 0) :: (.ptr 1 0) :: (dI (a0.fClasses.length : Int)) :: (dI v332) :: q16 ((dP e88 a0.fClasses) :: (dI (a0.fClasses.length : Int)) :: (dI v332) :: q33 ((dP e90 v342.fItems) :: (dI (v342.fItems.length : Int)) :: (dI (w64 (v449 + 1))) :: q40 (q7 [])))), [(.cells [(dP e88 a0.fClasses)]), (.cells [(dI 0), (dI 0)]), (.cells [(.v (.str v342.fName)), (dP e90 v342.fItems)])]⟩ (by kernel_rfl) ?_
                    cases h
                    exact ihx453 (w64 (v449 + 1))  _ hsx458 _ (by omega) hrx454 hxx455
                refine Ops.hv (fun K => ∀ v490 : Bool, f28_r2 m v332 v449 (v490 || (decide (v459.fWeight > 1000000))) = some sx457 → K 15 ⟨q1 ((.ptr 0 0) :: (.ptr 1 0) :: (dI (a0.fClasses.length : Int)) :: (dI v332) :: q3 ((.ptr 3 0) :: (dI v471) :: q11 ((dP e88 a0.fClasses) :: (dI (a0.fClasses.length : Int)) :: (dI v332) :: q33 ((dP e90 v342.fItems) :: (dI (v342.fItems.length : Int)) :: (dI v449) :: (dB (decide (v449 < (v342.fItems.length : Int)))) :: (.vptr [(.str v459.fBase), (.str v459.fForm), (vP eS v459.fTags), (vI v459.fNext), (vI v459.fWeight)]) :: (.v (.agg [(.str v459.fBase), (.str v459.fForm), (vP eS v459.fTags), (vI v459.fNext), (vI v459.fWeight)])) :: (.ptr 3 0) :: (.v (.str v459.fBase)) :: (dB v460) :: (dB v467) :: (dB v467) :: d463 :: d464 :: d465 :: d466 :: (dB v468) :: q2 ((.ptr 3 2) :: (dP eS v459.fTags) :: (dI v471) :: (dI v471) :: (dB (v471 != 0)) :: q3 ((.ptr 3 3) :: (dI v459.fNext) :: (dB v479) :: (dB v479) :: d475 :: d476 :: d477 :: d478 :: (dB v487) :: (dB v487) :: d484 :: d485 :: d486 :: (dB v490) :: (dB v490) :: q9 [])))))), [(.cells [(dP e88 a0.fClasses)]), (.cells [(dI 0), (dI 0)]), (.cells [(.v (.str v342.fName)), (dP e90 v342.fItems)]), (.cells [(.v (.str v459.fBase)), (.v (.str v459.fForm)), (dP eS v459.fTags), (dI v459.fNext), (dI v459.fWeight)])]⟩) ?_ fun G28g491 => Ops.st _ (by kernel_rfl) (G28g491 v488 h)
                intro v490 h
                cases v490
                · refine Ops.seg' 4 19 (by kernel_rfl) ?_
                  exact Ops.st _ (by kernel_rfl) (J28j497 (.ptr 3 4) (dI v459.fWeight) (dB (decide (v459.fWeight > 1000000))) false (decide (v459.fWeight > 1000000)) h)
                · refine Ops.seg' 4 19 (by kernel_rfl) ?_
                  exact Ops.st _ (by kernel_rfl) (J28j497 U U U true true h)
              refine Ops.hv (fun K => ∀ v482 : Bool, f28_r3 m v332 v449 v459 (v482 || (decide (v459.fWeight < 0))) = some sx457 → K 10 ⟨q1 ((.ptr 0 0) :: (.ptr 1 0) :: (dI (a0.fClasses.length : Int)) :: (dI v332) :: q3 ((.ptr 3 0) :: (dI v471) :: q11 ((dP e88 a0.fClasses) :: (dI (a0.fClasses.length : Int)) :: (dI v332) :: q33 ((dP e90 v342.fItems) :: (dI (v342.fItems.length : Int)) :: (dI v449) :: (dB (decide (v449 < (v342.fItems.length : Int)))) :: (.vptr [(.str v459.fBase), (.str v459.fForm), (vP eS v459.fTags), (vI v459.fNext), (vI v459.fWeight)]) :: (.v (.agg [(.str v459.fBase), (.str v459.fForm), (vP eS v459.fTags), (vI v459.fNext), (vI v459.fWeight)])) :: (.ptr 3 0) :: (.v (.str v459.fBase)) :: (dB v460) :: (dB v467) :: (dB v467) :: d463 :: d464 :: d465 :: d466 :: (dB v468) :: q2 ((.ptr 3 2) :: (dP eS v459.fTags) :: (dI v471) :: (dI v471) :: (dB (v471 != 0)) :: q3 ((.ptr 3 3) :: (dI v459.fNext) :: (dB v479) :: (dB v479) :: d475 :: d476 :: d477 :: d478 :: (dB v482) :: (dB v482) :: q14 [])))))), [(.cells [(dP e88 a0.fClasses)]), (.cells [(dI 0), (dI 0)]), (.cells [(.v (.str v342.fName)), (dP e90 v342.fItems)]), (.cells [(.v (.str v459.fBase)), (.v (.str v459.fForm)), (dP eS v459.fTags), (dI v459.fNext), (dI v459.fWeight)])]⟩) ?_ fun G28g483 => Ops.st _ (by kernel_rfl) (G28g483 v480 h)
              intro v482 h
              cases v482
              · refine Ops.seg' 4 14 (by kernel_rfl) ?_
                exact Ops.st _ (by kernel_rfl) (J28j489 (.ptr 3 4) (dI v459.fWeight) (dB (decide (v459.fWeight < 0))) false (decide (v459.fWeight < 0)) h)
              · refine Ops.seg' 4 14 (by kernel_rfl) ?_
                exact Ops.st _ (by kernel_rfl) (J28j489 U U U true true h)
            refine Ops.hv (fun K => ∀ v473 : Bool, f28_r4 m v332 v449 v459 (v473 || (decide (v459.fNext ≥ (a0.fClasses.length : Int)))) = some sx457 → K 4 ⟨q1 ((.ptr 0 0) :: (.ptr 1 0) :: (dI (a0.fClasses.length : Int)) :: (dI v332) :: q3 ((.ptr 3 0) :: (dI v471) :: q11 ((dP e88 a0.fClasses) :: (dI (a0.fClasses.length : Int)) :: (dI v332) :: q33 ((dP e90 v342.fItems) :: (dI (v342.fItems.length : Int)) :: (dI v449) :: (dB (decide (v449 < (v342.fItems.length : Int)))) :: (.vptr [(.str v459.fBase), (.str v459.fForm), (vP eS v459.fTags), (vI v459.fNext), (vI v459.fWeight)]) :: (.v (.agg [(.str v459.fBase), (.str v459.fForm), (vP eS v459.fTags), (vI v459.fNext), (vI v459.fWeight)])) :: (.ptr 3 0) :: (.v (.str v459.fBase)) :: (dB v460) :: (dB v467) :: (dB v467) :: d463 :: d464 :: d465 :: d466 :: (dB v468) :: q2 ((.ptr 3 2) :: (dP eS v459.fTags) :: (dI v471) :: (dI v471) :: (dB (v471 != 0)) :: q3 ((.ptr 3 3) :: (dI v459.fNext) :: (dB v473) :: (dB v473) :: q20 [])))))), [(.cells [(dP e88 a0.fClasses)]), (.cells [(dI 0), (dI 0)]), (.cells [(.v (.str v342.fName)), (dP e90 v342.fItems)]), (.cells [(.v (.str v459.fBase)), (.v (.str v459.fForm)), (dP eS v459.fTags), (dI v459.fNext), (dI v459.fWeight)])]⟩) ?_ fun G28g474 => Ops.st _ (by kernel_rfl) (G28g474 (decide (v459.fNext < (-1))) h)
            intro v473 h
            cases v473
            · refine Ops.seg' 5 9 (by kernel_rfl) ?_
              exact Ops.st _ (by kernel_rfl) (J28j481 (.ptr 3 3) (dI v459.fNext) (dI (a0.fClasses.length : Int)) (dB (decide (v459.fNext ≥ (a0.fClasses.length : Int)))) false (decide (v459.fNext ≥ (a0.fClasses.length : Int))) h)
            · refine Ops.seg' 5 9 (by kernel_rfl) ?_
              exact Ops.st _ (by kernel_rfl) (J28j481 U U U U true true h)
      obtain ⟨v468, ev468, h⟩ := bnd_some h
      refine Ops.hv (fun K => ∀ v461 : Bool, (cnd v461 (some true) (bnd (f38 m v459.fForm) fun v499 => some (!v499))) = some v468 → K 5 ⟨q1 ((.ptr 0 0) :: (.ptr 1 0) :: (dI (a0.fClasses.length : Int)) :: (dI v332) :: q3 ((.ptr 3 0) :: q12 ((dP e88 a0.fClasses) :: (dI (a0.fClasses.length : Int)) :: (dI v332) :: q33 ((dP e90 v342.fItems) :: (dI (v342.fItems.length : Int)) :: (dI v449) :: (dB (decide (v449 < (v342.fItems.length : Int)))) :: (.vptr [(.str v459.fBase), (.str v459.fForm), (vP eS v459.fTags), (vI v459.fNext), (vI v459.fWeight)]) :: (.v (.agg [(.str v459.fBase), (.str v459.fForm), (vP eS v459.fTags), (vI v459.fNext), (vI v459.fWeight)])) :: (.ptr 3 0) :: (.v (.str v459.fBase)) :: (dB v460) :: (dB v461) :: (dB v461) :: q39 [])))), [(.cells [(dP e88 a0.fClasses)]), (.cells [(dI 0), (dI 0)]), (.cells [(.v (.str v342.fName)), (dP e90 v342.fItems)]), (.cells [(.v (.str v459.fBase)), (.v (.str v459.fForm)), (dP eS v459.fTags), (dI v459.fNext), (dI v459.fWeight)])]⟩) ?_ fun G28g462 => Ops.st _ (by kernel_rfl) (G28g462 (!v460) ev468)
      intro v461 ev468
      cases v461
      · have ev468 := cnd_f ev468
        refine Ops.seg' 2 7 (by kernel_rfl) ?_
        obtain ⟨v499, ev499, ev468⟩ := bnd_some ev468
        refine Ops.one' 8 (fun h0 e0 => (call_ok (E' := EG) (h := h0) (by kernel_rfl) (Args.v (.str v459.fForm) (eS v459.fForm) (by kernel_rfl) Args.nil) (ok38 m v459.fForm v499 ev499 n (by omega)))) (by kernel_rfl) (by kernel_rfl) ?_
        refine Ops.seg' 2 10 (by kernel_rfl) ?_
        exact Ops.st _ (by kernel_rfl) (J28j469 (.ptr 3 1) (.v (.str v459.fForm)) (dB v499) (dB (!v499)) false (!v499) (some_sub (fun v468 => f28_r5 m a0 v332 v449 v459 v468 = some sx457) ev468 h))
      · have ev468 := cnd_t ev468
        refine Ops.seg' 5 10 (by kernel_rfl) ?_
        exact Ops.st _ (by kernel_rfl) (J28j469 U U U U true true (some_sub (fun v468 => f28_r5 m a0 v332 v449 v459 v468 = some sx457) ev468 h))
    · refine Wp.exit (id := 4) (by kernel_rfl) ?_
      refine sqQ.x ?_
      refine seqQ.x ?_
      cases h
      refine lpQ.x ?_
      refine blkQ.x ⟨q1 ((.ptr 0 0) :: (.ptr 1 0) :: (dI (a0.fClasses.length : Int)) :: (dI v332) :: q16 ((dP e88 a0.fClasses) :: (dI (a0.fClasses.length : Int)) :: (dI v332) :: q33 ((dP e90 v342.fItems) :: (dI (v342.fItems.length : Int)) :: (dI v449) :: q40 (q7 [])))), [(.cells [(dP e88 a0.fClasses)]), (.cells [(dI 0), (dI 0)]), (.cells [(.v (.str v342.fName)), (dP e90 v342.fItems)])]⟩ (by kernel_rfl) ?_
      exact hxx455 v449  hsx458
theorem f28_hLx362 (m : Nat) (a0 : S51) (o : S27) (n : Nat) (hn : m + 6 ≤ n + 1) (v332 : Int) (v342 : S88) (nx335 : Nat) : ∀ (kx352 : Nat) (v350 : Int)  (ox351 : S27 ⊕ (Int)), iter (fun (y : Int) => f28_B1 m a0 v332 v342 y) kx352 v350 = some ox351 → ∀ nx353, kx352 ≤ nx353 → (∀ r, ox351 = .inl r → ∀ σ, RetOk (X28 n) (resOf Proofs.Tryd.prog 28) (e27 r) σ → (seqQ (X28 n) (cR (cR (cR (cL (cL (cR (cR (cL (cL (cR (cL (cR (cR (cR C28)))))))))))))) (blkQ (X28 n) 1 [1, 2, 3, 21, 22, 23] 2 (seqQ (X28 n) (cR (cR (cR (cL (cL (cR (cL (cR (cR (cR C28)))))))))) (lpQ (X28 n) [1, 2, 3, 21, 22, 23] 2 (cL (cL (cR (cL (cR (cR (cR C28))))))) nx335 (blkQ (X28 n) 0 [2] 2 (seqQ (X28 n) (cR (cR (cR (cR C28)))) (fnQ (X28 n).E.T (resOf Proofs.Tryd.prog 28) (e27 o)))))))) .ret σ) → (∀ (y : Int) , ox351 = .inr y → (seqQ (X28 n) (cR (cR (cR (cL (cL (cR (cR (cL (cL (cR (cL (cR (cR (cR C28)))))))))))))) (blkQ (X28 n) 1 [1, 2, 3, 21, 22, 23] 2 (seqQ (X28 n) (cR (cR (cR (cL (cL (cR (cL (cR (cR (cR C28)))))))))) (lpQ (X28 n) [1, 2, 3, 21, 22, 23] 2 (cL (cL (cR (cL (cR (cR (cR C28))))))) nx335 (blkQ (X28 n) 0 [2] 2 (seqQ (X28 n) (cR (cR (cR (cR C28)))) (fnQ (X28 n).E.T (resOf Proofs.Tryd.prog 28) (e27 o)))))))) .normal ⟨q1 ((.ptr 0 0) :: (.ptr 1 0) :: (dI (a0.fClasses.length : Int)) :: (dI v332) :: (.ptr 2 0) :: (dI y) :: q14 ((dP e88 a0.fClasses) :: (dI (a0.fClasses.length : Int)) :: (dI v332) :: q40 (q40 (q3 [])))), [(.cells [(dP e88 a0.fClasses)]), (.cells [(dI 0), (dI 0)]), (.cells [(.v (.str v342.fName)), (dP e90 v342.fItems)])]⟩) → Lp (X28 n) [1, 2, 3, 4, 5, 6, 21, 22, 23] 3 (cL (cL (cR (cL (cR (cR (cL (cL (cR (cR (cL (cL (cR (cL (cR (cR (cR C28))))))))))))))))) nx353 ⟨q1 ((.ptr 0 0) :: (.ptr 1 0) :: (dI (a0.fClasses.length : Int)) :: (dI v332) :: (.ptr 2 0) :: (dI v350) :: q14 ((dP e88 a0.fClasses) :: (dI (a0.fClasses.length : Int)) :: (dI v332) :: q40 (q40 (q3 [])))), [(.cells [(dP e88 a0.fClasses)]), (.cells [(dI 0), (dI 0)]), (.cells [(.v (.str v342.fName)), (dP e90 v342.fItems)])]⟩ (blkQ (X28 n) 2 [1, 2, 3, 4, 5, 21, 22, 23] 3 (seqQ (X28 n) (cR (cR (cR (cL (cL (cR (cR (cL (cL (cR (cL (cR (cR (cR C28)))))))))))))) (blkQ (X28 n) 1 [1, 2, 3, 21, 22, 23] 2 (seqQ (X28 n) (cR (cR (cR (cL (cL (cR (cL (cR (cR (cR C28)))))))))) (lpQ (X28 n) [1, 2, 3, 21, 22, 23] 2 (cL (cL (cR (cL (cR (cR (cR C28))))))) nx335 (blkQ (X28 n) 0 [2] 2 (seqQ (X28 n) (cR (cR (cR (cR C28)))) (fnQ (X28 n).E.T (resOf Proofs.Tryd.prog 28) (e27 o))))))))) := by
  intro kx352
  induction kx352 with
  | zero => intro v350  ox351 h; exact (iter_zero h).elim
  | succ kx352 ihx354 =>
    intro v350  ox351 h nx353 hnx357 hrx355 hxx356
    obtain ⟨nx353, rfl⟩ : ∃ q, nx353 = q + 1 := ⟨nx353 - 1, by omega⟩
    obtain ⟨sx358, h, hsx359⟩ := iter_some h
    have h : f28_B1 m a0 v332 v342 v350 = some sx358 := h
    unfold f28_B1 at h
    refine Lp.succ ?_
    refine Wp.seq' (by kernel_rfl) ?_
    refine Wp.seq' (by kernel_rfl) ?_
    refine Wp.region (by kernel_rfl) ?_
    refine Ops.seg' 3 3 (by kernel_rfl) ?_
    refine Ops.done (by kernel_rfl) ?_
    refine seqQ.n ?_
    refine Wp.cnd h [1, 2, 3, 4, 5, 6, 21, 22, 23] 3 (by kernel_rfl) (fun h => ?_) (fun h => ?_)
    · refine Wp.skip (by kernel_rfl) ?_
      refine sqQ.n' ?_
      refine seqQ.n ?_
      refine Wp.seq' (by kernel_rfl) ?_
      refine Wp.block' 3 [1, 2, 3, 4, 5, 6, 21, 22, 23] 3 (by kernel_rfl) ?_
      refine Wp.seq' (by kernel_rfl) ?_
      refine Wp.region (by kernel_rfl) ?_
      refine Ops.seg' 3 3 (by kernel_rfl) ?_
      obtain ⟨v360, ev360, h⟩ := bnd_some h
      refine Ops.one' 4 (fun h0 e0 => (ix_r (T := T) h0 50 89 2 .plain e88 a0.fClasses v350 v360 ev360 (by kernel_rfl) (by kernel_rfl) (fun _ => rfl))) (by kernel_rfl) (by kernel_rfl) ?_
      refine Ops.seg' 5 9 (by kernel_rfl) ?_
      refine Ops.done (by kernel_rfl) ?_
      refine seqQ.n ?_
      refine Wp.cnd h [1, 2, 3, 4, 5, 6, 21, 22, 23] 3 (by kernel_rfl) (fun h => ?_) (fun h => ?_)
      · refine Wp.seq' (by kernel_rfl) ?_
        refine Wp.region (by kernel_rfl) ?_
        refine Ops.seg' 1 1 (by kernel_rfl) ?_
        obtain ⟨v361, ev361, h⟩ := bnd_some h
        refine Ops.one' 2 (fun h0 e0 => (call_ok (E' := EG) (h := h0) (by kernel_rfl) (Args.v (vI 7) (eI 7) (by kernel_rfl) (Args.v (vI v332) (eI v332) (by kernel_rfl) Args.nil)) (ok36 m 7 v332 v361 ev361 n (by omega)))) (by kernel_rfl) (by kernel_rfl) ?_
        refine Ops.seg' 1 3 (by kernel_rfl) ?_
        refine Ops.done (by kernel_rfl) ?_
        refine seqQ.n ?_
        refine Wp.ret (by kernel_rfl) ?_
        refine sqQ.r ?_
        refine blkQ.r ?_
        refine seqQ.r ?_
        cases h
        refine lpQ.r ?_
        refine blkQ.r ?_
        exact hrx355 _ hsx359 _ (RetOk.forget [1, 2, 3, 4, 5, 6, 21, 22, 23] (by kernel_rfl) (RetOk.mk' (.v (.agg [(vI v361.fCode), (vI v361.fIndex)])) (by kernel_rfl) (by kernel_rfl)))
      · refine Wp.skip (by kernel_rfl) ?_
        refine sqQ.n' ?_
        refine blkQ.n' ?_
        refine seqQ.n ?_
        refine Wp.region (by kernel_rfl) ?_
        refine Ops.seg' 3 3 (by kernel_rfl) ?_
        refine Ops.done (by kernel_rfl) ?_
        refine lpQ.n ⟨q1 ((.ptr 0 0) :: (.ptr 1 0) :: (dI (a0.fClasses.length : Int)) :: (dI v332) :: (.ptr 2 0) :: (dI (w64 (v350 + 1))) :: q14 ((dP e88 a0.fClasses) :: (dI (a0.fClasses.length : Int)) :: (dI v332) :: q40 (q40 (q3 [])))), [(.cells [(dP e88 a0.fClasses)]), (.cells [(dI 0), (dI 0)]), (.cells [(.v (.str v342.fName)), (dP e90 v342.fItems)])]⟩ (by kernel_rfl) ?_
        cases h
        exact ihx354 (w64 (v350 + 1))  _ hsx359 _ (by omega) hrx355 hxx356
    · refine Wp.exit (id := 2) (by kernel_rfl) ?_
      refine sqQ.x ?_
      refine seqQ.x ?_
      cases h
      refine lpQ.x ?_
      refine blkQ.x ⟨q1 ((.ptr 0 0) :: (.ptr 1 0) :: (dI (a0.fClasses.length : Int)) :: (dI v332) :: (.ptr 2 0) :: (dI v350) :: q14 ((dP e88 a0.fClasses) :: (dI (a0.fClasses.length : Int)) :: (dI v332) :: q40 (q40 (q3 [])))), [(.cells [(dP e88 a0.fClasses)]), (.cells [(dI 0), (dI 0)]), (.cells [(.v (.str v342.fName)), (dP e90 v342.fItems)])]⟩ (by kernel_rfl) ?_
      exact hxx356 v350  hsx359
theorem f28_hLx503 (m : Nat) (a0 : S51) (o : S27) (n : Nat) (hn : m + 6 ≤ n + 1)  : ∀ (kx334 : Nat) (v332 : Int)  (ox333 : S27 ⊕ (Int)), iter (fun (y : Int) => f28_B7 m a0 y) kx334 v332 = some ox333 → ∀ nx335, kx334 ≤ nx335 → (∀ r, ox333 = .inl r → ∀ σ, RetOk (X28 n) (resOf Proofs.Tryd.prog 28) (e27 r) σ → (seqQ (X28 n) (cR (cR (cR (cR C28)))) (fnQ (X28 n).E.T (resOf Proofs.Tryd.prog 28) (e27 o))) .ret σ) → (∀ (y : Int) , ox333 = .inr y → (seqQ (X28 n) (cR (cR (cR (cR C28)))) (fnQ (X28 n).E.T (resOf Proofs.Tryd.prog 28) (e27 o))) .normal ⟨q1 ((.ptr 0 0) :: (.ptr 1 0) :: (dI (a0.fClasses.length : Int)) :: q17 ((dP e88 a0.fClasses) :: (dI (a0.fClasses.length : Int)) :: (dI y) :: q40 (q40 (q3 [])))), [(.cells [(dP e88 a0.fClasses)]), (.cells [(dI 0), (dI 0)])]⟩) → Lp (X28 n) [1, 2, 3, 21, 22, 23] 2 (cL (cL (cR (cL (cR (cR (cR C28))))))) nx335 ⟨q1 ((.ptr 0 0) :: (.ptr 1 0) :: (dI (a0.fClasses.length : Int)) :: q17 ((dP e88 a0.fClasses) :: (dI (a0.fClasses.length : Int)) :: (dI v332) :: q40 (q40 (q3 [])))), [(.cells [(dP e88 a0.fClasses)]), (.cells [(dI 0), (dI 0)])]⟩ (blkQ (X28 n) 0 [2] 2 (seqQ (X28 n) (cR (cR (cR (cR C28)))) (fnQ (X28 n).E.T (resOf Proofs.Tryd.prog 28) (e27 o)))) := by
  intro kx334
  induction kx334 with
  | zero => intro v332  ox333 h; exact (iter_zero h).elim
  | succ kx334 ihx336 =>
    intro v332  ox333 h nx335 hnx339 hrx337 hxx338
    obtain ⟨nx335, rfl⟩ : ∃ q, nx335 = q + 1 := ⟨nx335 - 1, by omega⟩
    obtain ⟨sx340, h, hsx341⟩ := iter_some h
    have h : f28_B7 m a0 v332 = some sx340 := h
    unfold f28_B7 at h
    refine Lp.succ ?_
    refine Wp.seq' (by kernel_rfl) ?_
    refine Wp.region (by kernel_rfl) ?_
    refine Ops.seg' 1 1 (by kernel_rfl) ?_
    refine Ops.done (by kernel_rfl) ?_
    refine seqQ.n ?_
    refine Wp.seq' (by kernel_rfl) ?_
    refine Wp.cnd h [1, 2, 3, 21, 22, 23] 2 (by kernel_rfl) (fun h => ?_) (fun h => ?_)
    · refine Wp.skip (by kernel_rfl) ?_
      refine sqQ.n' ?_
      refine seqQ.n ?_
      refine Wp.seq' (by kernel_rfl) ?_
      refine Wp.block' 1 [1, 2, 3, 21, 22, 23] 2 (by kernel_rfl) ?_
      refine Wp.seq' (by kernel_rfl) ?_
      refine Wp.region (by kernel_rfl) ?_
      refine Ops.seg' 1 1 (by kernel_rfl) ?_
      obtain ⟨v342, ev342, h⟩ := bnd_some h
      refine Ops.one' 2 (fun h0 e0 => (ix_r (T := T) h0 50 89 2 .plain e88 a0.fClasses v332 v342 ev342 (by kernel_rfl) (by kernel_rfl) (fun _ => rfl))) (by kernel_rfl) (by kernel_rfl) ?_
      refine Ops.seg' 4 6 (by kernel_rfl) ?_
      refine Ops.done (by kernel_rfl) ?_
      refine seqQ.n ?_
      refine Wp.seq' (by kernel_rfl) ?_
      refine Wp.seq' (by kernel_rfl) ?_
      refine Wp.region (by kernel_rfl) ?_
      refine Ops.seg' 2 2 (by kernel_rfl) ?_
      obtain ⟨v343, ev343, h⟩ := bnd_some h
      refine Ops.one' 3 (fun h0 e0 => (call_ok (E' := EG) (h := h0) (by kernel_rfl) (Args.v (.str v342.fName) (eS v342.fName) (by kernel_rfl) Args.nil) (ok35 m v342.fName v343 ev343 n (by omega)))) (by kernel_rfl) (by kernel_rfl) ?_
      refine Ops.seg' 1 4 (by kernel_rfl) ?_
      refine Ops.done (by kernel_rfl) ?_
      refine seqQ.n ?_
      refine Wp.cnd h [1, 2, 3, 4, 5, 21, 22, 23] 3 (by kernel_rfl) (fun h => ?_) (fun h => ?_)
      · refine Wp.seq' (by kernel_rfl) ?_
        refine Wp.region (by kernel_rfl) ?_
        refine Ops.seg' 1 1 (by kernel_rfl) ?_
        obtain ⟨v344, ev344, h⟩ := bnd_some h
        refine Ops.one' 2 (fun h0 e0 => (call_ok (E' := EG) (h := h0) (by kernel_rfl) (Args.v (vI 10) (eI 10) (by kernel_rfl) (Args.v (vI v332) (eI v332) (by kernel_rfl) Args.nil)) (ok36 m 10 v332 v344 ev344 n (by omega)))) (by kernel_rfl) (by kernel_rfl) ?_
        refine Ops.seg' 1 3 (by kernel_rfl) ?_
        refine Ops.done (by kernel_rfl) ?_
        refine seqQ.n ?_
        refine Wp.ret (by kernel_rfl) ?_
        refine sqQ.r ?_
        refine seqQ.r ?_
        refine blkQ.r ?_
        refine seqQ.r ?_
        cases h
        refine lpQ.r ?_
        refine blkQ.r ?_
        exact hrx337 _ hsx341 _ (RetOk.forget [1, 2, 3, 21, 22, 23] (by kernel_rfl) (RetOk.mk' (.v (.agg [(vI v344.fCode), (vI v344.fIndex)])) (by kernel_rfl) (by kernel_rfl)))
      · refine Wp.skip (by kernel_rfl) ?_
        refine sqQ.n' ?_
        refine seqQ.n ?_
        refine Wp.seq' (by kernel_rfl) ?_
        refine Wp.seq' (by kernel_rfl) ?_
        refine Wp.region (by kernel_rfl) ?_
        refine Ops.seg' 1 1 (by kernel_rfl) ?_
        refine Ops.done (by kernel_rfl) ?_
        refine seqQ.n ?_
        refine Wp.block' 2 [1, 2, 3, 4, 5, 21, 22, 23] 3 (by kernel_rfl) ?_
        have hLx362 := f28_hLx362 m a0 o n hn v332 v342 nx335
        refine Wp.loop' [1, 2, 3, 4, 5, 6, 21, 22, 23] 3 (by kernel_rfl) ⟨q1 ((.ptr 0 0) :: (.ptr 1 0) :: (dI (a0.fClasses.length : Int)) :: (dI v332) :: (.ptr 2 0) :: (dI 0) :: q14 ((dP e88 a0.fClasses) :: (dI (a0.fClasses.length : Int)) :: (dI v332) :: q40 (q40 (q3 [])))), [(.cells [(dP e88 a0.fClasses)]), (.cells [(dI 0), (dI 0)]), (.cells [(.v (.str v342.fName)), (dP e90 v342.fItems)])]⟩ (by kernel_rfl) ?_
        rcases brk_some h with ⟨r364, er364, h⟩ | ⟨y363, ey363, h⟩
        · refine hLx362 _ 0  _ er364 n (by omega) (fun r er σ hσ => ?_) (fun y  ey => by cases ey)
          cases er
          refine seqQ.r ?_
          refine blkQ.r ?_
          refine seqQ.r ?_
          refine lpQ.r ?_
          cases h
          refine blkQ.r ?_
          exact hrx337 _ hsx341 _ (RetOk.forget [1, 2, 3, 21, 22, 23] (by kernel_rfl) hσ)
        · refine hLx362 _ 0  _ ey363 n (by omega) (fun r er => by cases er) (fun y  ey => ?_)
          cases ey
          refine seqQ.n ?_
          refine Wp.seq' (by kernel_rfl) ?_
          refine Wp.seq' (by kernel_rfl) ?_
          refine Wp.region (by kernel_rfl) ?_
          refine Ops.seg' 2 2 (by kernel_rfl) ?_
          refine Ops.one' 3 (fun h0 e0 => (len_r (T := T) h0 87 91 .plain e90 v342.fItems (by kernel_rfl))) (by kernel_rfl) (by kernel_rfl) ?_
          refine Ops.seg' 1 4 (by kernel_rfl) ?_
          refine Ops.done (by kernel_rfl) ?_
          refine seqQ.n ?_
          refine Wp.cnd h [1, 2, 3, 4, 5, 21, 22, 23] 3 (by kernel_rfl) (fun h => ?_) (fun h => ?_)
          · refine Wp.seq' (by kernel_rfl) ?_
            refine Wp.region (by kernel_rfl) ?_
            refine Ops.seg' 1 1 (by kernel_rfl) ?_
            obtain ⟨v365, ev365, h⟩ := bnd_some h
            refine Ops.one' 2 (fun h0 e0 => (call_ok (E' := EG) (h := h0) (by kernel_rfl) (Args.v (vI 2) (eI 2) (by kernel_rfl) (Args.v (vI v332) (eI v332) (by kernel_rfl) Args.nil)) (ok36 m 2 v332 v365 ev365 n (by omega)))) (by kernel_rfl) (by kernel_rfl) ?_
            refine Ops.seg' 1 3 (by kernel_rfl) ?_
            refine Ops.done (by kernel_rfl) ?_
            refine seqQ.n ?_
            refine Wp.ret (by kernel_rfl) ?_
            refine sqQ.r ?_
            refine seqQ.r ?_
            refine blkQ.r ?_
            refine seqQ.r ?_
            cases h
            refine lpQ.r ?_
            refine blkQ.r ?_
            exact hrx337 _ hsx341 _ (RetOk.forget [1, 2, 3, 21, 22, 23] (by kernel_rfl) (RetOk.mk' (.v (.agg [(vI v365.fCode), (vI v365.fIndex)])) (by kernel_rfl) (by kernel_rfl)))
          · refine Wp.skip (by kernel_rfl) ?_
            refine sqQ.n' ?_
            refine seqQ.n ?_
            refine Wp.seq' (by kernel_rfl) ?_
            refine Wp.region (by kernel_rfl) ?_
            refine Ops.seg' 2 2 (by kernel_rfl) ?_
            refine Ops.one' 3 (fun h0 e0 => (len_r (T := T) h0 87 91 .plain e90 v342.fItems (by kernel_rfl))) (by kernel_rfl) (by kernel_rfl) ?_
            refine Ops.seg' 1 4 (by kernel_rfl) ?_
            refine Ops.done (by kernel_rfl) ?_
            refine seqQ.n ?_
            refine Wp.block' 4 [1, 2, 3, 21, 22, 23] 3 (by kernel_rfl) ?_
            have hLx500 := f28_hLx500 m a0 o n hn v332 v342 nx335
            refine Wp.loop' [1, 2, 3, 4, 21, 22, 23, 57, 58, 59] 3 (by kernel_rfl) ⟨q1 ((.ptr 0 0) :: (.ptr 1 0) :: (dI (a0.fClasses.length : Int)) :: (dI v332) :: q16 ((dP e88 a0.fClasses) :: (dI (a0.fClasses.length : Int)) :: (dI v332) :: q33 ((dP e90 v342.fItems) :: (dI (v342.fItems.length : Int)) :: (dI 0) :: q40 (q7 [])))), [(.cells [(dP e88 a0.fClasses)]), (.cells [(dI 0), (dI 0)]), (.cells [(.v (.str v342.fName)), (dP e90 v342.fItems)])]⟩ (by kernel_rfl) ?_
            rcases brk_some h with ⟨r502, er502, h⟩ | ⟨y501, ey501, h⟩
            · refine hLx500 _ 0  _ er502 n (by omega) (fun r er σ hσ => ?_) (fun y  ey => by cases ey)
              cases er
              refine blkQ.r ?_
              refine seqQ.r ?_
              refine lpQ.r ?_
              cases h
              refine blkQ.r ?_
              exact hrx337 _ hsx341 _ (RetOk.forget [1, 2, 3, 21, 22, 23] (by kernel_rfl) hσ)
            · refine hLx500 _ 0  _ ey501 n (by omega) (fun r er => by cases er) (fun y  ey => ?_)
              cases ey
              refine blkQ.n' ?_
              refine seqQ.n ?_
              refine Wp.region (by kernel_rfl) ?_
              refine Ops.seg' 2 2 (by kernel_rfl) ?_
              refine Ops.done (by kernel_rfl) ?_
              refine lpQ.n ⟨q1 ((.ptr 0 0) :: (.ptr 1 0) :: (dI (a0.fClasses.length : Int)) :: q17 ((dP e88 a0.fClasses) :: (dI (a0.fClasses.length : Int)) :: (dI (w64 (v332 + 1))) :: q40 (q40 (q3 [])))), [(.cells [(dP e88 a0.fClasses)]), (.cells [(dI 0), (dI 0)])]⟩ (by kernel_rfl) ?_
              cases h
              exact ihx336 (w64 (v332 + 1))  _ hsx341 _ (by omega) hrx337 hxx338
    · refine Wp.exit (id := 0) (by kernel_rfl) ?_
      refine sqQ.x ?_
      refine seqQ.x ?_
      cases h
      refine lpQ.x ?_
      refine blkQ.x ⟨q1 ((.ptr 0 0) :: (.ptr 1 0) :: (dI (a0.fClasses.length : Int)) :: q17 ((dP e88 a0.fClasses) :: (dI (a0.fClasses.length : Int)) :: (dI v332) :: q40 (q40 (q3 [])))), [(.cells [(dP e88 a0.fClasses)]), (.cells [(dI 0), (dI 0)])]⟩ (by kernel_rfl) ?_
      exact hxx338 v332  hsx341
theorem ok28 (m : Nat) (a0 : S51) (o : S27) (h : f28 m a0 = some o) (n : Nat) (hn : m + 6 ≤ n) : Fn Proofs.Tryd.prog EG n 28 [.v (e51 a0)] (e27 o) := by
  obtain ⟨n, rfl⟩ : ∃ q, n = q + 1 := ⟨n - 1, by omega⟩
  unfold f28 at h
  refine Fn.of (by kernel_rfl) (by kernel_rfl) (by kernel_rfl) ⟨(.v (.agg [(vP e88 a0.fClasses)])) :: u40 (u40 (u26 [])), []⟩ (by kernel_rfl) ?_
  refine Wp.seq' (by kernel_rfl) ?_
  refine Wp.region (by kernel_rfl) ?_
  refine Ops.seg' 2 2 (by kernel_rfl) ?_
  refine Ops.done (by kernel_rfl) ?_
  refine seqQ.n ?_
  refine Wp.seq' (by kernel_rfl) ?_
  refine Wp.region (by kernel_rfl) ?_
  refine Ops.seg' 2 2 (by kernel_rfl) ?_
  refine Ops.one' 3 (fun h0 e0 => (len_r (T := T) h0 50 89 .plain e88 a0.fClasses (by kernel_rfl))) (by kernel_rfl) (by kernel_rfl) ?_
  refine Ops.seg' 1 4 (by kernel_rfl) ?_
  refine Ops.done (by kernel_rfl) ?_
  refine seqQ.n ?_
  refine Wp.seq' (by kernel_rfl) ?_
  refine Wp.seq' (by kernel_rfl) ?_
  refine Wp.region (by kernel_rfl) ?_
  refine Ops.seg' 3 3 (by kernel_rfl) ?_
  refine Ops.hv (fun K => ∀ (d3 d4 : D) (v5 : Bool) (v6 : Bool), f28_r8 m a0 v6 = some o → K 6 ⟨(.v (.agg [(vP e88 a0.fClasses)])) :: (.ptr 0 0) :: (.ptr 1 0) :: (dI (a0.fClasses.length : Int)) :: u6 ((.ptr 0 0) :: (dP e88 a0.fClasses) :: (dI (a0.fClasses.length : Int)) :: (dI (a0.fClasses.length : Int)) :: (dB v5) :: (dB v5) :: d3 :: d4 :: (dB v6) :: u40 (u40 (u8 []))), [(.cells [(dP e88 a0.fClasses)]), (.cells [(dI 0), (dI 0)])]⟩) ?_ fun J28j7 => ?_
  · intro d3 d4 v5 v6 h
    unfold f28_r8 at h
    refine Ops.done (by kernel_rfl) ?_
    refine seqQ.n ?_
    refine Wp.cnd h [1, 2, 3] 2 (by kernel_rfl) (fun h => ?_) (fun h => ?_)
    · refine Wp.seq' (by kernel_rfl) ?_
      refine Wp.region (by kernel_rfl) ?_
      obtain ⟨v8, ev8, h⟩ := bnd_some h
      refine Ops.one' 1 (fun h0 e0 => (call_ok (E' := EG) (h := h0) (by kernel_rfl) (Args.v (vI 9) (eI 9) (by kernel_rfl) (Args.v (vI (-1)) (eI (-1)) (by kernel_rfl) Args.nil)) (ok36 m 9 (-1) v8 ev8 n (by omega)))) (by kernel_rfl) (by kernel_rfl) ?_
      refine Ops.seg' 1 2 (by kernel_rfl) ?_
      refine Ops.done (by kernel_rfl) ?_
      refine seqQ.n ?_
      refine Wp.ret (by kernel_rfl) ?_
      refine sqQ.r ?_
      refine seqQ.r ?_
      exact fnQ.r' (X28 n) (fun z => (e27 z)) h (RetOk.mk' (.v (.agg [(vI v8.fCode), (vI v8.fIndex)])) (by kernel_rfl) (by kernel_rfl))
    · refine Wp.skip (by kernel_rfl) ?_
      refine sqQ.n' ?_
      refine seqQ.n ?_
      refine Wp.seq' (by kernel_rfl) ?_
      refine Wp.seq' (by kernel_rfl) ?_
      refine Wp.region (by kernel_rfl) ?_
      refine Ops.seg' 2 2 (by kernel_rfl) ?_
      refine Ops.one' 3 (fun h0 e0 => (len_r (T := T) h0 50 89 .plain e88 a0.fClasses (by kernel_rfl))) (by kernel_rfl) (by kernel_rfl) ?_
      refine Ops.seg' 1 4 (by kernel_rfl) ?_
      refine Ops.done (by kernel_rfl) ?_
      refine seqQ.n ?_
      refine Wp.block' 0 [2] 2 (by kernel_rfl) ?_
      have hLx503 := f28_hLx503 m a0 o n hn 
      refine Wp.loop' [1, 2, 3, 21, 22, 23] 2 (by kernel_rfl) ⟨q1 ((.ptr 0 0) :: (.ptr 1 0) :: (dI (a0.fClasses.length : Int)) :: q17 ((dP e88 a0.fClasses) :: (dI (a0.fClasses.length : Int)) :: (dI 0) :: q40 (q40 (q3 [])))), [(.cells [(dP e88 a0.fClasses)]), (.cells [(dI 0), (dI 0)])]⟩ (by kernel_rfl) ?_
      rcases brk_some h with ⟨r505, er505, h⟩ | ⟨y504, ey504, h⟩
      · refine hLx503 _ 0  _ er505 n (by omega) (fun r er σ hσ => ?_) (fun y  ey => by cases ey)
        cases er
        refine seqQ.r ?_
        exact fnQ.r' (X28 n) (fun z => (e27 z)) h hσ
      · refine hLx503 _ 0  _ ey504 n (by omega) (fun r er => by cases er) (fun y  ey => ?_)
        cases ey
        refine seqQ.n ?_
        refine Wp.seq' (by kernel_rfl) ?_
        refine Wp.region (by kernel_rfl) ?_
        refine Ops.seg' 2 2 (by kernel_rfl) ?_
        refine Ops.done (by kernel_rfl) ?_
        refine seqQ.n ?_
        refine Wp.ret (by kernel_rfl) ?_
        exact fnQ.r' (X28 n) (fun z => (e27 z)) h (RetOk.mk' (.v (.agg [(vI 0), (vI 0)])) (by kernel_rfl) (by kernel_rfl))
  refine Ops.hv (fun K => ∀ v1 : Bool, f28_r8 m a0 (v1 || (decide ((a0.fClasses.length : Int) > 40))) = some o → K 3 ⟨(.v (.agg [(vP e88 a0.fClasses)])) :: (.ptr 0 0) :: (.ptr 1 0) :: (dI (a0.fClasses.length : Int)) :: u6 ((.ptr 0 0) :: (dP e88 a0.fClasses) :: (dI (a0.fClasses.length : Int)) :: (dI (a0.fClasses.length : Int)) :: (dB v1) :: (dB v1) :: u40 (u40 (u11 []))), [(.cells [(dP e88 a0.fClasses)]), (.cells [(dI 0), (dI 0)])]⟩) ?_ fun G28g2 => Ops.st _ (by kernel_rfl) (G28g2 ((a0.fClasses.length : Int) == 0) h)
  intro v1 h
  cases v1
  · refine Ops.seg' 3 6 (by kernel_rfl) ?_
    exact Ops.st _ (by kernel_rfl) (J28j7 (dI (a0.fClasses.length : Int)) (dB (decide ((a0.fClasses.length : Int) > 40))) false (decide ((a0.fClasses.length : Int) > 40)) h)
  · refine Ops.seg' 3 6 (by kernel_rfl) ?_
    exact Ops.st _ (by kernel_rfl) (J28j7 U U true true h)

/-! ### 71 glosswright/glosswrightref6.CompareTexts -/
def f71_r1 (m : Nat) (a0 : (List ByteArray)) (a1 : (List ByteArray)) (v28 : Int) (v45 : Bool) : Option (Stp Int (Int)) :=
  cnd v45
  (bnd (idx a0 v28) fun v47 =>
  bnd (idx a1 v28) fun v48 =>
  cnd (Op.bytesLess v47.toList v48.toList)
  (some (.ret (-1)))
  (bnd (idx a0 v28) fun v49 =>
  bnd (idx a1 v28) fun v50 =>
  cnd (!(Op.bytesLess v49.toList v50.toList || v49.toList == v50.toList))
  (some (.ret 1))
  (some (.nxt (w64 (v28 + 1))))))
  (some (.brk v28))
def f71_B2 (m : Nat) (a0 : (List ByteArray)) (a1 : (List ByteArray)) (v28 : Int) : Option (Stp Int (Int)) :=
  f71_r1 m a0 a1 v28 ((decide (v28 < (a0.length : Int))) && (decide (v28 < (a1.length : Int))))
def f71 (m : Nat) (a0 : (List ByteArray)) (a1 : (List ByteArray)) : Option Int :=
  brk (iter (fun (y : Int) => f71_B2 m a0 a1 y) m 0) some fun y52 =>
  some (w64 ((a0.length : Int) - (a1.length : Int)))
noncomputable abbrev X71 (n : Nat) : Cx := cxOf Proofs.Tryd.prog EG 71 n
noncomputable def C71 : Code := bodyOf Proofs.Tryd.prog 71
theorem ok71 (m : Nat) (a0 : (List ByteArray)) (a1 : (List ByteArray)) (o : Int) (h : f71 m a0 a1 = some o) (n : Nat) (hn : m + 1 ≤ n) : Fn Proofs.Tryd.prog EG n 71 [.v ((eL eS) a0), .v ((eL eS) a1)] (eI o) := by
  obtain ⟨n, rfl⟩ : ∃ q, n = q + 1 := ⟨n - 1, by omega⟩
  unfold f71 at h
  refine Fn.of (by kernel_rfl) (by kernel_rfl) (by kernel_rfl) ⟨(dP eS a0) :: (dP eS a1) :: u39 [], []⟩ (by kernel_rfl) ?_
  refine Wp.seq' (by kernel_rfl) ?_
  refine Wp.region (by kernel_rfl) ?_
  refine Ops.seg' 1 1 (by kernel_rfl) ?_
  refine Ops.done (by kernel_rfl) ?_
  refine seqQ.n ?_
  refine Wp.seq' (by kernel_rfl) ?_
  refine Wp.seq' (by kernel_rfl) ?_
  refine Wp.region (by kernel_rfl) ?_
  refine Ops.seg' 1 1 (by kernel_rfl) ?_
  refine Ops.done (by kernel_rfl) ?_
  refine seqQ.n ?_
  refine Wp.block' 0 [0, 1, 4] 0 (by kernel_rfl) ?_
  have hLx51 : ∀ (kx30 : Nat) (v28 : Int)  (ox29 : Int ⊕ (Int)), iter (fun (y : Int) => f71_B2 m a0 a1 y) kx30 v28 = some ox29 → ∀ nx31, kx30 ≤ nx31 → (∀ r, ox29 = .inl r → ∀ σ, RetOk (X71 n) (resOf Proofs.Tryd.prog 71) (eI r) σ → (seqQ (X71 n) (cR (cR C71)) (fnQ (X71 n).E.T (resOf Proofs.Tryd.prog 71) (eI o))) .ret σ) → (∀ (y : Int) , ox29 = .inr y → (seqQ (X71 n) (cR (cR C71)) (fnQ (X71 n).E.T (resOf Proofs.Tryd.prog 71) (eI o))) .normal ⟨(dP eS a0) :: (dP eS a1) :: q2 ((dI 0) :: (dI y) :: q35 []), []⟩) → Lp (X71 n) [0, 1, 4, 5] 0 (cL (cL (cR (cL (cR C71))))) nx31 ⟨(dP eS a0) :: (dP eS a1) :: q2 ((dI 0) :: (dI v28) :: q35 []), []⟩ (blkQ (X71 n) 0 [0, 1, 4] 0 (seqQ (X71 n) (cR (cR C71)) (fnQ (X71 n).E.T (resOf Proofs.Tryd.prog 71) (eI o)))) := by
    intro kx30
    induction kx30 with
    | zero => intro v28  ox29 h; exact (iter_zero h).elim
    | succ kx30 ihx32 =>
      intro v28  ox29 h nx31 hnx35 hrx33 hxx34
      obtain ⟨nx31, rfl⟩ : ∃ q, nx31 = q + 1 := ⟨nx31 - 1, by omega⟩
      obtain ⟨sx36, h, hsx37⟩ := iter_some h
      have h : f71_B2 m a0 a1 v28 = some sx36 := h
      unfold f71_B2 at h
      refine Lp.succ ?_
      refine Wp.seq' (by kernel_rfl) ?_
      refine Wp.seq' (by kernel_rfl) ?_
      refine Wp.region (by kernel_rfl) ?_
      refine Ops.seg' 2 2 (by kernel_rfl) ?_
      refine Ops.one' 3 (fun h0 e0 => (len_r (T := T) h0 36 9 .plain eS a0 (by kernel_rfl))) (by kernel_rfl) (by kernel_rfl) ?_
      refine Ops.seg' 2 5 (by kernel_rfl) ?_
      refine Ops.hv (fun K => ∀ (d40 d41 d42 d43 : D) (v44 : Bool) (v45 : Bool), f71_r1 m a0 a1 v28 v45 = some sx36 → K 10 ⟨(dP eS a0) :: (dP eS a1) :: q2 ((dI 0) :: (dI v28) :: (dI v28) :: (dP eS a0) :: (dI (a0.length : Int)) :: (dB v44) :: (dB v44) :: d40 :: d41 :: d42 :: d43 :: (dB v45) :: q25 []), []⟩) ?_ fun J71j46 => ?_
      · intro d40 d41 d42 d43 v44 v45 h
        unfold f71_r1 at h
        refine Ops.done (by kernel_rfl) ?_
        refine seqQ.n ?_
        refine Wp.cnd h [0, 1, 4, 5] 0 (by kernel_rfl) (fun h => ?_) (fun h => ?_)
        · refine Wp.skip (by kernel_rfl) ?_
          refine sqQ.n' ?_
          refine seqQ.n ?_
          refine Wp.seq' (by kernel_rfl) ?_
          refine Wp.block' 1 [0, 1, 4, 5] 0 (by kernel_rfl) ?_
          refine Wp.seq' (by kernel_rfl) ?_
          refine Wp.seq' (by kernel_rfl) ?_
          refine Wp.region (by kernel_rfl) ?_
          refine Ops.seg' 2 2 (by kernel_rfl) ?_
          obtain ⟨v47, ev47, h⟩ := bnd_some h
          refine Ops.one' 3 (fun h0 e0 => (ix_r (T := T) h0 36 9 1 .plain eS a0 v28 v47 ev47 (by kernel_rfl) (by kernel_rfl) (fun _ => rfl))) (by kernel_rfl) (by kernel_rfl) ?_
          refine Ops.seg' 3 6 (by kernel_rfl) ?_
          obtain ⟨v48, ev48, h⟩ := bnd_some h
          refine Ops.one' 7 (fun h0 e0 => (ix_r (T := T) h0 36 9 1 .plain eS a1 v28 v48 ev48 (by kernel_rfl) (by kernel_rfl) (fun _ => rfl))) (by kernel_rfl) (by kernel_rfl) ?_
          refine Ops.seg' 2 9 (by kernel_rfl) ?_
          refine Ops.done (by kernel_rfl) ?_
          refine seqQ.n ?_
          refine Wp.cnd h [0, 1, 4, 5] 0 (by kernel_rfl) (fun h => ?_) (fun h => ?_)
          · refine Wp.seq' (by kernel_rfl) ?_
            refine Wp.region (by kernel_rfl) ?_
            refine Ops.seg' 1 1 (by kernel_rfl) ?_
            refine Ops.done (by kernel_rfl) ?_
            refine seqQ.n ?_
            refine Wp.ret (by kernel_rfl) ?_
            refine sqQ.r ?_
            refine seqQ.r ?_
            refine blkQ.r ?_
            refine seqQ.r ?_
            cases h
            refine lpQ.r ?_
            refine blkQ.r ?_
            exact hrx33 _ hsx37 _ (RetOk.forget [0, 1, 4, 5] (by kernel_rfl) (RetOk.mk' (dI (-1)) (by kernel_rfl) (by kernel_rfl)))
          · refine Wp.skip (by kernel_rfl) ?_
            refine sqQ.n' ?_
            refine seqQ.n ?_
            refine Wp.seq' (by kernel_rfl) ?_
            refine Wp.region (by kernel_rfl) ?_
            refine Ops.seg' 2 2 (by kernel_rfl) ?_
            obtain ⟨v49, ev49, h⟩ := bnd_some h
            refine Ops.one' 3 (fun h0 e0 => (ix_r (T := T) h0 36 9 1 .plain eS a0 v28 v49 ev49 (by kernel_rfl) (by kernel_rfl) (fun _ => rfl))) (by kernel_rfl) (by kernel_rfl) ?_
            refine Ops.seg' 3 6 (by kernel_rfl) ?_
            obtain ⟨v50, ev50, h⟩ := bnd_some h
            refine Ops.one' 7 (fun h0 e0 => (ix_r (T := T) h0 36 9 1 .plain eS a1 v28 v50 ev50 (by kernel_rfl) (by kernel_rfl) (fun _ => rfl))) (by kernel_rfl) (by kernel_rfl) ?_
            refine Ops.seg' 2 9 (by kernel_rfl) ?_
            refine Ops.done (by kernel_rfl) ?_
            refine seqQ.n ?_
            refine Wp.cnd h [0, 1, 4, 5] 0 (by kernel_rfl) (fun h => ?_) (fun h => ?_)
            · refine Wp.seq' (by kernel_rfl) ?_
              refine Wp.region (by kernel_rfl) ?_
              refine Ops.seg' 1 1 (by kernel_rfl) ?_
              refine Ops.done (by kernel_rfl) ?_
              refine seqQ.n ?_
              refine Wp.ret (by kernel_rfl) ?_
              refine sqQ.r ?_
              refine blkQ.r ?_
              refine seqQ.r ?_
              cases h
              refine lpQ.r ?_
              refine blkQ.r ?_
              exact hrx33 _ hsx37 _ (RetOk.forget [0, 1, 4, 5] (by kernel_rfl) (RetOk.mk' (dI 1) (by kernel_rfl) (by kernel_rfl)))
            · refine Wp.skip (by kernel_rfl) ?_
              refine sqQ.n' ?_
              refine blkQ.n' ?_
              refine seqQ.n ?_
              refine Wp.region (by kernel_rfl) ?_
              refine Ops.seg' 3 3 (by kernel_rfl) ?_
              refine Ops.done (by kernel_rfl) ?_
              refine lpQ.n ⟨(dP eS a0) :: (dP eS a1) :: q2 ((dI 0) :: (dI (w64 (v28 + 1))) :: q35 []), []⟩ (by kernel_rfl) ?_
              cases h
              exact ihx32 (w64 (v28 + 1))  _ hsx37 _ (by omega) hrx33 hxx34
        · refine Wp.exit (id := 0) (by kernel_rfl) ?_
          refine sqQ.x ?_
          refine seqQ.x ?_
          cases h
          refine lpQ.x ?_
          refine blkQ.x ⟨(dP eS a0) :: (dP eS a1) :: q2 ((dI 0) :: (dI v28) :: q35 []), []⟩ (by kernel_rfl) ?_
          exact hxx34 v28  hsx37
      refine Ops.hv (fun K => ∀ v38 : Bool, f71_r1 m a0 a1 v28 (v38 && (decide (v28 < (a1.length : Int)))) = some sx36 → K 5 ⟨(dP eS a0) :: (dP eS a1) :: q2 ((dI 0) :: (dI v28) :: (dI v28) :: (dP eS a0) :: (dI (a0.length : Int)) :: (dB v38) :: (dB v38) :: q30 []), []⟩) ?_ fun G71g39 => Ops.st _ (by kernel_rfl) (G71g39 (decide (v28 < (a0.length : Int))) h)
      intro v38 h
      cases v38
      · refine Ops.seg' 5 10 (by kernel_rfl) ?_
        exact Ops.st _ (by kernel_rfl) (J71j46 U U U U false false h)
      · refine Ops.seg' 2 7 (by kernel_rfl) ?_
        refine Ops.one' 8 (fun h0 e0 => (len_r (T := T) h0 36 9 .plain eS a1 (by kernel_rfl))) (by kernel_rfl) (by kernel_rfl) ?_
        refine Ops.seg' 2 10 (by kernel_rfl) ?_
        exact Ops.st _ (by kernel_rfl) (J71j46 (dI v28) (dP eS a1) (dI (a1.length : Int)) (dB (decide (v28 < (a1.length : Int)))) true (decide (v28 < (a1.length : Int))) h)
  refine Wp.loop' [0, 1, 4, 5] 0 (by kernel_rfl) ⟨(dP eS a0) :: (dP eS a1) :: q2 ((dI 0) :: (dI 0) :: q35 []), []⟩ (by kernel_rfl) ?_
  rcases brk_some h with ⟨r53, er53, h⟩ | ⟨y52, ey52, h⟩
  · refine hLx51 _ 0  _ er53 n (by omega) (fun r er σ hσ => ?_) (fun y  ey => by cases ey)
    cases er
    refine seqQ.r ?_
    exact fnQ.r' (X71 n) (fun z => (eI z)) h hσ
  · refine hLx51 _ 0  _ ey52 n (by omega) (fun r er => by cases er) (fun y  ey => ?_)
    cases ey
    refine seqQ.n ?_
    refine Wp.seq' (by kernel_rfl) ?_
    refine Wp.region (by kernel_rfl) ?_
    refine Ops.seg' 1 1 (by kernel_rfl) ?_
    refine Ops.one' 2 (fun h0 e0 => (len_r (T := T) h0 36 9 .plain eS a0 (by kernel_rfl))) (by kernel_rfl) (by kernel_rfl) ?_
    refine Ops.seg' 1 3 (by kernel_rfl) ?_
    refine Ops.one' 4 (fun h0 e0 => (len_r (T := T) h0 36 9 .plain eS a1 (by kernel_rfl))) (by kernel_rfl) (by kernel_rfl) ?_
    refine Ops.seg' 2 6 (by kernel_rfl) ?_
    refine Ops.done (by kernel_rfl) ?_
    refine seqQ.n ?_
    refine Wp.ret (by kernel_rfl) ?_
    exact fnQ.r' (X71 n) (fun z => (eI z)) h (RetOk.mk' (dI (w64 ((a0.length : Int) - (a1.length : Int)))) (by kernel_rfl) (by kernel_rfl))

/-! ### 59 glosswright/glosswrightref6.EntryBefore -/
def f59 (m : Nat) (a0 : S61) (a1 : S61) : Option Bool :=
  cnd (!(a0.fForm.toList == a1.fForm.toList))
  (some (Op.bytesLess a0.fForm.toList a1.fForm.toList))
  (cnd (!(a0.fBase.toList == a1.fBase.toList))
  (some (Op.bytesLess a0.fBase.toList a1.fBase.toList))
  (bnd (f71 m a0.fTags a1.fTags) fun v1 =>
  cnd (v1 != 0)
  (some (decide (v1 < 0)))
  (some (decide (a0.fWeight < a1.fWeight)))))
noncomputable abbrev X59 (n : Nat) : Cx := cxOf Proofs.Tryd.prog EG 59 n
noncomputable def C59 : Code := bodyOf Proofs.Tryd.prog 59
theorem ok59 (m : Nat) (a0 : S61) (a1 : S61) (o : Bool) (h : f59 m a0 a1 = some o) (n : Nat) (hn : m + 2 ≤ n) : Fn Proofs.Tryd.prog EG n 59 [.v (e61 a0), .v (e61 a1)] (eB o) := by
  obtain ⟨n, rfl⟩ : ∃ q, n = q + 1 := ⟨n - 1, by omega⟩
  unfold f59 at h
  refine Fn.of (by kernel_rfl) (by kernel_rfl) (by kernel_rfl) ⟨(.v (.agg [(.str a0.fBase), (.str a0.fForm), (vP eS a0.fTags), (vI a0.fWeight)])) :: (.v (.agg [(.str a1.fBase), (.str a1.fForm), (vP eS a1.fTags), (vI a1.fWeight)])) :: u38 [], []⟩ (by kernel_rfl) ?_
  refine Wp.seq' (by kernel_rfl) ?_
  refine Wp.region (by kernel_rfl) ?_
  refine Ops.seg' 3 3 (by kernel_rfl) ?_
  refine Ops.done (by kernel_rfl) ?_
  refine seqQ.n ?_
  refine Wp.seq' (by kernel_rfl) ?_
  refine Wp.seq' (by kernel_rfl) ?_
  refine Wp.region (by kernel_rfl) ?_
  refine Ops.seg' 5 5 (by kernel_rfl) ?_
  refine Ops.done (by kernel_rfl) ?_
  refine seqQ.n ?_
  refine Wp.cnd h [2, 3, 4] 2 (by kernel_rfl) (fun h => ?_) (fun h => ?_)
  · refine Wp.seq' (by kernel_rfl) ?_
    refine Wp.region (by kernel_rfl) ?_
    refine Ops.seg' 6 6 (by kernel_rfl) ?_
    refine Ops.done (by kernel_rfl) ?_
    refine seqQ.n ?_
    refine Wp.ret (by kernel_rfl) ?_
    refine sqQ.r ?_
    refine seqQ.r ?_
    exact fnQ.r' (X59 n) (fun z => (eB z)) h (RetOk.mk' (dB (Op.bytesLess a0.fForm.toList a1.fForm.toList)) (by kernel_rfl) (by kernel_rfl))
  · refine Wp.skip (by kernel_rfl) ?_
    refine sqQ.n' ?_
    refine seqQ.n ?_
    refine Wp.seq' (by kernel_rfl) ?_
    refine Wp.seq' (by kernel_rfl) ?_
    refine Wp.region (by kernel_rfl) ?_
    refine Ops.seg' 5 5 (by kernel_rfl) ?_
    refine Ops.done (by kernel_rfl) ?_
    refine seqQ.n ?_
    refine Wp.cnd h [2, 3, 4] 2 (by kernel_rfl) (fun h => ?_) (fun h => ?_)
    · refine Wp.seq' (by kernel_rfl) ?_
      refine Wp.region (by kernel_rfl) ?_
      refine Ops.seg' 6 6 (by kernel_rfl) ?_
      refine Ops.done (by kernel_rfl) ?_
      refine seqQ.n ?_
      refine Wp.ret (by kernel_rfl) ?_
      refine sqQ.r ?_
      refine seqQ.r ?_
      exact fnQ.r' (X59 n) (fun z => (eB z)) h (RetOk.mk' (dB (Op.bytesLess a0.fBase.toList a1.fBase.toList)) (by kernel_rfl) (by kernel_rfl))
    · refine Wp.skip (by kernel_rfl) ?_
      refine sqQ.n' ?_
      refine seqQ.n ?_
      refine Wp.seq' (by kernel_rfl) ?_
      refine Wp.seq' (by kernel_rfl) ?_
      refine Wp.region (by kernel_rfl) ?_
      refine Ops.seg' 4 4 (by kernel_rfl) ?_
      obtain ⟨v1, ev1, h⟩ := bnd_some h
      refine Ops.one' 5 (fun h0 e0 => (call_ok (E' := EG) (h := h0) (by kernel_rfl) (Args.v (vP eS a0.fTags) ((eL eS) a0.fTags) (by kernel_rfl) (Args.v (vP eS a1.fTags) ((eL eS) a1.fTags) (by kernel_rfl) Args.nil)) (ok71 m a0.fTags a1.fTags v1 ev1 n (by omega)))) (by kernel_rfl) (by kernel_rfl) ?_
      refine Ops.seg' 1 6 (by kernel_rfl) ?_
      refine Ops.done (by kernel_rfl) ?_
      refine seqQ.n ?_
      refine Wp.seq' (by kernel_rfl) ?_
      refine Wp.region (by kernel_rfl) ?_
      refine Ops.seg' 2 2 (by kernel_rfl) ?_
      refine Ops.done (by kernel_rfl) ?_
      refine seqQ.n ?_
      refine Wp.cnd h [2, 3, 4] 2 (by kernel_rfl) (fun h => ?_) (fun h => ?_)
      · refine Wp.seq' (by kernel_rfl) ?_
        refine Wp.region (by kernel_rfl) ?_
        refine Ops.seg' 3 3 (by kernel_rfl) ?_
        refine Ops.done (by kernel_rfl) ?_
        refine seqQ.n ?_
        refine Wp.ret (by kernel_rfl) ?_
        refine sqQ.r ?_
        refine seqQ.r ?_
        exact fnQ.r' (X59 n) (fun z => (eB z)) h (RetOk.mk' (dB (decide (v1 < 0))) (by kernel_rfl) (by kernel_rfl))
      · refine Wp.skip (by kernel_rfl) ?_
        refine sqQ.n' ?_
        refine seqQ.n ?_
        refine Wp.seq' (by kernel_rfl) ?_
        refine Wp.region (by kernel_rfl) ?_
        refine Ops.seg' 6 6 (by kernel_rfl) ?_
        refine Ops.done (by kernel_rfl) ?_
        refine seqQ.n ?_
        refine Wp.ret (by kernel_rfl) ?_
        exact fnQ.r' (X59 n) (fun z => (eB z)) h (RetOk.mk' (dB (decide (a0.fWeight < a1.fWeight))) (by kernel_rfl) (by kernel_rfl))

end Go.Abs
