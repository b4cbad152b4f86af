import Derived.Test.YthjhdnonlkooiaaDoorWEnv
namespace Go.Abs
set_option linter.unusedVariables false
set_option maxRecDepth 100000

/-! ### 98 cmp.isNaN[string] -/
def f98 (m : Nat) (a0 : ByteArray) : Option Bool :=
  some (!(a0.toList == a0.toList))
noncomputable abbrev X98 (n : Nat) : Cx := cxOf Proofs.Tryd.prog E0 98 n
noncomputable def C98 : Code := bodyOf Proofs.Tryd.prog 98
theorem ok98 (m : Nat) (a0 : ByteArray) (o : Bool) (h : f98 m a0 = some o) (n : Nat) (hn : m + 1 ≤ n) : Fn Proofs.Tryd.prog E0 n 98 [.v (eS a0)] (eB o) := by
  obtain ⟨n, rfl⟩ : ∃ q, n = q + 1 := ⟨n - 1, by omega⟩
  unfold f98 at h
  refine Fn.of (by kernel_rfl) (by kernel_rfl) (by kernel_rfl) ⟨(.v (.str a0)) :: u5 [], []⟩ (by kernel_rfl) ?_
  refine Wp.seq' (by kernel_rfl) ?_
  refine Wp.region (by kernel_rfl) ?_
  refine Ops.seg' 1 1 (by kernel_rfl) ?_
  refine Ops.done (by kernel_rfl) ?_
  refine seqQ.n ?_
  refine Wp.seq' (by kernel_rfl) ?_
  refine Wp.region (by kernel_rfl) ?_
  refine Ops.seg' 4 4 (by kernel_rfl) ?_
  refine Ops.done (by kernel_rfl) ?_
  refine seqQ.n ?_
  refine Wp.ret (by kernel_rfl) ?_
  exact fnQ.r' (X98 n) (fun z => (eB z)) h (RetOk.mk' (dB (!(a0.toList == a0.toList))) (by kernel_rfl) (by kernel_rfl))

/-! ### 77 cmp.Compare[string] -/
def f77 (m : Nat) (a0 : ByteArray) (a1 : ByteArray) : Option Int :=
  bnd (f98 m a0) fun v1 =>
  bnd (f98 m a1) fun v2 =>
  cnd v1
  (cnd v2
  (some 0)
  (some (-1)))
  (cnd v2
  (some 1)
  (cnd (Op.bytesLess a0.toList a1.toList)
  (some (-1))
  (cnd (!(Op.bytesLess a0.toList a1.toList || a0.toList == a1.toList))
  (some 1)
  (some 0))))
noncomputable abbrev X77 (n : Nat) : Cx := cxOf Proofs.Tryd.prog E0 77 n
noncomputable def C77 : Code := bodyOf Proofs.Tryd.prog 77
theorem ok77 (m : Nat) (a0 : ByteArray) (a1 : ByteArray) (o : Int) (h : f77 m a0 a1 = some o) (n : Nat) (hn : m + 2 ≤ n) : Fn Proofs.Tryd.prog E0 n 77 [.v (eS a0), .v (eS a1)] (eI o) := by
  obtain ⟨n, rfl⟩ : ∃ q, n = q + 1 := ⟨n - 1, by omega⟩
  unfold f77 at h
  refine Fn.of (by kernel_rfl) (by kernel_rfl) (by kernel_rfl) ⟨(.v (.str a0)) :: (.v (.str a1)) :: u18 [], []⟩ (by kernel_rfl) ?_
  refine Wp.seq' (by kernel_rfl) ?_
  refine Wp.region (by kernel_rfl) ?_
  refine Ops.seg' 1 1 (by kernel_rfl) ?_
  refine Ops.done (by kernel_rfl) ?_
  refine seqQ.n ?_
  refine Wp.seq' (by kernel_rfl) ?_
  refine Wp.region (by kernel_rfl) ?_
  refine Ops.seg' 1 1 (by kernel_rfl) ?_
  obtain ⟨v1, ev1, h⟩ := bnd_some h
  refine Ops.one' 2 (fun h0 e0 => (call_ok (E' := E0) (h := h0) (by kernel_rfl) (Args.v (.str a0) (eS a0) (by kernel_rfl) Args.nil) (ok98 m a0 v1 ev1 n (by omega)))) (by kernel_rfl) (by kernel_rfl) ?_
  refine Ops.seg' 1 3 (by kernel_rfl) ?_
  refine Ops.done (by kernel_rfl) ?_
  refine seqQ.n ?_
  refine Wp.seq' (by kernel_rfl) ?_
  refine Wp.region (by kernel_rfl) ?_
  refine Ops.seg' 1 1 (by kernel_rfl) ?_
  obtain ⟨v2, ev2, h⟩ := bnd_some h
  refine Ops.one' 2 (fun h0 e0 => (call_ok (E' := E0) (h := h0) (by kernel_rfl) (Args.v (.str a1) (eS a1) (by kernel_rfl) Args.nil) (ok98 m a1 v2 ev2 n (by omega)))) (by kernel_rfl) (by kernel_rfl) ?_
  refine Ops.seg' 1 3 (by kernel_rfl) ?_
  refine Ops.done (by kernel_rfl) ?_
  refine seqQ.n ?_
  refine Wp.seq' (by kernel_rfl) ?_
  refine Wp.seq' (by kernel_rfl) ?_
  refine Wp.region (by kernel_rfl) ?_
  refine Ops.seg' 1 1 (by kernel_rfl) ?_
  refine Ops.done (by kernel_rfl) ?_
  refine seqQ.n ?_
  refine Wp.cnd h [0, 1, 4, 6] 0 (by kernel_rfl) (fun h => ?_) (fun h => ?_)
  · refine Wp.seq' (by kernel_rfl) ?_
    refine Wp.seq' (by kernel_rfl) ?_
    refine Wp.region (by kernel_rfl) ?_
    refine Ops.seg' 1 1 (by kernel_rfl) ?_
    refine Ops.done (by kernel_rfl) ?_
    refine seqQ.n ?_
    refine Wp.cnd h [4] 0 (by kernel_rfl) (fun h => ?_) (fun h => ?_)
    · refine Wp.seq' (by kernel_rfl) ?_
      refine Wp.region (by kernel_rfl) ?_
      refine Ops.seg' 1 1 (by kernel_rfl) ?_
      refine Ops.done (by kernel_rfl) ?_
      refine seqQ.n ?_
      refine Wp.ret (by kernel_rfl) ?_
      refine sqQ.r ?_
      refine seqQ.r ?_
      refine sqQ.r ?_
      refine seqQ.r ?_
      exact fnQ.r' (X77 n) (fun z => (eI z)) h (RetOk.mk' (dI 0) (by kernel_rfl) (by kernel_rfl))
    · refine Wp.skip (by kernel_rfl) ?_
      refine sqQ.n' ?_
      refine seqQ.n ?_
      refine Wp.seq' (by kernel_rfl) ?_
      refine Wp.region (by kernel_rfl) ?_
      refine Ops.seg' 1 1 (by kernel_rfl) ?_
      refine Ops.done (by kernel_rfl) ?_
      refine seqQ.n ?_
      refine Wp.ret (by kernel_rfl) ?_
      refine sqQ.r ?_
      refine seqQ.r ?_
      exact fnQ.r' (X77 n) (fun z => (eI z)) h (RetOk.mk' (dI (-1)) (by kernel_rfl) (by kernel_rfl))
  · refine Wp.skip (by kernel_rfl) ?_
    refine sqQ.n' ?_
    refine seqQ.n ?_
    refine Wp.seq' (by kernel_rfl) ?_
    refine Wp.seq' (by kernel_rfl) ?_
    refine Wp.region (by kernel_rfl) ?_
    refine Ops.seg' 1 1 (by kernel_rfl) ?_
    refine Ops.done (by kernel_rfl) ?_
    refine seqQ.n ?_
    refine Wp.cnd h [0, 1, 4] 0 (by kernel_rfl) (fun h => ?_) (fun h => ?_)
    · refine Wp.seq' (by kernel_rfl) ?_
      refine Wp.region (by kernel_rfl) ?_
      refine Ops.seg' 1 1 (by kernel_rfl) ?_
      refine Ops.done (by kernel_rfl) ?_
      refine seqQ.n ?_
      refine Wp.ret (by kernel_rfl) ?_
      refine sqQ.r ?_
      refine seqQ.r ?_
      exact fnQ.r' (X77 n) (fun z => (eI z)) h (RetOk.mk' (dI 1) (by kernel_rfl) (by kernel_rfl))
    · refine Wp.skip (by kernel_rfl) ?_
      refine sqQ.n' ?_
      refine seqQ.n ?_
      refine Wp.seq' (by kernel_rfl) ?_
      refine Wp.seq' (by kernel_rfl) ?_
      refine Wp.region (by kernel_rfl) ?_
      refine Ops.seg' 3 3 (by kernel_rfl) ?_
      refine Ops.done (by kernel_rfl) ?_
      refine seqQ.n ?_
      refine Wp.cnd h [0, 1, 4] 0 (by kernel_rfl) (fun h => ?_) (fun h => ?_)
      · refine Wp.seq' (by kernel_rfl) ?_
        refine Wp.region (by kernel_rfl) ?_
        refine Ops.seg' 1 1 (by kernel_rfl) ?_
        refine Ops.done (by kernel_rfl) ?_
        refine seqQ.n ?_
        refine Wp.ret (by kernel_rfl) ?_
        refine sqQ.r ?_
        refine seqQ.r ?_
        exact fnQ.r' (X77 n) (fun z => (eI z)) h (RetOk.mk' (dI (-1)) (by kernel_rfl) (by kernel_rfl))
      · refine Wp.skip (by kernel_rfl) ?_
        refine sqQ.n' ?_
        refine seqQ.n ?_
        refine Wp.seq' (by kernel_rfl) ?_
        refine Wp.seq' (by kernel_rfl) ?_
        refine Wp.region (by kernel_rfl) ?_
        refine Ops.seg' 3 3 (by kernel_rfl) ?_
        refine Ops.done (by kernel_rfl) ?_
        refine seqQ.n ?_
        refine Wp.cnd h [4] 0 (by kernel_rfl) (fun h => ?_) (fun h => ?_)
        · refine Wp.seq' (by kernel_rfl) ?_
          refine Wp.region (by kernel_rfl) ?_
          refine Ops.seg' 1 1 (by kernel_rfl) ?_
          refine Ops.done (by kernel_rfl) ?_
          refine seqQ.n ?_
          refine Wp.ret (by kernel_rfl) ?_
          refine sqQ.r ?_
          refine seqQ.r ?_
          exact fnQ.r' (X77 n) (fun z => (eI z)) h (RetOk.mk' (dI 1) (by kernel_rfl) (by kernel_rfl))
        · refine Wp.skip (by kernel_rfl) ?_
          refine sqQ.n' ?_
          refine seqQ.n ?_
          refine Wp.seq' (by kernel_rfl) ?_
          refine Wp.region (by kernel_rfl) ?_
          refine Ops.seg' 1 1 (by kernel_rfl) ?_
          refine Ops.done (by kernel_rfl) ?_
          refine seqQ.n ?_
          refine Wp.ret (by kernel_rfl) ?_
          exact fnQ.r' (X77 n) (fun z => (eI z)) h (RetOk.mk' (dI 0) (by kernel_rfl) (by kernel_rfl))

/-! ### 78 slices.Compare[[]string,string] -/
def f78_B1 (m : Nat) (a0 : (List ByteArray)) (a1 : (List ByteArray)) (v8 : Int) : Option (Stp Int (Int)) :=
  cnd (decide (v8 < (a0.length : Int)))
  (bnd (idx a0 v8) fun v18 =>
  cnd (decide (v8 ≥ (a1.length : Int)))
  (some (.ret 1))
  (bnd (idx a1 v8) fun v19 =>
  bnd (f77 m v18 v19) fun v20 =>
  cnd (v20 != 0)
  (some (.ret v20))
  (some (.nxt (w64 (v8 + 1))))))
  (some (.brk v8))
def f78 (m : Nat) (a0 : (List ByteArray)) (a1 : (List ByteArray)) : Option Int :=
  brk (iter (fun (y : Int) => f78_B1 m a0 a1 y) m 0) some fun y22 =>
  cnd (decide ((a0.length : Int) < (a1.length : Int)))
  (some (-1))
  (some 0)
noncomputable abbrev X78 (n : Nat) : Cx := cxOf Proofs.Tryd.prog E0 78 n
noncomputable def C78 : Code := bodyOf Proofs.Tryd.prog 78
theorem ok78 (m : Nat) (a0 : (List ByteArray)) (a1 : (List ByteArray)) (o : Int) (h : f78 m a0 a1 = some o) (n : Nat) (hn : m + 3 ≤ n) : Fn Proofs.Tryd.prog E0 n 78 [.v ((eL eS) a0), .v ((eL eS) a1)] (eI o) := by
  obtain ⟨n, rfl⟩ : ∃ q, n = q + 1 := ⟨n - 1, by omega⟩
  unfold f78 at h
  refine Fn.of (by kernel_rfl) (by kernel_rfl) (by kernel_rfl) ⟨(dP eS a0) :: (dP eS a1) :: u34 [], []⟩ (by kernel_rfl) ?_
  refine Wp.seq' (by kernel_rfl) ?_
  refine Wp.region (by kernel_rfl) ?_
  refine Ops.seg' 1 1 (by kernel_rfl) ?_
  refine Ops.done (by kernel_rfl) ?_
  refine seqQ.n ?_
  refine Wp.seq' (by kernel_rfl) ?_
  refine Wp.seq' (by kernel_rfl) ?_
  refine Wp.region (by kernel_rfl) ?_
  refine Ops.seg' 1 1 (by kernel_rfl) ?_
  refine Ops.one' 2 (fun h0 e0 => (len_r (T := T) h0 36 9 .plain eS a0 (by kernel_rfl))) (by kernel_rfl) (by kernel_rfl) ?_
  refine Ops.seg' 1 3 (by kernel_rfl) ?_
  refine Ops.done (by kernel_rfl) ?_
  refine seqQ.n ?_
  refine Wp.block' 0 [0, 1, 4] 0 (by kernel_rfl) ?_
  have hLx21 : ∀ (kx10 : Nat) (v8 : Int)  (ox9 : Int ⊕ (Int)), iter (fun (y : Int) => f78_B1 m a0 a1 y) kx10 v8 = some ox9 → ∀ nx11, kx10 ≤ nx11 → (∀ r, ox9 = .inl r → ∀ σ, RetOk (X78 n) (resOf Proofs.Tryd.prog 78) (eI r) σ → (seqQ (X78 n) (cR (cR C78)) (fnQ (X78 n).E.T (resOf Proofs.Tryd.prog 78) (eI o))) .ret σ) → (∀ (y : Int) , ox9 = .inr y → (seqQ (X78 n) (cR (cR C78)) (fnQ (X78 n).E.T (resOf Proofs.Tryd.prog 78) (eI o))) .normal ⟨(dP eS a0) :: (dP eS a1) :: q2 ((dI 0) :: q4 ((dP eS a0) :: (dI (a0.length : Int)) :: (dI y) :: q24 [])), []⟩) → Lp (X78 n) [0, 1, 4, 9, 10, 11] 0 (cL (cL (cR (cL (cR C78))))) nx11 ⟨(dP eS a0) :: (dP eS a1) :: q2 ((dI 0) :: q4 ((dP eS a0) :: (dI (a0.length : Int)) :: (dI v8) :: q24 [])), []⟩ (blkQ (X78 n) 0 [0, 1, 4] 0 (seqQ (X78 n) (cR (cR C78)) (fnQ (X78 n).E.T (resOf Proofs.Tryd.prog 78) (eI o)))) := by
    intro kx10
    induction kx10 with
    | zero => intro v8  ox9 h; exact (iter_zero h).elim
    | succ kx10 ihx12 =>
      intro v8  ox9 h nx11 hnx15 hrx13 hxx14
      obtain ⟨nx11, rfl⟩ : ∃ q, nx11 = q + 1 := ⟨nx11 - 1, by omega⟩
      obtain ⟨sx16, h, hsx17⟩ := iter_some h
      have h : f78_B1 m a0 a1 v8 = some sx16 := h
      unfold f78_B1 at h
      refine Lp.succ ?_
      refine Wp.seq' (by kernel_rfl) ?_
      refine Wp.region (by kernel_rfl) ?_
      refine Ops.seg' 1 1 (by kernel_rfl) ?_
      refine Ops.done (by kernel_rfl) ?_
      refine seqQ.n ?_
      refine Wp.seq' (by kernel_rfl) ?_
      refine Wp.cnd h [0, 1, 4, 9, 10, 11] 0 (by kernel_rfl) (fun h => ?_) (fun h => ?_)
      · refine Wp.skip (by kernel_rfl) ?_
        refine sqQ.n' ?_
        refine seqQ.n ?_
        refine Wp.seq' (by kernel_rfl) ?_
        refine Wp.block' 1 [0, 1, 4, 9, 10, 11] 0 (by kernel_rfl) ?_
        refine Wp.seq' (by kernel_rfl) ?_
        refine Wp.region (by kernel_rfl) ?_
        refine Ops.seg' 1 1 (by kernel_rfl) ?_
        obtain ⟨v18, ev18, h⟩ := bnd_some h
        refine Ops.one' 2 (fun h0 e0 => (ix_r (T := T) h0 36 9 1 .plain eS a0 v8 v18 ev18 (by kernel_rfl) (by kernel_rfl) (fun _ => rfl))) (by kernel_rfl) (by kernel_rfl) ?_
        refine Ops.seg' 3 5 (by kernel_rfl) ?_
        refine Ops.done (by kernel_rfl) ?_
        refine seqQ.n ?_
        refine Wp.seq' (by kernel_rfl) ?_
        refine Wp.seq' (by kernel_rfl) ?_
        refine Wp.region (by kernel_rfl) ?_
        refine Ops.seg' 2 2 (by kernel_rfl) ?_
        refine Ops.one' 3 (fun h0 e0 => (len_r (T := T) h0 36 9 .plain eS a1 (by kernel_rfl))) (by kernel_rfl) (by kernel_rfl) ?_
        refine Ops.seg' 1 4 (by kernel_rfl) ?_
        refine Ops.done (by kernel_rfl) ?_
        refine seqQ.n ?_
        refine Wp.cnd h [0, 1, 4, 5, 6, 9, 10, 11] 0 (by kernel_rfl) (fun h => ?_) (fun h => ?_)
        · refine Wp.seq' (by kernel_rfl) ?_
          refine Wp.region (by kernel_rfl) ?_
          refine Ops.seg' 1 1 (by kernel_rfl) ?_
          refine Ops.done (by kernel_rfl) ?_
          refine seqQ.n ?_
          refine Wp.ret (by kernel_rfl) ?_
          refine sqQ.r ?_
          refine seqQ.r ?_
          refine blkQ.r ?_
          refine seqQ.r ?_
          cases h
          refine lpQ.r ?_
          refine blkQ.r ?_
          exact hrx13 _ hsx17 _ (RetOk.forget [0, 1, 4, 9, 10, 11] (by kernel_rfl) (RetOk.mk' (dI 1) (by kernel_rfl) (by kernel_rfl)))
        · refine Wp.skip (by kernel_rfl) ?_
          refine sqQ.n' ?_
          refine seqQ.n ?_
          refine Wp.seq' (by kernel_rfl) ?_
          refine Wp.region (by kernel_rfl) ?_
          refine Ops.seg' 2 2 (by kernel_rfl) ?_
          obtain ⟨v19, ev19, h⟩ := bnd_some h
          refine Ops.one' 3 (fun h0 e0 => (ix_r (T := T) h0 36 9 1 .plain eS a1 v8 v19 ev19 (by kernel_rfl) (by kernel_rfl) (fun _ => rfl))) (by kernel_rfl) (by kernel_rfl) ?_
          refine Ops.seg' 2 5 (by kernel_rfl) ?_
          refine Ops.done (by kernel_rfl) ?_
          refine seqQ.n ?_
          refine Wp.seq' (by kernel_rfl) ?_
          refine Wp.region (by kernel_rfl) ?_
          refine Ops.seg' 2 2 (by kernel_rfl) ?_
          obtain ⟨v20, ev20, h⟩ := bnd_some h
          refine Ops.one' 3 (fun h0 e0 => (call_ok (E' := E0) (h := h0) (by kernel_rfl) (Args.v (.str v18) (eS v18) (by kernel_rfl) (Args.v (.str v19) (eS v19) (by kernel_rfl) Args.nil)) (ok77 m v18 v19 v20 ev20 n (by omega)))) (by kernel_rfl) (by kernel_rfl) ?_
          refine Ops.seg' 1 4 (by kernel_rfl) ?_
          refine Ops.done (by kernel_rfl) ?_
          refine seqQ.n ?_
          refine Wp.seq' (by kernel_rfl) ?_
          refine Wp.region (by kernel_rfl) ?_
          refine Ops.seg' 2 2 (by kernel_rfl) ?_
          refine Ops.done (by kernel_rfl) ?_
          refine seqQ.n ?_
          refine Wp.cnd h [0, 1, 4, 9, 10, 11] 0 (by kernel_rfl) (fun h => ?_) (fun h => ?_)
          · refine Wp.seq' (by kernel_rfl) ?_
            refine Wp.region (by kernel_rfl) ?_
            refine Ops.seg' 2 2 (by kernel_rfl) ?_
            refine Ops.done (by kernel_rfl) ?_
            refine seqQ.n ?_
            refine Wp.ret (by kernel_rfl) ?_
            refine sqQ.r ?_
            refine blkQ.r ?_
            refine seqQ.r ?_
            cases h
            refine lpQ.r ?_
            refine blkQ.r ?_
            exact hrx13 _ hsx17 _ (RetOk.forget [0, 1, 4, 9, 10, 11] (by kernel_rfl) (RetOk.mk' (dI v20) (by kernel_rfl) (by kernel_rfl)))
          · refine Wp.skip (by kernel_rfl) ?_
            refine sqQ.n' ?_
            refine blkQ.n' ?_
            refine seqQ.n ?_
            refine Wp.region (by kernel_rfl) ?_
            refine Ops.seg' 2 2 (by kernel_rfl) ?_
            refine Ops.done (by kernel_rfl) ?_
            refine lpQ.n ⟨(dP eS a0) :: (dP eS a1) :: q2 ((dI 0) :: q4 ((dP eS a0) :: (dI (a0.length : Int)) :: (dI (w64 (v8 + 1))) :: q24 [])), []⟩ (by kernel_rfl) ?_
            cases h
            exact ihx12 (w64 (v8 + 1))  _ hsx17 _ (by omega) hrx13 hxx14
      · refine Wp.exit (id := 0) (by kernel_rfl) ?_
        refine sqQ.x ?_
        refine seqQ.x ?_
        cases h
        refine lpQ.x ?_
        refine blkQ.x ⟨(dP eS a0) :: (dP eS a1) :: q2 ((dI 0) :: q4 ((dP eS a0) :: (dI (a0.length : Int)) :: (dI v8) :: q24 [])), []⟩ (by kernel_rfl) ?_
        exact hxx14 v8  hsx17
  refine Wp.loop' [0, 1, 4, 9, 10, 11] 0 (by kernel_rfl) ⟨(dP eS a0) :: (dP eS a1) :: q2 ((dI 0) :: q4 ((dP eS a0) :: (dI (a0.length : Int)) :: (dI 0) :: q24 [])), []⟩ (by kernel_rfl) ?_
  rcases brk_some h with ⟨r23, er23, h⟩ | ⟨y22, ey22, h⟩
  · refine hLx21 _ 0  _ er23 n (by omega) (fun r er σ hσ => ?_) (fun y  ey => by cases ey)
    cases er
    refine seqQ.r ?_
    exact fnQ.r' (X78 n) (fun z => (eI z)) h hσ
  · refine hLx21 _ 0  _ ey22 n (by omega) (fun r er => by cases er) (fun y  ey => ?_)
    cases ey
    refine seqQ.n ?_
    refine Wp.seq' (by kernel_rfl) ?_
    refine Wp.seq' (by kernel_rfl) ?_
    refine Wp.region (by kernel_rfl) ?_
    refine Ops.seg' 1 1 (by kernel_rfl) ?_
    refine Ops.one' 2 (fun h0 e0 => (len_r (T := T) h0 36 9 .plain eS a0 (by kernel_rfl))) (by kernel_rfl) (by kernel_rfl) ?_
    refine Ops.seg' 1 3 (by kernel_rfl) ?_
    refine Ops.one' 4 (fun h0 e0 => (len_r (T := T) h0 36 9 .plain eS a1 (by kernel_rfl))) (by kernel_rfl) (by kernel_rfl) ?_
    refine Ops.seg' 1 5 (by kernel_rfl) ?_
    refine Ops.done (by kernel_rfl) ?_
    refine seqQ.n ?_
    refine Wp.cnd h [4] 0 (by kernel_rfl) (fun h => ?_) (fun h => ?_)
    · refine Wp.seq' (by kernel_rfl) ?_
      refine Wp.region (by kernel_rfl) ?_
      refine Ops.seg' 1 1 (by kernel_rfl) ?_
      refine Ops.done (by kernel_rfl) ?_
      refine seqQ.n ?_
      refine Wp.ret (by kernel_rfl) ?_
      refine sqQ.r ?_
      refine seqQ.r ?_
      exact fnQ.r' (X78 n) (fun z => (eI z)) h (RetOk.mk' (dI (-1)) (by kernel_rfl) (by kernel_rfl))
    · refine Wp.skip (by kernel_rfl) ?_
      refine sqQ.n' ?_
      refine seqQ.n ?_
      refine Wp.seq' (by kernel_rfl) ?_
      refine Wp.region (by kernel_rfl) ?_
      refine Ops.seg' 1 1 (by kernel_rfl) ?_
      refine Ops.done (by kernel_rfl) ?_
      refine seqQ.n ?_
      refine Wp.ret (by kernel_rfl) ?_
      exact fnQ.r' (X78 n) (fun z => (eI z)) h (RetOk.mk' (dI 0) (by kernel_rfl) (by kernel_rfl))

/-! ### 99 cmp.isNaN[int] -/
def f99 (m : Nat) (a0 : Int) : Option Bool :=
  some (a0 != a0)
noncomputable abbrev X99 (n : Nat) : Cx := cxOf Proofs.Tryd.prog E0 99 n
noncomputable def C99 : Code := bodyOf Proofs.Tryd.prog 99
theorem ok99 (m : Nat) (a0 : Int) (o : Bool) (h : f99 m a0 = some o) (n : Nat) (hn : m + 1 ≤ n) : Fn Proofs.Tryd.prog E0 n 99 [.v (eI a0)] (eB o) := by
  obtain ⟨n, rfl⟩ : ∃ q, n = q + 1 := ⟨n - 1, by omega⟩
  unfold f99 at h
  refine Fn.of (by kernel_rfl) (by kernel_rfl) (by kernel_rfl) ⟨(dI a0) :: u5 [], []⟩ (by kernel_rfl) ?_
  refine Wp.seq' (by kernel_rfl) ?_
  refine Wp.region (by kernel_rfl) ?_
  refine Ops.seg' 1 1 (by kernel_rfl) ?_
  refine Ops.done (by kernel_rfl) ?_
  refine seqQ.n ?_
  refine Wp.seq' (by kernel_rfl) ?_
  refine Wp.region (by kernel_rfl) ?_
  refine Ops.seg' 4 4 (by kernel_rfl) ?_
  refine Ops.done (by kernel_rfl) ?_
  refine seqQ.n ?_
  refine Wp.ret (by kernel_rfl) ?_
  exact fnQ.r' (X99 n) (fun z => (eB z)) h (RetOk.mk' (dB (a0 != a0)) (by kernel_rfl) (by kernel_rfl))

/-! ### 79 cmp.Compare[int] -/
def f79 (m : Nat) (a0 : Int) (a1 : Int) : Option Int :=
  bnd (f99 m a0) fun v1 =>
  bnd (f99 m a1) fun v2 =>
  cnd v1
  (cnd v2
  (some 0)
  (some (-1)))
  (cnd v2
  (some 1)
  (cnd (decide (a0 < a1))
  (some (-1))
  (cnd (decide (a0 > a1))
  (some 1)
  (some 0))))
noncomputable abbrev X79 (n : Nat) : Cx := cxOf Proofs.Tryd.prog E0 79 n
noncomputable def C79 : Code := bodyOf Proofs.Tryd.prog 79
theorem ok79 (m : Nat) (a0 : Int) (a1 : Int) (o : Int) (h : f79 m a0 a1 = some o) (n : Nat) (hn : m + 2 ≤ n) : Fn Proofs.Tryd.prog E0 n 79 [.v (eI a0), .v (eI a1)] (eI o) := by
  obtain ⟨n, rfl⟩ : ∃ q, n = q + 1 := ⟨n - 1, by omega⟩
  unfold f79 at h
  refine Fn.of (by kernel_rfl) (by kernel_rfl) (by kernel_rfl) ⟨(dI a0) :: (dI a1) :: u18 [], []⟩ (by kernel_rfl) ?_
  refine Wp.seq' (by kernel_rfl) ?_
  refine Wp.region (by kernel_rfl) ?_
  refine Ops.seg' 1 1 (by kernel_rfl) ?_
  refine Ops.done (by kernel_rfl) ?_
  refine seqQ.n ?_
  refine Wp.seq' (by kernel_rfl) ?_
  refine Wp.region (by kernel_rfl) ?_
  refine Ops.seg' 1 1 (by kernel_rfl) ?_
  obtain ⟨v1, ev1, h⟩ := bnd_some h
  refine Ops.one' 2 (fun h0 e0 => (call_ok (E' := E0) (h := h0) (by kernel_rfl) (Args.v (vI a0) (eI a0) (by kernel_rfl) Args.nil) (ok99 m a0 v1 ev1 n (by omega)))) (by kernel_rfl) (by kernel_rfl) ?_
  refine Ops.seg' 1 3 (by kernel_rfl) ?_
  refine Ops.done (by kernel_rfl) ?_
  refine seqQ.n ?_
  refine Wp.seq' (by kernel_rfl) ?_
  refine Wp.region (by kernel_rfl) ?_
  refine Ops.seg' 1 1 (by kernel_rfl) ?_
  obtain ⟨v2, ev2, h⟩ := bnd_some h
  refine Ops.one' 2 (fun h0 e0 => (call_ok (E' := E0) (h := h0) (by kernel_rfl) (Args.v (vI a1) (eI a1) (by kernel_rfl) Args.nil) (ok99 m a1 v2 ev2 n (by omega)))) (by kernel_rfl) (by kernel_rfl) ?_
  refine Ops.seg' 1 3 (by kernel_rfl) ?_
  refine Ops.done (by kernel_rfl) ?_
  refine seqQ.n ?_
  refine Wp.seq' (by kernel_rfl) ?_
  refine Wp.seq' (by kernel_rfl) ?_
  refine Wp.region (by kernel_rfl) ?_
  refine Ops.seg' 1 1 (by kernel_rfl) ?_
  refine Ops.done (by kernel_rfl) ?_
  refine seqQ.n ?_
  refine Wp.cnd h [0, 1, 4, 6] 0 (by kernel_rfl) (fun h => ?_) (fun h => ?_)
  · refine Wp.seq' (by kernel_rfl) ?_
    refine Wp.seq' (by kernel_rfl) ?_
    refine Wp.region (by kernel_rfl) ?_
    refine Ops.seg' 1 1 (by kernel_rfl) ?_
    refine Ops.done (by kernel_rfl) ?_
    refine seqQ.n ?_
    refine Wp.cnd h [4] 0 (by kernel_rfl) (fun h => ?_) (fun h => ?_)
    · refine Wp.seq' (by kernel_rfl) ?_
      refine Wp.region (by kernel_rfl) ?_
      refine Ops.seg' 1 1 (by kernel_rfl) ?_
      refine Ops.done (by kernel_rfl) ?_
      refine seqQ.n ?_
      refine Wp.ret (by kernel_rfl) ?_
      refine sqQ.r ?_
      refine seqQ.r ?_
      refine sqQ.r ?_
      refine seqQ.r ?_
      exact fnQ.r' (X79 n) (fun z => (eI z)) h (RetOk.mk' (dI 0) (by kernel_rfl) (by kernel_rfl))
    · refine Wp.skip (by kernel_rfl) ?_
      refine sqQ.n' ?_
      refine seqQ.n ?_
      refine Wp.seq' (by kernel_rfl) ?_
      refine Wp.region (by kernel_rfl) ?_
      refine Ops.seg' 1 1 (by kernel_rfl) ?_
      refine Ops.done (by kernel_rfl) ?_
      refine seqQ.n ?_
      refine Wp.ret (by kernel_rfl) ?_
      refine sqQ.r ?_
      refine seqQ.r ?_
      exact fnQ.r' (X79 n) (fun z => (eI z)) h (RetOk.mk' (dI (-1)) (by kernel_rfl) (by kernel_rfl))
  · refine Wp.skip (by kernel_rfl) ?_
    refine sqQ.n' ?_
    refine seqQ.n ?_
    refine Wp.seq' (by kernel_rfl) ?_
    refine Wp.seq' (by kernel_rfl) ?_
    refine Wp.region (by kernel_rfl) ?_
    refine Ops.seg' 1 1 (by kernel_rfl) ?_
    refine Ops.done (by kernel_rfl) ?_
    refine seqQ.n ?_
    refine Wp.cnd h [0, 1, 4] 0 (by kernel_rfl) (fun h => ?_) (fun h => ?_)
    · refine Wp.seq' (by kernel_rfl) ?_
      refine Wp.region (by kernel_rfl) ?_
      refine Ops.seg' 1 1 (by kernel_rfl) ?_
      refine Ops.done (by kernel_rfl) ?_
      refine seqQ.n ?_
      refine Wp.ret (by kernel_rfl) ?_
      refine sqQ.r ?_
      refine seqQ.r ?_
      exact fnQ.r' (X79 n) (fun z => (eI z)) h (RetOk.mk' (dI 1) (by kernel_rfl) (by kernel_rfl))
    · refine Wp.skip (by kernel_rfl) ?_
      refine sqQ.n' ?_
      refine seqQ.n ?_
      refine Wp.seq' (by kernel_rfl) ?_
      refine Wp.seq' (by kernel_rfl) ?_
      refine Wp.region (by kernel_rfl) ?_
      refine Ops.seg' 3 3 (by kernel_rfl) ?_
      refine Ops.done (by kernel_rfl) ?_
      refine seqQ.n ?_
      refine Wp.cnd h [0, 1, 4] 0 (by kernel_rfl) (fun h => ?_) (fun h => ?_)
      · refine Wp.seq' (by kernel_rfl) ?_
        refine Wp.region (by kernel_rfl) ?_
        refine Ops.seg' 1 1 (by kernel_rfl) ?_
        refine Ops.done (by kernel_rfl) ?_
        refine seqQ.n ?_
        refine Wp.ret (by kernel_rfl) ?_
        refine sqQ.r ?_
        refine seqQ.r ?_
        exact fnQ.r' (X79 n) (fun z => (eI z)) h (RetOk.mk' (dI (-1)) (by kernel_rfl) (by kernel_rfl))
      · refine Wp.skip (by kernel_rfl) ?_
        refine sqQ.n' ?_
        refine seqQ.n ?_
        refine Wp.seq' (by kernel_rfl) ?_
        refine Wp.seq' (by kernel_rfl) ?_
        refine Wp.region (by kernel_rfl) ?_
        refine Ops.seg' 3 3 (by kernel_rfl) ?_
        refine Ops.done (by kernel_rfl) ?_
        refine seqQ.n ?_
        refine Wp.cnd h [4] 0 (by kernel_rfl) (fun h => ?_) (fun h => ?_)
        · refine Wp.seq' (by kernel_rfl) ?_
          refine Wp.region (by kernel_rfl) ?_
          refine Ops.seg' 1 1 (by kernel_rfl) ?_
          refine Ops.done (by kernel_rfl) ?_
          refine seqQ.n ?_
          refine Wp.ret (by kernel_rfl) ?_
          refine sqQ.r ?_
          refine seqQ.r ?_
          exact fnQ.r' (X79 n) (fun z => (eI z)) h (RetOk.mk' (dI 1) (by kernel_rfl) (by kernel_rfl))
        · refine Wp.skip (by kernel_rfl) ?_
          refine sqQ.n' ?_
          refine seqQ.n ?_
          refine Wp.seq' (by kernel_rfl) ?_
          refine Wp.region (by kernel_rfl) ?_
          refine Ops.seg' 1 1 (by kernel_rfl) ?_
          refine Ops.done (by kernel_rfl) ?_
          refine seqQ.n ?_
          refine Wp.ret (by kernel_rfl) ?_
          exact fnQ.r' (X79 n) (fun z => (eI z)) h (RetOk.mk' (dI 0) (by kernel_rfl) (by kernel_rfl))

/-! ### 76 cmp.Or[int] -/
def f76_B1 (m : Nat) (a0 : (List Int)) (v4 : Int) : Option (Stp Int (Int)) :=
  cnd (decide (v4 < (a0.length : Int)))
  (bnd (idx a0 v4) fun v14 =>
  cnd (v14 != 0)
  (some (.ret v14))
  (some (.nxt (w64 (v4 + 1)))))
  (some (.brk v4))
def f76 (m : Nat) (a0 : (List Int)) : Option Int :=
  brk (iter (fun (y : Int) => f76_B1 m a0 y) m 0) some fun y16 =>
  some 0
noncomputable abbrev X76 (n : Nat) : Cx := cxOf Proofs.Tryd.prog E0 76 n
noncomputable def C76 : Code := bodyOf Proofs.Tryd.prog 76
theorem ok76 (m : Nat) (a0 : (List Int)) (o : Int) (h : f76 m a0 = some o) (n : Nat) (hn : m + 1 ≤ n) : Fn Proofs.Tryd.prog E0 n 76 [.v ((eL eI) a0)] (eI o) := by
  obtain ⟨n, rfl⟩ : ∃ q, n = q + 1 := ⟨n - 1, by omega⟩
  unfold f76 at h
  refine Fn.of (by kernel_rfl) (by kernel_rfl) (by kernel_rfl) ⟨(dP eI a0) :: u17 [], []⟩ (by kernel_rfl) ?_
  refine Wp.seq' (by kernel_rfl) ?_
  refine Wp.region (by kernel_rfl) ?_
  refine Ops.seg' 1 1 (by kernel_rfl) ?_
  refine Ops.done (by kernel_rfl) ?_
  refine seqQ.n ?_
  refine Wp.seq' (by kernel_rfl) ?_
  refine Wp.region (by kernel_rfl) ?_
  refine Ops.seg' 1 1 (by kernel_rfl) ?_
  refine Ops.done (by kernel_rfl) ?_
  refine seqQ.n ?_
  refine Wp.seq' (by kernel_rfl) ?_
  refine Wp.seq' (by kernel_rfl) ?_
  refine Wp.region (by kernel_rfl) ?_
  refine Ops.seg' 1 1 (by kernel_rfl) ?_
  refine Ops.one' 2 (fun h0 e0 => (len_r (T := T) h0 44 3 .plain eI a0 (by kernel_rfl))) (by kernel_rfl) (by kernel_rfl) ?_
  refine Ops.seg' 1 3 (by kernel_rfl) ?_
  refine Ops.done (by kernel_rfl) ?_
  refine seqQ.n ?_
  refine Wp.block' 0 [2, 3] 0 (by kernel_rfl) ?_
  have hLx15 : ∀ (kx6 : Nat) (v4 : Int)  (ox5 : Int ⊕ (Int)), iter (fun (y : Int) => f76_B1 m a0 y) kx6 v4 = some ox5 → ∀ nx7, kx6 ≤ nx7 → (∀ r, ox5 = .inl r → ∀ σ, RetOk (X76 n) (resOf Proofs.Tryd.prog 76) (eI r) σ → (seqQ (X76 n) (cR (cR (cR C76))) (fnQ (X76 n).E.T (resOf Proofs.Tryd.prog 76) (eI o))) .ret σ) → (∀ (y : Int) , ox5 = .inr y → (seqQ (X76 n) (cR (cR (cR C76))) (fnQ (X76 n).E.T (resOf Proofs.Tryd.prog 76) (eI o))) .normal ⟨q2 ((dI 0) :: (dI 0) :: q2 ((dP eI a0) :: (dI (a0.length : Int)) :: (dI y) :: q9 [])), []⟩) → Lp (X76 n) [2, 3, 6, 7, 8] 0 (cL (cL (cR (cL (cR (cR C76)))))) nx7 ⟨q2 ((dI 0) :: (dI 0) :: q2 ((dP eI a0) :: (dI (a0.length : Int)) :: (dI v4) :: q9 [])), []⟩ (blkQ (X76 n) 0 [2, 3] 0 (seqQ (X76 n) (cR (cR (cR C76))) (fnQ (X76 n).E.T (resOf Proofs.Tryd.prog 76) (eI o)))) := by
    intro kx6
    induction kx6 with
    | zero => intro v4  ox5 h; exact (iter_zero h).elim
    | succ kx6 ihx8 =>
      intro v4  ox5 h nx7 hnx11 hrx9 hxx10
      obtain ⟨nx7, rfl⟩ : ∃ q, nx7 = q + 1 := ⟨nx7 - 1, by omega⟩
      obtain ⟨sx12, h, hsx13⟩ := iter_some h
      have h : f76_B1 m a0 v4 = some sx12 := h
      unfold f76_B1 at h
      refine Lp.succ ?_
      refine Wp.seq' (by kernel_rfl) ?_
      refine Wp.region (by kernel_rfl) ?_
      refine Ops.seg' 1 1 (by kernel_rfl) ?_
      refine Ops.done (by kernel_rfl) ?_
      refine seqQ.n ?_
      refine Wp.seq' (by kernel_rfl) ?_
      refine Wp.cnd h [2, 3, 6, 7, 8] 0 (by kernel_rfl) (fun h => ?_) (fun h => ?_)
      · refine Wp.skip (by kernel_rfl) ?_
        refine sqQ.n' ?_
        refine seqQ.n ?_
        refine Wp.seq' (by kernel_rfl) ?_
        refine Wp.block' 1 [2, 3, 6, 7, 8] 0 (by kernel_rfl) ?_
        refine Wp.seq' (by kernel_rfl) ?_
        refine Wp.region (by kernel_rfl) ?_
        obtain ⟨v14, ev14, h⟩ := bnd_some h
        refine Ops.one' 1 (fun h0 e0 => (ix_r (T := T) h0 44 3 1 .plain eI a0 v4 v14 ev14 (by kernel_rfl) (by kernel_rfl) (fun _ => rfl))) (by kernel_rfl) (by kernel_rfl) ?_
        refine Ops.seg' 2 3 (by kernel_rfl) ?_
        refine Ops.done (by kernel_rfl) ?_
        refine seqQ.n ?_
        refine Wp.seq' (by kernel_rfl) ?_
        refine Wp.region (by kernel_rfl) ?_
        refine Ops.seg' 3 3 (by kernel_rfl) ?_
        refine Ops.done (by kernel_rfl) ?_
        refine seqQ.n ?_
        refine Wp.cnd h [2, 3, 6, 7, 8] 0 (by kernel_rfl) (fun h => ?_) (fun h => ?_)
        · refine Wp.seq' (by kernel_rfl) ?_
          refine Wp.region (by kernel_rfl) ?_
          refine Ops.seg' 2 2 (by kernel_rfl) ?_
          refine Ops.done (by kernel_rfl) ?_
          refine seqQ.n ?_
          refine Wp.ret (by kernel_rfl) ?_
          refine sqQ.r ?_
          refine blkQ.r ?_
          refine seqQ.r ?_
          cases h
          refine lpQ.r ?_
          refine blkQ.r ?_
          exact hrx9 _ hsx13 _ (RetOk.forget [2, 3, 6, 7, 8] (by kernel_rfl) (RetOk.mk' (dI v14) (by kernel_rfl) (by kernel_rfl)))
        · refine Wp.skip (by kernel_rfl) ?_
          refine sqQ.n' ?_
          refine blkQ.n' ?_
          refine seqQ.n ?_
          refine Wp.region (by kernel_rfl) ?_
          refine Ops.seg' 2 2 (by kernel_rfl) ?_
          refine Ops.done (by kernel_rfl) ?_
          refine lpQ.n ⟨q2 ((dI 0) :: (dI 0) :: q2 ((dP eI a0) :: (dI (a0.length : Int)) :: (dI (w64 (v4 + 1))) :: q9 [])), []⟩ (by kernel_rfl) ?_
          cases h
          exact ihx8 (w64 (v4 + 1))  _ hsx13 _ (by omega) hrx9 hxx10
      · refine Wp.exit (id := 0) (by kernel_rfl) ?_
        refine sqQ.x ?_
        refine seqQ.x ?_
        cases h
        refine lpQ.x ?_
        refine blkQ.x ⟨q2 ((dI 0) :: (dI 0) :: q2 ((dP eI a0) :: (dI (a0.length : Int)) :: (dI v4) :: q9 [])), []⟩ (by kernel_rfl) ?_
        exact hxx10 v4  hsx13
  refine Wp.loop' [2, 3, 6, 7, 8] 0 (by kernel_rfl) ⟨q2 ((dI 0) :: (dI 0) :: q2 ((dP eI a0) :: (dI (a0.length : Int)) :: (dI 0) :: q9 [])), []⟩ (by kernel_rfl) ?_
  rcases brk_some h with ⟨r17, er17, h⟩ | ⟨y16, ey16, h⟩
  · refine hLx15 _ 0  _ er17 n (by omega) (fun r er σ hσ => ?_) (fun y  ey => by cases ey)
    cases er
    refine seqQ.r ?_
    exact fnQ.r' (X76 n) (fun z => (eI z)) h hσ
  · refine hLx15 _ 0  _ ey16 n (by omega) (fun r er => by cases er) (fun y  ey => ?_)
    cases ey
    refine seqQ.n ?_
    refine Wp.seq' (by kernel_rfl) ?_
    refine Wp.region (by kernel_rfl) ?_
    refine Ops.seg' 2 2 (by kernel_rfl) ?_
    refine Ops.done (by kernel_rfl) ?_
    refine seqQ.n ?_
    refine Wp.ret (by kernel_rfl) ?_
    exact fnQ.r' (X76 n) (fun z => (eI z)) h (RetOk.mk' (dI 0) (by kernel_rfl) (by kernel_rfl))

/-! ### 56 glosswright/lexicon.OrderEntries -/
def f56 (m : Nat) (a0 : S61) (a1 : S61) : Option Int :=
  bnd (f77 m a0.fForm a1.fForm) fun v1 =>
  bnd (f77 m a0.fBase a1.fBase) fun v2 =>
  bnd (f78 m a0.fTags a1.fTags) fun v3 =>
  bnd (f79 m a0.fWeight a1.fWeight) fun v4 =>
  bnd (f76 m ([v1, v2, v3, v4])) fun v5 =>
  some v5
noncomputable abbrev X56 (n : Nat) : Cx := cxOf Proofs.Tryd.prog E0 56 n
noncomputable def C56 : Code := bodyOf Proofs.Tryd.prog 56
theorem ok56 (m : Nat) (a0 : S61) (a1 : S61) (o : Int) (h : f56 m a0 a1 = some o) (n : Nat) (hn : m + 4 ≤ n) : Fn Proofs.Tryd.prog E0 n 56 [.v (e61 a0), .v (e61 a1)] (eI o) := by
  obtain ⟨n, rfl⟩ : ∃ q, n = q + 1 := ⟨n - 1, by omega⟩
  unfold f56 at h
  refine Fn.of (by kernel_rfl) (by kernel_rfl) (by kernel_rfl) ⟨(.v (.agg [(.str a0.fBase), (.str a0.fForm), (vP eS a0.fTags), (vI a0.fWeight)])) :: (.v (.agg [(.str a1.fBase), (.str a1.fForm), (vP eS a1.fTags), (vI a1.fWeight)])) :: u25 [], []⟩ (by kernel_rfl) ?_
  refine Wp.seq' (by kernel_rfl) ?_
  refine Wp.region (by kernel_rfl) ?_
  refine Ops.seg' 3 3 (by kernel_rfl) ?_
  refine Ops.done (by kernel_rfl) ?_
  refine seqQ.n ?_
  refine Wp.seq' (by kernel_rfl) ?_
  refine Wp.region (by kernel_rfl) ?_
  refine Ops.seg' 4 4 (by kernel_rfl) ?_
  obtain ⟨v1, ev1, h⟩ := bnd_some h
  refine Ops.one' 5 (fun h0 e0 => (call_ok (E' := E0) (h := h0) (by kernel_rfl) (Args.v (.str a0.fForm) (eS a0.fForm) (by kernel_rfl) (Args.v (.str a1.fForm) (eS a1.fForm) (by kernel_rfl) Args.nil)) (ok77 m a0.fForm a1.fForm v1 ev1 n (by omega)))) (by kernel_rfl) (by kernel_rfl) ?_
  refine Ops.seg' 4 9 (by kernel_rfl) ?_
  obtain ⟨v2, ev2, h⟩ := bnd_some h
  refine Ops.one' 10 (fun h0 e0 => (call_ok (E' := E0) (h := h0) (by kernel_rfl) (Args.v (.str a0.fBase) (eS a0.fBase) (by kernel_rfl) (Args.v (.str a1.fBase) (eS a1.fBase) (by kernel_rfl) Args.nil)) (ok77 m a0.fBase a1.fBase v2 ev2 n (by omega)))) (by kernel_rfl) (by kernel_rfl) ?_
  refine Ops.seg' 4 14 (by kernel_rfl) ?_
  obtain ⟨v3, ev3, h⟩ := bnd_some h
  refine Ops.one' 15 (fun h0 e0 => (call_ok (E' := E0) (h := h0) (by kernel_rfl) (Args.v (vP eS a0.fTags) ((eL eS) a0.fTags) (by kernel_rfl) (Args.v (vP eS a1.fTags) ((eL eS) a1.fTags) (by kernel_rfl) Args.nil)) (ok78 m a0.fTags a1.fTags v3 ev3 n (by omega)))) (by kernel_rfl) (by kernel_rfl) ?_
  refine Ops.seg' 4 19 (by kernel_rfl) ?_
  obtain ⟨v4, ev4, h⟩ := bnd_some h
  refine Ops.one' 20 (fun h0 e0 => (call_ok (E' := E0) (h := h0) (by kernel_rfl) (Args.v (vI a0.fWeight) (eI a0.fWeight) (by kernel_rfl) (Args.v (vI a1.fWeight) (eI a1.fWeight) (by kernel_rfl) Args.nil)) (ok79 m a0.fWeight a1.fWeight v4 ev4 n (by omega)))) (by kernel_rfl) (by kernel_rfl) ?_
  refine Ops.seg' 1 21 (by kernel_rfl) ?_
  obtain ⟨v5, ev5, h⟩ := bnd_some h
  refine Ops.one' 22 (fun h0 e0 => (call_ok (E' := E0) (h := h0) (by kernel_rfl) (Args.v (.sl .nonfull (List.map eI ([v1, v2, v3, v4]))) ((eL eI) ([v1, v2, v3, v4])) (by kernel_rfl) Args.nil) (ok76 m ([v1, v2, v3, v4]) v5 ev5 n (by omega)))) (by kernel_rfl) (by kernel_rfl) ?_
  refine Ops.seg' 1 23 (by kernel_rfl) ?_
  refine Ops.done (by kernel_rfl) ?_
  refine seqQ.n ?_
  refine Wp.ret (by kernel_rfl) ?_
  exact fnQ.r' (X56 n) (fun z => (eI z)) h (RetOk.mk' (dI v5) (by kernel_rfl) (by kernel_rfl))

/-! ### 58 glosswright/lexicon.Entries$1 -/
def f58 (m : Nat) (a0 : S61) (a1 : S61) : Option Bool :=
  bnd (f56 m a0 a1) fun v1 =>
  some (v1 == 0)
noncomputable abbrev X58 (n : Nat) : Cx := cxOf Proofs.Tryd.prog E0 58 n
noncomputable def C58 : Code := bodyOf Proofs.Tryd.prog 58
theorem ok58 (m : Nat) (a0 : S61) (a1 : S61) (o : Bool) (h : f58 m a0 a1 = some o) (n : Nat) (hn : m + 5 ≤ n) : Fn Proofs.Tryd.prog E0 n 58 [.v (e61 a0), .v (e61 a1)] (eB o) := by
  obtain ⟨n, rfl⟩ : ∃ q, n = q + 1 := ⟨n - 1, by omega⟩
  unfold f58 at h
  refine Fn.of (by kernel_rfl) (by kernel_rfl) (by kernel_rfl) ⟨(.v (.agg [(.str a0.fBase), (.str a0.fForm), (vP eS a0.fTags), (vI a0.fWeight)])) :: (.v (.agg [(.str a1.fBase), (.str a1.fForm), (vP eS a1.fTags), (vI a1.fWeight)])) :: u7 [], []⟩ (by kernel_rfl) ?_
  refine Wp.seq' (by kernel_rfl) ?_
  refine Wp.region (by kernel_rfl) ?_
  refine Ops.seg' 3 3 (by kernel_rfl) ?_
  refine Ops.done (by kernel_rfl) ?_
  refine seqQ.n ?_
  refine Wp.seq' (by kernel_rfl) ?_
  refine Wp.region (by kernel_rfl) ?_
  refine Ops.seg' 2 2 (by kernel_rfl) ?_
  obtain ⟨v1, ev1, h⟩ := bnd_some h
  refine Ops.one' 3 (fun h0 e0 => (call_ok (E' := E0) (h := h0) (by kernel_rfl) (Args.v (.agg [(.str a0.fBase), (.str a0.fForm), (vP eS a0.fTags), (vI a0.fWeight)]) (e61 a0) (by kernel_rfl) (Args.v (.agg [(.str a1.fBase), (.str a1.fForm), (vP eS a1.fTags), (vI a1.fWeight)]) (e61 a1) (by kernel_rfl) Args.nil)) (ok56 m a0 a1 v1 ev1 n (by omega)))) (by kernel_rfl) (by kernel_rfl) ?_
  refine Ops.seg' 2 5 (by kernel_rfl) ?_
  refine Ops.done (by kernel_rfl) ?_
  refine seqQ.n ?_
  refine Wp.ret (by kernel_rfl) ?_
  exact fnQ.r' (X58 n) (fun z => (eB z)) h (RetOk.mk' (dB (v1 == 0)) (by kernel_rfl) (by kernel_rfl))

/-! ### 53 glosswright/lexicon.fault -/
def f53 (m : Nat) (a0 : Int) (a1 : Int) : Option S27 :=
  some ((⟨a0, a1⟩ : S27))
noncomputable abbrev X53 (n : Nat) : Cx := cxOf Proofs.Tryd.prog E 53 n
noncomputable def C53 : Code := bodyOf Proofs.Tryd.prog 53
theorem ok53 (m : Nat) (a0 : Int) (a1 : Int) (o : S27) (h : f53 m a0 a1 = some o) (n : Nat) (hn : m + 1 ≤ n) : Fn Proofs.Tryd.prog E n 53 [.v (eI a0), .v (eI a1)] (e27 o) := by
  obtain ⟨n, rfl⟩ : ∃ q, n = q + 1 := ⟨n - 1, by omega⟩
  unfold f53 at h
  refine Fn.of (by kernel_rfl) (by kernel_rfl) (by kernel_rfl) ⟨(dI a0) :: (dI a1) :: u6 [], []⟩ (by kernel_rfl) ?_
  refine Wp.seq' (by kernel_rfl) ?_
  refine Wp.region (by kernel_rfl) ?_
  refine Ops.seg' 1 1 (by kernel_rfl) ?_
  refine Ops.done (by kernel_rfl) ?_
  refine seqQ.n ?_
  refine Wp.seq' (by kernel_rfl) ?_
  refine Wp.region (by kernel_rfl) ?_
  refine Ops.seg' 4 4 (by kernel_rfl) ?_
  refine Ops.done (by kernel_rfl) ?_
  refine seqQ.n ?_
  refine Wp.ret (by kernel_rfl) ?_
  exact fnQ.r' (X53 n) (fun z => (e27 z)) h (RetOk.mk' (.v (.agg [(vI a0), (vI a1)])) (by kernel_rfl) (by kernel_rfl))

/-! ### 39 glosswright/lexicon.Name -/
def f39_r1 (m : Nat) (v88 : Int) (v127 : Bool) : Option (Stp Bool (Int)) :=
  cnd v127
  (some (.ret false))
  (some (.nxt (w64 (v88 + 1))))
def f39_r2 (m : Nat) (v88 : Int) (v98 : Int) (v104 : Bool) : Option (Stp Bool (Int)) :=
  f39_r1 m v88 ((!v104) && ((v88 == 0) || ((v98 != 95) && ((v98 != 45) && ((decide (v98 < 48)) || (decide (v98 > 57)))))))
def f39_B3 (m : Nat) (a0 : ByteArray) (v88 : Int) : Option (Stp Bool (Int)) :=
  cnd (decide (v88 < (a0.size : Int)))
  (bnd (sidx a0 v88) fun v98 =>
  f39_r2 m v88 v98 ((decide (v98 ≥ 97)) && (decide (v98 ≤ 122))))
  (some (.brk v88))
def f39_r4 (m : Nat) (a0 : ByteArray) (v7 : Bool) : Option Bool :=
  cnd v7
  (some false)
  (brk (iter (fun (y : Int) => f39_B3 m a0 y) m 0) some fun y138 =>
  some true)
def f39 (m : Nat) (a0 : ByteArray) : Option Bool :=
  f39_r4 m a0 ((decide ((a0.size : Int) < 1)) || (decide ((a0.size : Int) > 30)))
noncomputable abbrev X39 (n : Nat) : Cx := cxOf Proofs.Tryd.prog E 39 n
noncomputable def C39 : Code := bodyOf Proofs.Tryd.prog 39
theorem ok39 (m : Nat) (a0 : ByteArray) (o : Bool) (h : f39 m a0 = some o) (n : Nat) (hn : m + 1 ≤ n) : Fn Proofs.Tryd.prog E n 39 [.v (eS a0)] (eB o) := by
  obtain ⟨n, rfl⟩ : ∃ q, n = q + 1 := ⟨n - 1, by omega⟩
  unfold f39 at h
  refine Fn.of (by kernel_rfl) (by kernel_rfl) (by kernel_rfl) ⟨(.v (.str a0)) :: u40 (u10 []), []⟩ (by kernel_rfl) ?_
  refine Wp.seq' (by kernel_rfl) ?_
  refine Wp.region (by kernel_rfl) ?_
  refine Ops.seg' 1 1 (by kernel_rfl) ?_
  refine Ops.done (by kernel_rfl) ?_
  refine seqQ.n ?_
  refine Wp.seq' (by kernel_rfl) ?_
  refine Wp.seq' (by kernel_rfl) ?_
  refine Wp.region (by kernel_rfl) ?_
  refine Ops.seg' 4 4 (by kernel_rfl) ?_
  refine Ops.hv (fun K => ∀ (d3 d4 d5 : D) (v6 : Bool) (v7 : Bool), f39_r4 m a0 v7 = some o → K 8 ⟨(.v (.str a0)) :: u1 ((dB false) :: u3 ((.v (.str a0)) :: (dI (a0.size : Int)) :: (dB v6) :: (dB v6) :: d3 :: d4 :: d5 :: (dB v7) :: u37 [])), []⟩) ?_ fun J39j8 => ?_
  · intro d3 d4 d5 v6 v7 h
    unfold f39_r4 at h
    refine Ops.done (by kernel_rfl) ?_
    refine seqQ.n ?_
    refine Wp.cnd h [0, 2] 0 (by kernel_rfl) (fun h => ?_) (fun h => ?_)
    · refine Wp.seq' (by kernel_rfl) ?_
      refine Wp.region (by kernel_rfl) ?_
      refine Ops.seg' 1 1 (by kernel_rfl) ?_
      refine Ops.done (by kernel_rfl) ?_
      refine seqQ.n ?_
      refine Wp.ret (by kernel_rfl) ?_
      refine sqQ.r ?_
      refine seqQ.r ?_
      exact fnQ.r' (X39 n) (fun z => (eB z)) h (RetOk.mk' (dB false) (by kernel_rfl) (by kernel_rfl))
    · refine Wp.skip (by kernel_rfl) ?_
      refine sqQ.n' ?_
      refine seqQ.n ?_
      refine Wp.seq' (by kernel_rfl) ?_
      refine Wp.seq' (by kernel_rfl) ?_
      refine Wp.region (by kernel_rfl) ?_
      refine Ops.seg' 3 3 (by kernel_rfl) ?_
      refine Ops.done (by kernel_rfl) ?_
      refine seqQ.n ?_
      refine Wp.block' 0 [2] 0 (by kernel_rfl) ?_
      have hLx137 : ∀ (kx90 : Nat) (v88 : Int)  (ox89 : Bool ⊕ (Int)), iter (fun (y : Int) => f39_B3 m a0 y) kx90 v88 = some ox89 → ∀ nx91, kx90 ≤ nx91 → (∀ r, ox89 = .inl r → ∀ σ, RetOk (X39 n) (resOf Proofs.Tryd.prog 39) (eB r) σ → (seqQ (X39 n) (cR (cR (cR C39))) (fnQ (X39 n).E.T (resOf Proofs.Tryd.prog 39) (eB o))) .ret σ) → (∀ (y : Int) , ox89 = .inr y → (seqQ (X39 n) (cR (cR (cR C39))) (fnQ (X39 n).E.T (resOf Proofs.Tryd.prog 39) (eB o))) .normal ⟨(.v (.str a0)) :: q1 ((dB false) :: q12 ((dI (a0.size : Int)) :: (dI y) :: q34 [])), []⟩) → Lp (X39 n) [0, 2, 15, 16] 0 (cL (cL (cR (cL (cR (cR C39)))))) nx91 ⟨(.v (.str a0)) :: q1 ((dB false) :: q12 ((dI (a0.size : Int)) :: (dI v88) :: q34 [])), []⟩ (blkQ (X39 n) 0 [2] 0 (seqQ (X39 n) (cR (cR (cR C39))) (fnQ (X39 n).E.T (resOf Proofs.Tryd.prog 39) (eB o)))) := by
        intro kx90
        induction kx90 with
        | zero => intro v88  ox89 h; exact (iter_zero h).elim
        | succ kx90 ihx92 =>
          intro v88  ox89 h nx91 hnx95 hrx93 hxx94
          obtain ⟨nx91, rfl⟩ : ∃ q, nx91 = q + 1 := ⟨nx91 - 1, by omega⟩
          obtain ⟨sx96, h, hsx97⟩ := iter_some h
          have h : f39_B3 m a0 v88 = some sx96 := h
          unfold f39_B3 at h
          refine Lp.succ ?_
          refine Wp.seq' (by kernel_rfl) ?_
          refine Wp.region (by kernel_rfl) ?_
          refine Ops.seg' 1 1 (by kernel_rfl) ?_
          refine Ops.done (by kernel_rfl) ?_
          refine seqQ.n ?_
          refine Wp.seq' (by kernel_rfl) ?_
          refine Wp.cnd h [0, 2, 15, 16] 0 (by kernel_rfl) (fun h => ?_) (fun h => ?_)
          · refine Wp.skip (by kernel_rfl) ?_
            refine sqQ.n' ?_
            refine seqQ.n ?_
            refine Wp.seq' (by kernel_rfl) ?_
            refine Wp.block' 1 [0, 2, 15, 16] 0 (by kernel_rfl) ?_
            refine Wp.seq' (by kernel_rfl) ?_
            refine Wp.region (by kernel_rfl) ?_
            refine Ops.seg' 2 2 (by kernel_rfl) ?_
            refine Ops.done (by kernel_rfl) ?_
            refine seqQ.n ?_
            refine Wp.seq' (by kernel_rfl) ?_
            refine Wp.region (by kernel_rfl) ?_
            refine Ops.seg' 2 2 (by kernel_rfl) ?_
            obtain ⟨v98, ev98, h⟩ := bnd_some h
            refine Ops.one' 3 (fun h0 e0 => (str_ix (T := T) h0 9 a0 v88 v98 ev98 (by kernel_rfl))) (by kernel_rfl) (by kernel_rfl) ?_
            refine Ops.seg' 1 4 (by kernel_rfl) ?_
            refine Ops.done (by kernel_rfl) ?_
            refine seqQ.n ?_
            refine Wp.seq' (by kernel_rfl) ?_
            refine Wp.region (by kernel_rfl) ?_
            refine Ops.seg' 3 3 (by kernel_rfl) ?_
            refine Ops.hv (fun K => ∀ (d101 d102 : D) (v103 : Bool) (v104 : Bool), f39_r2 m v88 v98 v104 = some sx96 → K 6 ⟨(.v (.str a0)) :: q1 ((dB false) :: (dI v88) :: (.v (.int .u8 v98)) :: q10 ((dI (a0.size : Int)) :: (dI v88) :: (dB (decide (v88 < (a0.size : Int)))) :: (dI v88) :: (.v (.str a0)) :: (dI v88) :: (.v (.int .u8 v98)) :: (.v (.int .u8 v98)) :: (dB v103) :: (dB v103) :: d101 :: d102 :: (dB v104) :: q23 [])), []⟩) ?_ fun J39j105 => ?_
            · intro d101 d102 v103 v104 h
              unfold f39_r2 at h
              refine Ops.seg' 1 7 (by kernel_rfl) ?_
              refine Ops.done (by kernel_rfl) ?_
              refine seqQ.n ?_
              refine Wp.seq' (by kernel_rfl) ?_
              refine Wp.region (by kernel_rfl) ?_
              refine Ops.seg' 3 3 (by kernel_rfl) ?_
              refine Ops.hv (fun K => ∀ (d108 d109 d110 d111 d112 d113 d114 d115 d116 d117 d118 d119 d120 d121 d122 d123 d124 d125 : D) (v126 : Bool) (v127 : Bool), f39_r1 m v88 v127 = some sx96 → K 22 ⟨(.v (.str a0)) :: q1 ((dB false) :: (dI v88) :: (.v (.int .u8 v98)) :: (dB v104) :: q9 ((dI (a0.size : Int)) :: (dI v88) :: (dB (decide (v88 < (a0.size : Int)))) :: (dI v88) :: (.v (.str a0)) :: (dI v88) :: (.v (.int .u8 v98)) :: (.v (.int .u8 v98)) :: (dB v103) :: (dB v103) :: d101 :: d102 :: (dB v104) :: (dB v104) :: (dB v126) :: (dB v126) :: d108 :: d109 :: d110 :: d111 :: d112 :: d113 :: d114 :: d115 :: d116 :: d117 :: d118 :: d119 :: d120 :: d121 :: d122 :: d123 :: d124 :: d125 :: (dB v127) :: q1 [])), []⟩) ?_ fun J39j128 => ?_
              · intro d108 d109 d110 d111 d112 d113 d114 d115 d116 d117 d118 d119 d120 d121 d122 d123 d124 d125 v126 v127 h
                unfold f39_r1 at h
                refine Ops.done (by kernel_rfl) ?_
                refine seqQ.n ?_
                refine Wp.cnd h [0, 2, 15, 16] 0 (by kernel_rfl) (fun h => ?_) (fun h => ?_)
                · refine Wp.seq' (by kernel_rfl) ?_
                  refine Wp.region (by kernel_rfl) ?_
                  refine Ops.seg' 1 1 (by kernel_rfl) ?_
                  refine Ops.done (by kernel_rfl) ?_
                  refine seqQ.n ?_
                  refine Wp.ret (by kernel_rfl) ?_
                  refine sqQ.r ?_
                  refine blkQ.r ?_
                  refine seqQ.r ?_
                  cases h
                  refine lpQ.r ?_
                  refine blkQ.r ?_
                  exact hrx93 _ hsx97 _ (RetOk.forget [0, 2, 15, 16] (by kernel_rfl) (RetOk.mk' (dB false) (by kernel_rfl) (by kernel_rfl)))
                · refine Wp.skip (by kernel_rfl) ?_
                  refine sqQ.n' ?_
                  refine blkQ.n' ?_
                  refine seqQ.n ?_
                  refine Wp.region (by kernel_rfl) ?_
                  refine Ops.seg' 2 2 (by kernel_rfl) ?_
                  refine Ops.done (by kernel_rfl) ?_
                  refine lpQ.n ⟨(.v (.str a0)) :: q1 ((dB false) :: q12 ((dI (a0.size : Int)) :: (dI (w64 (v88 + 1))) :: q34 [])), []⟩ (by kernel_rfl) ?_
                  cases h
                  exact ihx92 (w64 (v88 + 1))  _ hsx97 _ (by omega) hrx93 hxx94
              refine Ops.hv (fun K => ∀ v106 : Bool, f39_r1 m v88 (v106 && ((v88 == 0) || ((v98 != 95) && ((v98 != 45) && ((decide (v98 < 48)) || (decide (v98 > 57))))))) = some sx96 → K 3 ⟨(.v (.str a0)) :: q1 ((dB false) :: (dI v88) :: (.v (.int .u8 v98)) :: (dB v104) :: q9 ((dI (a0.size : Int)) :: (dI v88) :: (dB (decide (v88 < (a0.size : Int)))) :: (dI v88) :: (.v (.str a0)) :: (dI v88) :: (.v (.int .u8 v98)) :: (.v (.int .u8 v98)) :: (dB v103) :: (dB v103) :: d101 :: d102 :: (dB v104) :: (dB v104) :: (dB v106) :: (dB v106) :: q20 [])), []⟩) ?_ fun G39g107 => Ops.st _ (by kernel_rfl) (G39g107 (!v104) h)
              intro v106 h
              cases v106
              · refine Ops.seg' 19 22 (by kernel_rfl) ?_
                exact Ops.st _ (by kernel_rfl) (J39j128 U U U U U U U U U U U U U U U U U U false false h)
              · refine Ops.seg' 3 6 (by kernel_rfl) ?_
                refine Ops.hv (fun K => ∀ v129 : Bool, (f39_r1 m v88 (true && (v129 || ((v98 != 95) && ((v98 != 45) && ((decide (v98 < 48)) || (decide (v98 > 57)))))))) = some sx96 → K 6 ⟨(.v (.str a0)) :: q1 ((dB false) :: (dI v88) :: (.v (.int .u8 v98)) :: (dB v104) :: q9 ((dI (a0.size : Int)) :: (dI v88) :: (dB (decide (v88 < (a0.size : Int)))) :: (dI v88) :: (.v (.str a0)) :: (dI v88) :: (.v (.int .u8 v98)) :: (.v (.int .u8 v98)) :: (dB v103) :: (dB v103) :: d101 :: d102 :: (dB v104) :: (dB v104) :: (dB true) :: (dB true) :: (dI v88) :: (dB v129) :: (dB v129) :: q17 [])), []⟩) ?_ fun G39g130 => Ops.st _ (by kernel_rfl) (G39g130 (v88 == 0) h)
                intro v129 h
                cases v129
                · refine Ops.seg' 3 9 (by kernel_rfl) ?_
                  refine Ops.hv (fun K => ∀ v131 : Bool, (f39_r1 m v88 (true && (false || (v131 && ((v98 != 45) && ((decide (v98 < 48)) || (decide (v98 > 57)))))))) = some sx96 → K 9 ⟨(.v (.str a0)) :: q1 ((dB false) :: (dI v88) :: (.v (.int .u8 v98)) :: (dB v104) :: q9 ((dI (a0.size : Int)) :: (dI v88) :: (dB (decide (v88 < (a0.size : Int)))) :: (dI v88) :: (.v (.str a0)) :: (dI v88) :: (.v (.int .u8 v98)) :: (.v (.int .u8 v98)) :: (dB v103) :: (dB v103) :: d101 :: d102 :: (dB v104) :: (dB v104) :: (dB true) :: (dB true) :: (dI v88) :: (dB false) :: (dB false) :: (.v (.int .u8 v98)) :: (dB v131) :: (dB v131) :: q14 [])), []⟩) ?_ fun G39g132 => Ops.st _ (by kernel_rfl) (G39g132 (v98 != 95) h)
                  intro v131 h
                  cases v131
                  · refine Ops.seg' 13 22 (by kernel_rfl) ?_
                    exact Ops.st _ (by kernel_rfl) (J39j128 (dI v88) (dB false) (dB false) (.v (.int .u8 v98)) (dB false) (dB false) U U (dB false) (dB false) U U U U U U (dB false) (dB false) true false h)
                  · refine Ops.seg' 4 13 (by kernel_rfl) ?_
                    refine Ops.hv (fun K => ∀ v133 : Bool, (f39_r1 m v88 (true && (false || (true && (v133 && ((decide (v98 < 48)) || (decide (v98 > 57)))))))) = some sx96 → K 13 ⟨(.v (.str a0)) :: q1 ((dB false) :: (dI v88) :: (.v (.int .u8 v98)) :: (dB v104) :: q9 ((dI (a0.size : Int)) :: (dI v88) :: (dB (decide (v88 < (a0.size : Int)))) :: (dI v88) :: (.v (.str a0)) :: (dI v88) :: (.v (.int .u8 v98)) :: (.v (.int .u8 v98)) :: (dB v103) :: (dB v103) :: d101 :: d102 :: (dB v104) :: (dB v104) :: (dB true) :: (dB true) :: (dI v88) :: (dB false) :: (dB false) :: (.v (.int .u8 v98)) :: (dB true) :: (dB true) :: (.v (.int .u8 v98)) :: (dB v133) :: (dB v133) :: (dB v133) :: q10 [])), []⟩) ?_ fun G39g134 => Ops.st _ (by kernel_rfl) (G39g134 (v98 != 45) h)
                    intro v133 h
                    cases v133
                    · refine Ops.seg' 9 22 (by kernel_rfl) ?_
                      exact Ops.st _ (by kernel_rfl) (J39j128 (dI v88) (dB false) (dB false) (.v (.int .u8 v98)) (dB true) (dB true) (.v (.int .u8 v98)) (dB false) (dB false) (dB false) U U U U U U (dB false) (dB false) true false h)
                    · refine Ops.seg' 3 16 (by kernel_rfl) ?_
                      refine Ops.hv (fun K => ∀ v135 : Bool, (f39_r1 m v88 (true && (false || (true && (true && (v135 || (decide (v98 > 57)))))))) = some sx96 → K 16 ⟨(.v (.str a0)) :: q1 ((dB false) :: (dI v88) :: (.v (.int .u8 v98)) :: (dB v104) :: q9 ((dI (a0.size : Int)) :: (dI v88) :: (dB (decide (v88 < (a0.size : Int)))) :: (dI v88) :: (.v (.str a0)) :: (dI v88) :: (.v (.int .u8 v98)) :: (.v (.int .u8 v98)) :: (dB v103) :: (dB v103) :: d101 :: d102 :: (dB v104) :: (dB v104) :: (dB true) :: (dB true) :: (dI v88) :: (dB false) :: (dB false) :: (.v (.int .u8 v98)) :: (dB true) :: (dB true) :: (.v (.int .u8 v98)) :: (dB true) :: (dB true) :: (dB true) :: (.v (.int .u8 v98)) :: (dB v135) :: (dB v135) :: q7 [])), []⟩) ?_ fun G39g136 => Ops.st _ (by kernel_rfl) (G39g136 (decide (v98 < 48)) h)
                      intro v135 h
                      cases v135
                      · refine Ops.seg' 6 22 (by kernel_rfl) ?_
                        exact Ops.st _ (by kernel_rfl) (J39j128 (dI v88) (dB false) (dB false) (.v (.int .u8 v98)) (dB true) (dB true) (.v (.int .u8 v98)) (dB true) (dB true) (dB true) (.v (.int .u8 v98)) (dB false) (dB false) (.v (.int .u8 v98)) (dB (decide (v98 > 57))) (dB (decide (v98 > 57))) (dB (decide (v98 > 57))) (dB (decide (v98 > 57))) true (decide (v98 > 57)) h)
                      · refine Ops.seg' 6 22 (by kernel_rfl) ?_
                        exact Ops.st _ (by kernel_rfl) (J39j128 (dI v88) (dB false) (dB false) (.v (.int .u8 v98)) (dB true) (dB true) (.v (.int .u8 v98)) (dB true) (dB true) (dB true) (.v (.int .u8 v98)) (dB true) (dB true) U U (dB true) (dB true) (dB true) true true h)
                · refine Ops.seg' 16 22 (by kernel_rfl) ?_
                  exact Ops.st _ (by kernel_rfl) (J39j128 (dI v88) (dB true) (dB true) U U U U U U U U U U U U U U (dB true) true true h)
            refine Ops.hv (fun K => ∀ v99 : Bool, f39_r2 m v88 v98 (v99 && (decide (v98 ≤ 122))) = some sx96 → K 3 ⟨(.v (.str a0)) :: q1 ((dB false) :: (dI v88) :: (.v (.int .u8 v98)) :: q10 ((dI (a0.size : Int)) :: (dI v88) :: (dB (decide (v88 < (a0.size : Int)))) :: (dI v88) :: (.v (.str a0)) :: (dI v88) :: (.v (.int .u8 v98)) :: (.v (.int .u8 v98)) :: (dB v99) :: (dB v99) :: q26 [])), []⟩) ?_ fun G39g100 => Ops.st _ (by kernel_rfl) (G39g100 (decide (v98 ≥ 97)) h)
            intro v99 h
            cases v99
            · refine Ops.seg' 3 6 (by kernel_rfl) ?_
              exact Ops.st _ (by kernel_rfl) (J39j105 U U false false h)
            · refine Ops.seg' 3 6 (by kernel_rfl) ?_
              exact Ops.st _ (by kernel_rfl) (J39j105 (.v (.int .u8 v98)) (dB (decide (v98 ≤ 122))) true (decide (v98 ≤ 122)) h)
          · refine Wp.exit (id := 0) (by kernel_rfl) ?_
            refine sqQ.x ?_
            refine seqQ.x ?_
            cases h
            refine lpQ.x ?_
            refine blkQ.x ⟨(.v (.str a0)) :: q1 ((dB false) :: q12 ((dI (a0.size : Int)) :: (dI v88) :: q34 [])), []⟩ (by kernel_rfl) ?_
            exact hxx94 v88  hsx97
      refine Wp.loop' [0, 2, 15, 16] 0 (by kernel_rfl) ⟨(.v (.str a0)) :: q1 ((dB false) :: q12 ((dI (a0.size : Int)) :: (dI 0) :: q34 [])), []⟩ (by kernel_rfl) ?_
      rcases brk_some h with ⟨r139, er139, h⟩ | ⟨y138, ey138, h⟩
      · refine hLx137 _ 0  _ er139 n (by omega) (fun r er σ hσ => ?_) (fun y  ey => by cases ey)
        cases er
        refine seqQ.r ?_
        exact fnQ.r' (X39 n) (fun z => (eB z)) h hσ
      · refine hLx137 _ 0  _ ey138 n (by omega) (fun r er => by cases er) (fun y  ey => ?_)
        cases ey
        refine seqQ.n ?_
        refine Wp.seq' (by kernel_rfl) ?_
        refine Wp.region (by kernel_rfl) ?_
        refine Ops.seg' 1 1 (by kernel_rfl) ?_
        refine Ops.done (by kernel_rfl) ?_
        refine seqQ.n ?_
        refine Wp.ret (by kernel_rfl) ?_
        exact fnQ.r' (X39 n) (fun z => (eB z)) h (RetOk.mk' (dB true) (by kernel_rfl) (by kernel_rfl))
  refine Ops.hv (fun K => ∀ v1 : Bool, f39_r4 m a0 (v1 || (decide ((a0.size : Int) > 30))) = some o → K 4 ⟨(.v (.str a0)) :: u1 ((dB false) :: u3 ((.v (.str a0)) :: (dI (a0.size : Int)) :: (dB v1) :: (dB v1) :: u40 (u1 []))), []⟩) ?_ fun G39g2 => Ops.st _ (by kernel_rfl) (G39g2 (decide ((a0.size : Int) < 1)) h)
  intro v1 h
  cases v1
  · refine Ops.seg' 4 8 (by kernel_rfl) ?_
    exact Ops.st _ (by kernel_rfl) (J39j8 (.v (.str a0)) (dI (a0.size : Int)) (dB (decide ((a0.size : Int) > 30))) false (decide ((a0.size : Int) > 30)) h)
  · refine Ops.seg' 4 8 (by kernel_rfl) ?_
    exact Ops.st _ (by kernel_rfl) (J39j8 U U U true true h)

/-! ### 80 glosswright/letters.fault -/
def f80 (m : Nat) (a0 : Int) (a1 : Int) : Option S27 :=
  some ((⟨a0, a1⟩ : S27))
noncomputable abbrev X80 (n : Nat) : Cx := cxOf Proofs.Tryd.prog E 80 n
noncomputable def C80 : Code := bodyOf Proofs.Tryd.prog 80
theorem ok80 (m : Nat) (a0 : Int) (a1 : Int) (o : S27) (h : f80 m a0 a1 = some o) (n : Nat) (hn : m + 1 ≤ n) : Fn Proofs.Tryd.prog E n 80 [.v (eI a0), .v (eI a1)] (e27 o) := by
  obtain ⟨n, rfl⟩ : ∃ q, n = q + 1 := ⟨n - 1, by omega⟩
  unfold f80 at h
  refine Fn.of (by kernel_rfl) (by kernel_rfl) (by kernel_rfl) ⟨(dI a0) :: (dI a1) :: u6 [], []⟩ (by kernel_rfl) ?_
  refine Wp.seq' (by kernel_rfl) ?_
  refine Wp.region (by kernel_rfl) ?_
  refine Ops.seg' 1 1 (by kernel_rfl) ?_
  refine Ops.done (by kernel_rfl) ?_
  refine seqQ.n ?_
  refine Wp.seq' (by kernel_rfl) ?_
  refine Wp.region (by kernel_rfl) ?_
  refine Ops.seg' 4 4 (by kernel_rfl) ?_
  refine Ops.done (by kernel_rfl) ?_
  refine seqQ.n ?_
  refine Wp.ret (by kernel_rfl) ?_
  exact fnQ.r' (X80 n) (fun z => (e27 z)) h (RetOk.mk' (.v (.agg [(vI a0), (vI a1)])) (by kernel_rfl) (by kernel_rfl))

/-! ### 81 unicode/utf8.DecodeRuneInString -/
def f81 (m : Nat) (a0 : ByteArray) : Option (Int × Int) := some (((Lib.decodeGo a0).1 : Int), ((Lib.decodeGo a0).2 : Int))
theorem ok81 (m : Nat) (a0 : ByteArray) (o : (Int × Int)) (h : f81 m a0 = some o) (n : Nat) (hn : m + 1 ≤ n) : Fn Proofs.Tryd.prog E n 81 [.v (eS a0)] (.tuple [(eK .i32) o.1, eI o.2]) := by
  obtain ⟨n, rfl⟩ : ∃ q, n = q + 1 := ⟨n - 1, by omega⟩
  refine ora_fn (xs := [eS a0]) (by kernel_rfl) (by kernel_rfl) (by kernel_rfl) (F := decodeF) ?_ rfl
  cases h
  rfl

/-! ### 60 glosswright/letters.Decode -/
def f60_r1 (m : Nat) (v26 : (List Int)) (v27 : Int) (v38 : (Int × Int)) (v44 : Bool) : Option (Stp ((List Int) × S27) ((List Int) × Int)) :=
  cnd v44
  (bnd (f80 m 5 v27) fun v46 =>
  some (.ret (([], v46))))
  (bnd (app 8 v26 ([w64 v38.1])) fun v47 =>
  some (.nxt (v47, w64 (v27 + v38.2))))
def f60_B2 (m : Nat) (a0 : ByteArray) (v26 : (List Int)) (v27 : Int) : Option (Stp ((List Int) × S27) ((List Int) × Int)) :=
  cnd (decide (v27 < (a0.size : Int)))
  (bnd (ssub a0 v27 (a0.size : Int)) fun v37 =>
  bnd (f81 m v37) fun v38 =>
  f60_r1 m v26 v27 v38 ((v38.1 == 65533) && (decide (v38.2 ≤ 1))))
  (some (.brk (v26, v27)))
def f60 (m : Nat) (a0 : ByteArray) : Option ((List Int) × S27) :=
  cnd (decide ((a0.size : Int) > 4000))
  (bnd (f80 m 1 (-1)) fun v1 =>
  some (([], v1)))
  (brk (iter (fun (y : (List Int) × Int) => f60_B2 m a0 y.1 y.2) m ([], 0)) some fun y49 =>
  some ((y49.1, (⟨0, 0⟩ : S27))))
noncomputable abbrev X60 (n : Nat) : Cx := cxOf Proofs.Tryd.prog E 60 n
noncomputable def C60 : Code := bodyOf Proofs.Tryd.prog 60
theorem ok60 (m : Nat) (a0 : ByteArray) (o : ((List Int) × S27)) (h : f60 m a0 = some o) (n : Nat) (hn : m + 2 ≤ n) : Fn Proofs.Tryd.prog E n 60 [.v (eS a0)] (.tuple [(eL eI) o.1, e27 o.2]) := by
  obtain ⟨n, rfl⟩ : ∃ q, n = q + 1 := ⟨n - 1, by omega⟩
  unfold f60 at h
  refine Fn.of (by kernel_rfl) (by kernel_rfl) (by kernel_rfl) ⟨(.v (.str a0)) :: u40 [], []⟩ (by kernel_rfl) ?_
  refine Wp.seq' (by kernel_rfl) ?_
  refine Wp.region (by kernel_rfl) ?_
  refine Ops.seg' 2 2 (by kernel_rfl) ?_
  refine Ops.done (by kernel_rfl) ?_
  refine seqQ.n ?_
  refine Wp.seq' (by kernel_rfl) ?_
  refine Wp.seq' (by kernel_rfl) ?_
  refine Wp.region (by kernel_rfl) ?_
  refine Ops.seg' 3 3 (by kernel_rfl) ?_
  refine Ops.done (by kernel_rfl) ?_
  refine seqQ.n ?_
  refine Wp.cnd h [0, 2, 3] 1 (by kernel_rfl) (fun h => ?_) (fun h => ?_)
  · refine Wp.seq' (by kernel_rfl) ?_
    refine Wp.region (by kernel_rfl) ?_
    obtain ⟨v1, ev1, h⟩ := bnd_some h
    refine Ops.one' 1 (fun h0 e0 => (call_ok (E' := E) (h := h0) (by kernel_rfl) (Args.v (vI 1) (eI 1) (by kernel_rfl) (Args.v (vI (-1)) (eI (-1)) (by kernel_rfl) Args.nil)) (ok80 m 1 (-1) v1 ev1 n (by omega)))) (by kernel_rfl) (by kernel_rfl) ?_
    refine Ops.seg' 2 3 (by kernel_rfl) ?_
    refine Ops.done (by kernel_rfl) ?_
    refine seqQ.n ?_
    refine Wp.ret (by kernel_rfl) ?_
    refine sqQ.r ?_
    refine seqQ.r ?_
    exact fnQ.r' (X60 n) (fun z => (.tuple [(eL eI) z.1, e27 z.2])) h (RetOk.mk' (.v (.tuple [(.sl .nil (List.map eI [])), (.agg [(vI v1.fCode), (vI v1.fIndex)])])) (by kernel_rfl) (by kernel_rfl))
  · refine Wp.skip (by kernel_rfl) ?_
    refine sqQ.n' ?_
    refine seqQ.n ?_
    refine Wp.seq' (by kernel_rfl) ?_
    refine Wp.region (by kernel_rfl) ?_
    refine Ops.seg' 1 1 (by kernel_rfl) ?_
    refine Ops.done (by kernel_rfl) ?_
    refine seqQ.n ?_
    refine Wp.seq' (by kernel_rfl) ?_
    refine Wp.seq' (by kernel_rfl) ?_
    refine Wp.region (by kernel_rfl) ?_
    refine Ops.seg' 1 1 (by kernel_rfl) ?_
    refine Ops.done (by kernel_rfl) ?_
    refine seqQ.n ?_
    refine Wp.block' 0 [2, 3, 4] 2 (by kernel_rfl) ?_
    have hLx48 : ∀ (kx29 : Nat) (v26 : (List Int)) (v27 : Int)  (ox28 : ((List Int) × S27) ⊕ ((List Int) × Int)), iter (fun (y : (List Int) × Int) => f60_B2 m a0 y.1 y.2) kx29 (v26, v27) = some ox28 → ∀ nx30, kx29 ≤ nx30 → (∀ r, ox28 = .inl r → ∀ σ, RetOk (X60 n) (resOf Proofs.Tryd.prog 60) (.tuple [(eL eI) r.1, e27 r.2]) σ → (seqQ (X60 n) (cR (cR (cR (cR C60)))) (fnQ (X60 n).E.T (resOf Proofs.Tryd.prog 60) (.tuple [(eL eI) o.1, e27 o.2]))) .ret σ) → (∀ (y : (List Int) × Int) , ox28 = .inr y → (seqQ (X60 n) (cR (cR (cR (cR C60)))) (fnQ (X60 n).E.T (resOf Proofs.Tryd.prog 60) (.tuple [(eL eI) o.1, e27 o.2]))) .normal ⟨q2 ((.v (.sl .nil (List.map eI []))) :: (.ptr 0 0) :: (appD 2 (List.map eI y.1)) :: q36 []), [(.cells [(dI 0), (dI 0)]), .dead, (appO 1 (List.map eI y.1))]⟩) → Lp (X60 n) [0, 2, 3, 4, 5] 2 (cL (cL (cR (cL (cR (cR (cR C60))))))) nx30 ⟨(.v (.str a0)) :: q1 ((.v (.sl .nil (List.map eI []))) :: (.ptr 0 0) :: (appD 2 (List.map eI v26)) :: (dI v27) :: q35 []), [(.cells [(dI 0), (dI 0)]), .dead, (appO 1 (List.map eI v26))]⟩ (blkQ (X60 n) 0 [2, 3, 4] 2 (seqQ (X60 n) (cR (cR (cR (cR C60)))) (fnQ (X60 n).E.T (resOf Proofs.Tryd.prog 60) (.tuple [(eL eI) o.1, e27 o.2])))) := by
      intro kx29
      induction kx29 with
      | zero => intro v26 v27  ox28 h; exact (iter_zero h).elim
      | succ kx29 ihx31 =>
        intro v26 v27  ox28 h nx30 hnx34 hrx32 hxx33
        obtain ⟨nx30, rfl⟩ : ∃ q, nx30 = q + 1 := ⟨nx30 - 1, by omega⟩
        obtain ⟨sx35, h, hsx36⟩ := iter_some h
        have h : f60_B2 m a0 v26 v27 = some sx35 := h
        unfold f60_B2 at h
        refine Lp.succ ?_
        refine Wp.seq' (by kernel_rfl) ?_
        refine Wp.seq' (by kernel_rfl) ?_
        refine Wp.region (by kernel_rfl) ?_
        refine Ops.seg' 4 4 (by kernel_rfl) ?_
        refine Ops.done (by kernel_rfl) ?_
        refine seqQ.n ?_
        refine Wp.cnd h [0, 2, 3, 4, 5] 3 (by kernel_rfl) (fun h => ?_) (fun h => ?_)
        · refine Wp.skip (by kernel_rfl) ?_
          refine sqQ.n ⟨(.v (.str a0)) :: q1 ((.v (.sl .nil (List.map eI []))) :: (.ptr 0 0) :: (appD 3 (List.map eI v26)) :: (dI v27) :: q35 []), [(.cells [(dI 0), (dI 0)]), .dead, .dead, (appO 1 (List.map eI v26))]⟩ (by generalize v26 = z0; cases z0 <;> kernel_rfl) ?_
          refine seqQ.n ?_
          refine Wp.block' 1 [0, 2, 3, 4, 5] 4 (by kernel_rfl) ?_
          refine Wp.seq' (by kernel_rfl) ?_
          refine Wp.region (by kernel_rfl) ?_
          refine Ops.seg' 2 2 (by kernel_rfl) ?_
          obtain ⟨v37, ev37, h⟩ := bnd_some h
          refine Ops.one' 3 (fun h0 e0 => (str_sub (T := T) h0 9 a0 v37 (some v27) none ev37 (by kernel_rfl))) (by kernel_rfl) (by kernel_rfl) ?_
          obtain ⟨v38, ev38, h⟩ := bnd_some h
          refine Ops.one' 4 (fun h0 e0 => (call_ok (E' := E) (h := h0) (by kernel_rfl) (Args.v (.str v37) (eS v37) (by kernel_rfl) Args.nil) (ok81 m v37 v38 ev38 n (by omega)))) (by kernel_rfl) (by kernel_rfl) ?_
          refine Ops.seg' 5 9 (by kernel_rfl) ?_
          refine Ops.done (by kernel_rfl) ?_
          refine seqQ.n ?_
          refine Wp.seq' (by kernel_rfl) ?_
          refine Wp.seq' (by kernel_rfl) ?_
          refine Wp.region (by kernel_rfl) ?_
          refine Ops.seg' 3 3 (by kernel_rfl) ?_
          refine Ops.hv (fun K => ∀ (d41 d42 : D) (v43 : Bool) (v44 : Bool), f60_r1 m v26 v27 v38 v44 = some sx35 → K 6 ⟨(.v (.str a0)) :: q1 ((.v (.sl .nil (List.map eI []))) :: (.ptr 0 0) :: (appD 3 (List.map eI v26)) :: (dI v27) :: (.v (.int .i32 v38.1)) :: (dI v38.2) :: q8 ((.v (.tuple [(.int .i32 v38.1), (vI v38.2)])) :: (.v (.str a0)) :: (dI v27) :: (.v (.str v37)) :: (.v (.tuple [(.int .i32 v38.1), (vI v38.2)])) :: (.v (.int .i32 v38.1)) :: (dI v38.2) :: (.v (.int .i32 v38.1)) :: (dB v43) :: (dB v43) :: d41 :: d42 :: (dB v44) :: q12 [])), [(.cells [(dI 0), (dI 0)]), .dead, .dead, (appO 1 (List.map eI v26))]⟩) ?_ fun J60j45 => ?_
          · intro d41 d42 v43 v44 h
            unfold f60_r1 at h
            refine Ops.done (by kernel_rfl) ?_
            refine seqQ.n ?_
            refine Wp.cnd h [0, 2, 3, 4, 5, 6, 7] 4 (by kernel_rfl) (fun h => ?_) (fun h => ?_)
            · refine Wp.seq' (by kernel_rfl) ?_
              refine Wp.region (by kernel_rfl) ?_
              refine Ops.seg' 1 1 (by kernel_rfl) ?_
              obtain ⟨v46, ev46, h⟩ := bnd_some h
              refine Ops.one' 2 (fun h0 e0 => (call_ok (E' := E) (h := h0) (by kernel_rfl) (Args.v (vI 5) (eI 5) (by kernel_rfl) (Args.v (vI v27) (eI v27) (by kernel_rfl) Args.nil)) (ok80 m 5 v27 v46 ev46 n (by omega)))) (by kernel_rfl) (by kernel_rfl) ?_
              refine Ops.seg' 2 4 (by kernel_rfl) ?_
              refine Ops.done (by kernel_rfl) ?_
              refine seqQ.n ?_
              refine Wp.ret (by kernel_rfl) ?_
              refine sqQ.r ?_
              refine seqQ.r ?_
              refine blkQ.r ?_
              cases h
              refine lpQ.r ?_
              refine blkQ.r ?_
              exact hrx32 _ hsx36 _ (RetOk.forget [0, 2, 3, 4, 5] (by kernel_rfl) (RetOk.mk' (.v (.tuple [(.sl .nil (List.map eI [])), (.agg [(vI v46.fCode), (vI v46.fIndex)])])) (by kernel_rfl) (by kernel_rfl)))
            · refine Wp.skip (by kernel_rfl) ?_
              refine sqQ.n ⟨(.v (.str a0)) :: q1 ((.v (.sl .nil (List.map eI []))) :: (.ptr 0 0) :: (appD 4 (List.map eI v26)) :: (dI v27) :: (.v (.int .i32 v38.1)) :: (dI v38.2) :: q33 []), [(.cells [(dI 0), (dI 0)]), .dead, .dead, .dead, (appO 1 (List.map eI v26))]⟩ (by generalize v26 = z0; cases z0 <;> kernel_rfl) ?_
              refine seqQ.n ?_
              refine Wp.seq' (by kernel_rfl) ?_
              refine Wp.region (by kernel_rfl) ?_
              refine Ops.seg' 4 4 (by kernel_rfl) ?_
              obtain ⟨v47, ev47, h⟩ := bnd_some h
              refine Ops.one' 5 (fun h0 e0 => (app_r (T := T) (g := .nil) h0 44 3 4 1 ti3 .nonfull eI v26 ([w64 v38.1]) v47 ev47 (by kernel_rfl) (by kernel_rfl) (by kernel_rfl) (by kernel_rfl) (fun _ => rfl) (hq_of e0 (by kernel_rfl)))) (by kernel_rfl) (by kernel_rfl) ?_
              refine Ops.seg' 1 6 (by kernel_rfl) ?_
              refine Ops.done (by kernel_rfl) ?_
              refine seqQ.n ?_
              refine Wp.region (by kernel_rfl) ?_
              refine Ops.seg' 4 4 (by kernel_rfl) ?_
              refine Ops.done (by kernel_rfl) ?_
              refine blkQ.n ⟨(.v (.str a0)) :: q1 ((.v (.sl .nil (List.map eI []))) :: (.ptr 0 0) :: (appD 4 (List.map eI v47)) :: (dI (w64 (v27 + v38.2))) :: q35 []), [(.cells [(dI 0), (dI 0)]), .dead, .dead, .dead, (appO 1 (List.map eI v47))]⟩ (by generalize v47 = z0; cases z0 <;> kernel_rfl) ?_
              refine lpQ.n ⟨(.v (.str a0)) :: q1 ((.v (.sl .nil (List.map eI []))) :: (.ptr 0 0) :: (appD 2 (List.map eI v47)) :: (dI (w64 (v27 + v38.2))) :: q35 []), [(.cells [(dI 0), (dI 0)]), .dead, (appO 1 (List.map eI v47))]⟩ (by generalize v47 = z0; cases z0 <;> kernel_rfl) ?_
              cases h
              exact ihx31 v47 (w64 (v27 + v38.2))  _ hsx36 _ (by omega) hrx32 hxx33
          refine Ops.hv (fun K => ∀ v39 : Bool, f60_r1 m v26 v27 v38 (v39 && (decide (v38.2 ≤ 1))) = some sx35 → K 3 ⟨(.v (.str a0)) :: q1 ((.v (.sl .nil (List.map eI []))) :: (.ptr 0 0) :: (appD 3 (List.map eI v26)) :: (dI v27) :: (.v (.int .i32 v38.1)) :: (dI v38.2) :: q8 ((.v (.tuple [(.int .i32 v38.1), (vI v38.2)])) :: (.v (.str a0)) :: (dI v27) :: (.v (.str v37)) :: (.v (.tuple [(.int .i32 v38.1), (vI v38.2)])) :: (.v (.int .i32 v38.1)) :: (dI v38.2) :: (.v (.int .i32 v38.1)) :: (dB v39) :: (dB v39) :: q15 [])), [(.cells [(dI 0), (dI 0)]), .dead, .dead, (appO 1 (List.map eI v26))]⟩) ?_ fun G60g40 => Ops.st _ (by kernel_rfl) (G60g40 (v38.1 == 65533) h)
          intro v39 h
          cases v39
          · refine Ops.seg' 3 6 (by kernel_rfl) ?_
            exact Ops.st _ (by kernel_rfl) (J60j45 U U false false h)
          · refine Ops.seg' 3 6 (by kernel_rfl) ?_
            exact Ops.st _ (by kernel_rfl) (J60j45 (dI v38.2) (dB (decide (v38.2 ≤ 1))) true (decide (v38.2 ≤ 1)) h)
        · refine Wp.exit (id := 0) (by kernel_rfl) ?_
          refine sqQ.x ?_
          refine seqQ.x ?_
          cases h
          refine lpQ.x ?_
          refine blkQ.x ⟨q2 ((.v (.sl .nil (List.map eI []))) :: (.ptr 0 0) :: (appD 2 (List.map eI v26)) :: q36 []), [(.cells [(dI 0), (dI 0)]), .dead, (appO 1 (List.map eI v26))]⟩ (by generalize v26 = z0; cases z0 <;> kernel_rfl) ?_
          exact hxx33 (v26, v27)  hsx36
    refine Wp.loop' [0, 2, 3, 4, 5] 2 (by kernel_rfl) ⟨(.v (.str a0)) :: q1 ((.v (.sl .nil (List.map eI []))) :: (.ptr 0 0) :: (appD 2 (List.map eI [])) :: (dI 0) :: q35 []), [(.cells [(dI 0), (dI 0)]), .dead, .dead]⟩ (by kernel_rfl) ?_
    rcases brk_some h with ⟨r50, er50, h⟩ | ⟨y49, ey49, h⟩
    · refine hLx48 _ [] 0  _ er50 n (by omega) (fun r er σ hσ => ?_) (fun y  ey => by cases ey)
      cases er
      refine seqQ.r ?_
      exact fnQ.r' (X60 n) (fun z => (.tuple [(eL eI) z.1, e27 z.2])) h hσ
    · refine hLx48 _ [] 0  _ ey49 n (by omega) (fun r er => by cases er) (fun y  ey => ?_)
      cases ey
      refine seqQ.n ?_
      refine Wp.seq' (by kernel_rfl) ?_
      refine Wp.region (by kernel_rfl) ?_
      refine Ops.seg' 4 4 (by kernel_rfl) ?_
      refine Ops.done (by kernel_rfl) ?_
      refine seqQ.n ?_
      refine Wp.ret (by kernel_rfl) ?_
      exact fnQ.r' (X60 n) (fun z => (.tuple [(eL eI) z.1, e27 z.2])) h (RetOk.tup [(appD 2 (List.map eI y49.1)), (.v (.agg [(vI 0), (vI 0)]))] (by kernel_rfl) (.d (appD 2 (List.map eI y49.1)) _ (appD_frz _ _ _ _) (appF_nt _ _ _) (.v (.agg [(vI 0), (vI 0)]) _ (by kernel_rfl) (by kernel_rfl) .nil)))

/-! ### 61 strings.IndexByte -/
def f61 (m : Nat) (a0 : ByteArray) (a1 : Int) : Option Int := some (Lib.indexByte a0.data.toList a1.toNat.toUInt8)
theorem ok61 (m : Nat) (a0 : ByteArray) (a1 : Int) (o : Int) (h : f61 m a0 a1 = some o) (n : Nat) (hn : m + 1 ≤ n) : Fn Proofs.Tryd.prog E n 61 [.v (eS a0), .v ((eK .u8) a1)] (eI o) := by
  obtain ⟨n, rfl⟩ : ∃ q, n = q + 1 := ⟨n - 1, by omega⟩
  refine ora_fn (xs := [eS a0, (eK .u8) a1]) (by kernel_rfl) (by kernel_rfl) (by kernel_rfl) (F := ixbyteF) ?_ rfl
  cases h
  rfl

/-! ### 32 glosswright/lexicon.Word -/
def f32_r1 (m : Nat) (v67 : Int) (v96 : Bool) : Option (Stp Bool (Int)) :=
  cnd v96
  (some (.ret false))
  (some (.nxt (w64 (v67 + 1))))
def f32_r2 (m : Nat) (v67 : Int) (v77 : Int) (v83 : Bool) : Option (Stp Bool (Int)) :=
  bnd (cnd v83
  (some true)
  (cnd (decide (v77 < 128))
  (bnd (f61 m ((⟨#[32, 9, 10, 40, 41, 91, 93, 44, 59]⟩ : ByteArray)) (IntKind.u8.wrap v77)) fun v100 =>
  some (decide (v100 ≥ 0)))
  (some false))) fun v96 =>
  f32_r1 m v67 v96
def f32_B3 (m : Nat) (v1 : ((List Int) × S27)) (v67 : Int) : Option (Stp Bool (Int)) :=
  cnd (decide (v67 < (v1.1.length : Int)))
  (bnd (idx v1.1 v67) fun v77 =>
  f32_r2 m v67 v77 ((v77 == 0) || (decide (v77 ≥ 983040))))
  (some (.brk v67))
def f32_r4 (m : Nat) (v1 : ((List Int) × S27)) (v16 : Bool) : Option Bool :=
  cnd v16
  (some false)
  (brk (iter (fun (y : Int) => f32_B3 m v1 y) m 0) some fun y102 =>
  some true)
def f32_r5 (m : Nat) (v1 : ((List Int) × S27)) (v8 : Bool) : Option Bool :=
  f32_r4 m v1 (v8 || (decide ((v1.1.length : Int) > 30)))
def f32 (m : Nat) (a0 : ByteArray) : Option Bool :=
  bnd (f60 m a0) fun v1 =>
  f32_r5 m v1 ((!((v1.2.fCode == 0) && ((v1.2.fIndex == 0) && true))) || (decide ((v1.1.length : Int) < 1)))
noncomputable abbrev X32 (n : Nat) : Cx := cxOf Proofs.Tryd.prog E 32 n
noncomputable def C32 : Code := bodyOf Proofs.Tryd.prog 32
theorem ok32 (m : Nat) (a0 : ByteArray) (o : Bool) (h : f32 m a0 = some o) (n : Nat) (hn : m + 3 ≤ n) : Fn Proofs.Tryd.prog E n 32 [.v (eS a0)] (eB o) := by
  obtain ⟨n, rfl⟩ : ∃ q, n = q + 1 := ⟨n - 1, by omega⟩
  unfold f32 at h
  refine Fn.of (by kernel_rfl) (by kernel_rfl) (by kernel_rfl) ⟨(.v (.str a0)) :: u40 (u7 []), []⟩ (by kernel_rfl) ?_
  refine Wp.seq' (by kernel_rfl) ?_
  refine Wp.region (by kernel_rfl) ?_
  refine Ops.seg' 1 1 (by kernel_rfl) ?_
  refine Ops.done (by kernel_rfl) ?_
  refine seqQ.n ?_
  refine Wp.seq' (by kernel_rfl) ?_
  refine Wp.region (by kernel_rfl) ?_
  refine Ops.seg' 1 1 (by kernel_rfl) ?_
  obtain ⟨v1, ev1, h⟩ := bnd_some h
  refine Ops.one' 2 (fun h0 e0 => (call_ok (E' := E) (h := h0) (by kernel_rfl) (Args.v (.str a0) (eS a0) (by kernel_rfl) Args.nil) (ok60 m a0 v1 ev1 n (by omega)))) (by kernel_rfl) (by kernel_rfl) ?_
  refine Ops.seg' 6 8 (by kernel_rfl) ?_
  refine Ops.done (by kernel_rfl) ?_
  refine seqQ.n ?_
  refine Wp.seq' (by kernel_rfl) ?_
  refine Wp.seq' (by kernel_rfl) ?_
  refine Wp.region (by kernel_rfl) ?_
  refine Ops.seg' 4 4 (by kernel_rfl) ?_
  refine Ops.hv (fun K => ∀ (d4 d5 d6 : D) (v7 : Bool) (v8 : Bool), f32_r5 m v1 v8 = some o → K 8 ⟨(.v (.str a0)) :: u1 ((dB false) :: (dP eI v1.1) :: (.ptr 0 0) :: u2 ((.v (.tuple [(vP eI v1.1), (.agg [(vI v1.2.fCode), (vI v1.2.fIndex)])])) :: (.v (.str a0)) :: (.v (.tuple [(vP eI v1.1), (.agg [(vI v1.2.fCode), (vI v1.2.fIndex)])])) :: (dP eI v1.1) :: (.v (.agg [(vI v1.2.fCode), (vI v1.2.fIndex)])) :: (.v (.agg [(vI v1.2.fCode), (vI v1.2.fIndex)])) :: (.v (.agg [(vI 0), (vI 0)])) :: (dB v7) :: (dB v7) :: d4 :: d5 :: d6 :: (dB v8) :: u28 [])), [(.cells [(dI v1.2.fCode), (dI v1.2.fIndex)])]⟩) ?_ fun J32j9 => ?_
  · intro d4 d5 d6 v7 v8 h
    unfold f32_r5 at h
    refine Ops.seg' 1 9 (by kernel_rfl) ?_
    refine Ops.hv (fun K => ∀ (d12 d13 d14 : D) (v15 : Bool) (v16 : Bool), f32_r4 m v1 v16 = some o → K 13 ⟨(.v (.str a0)) :: u1 ((dB false) :: (dP eI v1.1) :: (.ptr 0 0) :: u2 ((.v (.tuple [(vP eI v1.1), (.agg [(vI v1.2.fCode), (vI v1.2.fIndex)])])) :: (.v (.str a0)) :: (.v (.tuple [(vP eI v1.1), (.agg [(vI v1.2.fCode), (vI v1.2.fIndex)])])) :: (dP eI v1.1) :: (.v (.agg [(vI v1.2.fCode), (vI v1.2.fIndex)])) :: (.v (.agg [(vI v1.2.fCode), (vI v1.2.fIndex)])) :: (.v (.agg [(vI 0), (vI 0)])) :: (dB v7) :: (dB v7) :: d4 :: d5 :: d6 :: (dB v15) :: (dB v15) :: d12 :: d13 :: d14 :: (dB v16) :: u23 [])), [(.cells [(dI v1.2.fCode), (dI v1.2.fIndex)])]⟩) ?_ fun J32j17 => ?_
    · intro d12 d13 d14 v15 v16 h
      unfold f32_r4 at h
      refine Ops.done (by kernel_rfl) ?_
      refine seqQ.n ?_
      refine Wp.cnd h [2, 3] 1 (by kernel_rfl) (fun h => ?_) (fun h => ?_)
      · refine Wp.seq' (by kernel_rfl) ?_
        refine Wp.region (by kernel_rfl) ?_
        refine Ops.seg' 1 1 (by kernel_rfl) ?_
        refine Ops.done (by kernel_rfl) ?_
        refine seqQ.n ?_
        refine Wp.ret (by kernel_rfl) ?_
        refine sqQ.r ?_
        refine seqQ.r ?_
        exact fnQ.r' (X32 n) (fun z => (eB z)) h (RetOk.mk' (dB false) (by kernel_rfl) (by kernel_rfl))
      · refine Wp.skip (by kernel_rfl) ?_
        refine sqQ.n' ?_
        refine seqQ.n ?_
        refine Wp.seq' (by kernel_rfl) ?_
        refine Wp.seq' (by kernel_rfl) ?_
        refine Wp.region (by kernel_rfl) ?_
        refine Ops.seg' 1 1 (by kernel_rfl) ?_
        refine Ops.one' 2 (fun h0 e0 => (len_r (T := T) h0 44 3 .plain eI v1.1 (by kernel_rfl))) (by kernel_rfl) (by kernel_rfl) ?_
        refine Ops.seg' 1 3 (by kernel_rfl) ?_
        refine Ops.done (by kernel_rfl) ?_
        refine seqQ.n ?_
        refine Wp.block' 0 [2] 1 (by kernel_rfl) ?_
        have hLx101 : ∀ (kx69 : Nat) (v67 : Int)  (ox68 : Bool ⊕ (Int)), iter (fun (y : Int) => f32_B3 m v1 y) kx69 v67 = some ox68 → ∀ nx70, kx69 ≤ nx70 → (∀ r, ox68 = .inl r → ∀ σ, RetOk (X32 n) (resOf Proofs.Tryd.prog 32) (eB r) σ → (seqQ (X32 n) (cR (cR (cR (cR C32)))) (fnQ (X32 n).E.T (resOf Proofs.Tryd.prog 32) (eB o))) .ret σ) → (∀ (y : Int) , ox68 = .inr y → (seqQ (X32 n) (cR (cR (cR (cR C32)))) (fnQ (X32 n).E.T (resOf Proofs.Tryd.prog 32) (eB o))) .normal ⟨q2 ((dB false) :: q22 ((dP eI v1.1) :: (dI (v1.1.length : Int)) :: (dI y) :: q20 [])), [(.cells [(dI v1.2.fCode), (dI v1.2.fIndex)])]⟩) → Lp (X32 n) [2, 25, 26, 27] 1 (cL (cL (cR (cL (cR (cR (cR C32))))))) nx70 ⟨q2 ((dB false) :: q22 ((dP eI v1.1) :: (dI (v1.1.length : Int)) :: (dI v67) :: q20 [])), [(.cells [(dI v1.2.fCode), (dI v1.2.fIndex)])]⟩ (blkQ (X32 n) 0 [2] 1 (seqQ (X32 n) (cR (cR (cR (cR C32)))) (fnQ (X32 n).E.T (resOf Proofs.Tryd.prog 32) (eB o)))) := by
          intro kx69
          induction kx69 with
          | zero => intro v67  ox68 h; exact (iter_zero h).elim
          | succ kx69 ihx71 =>
            intro v67  ox68 h nx70 hnx74 hrx72 hxx73
            obtain ⟨nx70, rfl⟩ : ∃ q, nx70 = q + 1 := ⟨nx70 - 1, by omega⟩
            obtain ⟨sx75, h, hsx76⟩ := iter_some h
            have h : f32_B3 m v1 v67 = some sx75 := h
            unfold f32_B3 at h
            refine Lp.succ ?_
            refine Wp.seq' (by kernel_rfl) ?_
            refine Wp.region (by kernel_rfl) ?_
            refine Ops.seg' 1 1 (by kernel_rfl) ?_
            refine Ops.done (by kernel_rfl) ?_
            refine seqQ.n ?_
            refine Wp.seq' (by kernel_rfl) ?_
            refine Wp.cnd h [2, 25, 26, 27] 1 (by kernel_rfl) (fun h => ?_) (fun h => ?_)
            · refine Wp.skip (by kernel_rfl) ?_
              refine sqQ.n' ?_
              refine seqQ.n ?_
              refine Wp.seq' (by kernel_rfl) ?_
              refine Wp.block' 1 [2, 25, 26, 27] 1 (by kernel_rfl) ?_
              refine Wp.seq' (by kernel_rfl) ?_
              refine Wp.region (by kernel_rfl) ?_
              obtain ⟨v77, ev77, h⟩ := bnd_some h
              refine Ops.one' 1 (fun h0 e0 => (ix_r (T := T) h0 44 3 1 .plain eI v1.1 v67 v77 ev77 (by kernel_rfl) (by kernel_rfl) (fun _ => rfl))) (by kernel_rfl) (by kernel_rfl) ?_
              refine Ops.seg' 2 3 (by kernel_rfl) ?_
              refine Ops.done (by kernel_rfl) ?_
              refine seqQ.n ?_
              refine Wp.seq' (by kernel_rfl) ?_
              refine Wp.region (by kernel_rfl) ?_
              refine Ops.seg' 3 3 (by kernel_rfl) ?_
              refine Ops.hv (fun K => ∀ (d80 d81 : D) (v82 : Bool) (v83 : Bool), f32_r2 m v67 v77 v83 = some sx75 → K 6 ⟨q2 ((dB false) :: q3 ((dI v77) :: q18 ((dP eI v1.1) :: (dI (v1.1.length : Int)) :: (dI v67) :: (dB (decide (v67 < (v1.1.length : Int)))) :: (.vptr [(vI v77)]) :: (dI v77) :: (dI v77) :: (dB v82) :: (dB v82) :: d80 :: d81 :: (dB v83) :: q11 []))), [(.cells [(dI v1.2.fCode), (dI v1.2.fIndex)])]⟩) ?_ fun J32j84 => ?_
              · intro d80 d81 v82 v83 h
                unfold f32_r2 at h
                refine Ops.seg' 1 7 (by kernel_rfl) ?_
                refine Ops.hv (fun K => ∀ (d87 d88 d89 d90 d91 d92 d93 d94 : D) (v95 : Bool) (v96 : Bool), f32_r1 m v67 v96 = some sx75 → K 16 ⟨q2 ((dB false) :: q3 ((dI v77) :: q18 ((dP eI v1.1) :: (dI (v1.1.length : Int)) :: (dI v67) :: (dB (decide (v67 < (v1.1.length : Int)))) :: (.vptr [(vI v77)]) :: (dI v77) :: (dI v77) :: (dB v82) :: (dB v82) :: d80 :: d81 :: (dB v95) :: (dB v95) :: d87 :: d88 :: d89 :: d90 :: d91 :: d92 :: d93 :: d94 :: (dB v96) :: q1 []))), [(.cells [(dI v1.2.fCode), (dI v1.2.fIndex)])]⟩) ?_ fun J32j97 => ?_
                · intro d87 d88 d89 d90 d91 d92 d93 d94 v95 v96 h
                  unfold f32_r1 at h
                  refine Ops.done (by kernel_rfl) ?_
                  refine seqQ.n ?_
                  refine Wp.cnd h [2, 25, 26, 27] 1 (by kernel_rfl) (fun h => ?_) (fun h => ?_)
                  · refine Wp.seq' (by kernel_rfl) ?_
                    refine Wp.region (by kernel_rfl) ?_
                    refine Ops.seg' 1 1 (by kernel_rfl) ?_
                    refine Ops.done (by kernel_rfl) ?_
                    refine seqQ.n ?_
                    refine Wp.ret (by kernel_rfl) ?_
                    refine sqQ.r ?_
                    refine blkQ.r ?_
                    refine seqQ.r ?_
                    cases h
                    refine lpQ.r ?_
                    refine blkQ.r ?_
                    exact hrx72 _ hsx76 _ (RetOk.forget [2, 25, 26, 27] (by kernel_rfl) (RetOk.mk' (dB false) (by kernel_rfl) (by kernel_rfl)))
                  · refine Wp.skip (by kernel_rfl) ?_
                    refine sqQ.n' ?_
                    refine blkQ.n' ?_
                    refine seqQ.n ?_
                    refine Wp.region (by kernel_rfl) ?_
                    refine Ops.seg' 2 2 (by kernel_rfl) ?_
                    refine Ops.done (by kernel_rfl) ?_
                    refine lpQ.n ⟨q2 ((dB false) :: q22 ((dP eI v1.1) :: (dI (v1.1.length : Int)) :: (dI (w64 (v67 + 1))) :: q20 [])), [(.cells [(dI v1.2.fCode), (dI v1.2.fIndex)])]⟩ (by kernel_rfl) ?_
                    cases h
                    exact ihx71 (w64 (v67 + 1))  _ hsx76 _ (by omega) hrx72 hxx73
                obtain ⟨v96, ev96, h⟩ := bnd_some h
                refine Ops.hv (fun K => ∀ v85 : Bool, (cnd v85 (some true) (cnd (decide (v77 < 128)) (bnd (f61 m ((⟨#[32, 9, 10, 40, 41, 91, 93, 44, 59]⟩ : ByteArray)) (IntKind.u8.wrap v77)) fun v100 => some (decide (v100 ≥ 0))) (some false))) = some v96 → K 7 ⟨q2 ((dB false) :: q3 ((dI v77) :: q18 ((dP eI v1.1) :: (dI (v1.1.length : Int)) :: (dI v67) :: (dB (decide (v67 < (v1.1.length : Int)))) :: (.vptr [(vI v77)]) :: (dI v77) :: (dI v77) :: (dB v82) :: (dB v82) :: d80 :: d81 :: (dB v85) :: (dB v85) :: q10 []))), [(.cells [(dI v1.2.fCode), (dI v1.2.fIndex)])]⟩) ?_ fun G32g86 => Ops.st _ (by kernel_rfl) (G32g86 v83 ev96)
                intro v85 ev96
                cases v85
                · have ev96 := cnd_f ev96
                  refine Ops.seg' 3 10 (by kernel_rfl) ?_
                  refine Ops.hv (fun K => ∀ v98 : Bool, (cnd v98 (bnd (f61 m ((⟨#[32, 9, 10, 40, 41, 91, 93, 44, 59]⟩ : ByteArray)) (IntKind.u8.wrap v77)) fun v100 => some (decide (v100 ≥ 0))) (some false)) = some v96 → K 10 ⟨q2 ((dB false) :: q3 ((dI v77) :: q18 ((dP eI v1.1) :: (dI (v1.1.length : Int)) :: (dI v67) :: (dB (decide (v67 < (v1.1.length : Int)))) :: (.vptr [(vI v77)]) :: (dI v77) :: (dI v77) :: (dB v82) :: (dB v82) :: d80 :: d81 :: (dB false) :: (dB false) :: (dI v77) :: (dB v98) :: (dB v98) :: q7 []))), [(.cells [(dI v1.2.fCode), (dI v1.2.fIndex)])]⟩) ?_ fun G32g99 => Ops.st _ (by kernel_rfl) (G32g99 (decide (v77 < 128)) ev96)
                  intro v98 ev96
                  cases v98
                  · have ev96 := cnd_f ev96
                    refine Ops.seg' 6 16 (by kernel_rfl) ?_
                    exact Ops.st _ (by kernel_rfl) (J32j97 (dI v77) (dB false) (dB false) U U U U (dB false) false false (some_sub (fun v96 => f32_r1 m v67 v96 = some sx75) ev96 h))
                  · have ev96 := cnd_t ev96
                    refine Ops.seg' 2 12 (by kernel_rfl) ?_
                    obtain ⟨v100, ev100, ev96⟩ := bnd_some ev96
                    refine Ops.one' 13 (fun h0 e0 => (call_ok (E' := E) (h := h0) (by kernel_rfl) (Args.v (.str ((⟨#[32, 9, 10, 40, 41, 91, 93, 44, 59]⟩ : ByteArray))) (eS ((⟨#[32, 9, 10, 40, 41, 91, 93, 44, 59]⟩ : ByteArray))) (by kernel_rfl) (Args.v (.int .u8 (IntKind.u8.wrap v77)) ((eK .u8) (IntKind.u8.wrap v77)) (by kernel_rfl) Args.nil)) (ok61 m ((⟨#[32, 9, 10, 40, 41, 91, 93, 44, 59]⟩ : ByteArray)) (IntKind.u8.wrap v77) v100 ev100 n (by omega)))) (by kernel_rfl) (by kernel_rfl) ?_
                    refine Ops.seg' 3 16 (by kernel_rfl) ?_
                    exact Ops.st _ (by kernel_rfl) (J32j97 (dI v77) (dB true) (dB true) (dI v77) (.v (.int .u8 (IntKind.u8.wrap v77))) (dI v100) (dB (decide (v100 ≥ 0))) (dB (decide (v100 ≥ 0))) false (decide (v100 ≥ 0)) (some_sub (fun v96 => f32_r1 m v67 v96 = some sx75) ev96 h))
                · have ev96 := cnd_t ev96
                  refine Ops.seg' 9 16 (by kernel_rfl) ?_
                  exact Ops.st _ (by kernel_rfl) (J32j97 U U U U U U U U true true (some_sub (fun v96 => f32_r1 m v67 v96 = some sx75) ev96 h))
              refine Ops.hv (fun K => ∀ v78 : Bool, f32_r2 m v67 v77 (v78 || (decide (v77 ≥ 983040))) = some sx75 → K 3 ⟨q2 ((dB false) :: q3 ((dI v77) :: q18 ((dP eI v1.1) :: (dI (v1.1.length : Int)) :: (dI v67) :: (dB (decide (v67 < (v1.1.length : Int)))) :: (.vptr [(vI v77)]) :: (dI v77) :: (dI v77) :: (dB v78) :: (dB v78) :: q14 []))), [(.cells [(dI v1.2.fCode), (dI v1.2.fIndex)])]⟩) ?_ fun G32g79 => Ops.st _ (by kernel_rfl) (G32g79 (v77 == 0) h)
              intro v78 h
              cases v78
              · refine Ops.seg' 3 6 (by kernel_rfl) ?_
                exact Ops.st _ (by kernel_rfl) (J32j84 (dI v77) (dB (decide (v77 ≥ 983040))) false (decide (v77 ≥ 983040)) h)
              · refine Ops.seg' 3 6 (by kernel_rfl) ?_
                exact Ops.st _ (by kernel_rfl) (J32j84 U U true true h)
            · refine Wp.exit (id := 0) (by kernel_rfl) ?_
              refine sqQ.x ?_
              refine seqQ.x ?_
              cases h
              refine lpQ.x ?_
              refine blkQ.x ⟨q2 ((dB false) :: q22 ((dP eI v1.1) :: (dI (v1.1.length : Int)) :: (dI v67) :: q20 [])), [(.cells [(dI v1.2.fCode), (dI v1.2.fIndex)])]⟩ (by kernel_rfl) ?_
              exact hxx73 v67  hsx76
        refine Wp.loop' [2, 25, 26, 27] 1 (by kernel_rfl) ⟨q2 ((dB false) :: q22 ((dP eI v1.1) :: (dI (v1.1.length : Int)) :: (dI 0) :: q20 [])), [(.cells [(dI v1.2.fCode), (dI v1.2.fIndex)])]⟩ (by kernel_rfl) ?_
        rcases brk_some h with ⟨r103, er103, h⟩ | ⟨y102, ey102, h⟩
        · refine hLx101 _ 0  _ er103 n (by omega) (fun r er σ hσ => ?_) (fun y  ey => by cases ey)
          cases er
          refine seqQ.r ?_
          exact fnQ.r' (X32 n) (fun z => (eB z)) h hσ
        · refine hLx101 _ 0  _ ey102 n (by omega) (fun r er => by cases er) (fun y  ey => ?_)
          cases ey
          refine seqQ.n ?_
          refine Wp.seq' (by kernel_rfl) ?_
          refine Wp.region (by kernel_rfl) ?_
          refine Ops.seg' 1 1 (by kernel_rfl) ?_
          refine Ops.done (by kernel_rfl) ?_
          refine seqQ.n ?_
          refine Wp.ret (by kernel_rfl) ?_
          exact fnQ.r' (X32 n) (fun z => (eB z)) h (RetOk.mk' (dB true) (by kernel_rfl) (by kernel_rfl))
    refine Ops.hv (fun K => ∀ v10 : Bool, f32_r4 m v1 (v10 || (decide ((v1.1.length : Int) > 30))) = some o → K 9 ⟨(.v (.str a0)) :: u1 ((dB false) :: (dP eI v1.1) :: (.ptr 0 0) :: u2 ((.v (.tuple [(vP eI v1.1), (.agg [(vI v1.2.fCode), (vI v1.2.fIndex)])])) :: (.v (.str a0)) :: (.v (.tuple [(vP eI v1.1), (.agg [(vI v1.2.fCode), (vI v1.2.fIndex)])])) :: (dP eI v1.1) :: (.v (.agg [(vI v1.2.fCode), (vI v1.2.fIndex)])) :: (.v (.agg [(vI v1.2.fCode), (vI v1.2.fIndex)])) :: (.v (.agg [(vI 0), (vI 0)])) :: (dB v7) :: (dB v7) :: d4 :: d5 :: d6 :: (dB v10) :: (dB v10) :: u27 [])), [(.cells [(dI v1.2.fCode), (dI v1.2.fIndex)])]⟩) ?_ fun G32g11 => Ops.st _ (by kernel_rfl) (G32g11 v8 h)
    intro v10 h
    cases v10
    · refine Ops.seg' 1 10 (by kernel_rfl) ?_
      refine Ops.one' 11 (fun h0 e0 => (len_r (T := T) h0 44 3 .plain eI v1.1 (by kernel_rfl))) (by kernel_rfl) (by kernel_rfl) ?_
      refine Ops.seg' 2 13 (by kernel_rfl) ?_
      exact Ops.st _ (by kernel_rfl) (J32j17 (dP eI v1.1) (dI (v1.1.length : Int)) (dB (decide ((v1.1.length : Int) > 30))) false (decide ((v1.1.length : Int) > 30)) h)
    · refine Ops.seg' 4 13 (by kernel_rfl) ?_
      exact Ops.st _ (by kernel_rfl) (J32j17 U U U true true h)
  refine Ops.hv (fun K => ∀ v2 : Bool, f32_r5 m v1 (v2 || (decide ((v1.1.length : Int) < 1))) = some o → K 4 ⟨(.v (.str a0)) :: u1 ((dB false) :: (dP eI v1.1) :: (.ptr 0 0) :: u2 ((.v (.tuple [(vP eI v1.1), (.agg [(vI v1.2.fCode), (vI v1.2.fIndex)])])) :: (.v (.str a0)) :: (.v (.tuple [(vP eI v1.1), (.agg [(vI v1.2.fCode), (vI v1.2.fIndex)])])) :: (dP eI v1.1) :: (.v (.agg [(vI v1.2.fCode), (vI v1.2.fIndex)])) :: (.v (.agg [(vI v1.2.fCode), (vI v1.2.fIndex)])) :: (.v (.agg [(vI 0), (vI 0)])) :: (dB v2) :: (dB v2) :: u32 [])), [(.cells [(dI v1.2.fCode), (dI v1.2.fIndex)])]⟩) ?_ fun G32g3 => Ops.st _ (by kernel_rfl) (G32g3 (!((v1.2.fCode == 0) && ((v1.2.fIndex == 0) && true))) h)
  intro v2 h
  cases v2
  · refine Ops.seg' 1 5 (by kernel_rfl) ?_
    refine Ops.one' 6 (fun h0 e0 => (len_r (T := T) h0 44 3 .plain eI v1.1 (by kernel_rfl))) (by kernel_rfl) (by kernel_rfl) ?_
    refine Ops.seg' 2 8 (by kernel_rfl) ?_
    exact Ops.st _ (by kernel_rfl) (J32j9 (dP eI v1.1) (dI (v1.1.length : Int)) (dB (decide ((v1.1.length : Int) < 1))) false (decide ((v1.1.length : Int) < 1)) h)
  · refine Ops.seg' 4 8 (by kernel_rfl) ?_
    exact Ops.st _ (by kernel_rfl) (J32j9 U U U true true h)

/-! ### 72 glosswright/lexicon.validate -/
def f72_B1 (m : Nat) (v1 : S88) (v3 : (List S88)) (v7 : Int) : Option (Stp Int (Int)) :=
  cnd (decide (v7 < (v3.length : Int)))
  (bnd (idx v3 v7) fun v17 =>
  cnd (v17.fName.toList == v1.fName.toList)
  (some (.ret 7))
  (some (.nxt (w64 (v7 + 1)))))
  (some (.brk v7))
def f72_B2 (m : Nat) (v182 : S90) (v211 : Int) : Option (Stp Int (Int)) :=
  cnd (decide (v211 < (v182.fTags.length : Int)))
  (bnd (idx v182.fTags v211) fun v221 =>
  bnd (f39 m v221) fun v222 =>
  cnd (!v222)
  (some (.ret 10))
  (some (.nxt (w64 (v211 + 1)))))
  (some (.brk v211))
def f72_r3 (m : Nat) (v172 : Int) (v251 : Bool) : Option (Stp Int (Int)) :=
  cnd v251
  (some (.ret 3))
  (some (.nxt (w64 (v172 + 1))))
def f72_r4 (m : Nat) (v172 : Int) (v182 : S90) (v243 : Bool) : Option (Stp Int (Int)) :=
  f72_r3 m v172 (v243 || (decide (v182.fWeight > 1000000)))
def f72_r5 (m : Nat) (v172 : Int) (v182 : S90) (v235 : Bool) : Option (Stp Int (Int)) :=
  f72_r4 m v172 v182 (v235 || (decide (v182.fWeight < 0)))
def f72_r6 (m : Nat) (a0 : S51) (v172 : Int) (v182 : S90) (v204 : Bool) : Option (Stp Int (Int)) :=
  cnd v204
  (some (.ret 5))
  (cnd (decide ((v182.fTags.length : Int) > 4))
  (some (.ret 2))
  (brk (iter (fun (y : Int) => f72_B2 m v182 y) m 0) (fun r => some (.ret r)) fun y224 =>
  f72_r5 m v172 v182 ((decide (v182.fNext < (-1))) || (decide (v182.fNext ≥ (a0.fClasses.length : Int))))))
def f72_r7 (m : Nat) (a0 : S51) (v172 : Int) (v182 : S90) (v190 : Bool) : Option (Stp Int (Int)) :=
  bnd (cnd v190
  (some true)
  (cnd (!(v182.fForm.toList == (⟨#[]⟩ : ByteArray).toList))
  (bnd (f32 m v182.fForm) fun v255 =>
  some (!v255))
  (some false))) fun v204 =>
  f72_r6 m a0 v172 v182 v204
def f72_B8 (m : Nat) (a0 : S51) (v1 : S88) (v172 : Int) : Option (Stp Int (Int)) :=
  cnd (decide (v172 < (v1.fItems.length : Int)))
  (bnd (idx v1.fItems v172) fun v182 =>
  bnd (cnd (!(v182.fBase.toList == (⟨#[]⟩ : ByteArray).toList))
  (bnd (f32 m v182.fBase) fun v256 =>
  some (!v256))
  (some false)) fun v190 =>
  f72_r7 m a0 v172 v182 v190)
  (some (.brk v172))
def f72 (m : Nat) (a0 : S51) (a1 : Int) : Option Int :=
  bnd (idx a0.fClasses a1) fun v1 =>
  bnd (f39 m v1.fName) fun v2 =>
  cnd (!v2)
  (some 10)
  (bnd (sub a0.fClasses 0 a1) fun v3 =>
  brk (iter (fun (y : Int) => f72_B1 m v1 v3 y) m 0) some fun y19 =>
  cnd (decide ((v1.fItems.length : Int) > 100))
  (some 2)
  (brk (iter (fun (y : Int) => f72_B8 m a0 v1 y) m 0) some fun y258 =>
  some 0))
noncomputable abbrev X72 (n : Nat) : Cx := cxOf Proofs.Tryd.prog E 72 n
noncomputable def C72 : Code := bodyOf Proofs.Tryd.prog 72
theorem f72_hLx223 (m : Nat) (a0 : S51) (a1 : Int) (o : Int) (n : Nat) (hn : m + 4 ≤ n + 1) (v182 : S90) (nx175 : Nat) (v1 : S88) (v172 : Int) : ∀ (kx213 : Nat) (v211 : Int)  (ox212 : Int ⊕ (Int)), iter (fun (y : Int) => f72_B2 m v182 y) kx213 v211 = some ox212 → ∀ nx214, kx213 ≤ nx214 → (∀ r, ox212 = .inl r → ∀ σ, RetOk (X72 n) (resOf Proofs.Tryd.prog 72) (eI r) σ → (seqQ (X72 n) (cR (cR (cR (cR (cL (cL (cR (cR (cL (cL (cR (cL (cR (cR (cR (cR (cR C72))))))))))))))))) (blkQ (X72 n) 3 [2, 4, 41, 42, 43] 2 (seqQ (X72 n) (cR (cR (cR (cL (cL (cR (cL (cR (cR (cR (cR (cR C72)))))))))))) (lpQ (X72 n) [2, 4, 41, 42, 43] 2 (cL (cL (cR (cL (cR (cR (cR (cR (cR C72))))))))) nx175 (blkQ (X72 n) 2 [4] 2 (seqQ (X72 n) (cR (cR (cR (cR (cR (cR C72)))))) (fnQ (X72 n).E.T (resOf Proofs.Tryd.prog 72) (eI o)))))))) .ret σ) → (∀ (y : Int) , ox212 = .inr y → (seqQ (X72 n) (cR (cR (cR (cR (cL (cL (cR (cR (cL (cL (cR (cL (cR (cR (cR (cR (cR C72))))))))))))))))) (blkQ (X72 n) 3 [2, 4, 41, 42, 43] 2 (seqQ (X72 n) (cR (cR (cR (cL (cL (cR (cL (cR (cR (cR (cR (cR C72)))))))))))) (lpQ (X72 n) [2, 4, 41, 42, 43] 2 (cL (cL (cR (cL (cR (cR (cR (cR (cR C72))))))))) nx175 (blkQ (X72 n) 2 [4] 2 (seqQ (X72 n) (cR (cR (cR (cR (cR (cR C72)))))) (fnQ (X72 n).E.T (resOf Proofs.Tryd.prog 72) (eI o)))))))) .normal ⟨q2 ((.ptr 0 0) :: q1 ((dI 0) :: q4 ((.ptr 2 0) :: q31 ((dP e90 v1.fItems) :: (dI (v1.fItems.length : Int)) :: (dI v172) :: q28 ((dP eS v182.fTags) :: (dI (v182.fTags.length : Int)) :: (dI y) :: q29 []))))), [(.cells [(dP e88 a0.fClasses)]), (.cells [(.v (.str v1.fName)), (dP e90 v1.fItems)]), (.cells [(.v (.str v182.fBase)), (.v (.str v182.fForm)), (dP eS v182.fTags), (dI v182.fNext), (dI v182.fWeight)])]⟩) → Lp (X72 n) [2, 4, 9, 41, 42, 43, 72, 73, 74] 3 (cL (cL (cR (cL (cR (cR (cR (cL (cL (cR (cR (cL (cL (cR (cL (cR (cR (cR (cR (cR C72)))))))))))))))))))) nx214 ⟨q2 ((.ptr 0 0) :: q1 ((dI 0) :: q4 ((.ptr 2 0) :: q31 ((dP e90 v1.fItems) :: (dI (v1.fItems.length : Int)) :: (dI v172) :: q28 ((dP eS v182.fTags) :: (dI (v182.fTags.length : Int)) :: (dI v211) :: q29 []))))), [(.cells [(dP e88 a0.fClasses)]), (.cells [(.v (.str v1.fName)), (dP e90 v1.fItems)]), (.cells [(.v (.str v182.fBase)), (.v (.str v182.fForm)), (dP eS v182.fTags), (dI v182.fNext), (dI v182.fWeight)])]⟩ (blkQ (X72 n) 4 [2, 4, 9, 41, 42, 43] 3 (seqQ (X72 n) (cR (cR (cR (cR (cL (cL (cR (cR (cL (cL (cR (cL (cR (cR (cR (cR (cR C72))))))))))))))))) (blkQ (X72 n) 3 [2, 4, 41, 42, 43] 2 (seqQ (X72 n) (cR (cR (cR (cL (cL (cR (cL (cR (cR (cR (cR (cR C72)))))))))))) (lpQ (X72 n) [2, 4, 41, 42, 43] 2 (cL (cL (cR (cL (cR (cR (cR (cR (cR C72))))))))) nx175 (blkQ (X72 n) 2 [4] 2 (seqQ (X72 n) (cR (cR (cR (cR (cR (cR C72)))))) (fnQ (X72 n).E.T (resOf Proofs.Tryd.prog 72) (eI o))))))))) := by
  intro kx213
  induction kx213 with
  | zero => intro v211  ox212 h; exact (iter_zero h).elim
  | succ kx213 ihx215 =>
    intro v211  ox212 h nx214 hnx218 hrx216 hxx217
    obtain ⟨nx214, rfl⟩ : ∃ q, nx214 = q + 1 := ⟨nx214 - 1, by omega⟩
    obtain ⟨sx219, h, hsx220⟩ := iter_some h
    have h : f72_B2 m v182 v211 = some sx219 := h
    unfold f72_B2 at h
    refine Lp.succ ?_
    refine Wp.seq' (by kernel_rfl) ?_
    refine Wp.region (by kernel_rfl) ?_
    refine Ops.seg' 1 1 (by kernel_rfl) ?_
    refine Ops.done (by kernel_rfl) ?_
    refine seqQ.n ?_
    refine Wp.seq' (by kernel_rfl) ?_
    refine Wp.cnd h [2, 4, 9, 41, 42, 43, 72, 73, 74] 3 (by kernel_rfl) (fun h => ?_) (fun h => ?_)
    · refine Wp.skip (by kernel_rfl) ?_
      refine sqQ.n' ?_
      refine seqQ.n ?_
      refine Wp.seq' (by kernel_rfl) ?_
      refine Wp.block' 5 [2, 4, 9, 41, 42, 43, 72, 73, 74] 3 (by kernel_rfl) ?_
      refine Wp.seq' (by kernel_rfl) ?_
      refine Wp.region (by kernel_rfl) ?_
      obtain ⟨v221, ev221, h⟩ := bnd_some h
      refine Ops.one' 1 (fun h0 e0 => (ix_r (T := T) h0 36 9 1 .plain eS v182.fTags v211 v221 ev221 (by kernel_rfl) (by kernel_rfl) (fun _ => rfl))) (by kernel_rfl) (by kernel_rfl) ?_
      refine Ops.seg' 2 3 (by kernel_rfl) ?_
      refine Ops.done (by kernel_rfl) ?_
      refine seqQ.n ?_
      refine Wp.seq' (by kernel_rfl) ?_
      refine Wp.region (by kernel_rfl) ?_
      refine Ops.seg' 1 1 (by kernel_rfl) ?_
      obtain ⟨v222, ev222, h⟩ := bnd_some h
      refine Ops.one' 2 (fun h0 e0 => (call_ok (E' := E) (h := h0) (by kernel_rfl) (Args.v (.str v221) (eS v221) (by kernel_rfl) Args.nil) (ok39 m v221 v222 ev222 n (by omega)))) (by kernel_rfl) (by kernel_rfl) ?_
      refine Ops.seg' 1 3 (by kernel_rfl) ?_
      refine Ops.done (by kernel_rfl) ?_
      refine seqQ.n ?_
      refine Wp.cnd h [2, 4, 9, 41, 42, 43, 72, 73, 74] 3 (by kernel_rfl) (fun h => ?_) (fun h => ?_)
      · refine Wp.seq' (by kernel_rfl) ?_
        refine Wp.region (by kernel_rfl) ?_
        refine Ops.seg' 1 1 (by kernel_rfl) ?_
        refine Ops.done (by kernel_rfl) ?_
        refine seqQ.n ?_
        refine Wp.ret (by kernel_rfl) ?_
        refine sqQ.r ?_
        refine blkQ.r ?_
        refine seqQ.r ?_
        cases h
        refine lpQ.r ?_
        refine blkQ.r ?_
        exact hrx216 _ hsx220 _ (RetOk.forget [2, 4, 9, 41, 42, 43, 72, 73, 74] (by kernel_rfl) (RetOk.mk' (dI 10) (by kernel_rfl) (by kernel_rfl)))
      · refine Wp.skip (by kernel_rfl) ?_
        refine sqQ.n' ?_
        refine blkQ.n' ?_
        refine seqQ.n ?_
        refine Wp.region (by kernel_rfl) ?_
        refine Ops.seg' 2 2 (by kernel_rfl) ?_
        refine Ops.done (by kernel_rfl) ?_
        refine lpQ.n ⟨q2 ((.ptr 0 0) :: q1 ((dI 0) :: q4 ((.ptr 2 0) :: q31 ((dP e90 v1.fItems) :: (dI (v1.fItems.length : Int)) :: (dI v172) :: q28 ((dP eS v182.fTags) :: (dI (v182.fTags.length : Int)) :: (dI (w64 (v211 + 1))) :: q29 []))))), [(.cells [(dP e88 a0.fClasses)]), (.cells [(.v (.str v1.fName)), (dP e90 v1.fItems)]), (.cells [(.v (.str v182.fBase)), (.v (.str v182.fForm)), (dP eS v182.fTags), (dI v182.fNext), (dI v182.fWeight)])]⟩ (by kernel_rfl) ?_
        cases h
        exact ihx215 (w64 (v211 + 1))  _ hsx220 _ (by omega) hrx216 hxx217
    · refine Wp.exit (id := 4) (by kernel_rfl) ?_
      refine sqQ.x ?_
      refine seqQ.x ?_
      cases h
      refine lpQ.x ?_
      refine blkQ.x ⟨q2 ((.ptr 0 0) :: q1 ((dI 0) :: q4 ((.ptr 2 0) :: q31 ((dP e90 v1.fItems) :: (dI (v1.fItems.length : Int)) :: (dI v172) :: q28 ((dP eS v182.fTags) :: (dI (v182.fTags.length : Int)) :: (dI v211) :: q29 []))))), [(.cells [(dP e88 a0.fClasses)]), (.cells [(.v (.str v1.fName)), (dP e90 v1.fItems)]), (.cells [(.v (.str v182.fBase)), (.v (.str v182.fForm)), (dP eS v182.fTags), (dI v182.fNext), (dI v182.fWeight)])]⟩ (by kernel_rfl) ?_
      exact hxx217 v211  hsx220
theorem f72_hLx257 (m : Nat) (a0 : S51) (a1 : Int) (o : Int) (n : Nat) (hn : m + 4 ≤ n + 1) (v1 : S88) : ∀ (kx174 : Nat) (v172 : Int)  (ox173 : Int ⊕ (Int)), iter (fun (y : Int) => f72_B8 m a0 v1 y) kx174 v172 = some ox173 → ∀ nx175, kx174 ≤ nx175 → (∀ r, ox173 = .inl r → ∀ σ, RetOk (X72 n) (resOf Proofs.Tryd.prog 72) (eI r) σ → (seqQ (X72 n) (cR (cR (cR (cR (cR (cR C72)))))) (fnQ (X72 n).E.T (resOf Proofs.Tryd.prog 72) (eI o))) .ret σ) → (∀ (y : Int) , ox173 = .inr y → (seqQ (X72 n) (cR (cR (cR (cR (cR (cR C72)))))) (fnQ (X72 n).E.T (resOf Proofs.Tryd.prog 72) (eI o))) .normal ⟨q2 ((.ptr 0 0) :: q1 ((dI 0) :: q36 ((dP e90 v1.fItems) :: (dI (v1.fItems.length : Int)) :: (dI y) :: q40 (q20 [])))), [(.cells [(dP e88 a0.fClasses)]), (.cells [(.v (.str v1.fName)), (dP e90 v1.fItems)])]⟩) → Lp (X72 n) [2, 4, 41, 42, 43] 2 (cL (cL (cR (cL (cR (cR (cR (cR (cR C72))))))))) nx175 ⟨q2 ((.ptr 0 0) :: q1 ((dI 0) :: q36 ((dP e90 v1.fItems) :: (dI (v1.fItems.length : Int)) :: (dI v172) :: q40 (q20 [])))), [(.cells [(dP e88 a0.fClasses)]), (.cells [(.v (.str v1.fName)), (dP e90 v1.fItems)])]⟩ (blkQ (X72 n) 2 [4] 2 (seqQ (X72 n) (cR (cR (cR (cR (cR (cR C72)))))) (fnQ (X72 n).E.T (resOf Proofs.Tryd.prog 72) (eI o)))) := by
  intro kx174
  induction kx174 with
  | zero => intro v172  ox173 h; exact (iter_zero h).elim
  | succ kx174 ihx176 =>
    intro v172  ox173 h nx175 hnx179 hrx177 hxx178
    obtain ⟨nx175, rfl⟩ : ∃ q, nx175 = q + 1 := ⟨nx175 - 1, by omega⟩
    obtain ⟨sx180, h, hsx181⟩ := iter_some h
    have h : f72_B8 m a0 v1 v172 = some sx180 := h
    unfold f72_B8 at h
    refine Lp.succ ?_
    refine Wp.seq' (by kernel_rfl) ?_
    refine Wp.region (by kernel_rfl) ?_
    refine Ops.seg' 1 1 (by kernel_rfl) ?_
    refine Ops.done (by kernel_rfl) ?_
    refine seqQ.n ?_
    refine Wp.seq' (by kernel_rfl) ?_
    refine Wp.cnd h [2, 4, 41, 42, 43] 2 (by kernel_rfl) (fun h => ?_) (fun h => ?_)
    · refine Wp.skip (by kernel_rfl) ?_
      refine sqQ.n' ?_
      refine seqQ.n ?_
      refine Wp.seq' (by kernel_rfl) ?_
      refine Wp.block' 3 [2, 4, 41, 42, 43] 2 (by kernel_rfl) ?_
      refine Wp.seq' (by kernel_rfl) ?_
      refine Wp.region (by kernel_rfl) ?_
      obtain ⟨v182, ev182, h⟩ := bnd_some h
      refine Ops.one' 1 (fun h0 e0 => (ix_r (T := T) h0 87 91 5 .plain e90 v1.fItems v172 v182 ev182 (by kernel_rfl) (by kernel_rfl) (fun _ => rfl))) (by kernel_rfl) (by kernel_rfl) ?_
      refine Ops.seg' 3 4 (by kernel_rfl) ?_
      refine Ops.done (by kernel_rfl) ?_
      refine seqQ.n ?_
      refine Wp.seq' (by kernel_rfl) ?_
      refine Wp.seq' (by kernel_rfl) ?_
      refine Wp.region (by kernel_rfl) ?_
      refine Ops.seg' 4 4 (by kernel_rfl) ?_
      refine Ops.hv (fun K => ∀ (d185 d186 d187 d188 : D) (v189 : Bool) (v190 : Bool), f72_r7 m a0 v172 v182 v190 = some sx180 → K 9 ⟨q2 ((.ptr 0 0) :: q1 ((dI 0) :: q4 ((.ptr 2 0) :: q31 ((dP e90 v1.fItems) :: (dI (v1.fItems.length : Int)) :: (dI v172) :: (dB (decide (v172 < (v1.fItems.length : Int)))) :: (.vptr [(.str v182.fBase), (.str v182.fForm), (vP eS v182.fTags), (vI v182.fNext), (vI v182.fWeight)]) :: (.v (.agg [(.str v182.fBase), (.str v182.fForm), (vP eS v182.fTags), (vI v182.fNext), (vI v182.fWeight)])) :: (.ptr 2 0) :: (.v (.str v182.fBase)) :: (dB v189) :: (dB v189) :: d185 :: d186 :: d187 :: d188 :: (dB v190) :: q40 (q8 []))))), [(.cells [(dP e88 a0.fClasses)]), (.cells [(.v (.str v1.fName)), (dP e90 v1.fItems)]), (.cells [(.v (.str v182.fBase)), (.v (.str v182.fForm)), (dP eS v182.fTags), (dI v182.fNext), (dI v182.fWeight)])]⟩) ?_ fun J72j191 => ?_
      · intro d185 d186 d187 d188 v189 v190 h
        unfold f72_r7 at h
        refine Ops.seg' 1 10 (by kernel_rfl) ?_
        refine Ops.hv (fun K => ∀ (d194 d195 d196 d197 d198 d199 d200 d201 d202 : D) (v203 : Bool) (v204 : Bool), f72_r6 m a0 v172 v182 v204 = some sx180 → K 20 ⟨q2 ((.ptr 0 0) :: q1 ((dI 0) :: q4 ((.ptr 2 0) :: q31 ((dP e90 v1.fItems) :: (dI (v1.fItems.length : Int)) :: (dI v172) :: (dB (decide (v172 < (v1.fItems.length : Int)))) :: (.vptr [(.str v182.fBase), (.str v182.fForm), (vP eS v182.fTags), (vI v182.fNext), (vI v182.fWeight)]) :: (.v (.agg [(.str v182.fBase), (.str v182.fForm), (vP eS v182.fTags), (vI v182.fNext), (vI v182.fWeight)])) :: (.ptr 2 0) :: (.v (.str v182.fBase)) :: (dB v189) :: (dB v189) :: d185 :: d186 :: d187 :: d188 :: (dB v203) :: (dB v203) :: d194 :: d195 :: d196 :: d197 :: d198 :: d199 :: d200 :: d201 :: d202 :: (dB v204) :: q37 [])))), [(.cells [(dP e88 a0.fClasses)]), (.cells [(.v (.str v1.fName)), (dP e90 v1.fItems)]), (.cells [(.v (.str v182.fBase)), (.v (.str v182.fForm)), (dP eS v182.fTags), (dI v182.fNext), (dI v182.fWeight)])]⟩) ?_ fun J72j205 => ?_
        · intro d194 d195 d196 d197 d198 d199 d200 d201 d202 v203 v204 h
          unfold f72_r6 at h
          refine Ops.done (by kernel_rfl) ?_
          refine seqQ.n ?_
          refine Wp.cnd h [2, 4, 9, 41, 42, 43] 3 (by kernel_rfl) (fun h => ?_) (fun h => ?_)
          · refine Wp.seq' (by kernel_rfl) ?_
            refine Wp.region (by kernel_rfl) ?_
            refine Ops.seg' 1 1 (by kernel_rfl) ?_
            refine Ops.done (by kernel_rfl) ?_
            refine seqQ.n ?_
            refine Wp.ret (by kernel_rfl) ?_
            refine sqQ.r ?_
            refine seqQ.r ?_
            refine blkQ.r ?_
            refine seqQ.r ?_
            cases h
            refine lpQ.r ?_
            refine blkQ.r ?_
            exact hrx177 _ hsx181 _ (RetOk.forget [2, 4, 41, 42, 43] (by kernel_rfl) (RetOk.mk' (dI 5) (by kernel_rfl) (by kernel_rfl)))
          · refine Wp.skip (by kernel_rfl) ?_
            refine sqQ.n' ?_
            refine seqQ.n ?_
            refine Wp.seq' (by kernel_rfl) ?_
            refine Wp.seq' (by kernel_rfl) ?_
            refine Wp.region (by kernel_rfl) ?_
            refine Ops.seg' 2 2 (by kernel_rfl) ?_
            refine Ops.one' 3 (fun h0 e0 => (len_r (T := T) h0 36 9 .plain eS v182.fTags (by kernel_rfl))) (by kernel_rfl) (by kernel_rfl) ?_
            refine Ops.seg' 1 4 (by kernel_rfl) ?_
            refine Ops.done (by kernel_rfl) ?_
            refine seqQ.n ?_
            refine Wp.cnd h [2, 4, 9, 41, 42, 43] 3 (by kernel_rfl) (fun h => ?_) (fun h => ?_)
            · refine Wp.seq' (by kernel_rfl) ?_
              refine Wp.region (by kernel_rfl) ?_
              refine Ops.seg' 1 1 (by kernel_rfl) ?_
              refine Ops.done (by kernel_rfl) ?_
              refine seqQ.n ?_
              refine Wp.ret (by kernel_rfl) ?_
              refine sqQ.r ?_
              refine seqQ.r ?_
              refine blkQ.r ?_
              refine seqQ.r ?_
              cases h
              refine lpQ.r ?_
              refine blkQ.r ?_
              exact hrx177 _ hsx181 _ (RetOk.forget [2, 4, 41, 42, 43] (by kernel_rfl) (RetOk.mk' (dI 2) (by kernel_rfl) (by kernel_rfl)))
            · refine Wp.skip (by kernel_rfl) ?_
              refine sqQ.n' ?_
              refine seqQ.n ?_
              refine Wp.seq' (by kernel_rfl) ?_
              refine Wp.seq' (by kernel_rfl) ?_
              refine Wp.region (by kernel_rfl) ?_
              refine Ops.seg' 2 2 (by kernel_rfl) ?_
              refine Ops.one' 3 (fun h0 e0 => (len_r (T := T) h0 36 9 .plain eS v182.fTags (by kernel_rfl))) (by kernel_rfl) (by kernel_rfl) ?_
              refine Ops.seg' 1 4 (by kernel_rfl) ?_
              refine Ops.done (by kernel_rfl) ?_
              refine seqQ.n ?_
              refine Wp.block' 4 [2, 4, 9, 41, 42, 43] 3 (by kernel_rfl) ?_
              have hLx223 := f72_hLx223 m a0 a1 o n hn v182 nx175 v1 v172
              refine Wp.loop' [2, 4, 9, 41, 42, 43, 72, 73, 74] 3 (by kernel_rfl) ⟨q2 ((.ptr 0 0) :: q1 ((dI 0) :: q4 ((.ptr 2 0) :: q31 ((dP e90 v1.fItems) :: (dI (v1.fItems.length : Int)) :: (dI v172) :: q28 ((dP eS v182.fTags) :: (dI (v182.fTags.length : Int)) :: (dI 0) :: q29 []))))), [(.cells [(dP e88 a0.fClasses)]), (.cells [(.v (.str v1.fName)), (dP e90 v1.fItems)]), (.cells [(.v (.str v182.fBase)), (.v (.str v182.fForm)), (dP eS v182.fTags), (dI v182.fNext), (dI v182.fWeight)])]⟩ (by kernel_rfl) ?_
              rcases brk_some h with ⟨r225, er225, h⟩ | ⟨y224, ey224, h⟩
              · refine hLx223 _ 0  _ er225 n (by omega) (fun r er σ hσ => ?_) (fun y  ey => by cases ey)
                cases er
                refine seqQ.r ?_
                refine blkQ.r ?_
                refine seqQ.r ?_
                refine lpQ.r ?_
                cases h
                refine blkQ.r ?_
                exact hrx177 _ hsx181 _ (RetOk.forget [2, 4, 41, 42, 43] (by kernel_rfl) hσ)
              · refine hLx223 _ 0  _ ey224 n (by omega) (fun r er => by cases er) (fun y  ey => ?_)
                cases ey
                refine seqQ.n ?_
                refine Wp.seq' (by kernel_rfl) ?_
                refine Wp.region (by kernel_rfl) ?_
                refine Ops.seg' 4 4 (by kernel_rfl) ?_
                refine Ops.hv (fun K => ∀ (d228 d229 d230 d231 d232 d233 : D) (v234 : Bool) (v235 : Bool), f72_r5 m v172 v182 v235 = some sx180 → K 11 ⟨q2 ((.ptr 0 0) :: q1 ((dI 0) :: q4 ((.ptr 2 0) :: q31 ((dP e90 v1.fItems) :: (dI (v1.fItems.length : Int)) :: (dI v172) :: q28 ((dP eS v182.fTags) :: (dI (v182.fTags.length : Int)) :: (dI y224) :: q7 ((.ptr 2 3) :: (dI v182.fNext) :: (dB v234) :: (dB v234) :: d228 :: d229 :: d230 :: d231 :: d232 :: d233 :: (dB v235) :: q11 [])))))), [(.cells [(dP e88 a0.fClasses)]), (.cells [(.v (.str v1.fName)), (dP e90 v1.fItems)]), (.cells [(.v (.str v182.fBase)), (.v (.str v182.fForm)), (dP eS v182.fTags), (dI v182.fNext), (dI v182.fWeight)])]⟩) ?_ fun J72j236 => ?_
                · intro d228 d229 d230 d231 d232 d233 v234 v235 h
                  unfold f72_r5 at h
                  refine Ops.seg' 1 12 (by kernel_rfl) ?_
                  refine Ops.hv (fun K => ∀ (d239 d240 d241 : D) (v242 : Bool) (v243 : Bool), f72_r4 m v172 v182 v243 = some sx180 → K 16 ⟨q2 ((.ptr 0 0) :: q1 ((dI 0) :: q4 ((.ptr 2 0) :: q31 ((dP e90 v1.fItems) :: (dI (v1.fItems.length : Int)) :: (dI v172) :: q28 ((dP eS v182.fTags) :: (dI (v182.fTags.length : Int)) :: (dI y224) :: q7 ((.ptr 2 3) :: (dI v182.fNext) :: (dB v234) :: (dB v234) :: d228 :: d229 :: d230 :: d231 :: d232 :: d233 :: (dB v242) :: (dB v242) :: d239 :: d240 :: d241 :: (dB v243) :: q6 [])))))), [(.cells [(dP e88 a0.fClasses)]), (.cells [(.v (.str v1.fName)), (dP e90 v1.fItems)]), (.cells [(.v (.str v182.fBase)), (.v (.str v182.fForm)), (dP eS v182.fTags), (dI v182.fNext), (dI v182.fWeight)])]⟩) ?_ fun J72j244 => ?_
                  · intro d239 d240 d241 v242 v243 h
                    unfold f72_r4 at h
                    refine Ops.seg' 1 17 (by kernel_rfl) ?_
                    refine Ops.hv (fun K => ∀ (d247 d248 d249 : D) (v250 : Bool) (v251 : Bool), f72_r3 m v172 v251 = some sx180 → K 21 ⟨q2 ((.ptr 0 0) :: q1 ((dI 0) :: q4 ((.ptr 2 0) :: q31 ((dP e90 v1.fItems) :: (dI (v1.fItems.length : Int)) :: (dI v172) :: q28 ((dP eS v182.fTags) :: (dI (v182.fTags.length : Int)) :: (dI y224) :: q7 ((.ptr 2 3) :: (dI v182.fNext) :: (dB v234) :: (dB v234) :: d228 :: d229 :: d230 :: d231 :: d232 :: d233 :: (dB v242) :: (dB v242) :: d239 :: d240 :: d241 :: (dB v250) :: (dB v250) :: d247 :: d248 :: d249 :: (dB v251) :: q1 [])))))), [(.cells [(dP e88 a0.fClasses)]), (.cells [(.v (.str v1.fName)), (dP e90 v1.fItems)]), (.cells [(.v (.str v182.fBase)), (.v (.str v182.fForm)), (dP eS v182.fTags), (dI v182.fNext), (dI v182.fWeight)])]⟩) ?_ fun J72j252 => ?_
                    · intro d247 d248 d249 v250 v251 h
                      unfold f72_r3 at h
                      refine Ops.done (by kernel_rfl) ?_
                      refine seqQ.n ?_
                      refine Wp.cnd h [2, 4, 41, 42, 43] 3 (by kernel_rfl) (fun h => ?_) (fun h => ?_)
                      · refine Wp.seq' (by kernel_rfl) ?_
                        refine Wp.region (by kernel_rfl) ?_
                        refine Ops.seg' 1 1 (by kernel_rfl) ?_
                        refine Ops.done (by kernel_rfl) ?_
                        refine seqQ.n ?_
                        refine Wp.ret (by kernel_rfl) ?_
                        refine sqQ.r ?_
                        refine blkQ.r ?_
                        refine seqQ.r ?_
                        cases h
                        refine lpQ.r ?_
                        refine blkQ.r ?_
                        exact hrx177 _ hsx181 _ (RetOk.forget [2, 4, 41, 42, 43] (by kernel_rfl) (RetOk.mk' (dI 3) (by kernel_rfl) (by kernel_rfl)))
                      · refine Wp.skip (by kernel_rfl) ?_
                        refine sqQ.n' ?_
                        refine blkQ.n' ?_
                        refine seqQ.n ?_
                        refine Wp.region (by kernel_rfl) ?_
                        refine Ops.seg' 2 2 (by kernel_rfl) ?_
                        refine Ops.done (by kernel_rfl) ?_
                        refine lpQ.n ⟨q2 ((.ptr 0 0) :: q1 ((dI 0) :: q36 ((dP e90 v1.fItems) :: (dI (v1.fItems.length : Int)) :: (dI (w64 (v172 + 1))) :: q40 (q20 [])))), [(.cells [(dP e88 a0.fClasses)]), (.cells [(.v (.str v1.fName)), (dP e90 v1.fItems)])]⟩ (by kernel_rfl) ?_
                        cases h
                        exact ihx176 (w64 (v172 + 1))  _ hsx181 _ (by omega) hrx177 hxx178
                    refine Ops.hv (fun K => ∀ v245 : Bool, f72_r3 m v172 (v245 || (decide (v182.fWeight > 1000000))) = some sx180 → K 17 ⟨q2 ((.ptr 0 0) :: q1 ((dI 0) :: q4 ((.ptr 2 0) :: q31 ((dP e90 v1.fItems) :: (dI (v1.fItems.length : Int)) :: (dI v172) :: q28 ((dP eS v182.fTags) :: (dI (v182.fTags.length : Int)) :: (dI y224) :: q7 ((.ptr 2 3) :: (dI v182.fNext) :: (dB v234) :: (dB v234) :: d228 :: d229 :: d230 :: d231 :: d232 :: d233 :: (dB v242) :: (dB v242) :: d239 :: d240 :: d241 :: (dB v245) :: (dB v245) :: q5 [])))))), [(.cells [(dP e88 a0.fClasses)]), (.cells [(.v (.str v1.fName)), (dP e90 v1.fItems)]), (.cells [(.v (.str v182.fBase)), (.v (.str v182.fForm)), (dP eS v182.fTags), (dI v182.fNext), (dI v182.fWeight)])]⟩) ?_ fun G72g246 => Ops.st _ (by kernel_rfl) (G72g246 v243 h)
                    intro v245 h
                    cases v245
                    · refine Ops.seg' 4 21 (by kernel_rfl) ?_
                      exact Ops.st _ (by kernel_rfl) (J72j252 (.ptr 2 4) (dI v182.fWeight) (dB (decide (v182.fWeight > 1000000))) false (decide (v182.fWeight > 1000000)) h)
                    · refine Ops.seg' 4 21 (by kernel_rfl) ?_
                      exact Ops.st _ (by kernel_rfl) (J72j252 U U U true true h)
                  refine Ops.hv (fun K => ∀ v237 : Bool, f72_r4 m v172 v182 (v237 || (decide (v182.fWeight < 0))) = some sx180 → K 12 ⟨q2 ((.ptr 0 0) :: q1 ((dI 0) :: q4 ((.ptr 2 0) :: q31 ((dP e90 v1.fItems) :: (dI (v1.fItems.length : Int)) :: (dI v172) :: q28 ((dP eS v182.fTags) :: (dI (v182.fTags.length : Int)) :: (dI y224) :: q7 ((.ptr 2 3) :: (dI v182.fNext) :: (dB v234) :: (dB v234) :: d228 :: d229 :: d230 :: d231 :: d232 :: d233 :: (dB v237) :: (dB v237) :: q10 [])))))), [(.cells [(dP e88 a0.fClasses)]), (.cells [(.v (.str v1.fName)), (dP e90 v1.fItems)]), (.cells [(.v (.str v182.fBase)), (.v (.str v182.fForm)), (dP eS v182.fTags), (dI v182.fNext), (dI v182.fWeight)])]⟩) ?_ fun G72g238 => Ops.st _ (by kernel_rfl) (G72g238 v235 h)
                  intro v237 h
                  cases v237
                  · refine Ops.seg' 4 16 (by kernel_rfl) ?_
                    exact Ops.st _ (by kernel_rfl) (J72j244 (.ptr 2 4) (dI v182.fWeight) (dB (decide (v182.fWeight < 0))) false (decide (v182.fWeight < 0)) h)
                  · refine Ops.seg' 4 16 (by kernel_rfl) ?_
                    exact Ops.st _ (by kernel_rfl) (J72j244 U U U true true h)
                refine Ops.hv (fun K => ∀ v226 : Bool, f72_r5 m v172 v182 (v226 || (decide (v182.fNext ≥ (a0.fClasses.length : Int)))) = some sx180 → K 4 ⟨q2 ((.ptr 0 0) :: q1 ((dI 0) :: q4 ((.ptr 2 0) :: q31 ((dP e90 v1.fItems) :: (dI (v1.fItems.length : Int)) :: (dI v172) :: q28 ((dP eS v182.fTags) :: (dI (v182.fTags.length : Int)) :: (dI y224) :: q7 ((.ptr 2 3) :: (dI v182.fNext) :: (dB v226) :: (dB v226) :: q18 [])))))), [(.cells [(dP e88 a0.fClasses)]), (.cells [(.v (.str v1.fName)), (dP e90 v1.fItems)]), (.cells [(.v (.str v182.fBase)), (.v (.str v182.fForm)), (dP eS v182.fTags), (dI v182.fNext), (dI v182.fWeight)])]⟩) ?_ fun G72g227 => Ops.st _ (by kernel_rfl) (G72g227 (decide (v182.fNext < (-1))) h)
                intro v226 h
                cases v226
                · refine Ops.seg' 4 8 (by kernel_rfl) ?_
                  refine Ops.one' 9 (fun h0 e0 => (len_r (T := T) h0 50 89 .plain e88 a0.fClasses (by kernel_rfl))) (by kernel_rfl) (by kernel_rfl) ?_
                  refine Ops.seg' 2 11 (by kernel_rfl) ?_
                  exact Ops.st _ (by kernel_rfl) (J72j236 (.ptr 2 3) (dI v182.fNext) (.ptr 0 0) (dP e88 a0.fClasses) (dI (a0.fClasses.length : Int)) (dB (decide (v182.fNext ≥ (a0.fClasses.length : Int)))) false (decide (v182.fNext ≥ (a0.fClasses.length : Int))) h)
                · refine Ops.seg' 7 11 (by kernel_rfl) ?_
                  exact Ops.st _ (by kernel_rfl) (J72j236 U U U U U U true true h)
        obtain ⟨v204, ev204, h⟩ := bnd_some h
        refine Ops.hv (fun K => ∀ v192 : Bool, (cnd v192 (some true) (cnd (!(v182.fForm.toList == (⟨#[]⟩ : ByteArray).toList)) (bnd (f32 m v182.fForm) fun v255 => some (!v255)) (some false))) = some v204 → K 10 ⟨q2 ((.ptr 0 0) :: q1 ((dI 0) :: q4 ((.ptr 2 0) :: q31 ((dP e90 v1.fItems) :: (dI (v1.fItems.length : Int)) :: (dI v172) :: (dB (decide (v172 < (v1.fItems.length : Int)))) :: (.vptr [(.str v182.fBase), (.str v182.fForm), (vP eS v182.fTags), (vI v182.fNext), (vI v182.fWeight)]) :: (.v (.agg [(.str v182.fBase), (.str v182.fForm), (vP eS v182.fTags), (vI v182.fNext), (vI v182.fWeight)])) :: (.ptr 2 0) :: (.v (.str v182.fBase)) :: (dB v189) :: (dB v189) :: d185 :: d186 :: d187 :: d188 :: (dB v192) :: (dB v192) :: q40 (q7 []))))), [(.cells [(dP e88 a0.fClasses)]), (.cells [(.v (.str v1.fName)), (dP e90 v1.fItems)]), (.cells [(.v (.str v182.fBase)), (.v (.str v182.fForm)), (dP eS v182.fTags), (dI v182.fNext), (dI v182.fWeight)])]⟩) ?_ fun G72g193 => Ops.st _ (by kernel_rfl) (G72g193 v190 ev204)
        intro v192 ev204
        cases v192
        · have ev204 := cnd_f ev204
          refine Ops.seg' 4 14 (by kernel_rfl) ?_
          refine Ops.hv (fun K => ∀ v253 : Bool, (cnd v253 (bnd (f32 m v182.fForm) fun v255 => some (!v255)) (some false)) = some v204 → K 14 ⟨q2 ((.ptr 0 0) :: q1 ((dI 0) :: q4 ((.ptr 2 0) :: q31 ((dP e90 v1.fItems) :: (dI (v1.fItems.length : Int)) :: (dI v172) :: (dB (decide (v172 < (v1.fItems.length : Int)))) :: (.vptr [(.str v182.fBase), (.str v182.fForm), (vP eS v182.fTags), (vI v182.fNext), (vI v182.fWeight)]) :: (.v (.agg [(.str v182.fBase), (.str v182.fForm), (vP eS v182.fTags), (vI v182.fNext), (vI v182.fWeight)])) :: (.ptr 2 0) :: (.v (.str v182.fBase)) :: (dB v189) :: (dB v189) :: d185 :: d186 :: d187 :: d188 :: (dB false) :: (dB false) :: (.ptr 2 1) :: (.v (.str v182.fForm)) :: (dB v253) :: (dB v253) :: q40 (q3 []))))), [(.cells [(dP e88 a0.fClasses)]), (.cells [(.v (.str v1.fName)), (dP e90 v1.fItems)]), (.cells [(.v (.str v182.fBase)), (.v (.str v182.fForm)), (dP eS v182.fTags), (dI v182.fNext), (dI v182.fWeight)])]⟩) ?_ fun G72g254 => Ops.st _ (by kernel_rfl) (G72g254 (!(v182.fForm.toList == (⟨#[]⟩ : ByteArray).toList)) ev204)
          intro v253 ev204
          cases v253
          · have ev204 := cnd_f ev204
            refine Ops.seg' 6 20 (by kernel_rfl) ?_
            exact Ops.st _ (by kernel_rfl) (J72j205 (.ptr 2 1) (.v (.str v182.fForm)) (dB false) (dB false) U U U U (dB false) false false (some_sub (fun v204 => f72_r6 m a0 v172 v182 v204 = some sx180) ev204 h))
          · have ev204 := cnd_t ev204
            refine Ops.seg' 2 16 (by kernel_rfl) ?_
            obtain ⟨v255, ev255, ev204⟩ := bnd_some ev204
            refine Ops.one' 17 (fun h0 e0 => (call_ok (E' := E) (h := h0) (by kernel_rfl) (Args.v (.str v182.fForm) (eS v182.fForm) (by kernel_rfl) Args.nil) (ok32 m v182.fForm v255 ev255 n (by omega)))) (by kernel_rfl) (by kernel_rfl) ?_
            refine Ops.seg' 3 20 (by kernel_rfl) ?_
            exact Ops.st _ (by kernel_rfl) (J72j205 (.ptr 2 1) (.v (.str v182.fForm)) (dB true) (dB true) (.ptr 2 1) (.v (.str v182.fForm)) (dB v255) (dB (!v255)) (dB (!v255)) false (!v255) (some_sub (fun v204 => f72_r6 m a0 v172 v182 v204 = some sx180) ev204 h))
        · have ev204 := cnd_t ev204
          refine Ops.seg' 10 20 (by kernel_rfl) ?_
          exact Ops.st _ (by kernel_rfl) (J72j205 U U U U U U U U U true true (some_sub (fun v204 => f72_r6 m a0 v172 v182 v204 = some sx180) ev204 h))
      obtain ⟨v190, ev190, h⟩ := bnd_some h
      refine Ops.hv (fun K => ∀ v183 : Bool, (cnd v183 (bnd (f32 m v182.fBase) fun v256 => some (!v256)) (some false)) = some v190 → K 4 ⟨q2 ((.ptr 0 0) :: q1 ((dI 0) :: q4 ((.ptr 2 0) :: q31 ((dP e90 v1.fItems) :: (dI (v1.fItems.length : Int)) :: (dI v172) :: (dB (decide (v172 < (v1.fItems.length : Int)))) :: (.vptr [(.str v182.fBase), (.str v182.fForm), (vP eS v182.fTags), (vI v182.fNext), (vI v182.fWeight)]) :: (.v (.agg [(.str v182.fBase), (.str v182.fForm), (vP eS v182.fTags), (vI v182.fNext), (vI v182.fWeight)])) :: (.ptr 2 0) :: (.v (.str v182.fBase)) :: (dB v183) :: (dB v183) :: q40 (q13 []))))), [(.cells [(dP e88 a0.fClasses)]), (.cells [(.v (.str v1.fName)), (dP e90 v1.fItems)]), (.cells [(.v (.str v182.fBase)), (.v (.str v182.fForm)), (dP eS v182.fTags), (dI v182.fNext), (dI v182.fWeight)])]⟩) ?_ fun G72g184 => Ops.st _ (by kernel_rfl) (G72g184 (!(v182.fBase.toList == (⟨#[]⟩ : ByteArray).toList)) ev190)
      intro v183 ev190
      cases v183
      · have ev190 := cnd_f ev190
        refine Ops.seg' 5 9 (by kernel_rfl) ?_
        exact Ops.st _ (by kernel_rfl) (J72j191 U U U U false false (some_sub (fun v190 => f72_r7 m a0 v172 v182 v190 = some sx180) ev190 h))
      · have ev190 := cnd_t ev190
        refine Ops.seg' 2 6 (by kernel_rfl) ?_
        obtain ⟨v256, ev256, ev190⟩ := bnd_some ev190
        refine Ops.one' 7 (fun h0 e0 => (call_ok (E' := E) (h := h0) (by kernel_rfl) (Args.v (.str v182.fBase) (eS v182.fBase) (by kernel_rfl) Args.nil) (ok32 m v182.fBase v256 ev256 n (by omega)))) (by kernel_rfl) (by kernel_rfl) ?_
        refine Ops.seg' 2 9 (by kernel_rfl) ?_
        exact Ops.st _ (by kernel_rfl) (J72j191 (.ptr 2 0) (.v (.str v182.fBase)) (dB v256) (dB (!v256)) true (!v256) (some_sub (fun v190 => f72_r7 m a0 v172 v182 v190 = some sx180) ev190 h))
    · refine Wp.exit (id := 2) (by kernel_rfl) ?_
      refine sqQ.x ?_
      refine seqQ.x ?_
      cases h
      refine lpQ.x ?_
      refine blkQ.x ⟨q2 ((.ptr 0 0) :: q1 ((dI 0) :: q36 ((dP e90 v1.fItems) :: (dI (v1.fItems.length : Int)) :: (dI v172) :: q40 (q20 [])))), [(.cells [(dP e88 a0.fClasses)]), (.cells [(.v (.str v1.fName)), (dP e90 v1.fItems)])]⟩ (by kernel_rfl) ?_
      exact hxx178 v172  hsx181
theorem ok72 (m : Nat) (a0 : S51) (a1 : Int) (o : Int) (h : f72 m a0 a1 = some o) (n : Nat) (hn : m + 4 ≤ n) : Fn Proofs.Tryd.prog E n 72 [.v (e51 a0), .v (eI a1)] (eI o) := by
  obtain ⟨n, rfl⟩ : ∃ q, n = q + 1 := ⟨n - 1, by omega⟩
  unfold f72 at h
  refine Fn.of (by kernel_rfl) (by kernel_rfl) (by kernel_rfl) ⟨(.v (.agg [(vP e88 a0.fClasses)])) :: (dI a1) :: u40 (u40 (u22 [])), []⟩ (by kernel_rfl) ?_
  refine Wp.seq' (by kernel_rfl) ?_
  refine Wp.region (by kernel_rfl) ?_
  refine Ops.seg' 2 2 (by kernel_rfl) ?_
  refine Ops.done (by kernel_rfl) ?_
  refine seqQ.n ?_
  refine Wp.seq' (by kernel_rfl) ?_
  refine Wp.region (by kernel_rfl) ?_
  refine Ops.seg' 3 3 (by kernel_rfl) ?_
  obtain ⟨v1, ev1, h⟩ := bnd_some h
  refine Ops.one' 4 (fun h0 e0 => (ix_r (T := T) h0 50 89 2 .plain e88 a0.fClasses a1 v1 ev1 (by kernel_rfl) (by kernel_rfl) (fun _ => rfl))) (by kernel_rfl) (by kernel_rfl) ?_
  refine Ops.seg' 3 7 (by kernel_rfl) ?_
  refine Ops.done (by kernel_rfl) ?_
  refine seqQ.n ?_
  refine Wp.seq' (by kernel_rfl) ?_
  refine Wp.seq' (by kernel_rfl) ?_
  refine Wp.region (by kernel_rfl) ?_
  refine Ops.seg' 2 2 (by kernel_rfl) ?_
  obtain ⟨v2, ev2, h⟩ := bnd_some h
  refine Ops.one' 3 (fun h0 e0 => (call_ok (E' := E) (h := h0) (by kernel_rfl) (Args.v (.str v1.fName) (eS v1.fName) (by kernel_rfl) Args.nil) (ok39 m v1.fName v2 ev2 n (by omega)))) (by kernel_rfl) (by kernel_rfl) ?_
  refine Ops.seg' 1 4 (by kernel_rfl) ?_
  refine Ops.done (by kernel_rfl) ?_
  refine seqQ.n ?_
  refine Wp.cnd h [1, 2, 4, 5] 2 (by kernel_rfl) (fun h => ?_) (fun h => ?_)
  · refine Wp.seq' (by kernel_rfl) ?_
    refine Wp.region (by kernel_rfl) ?_
    refine Ops.seg' 1 1 (by kernel_rfl) ?_
    refine Ops.done (by kernel_rfl) ?_
    refine seqQ.n ?_
    refine Wp.ret (by kernel_rfl) ?_
    refine sqQ.r ?_
    refine seqQ.r ?_
    exact fnQ.r' (X72 n) (fun z => (eI z)) h (RetOk.mk' (dI 10) (by kernel_rfl) (by kernel_rfl))
  · refine Wp.skip (by kernel_rfl) ?_
    refine sqQ.n' ?_
    refine seqQ.n ?_
    refine Wp.seq' (by kernel_rfl) ?_
    refine Wp.seq' (by kernel_rfl) ?_
    refine Wp.region (by kernel_rfl) ?_
    refine Ops.seg' 3 3 (by kernel_rfl) ?_
    obtain ⟨v3, ev3, h⟩ := bnd_some h
    refine Ops.one' 4 (fun h0 e0 => (sub_r (T := T) h0 50 89 2 .plain e88 a0.fClasses v3 none (some a1) rfl ev3 (by kernel_rfl) (by kernel_rfl) (fun _ => rfl))) (by kernel_rfl) (by kernel_rfl) ?_
    refine Ops.one' 5 (fun h0 e0 => (len_r (T := T) h0 50 89 .plain e88 v3 (by kernel_rfl))) (by kernel_rfl) (by kernel_rfl) ?_
    refine Ops.seg' 1 6 (by kernel_rfl) ?_
    refine Ops.done (by kernel_rfl) ?_
    refine seqQ.n ?_
    refine Wp.block' 0 [2, 4, 5] 2 (by kernel_rfl) ?_
    have hLx18 : ∀ (kx9 : Nat) (v7 : Int)  (ox8 : Int ⊕ (Int)), iter (fun (y : Int) => f72_B1 m v1 v3 y) kx9 v7 = some ox8 → ∀ nx10, kx9 ≤ nx10 → (∀ r, ox8 = .inl r → ∀ σ, RetOk (X72 n) (resOf Proofs.Tryd.prog 72) (eI r) σ → (seqQ (X72 n) (cR (cR (cR (cR C72)))) (fnQ (X72 n).E.T (resOf Proofs.Tryd.prog 72) (eI o))) .ret σ) → (∀ (y : Int) , ox8 = .inr y → (seqQ (X72 n) (cR (cR (cR (cR C72)))) (fnQ (X72 n).E.T (resOf Proofs.Tryd.prog 72) (eI o))) .normal ⟨q2 ((.ptr 0 0) :: q1 ((dI 0) :: (.ptr 1 0) :: q18 ((dP e88 v3) :: (dI (v3.length : Int)) :: (dI y) :: q40 (q37 [])))), [(.cells [(dP e88 a0.fClasses)]), (.cells [(.v (.str v1.fName)), (dP e90 v1.fItems)])]⟩) → Lp (X72 n) [2, 4, 5, 24, 25, 26] 2 (cL (cL (cR (cL (cR (cR (cR C72))))))) nx10 ⟨q2 ((.ptr 0 0) :: q1 ((dI 0) :: (.ptr 1 0) :: q18 ((dP e88 v3) :: (dI (v3.length : Int)) :: (dI v7) :: q40 (q37 [])))), [(.cells [(dP e88 a0.fClasses)]), (.cells [(.v (.str v1.fName)), (dP e90 v1.fItems)])]⟩ (blkQ (X72 n) 0 [2, 4, 5] 2 (seqQ (X72 n) (cR (cR (cR (cR C72)))) (fnQ (X72 n).E.T (resOf Proofs.Tryd.prog 72) (eI o)))) := by
      intro kx9
      induction kx9 with
      | zero => intro v7  ox8 h; exact (iter_zero h).elim
      | succ kx9 ihx11 =>
        intro v7  ox8 h nx10 hnx14 hrx12 hxx13
        obtain ⟨nx10, rfl⟩ : ∃ q, nx10 = q + 1 := ⟨nx10 - 1, by omega⟩
        obtain ⟨sx15, h, hsx16⟩ := iter_some h
        have h : f72_B1 m v1 v3 v7 = some sx15 := h
        unfold f72_B1 at h
        refine Lp.succ ?_
        refine Wp.seq' (by kernel_rfl) ?_
        refine Wp.region (by kernel_rfl) ?_
        refine Ops.seg' 1 1 (by kernel_rfl) ?_
        refine Ops.done (by kernel_rfl) ?_
        refine seqQ.n ?_
        refine Wp.seq' (by kernel_rfl) ?_
        refine Wp.cnd h [2, 4, 5, 24, 25, 26] 2 (by kernel_rfl) (fun h => ?_) (fun h => ?_)
        · refine Wp.skip (by kernel_rfl) ?_
          refine sqQ.n' ?_
          refine seqQ.n ?_
          refine Wp.seq' (by kernel_rfl) ?_
          refine Wp.block' 1 [2, 4, 5, 24, 25, 26] 2 (by kernel_rfl) ?_
          refine Wp.seq' (by kernel_rfl) ?_
          refine Wp.region (by kernel_rfl) ?_
          obtain ⟨v17, ev17, h⟩ := bnd_some h
          refine Ops.one' 1 (fun h0 e0 => (ix_r (T := T) h0 50 89 2 .plain e88 v3 v7 v17 ev17 (by kernel_rfl) (by kernel_rfl) (fun _ => rfl))) (by kernel_rfl) (by kernel_rfl) ?_
          refine Ops.seg' 3 4 (by kernel_rfl) ?_
          refine Ops.done (by kernel_rfl) ?_
          refine seqQ.n ?_
          refine Wp.seq' (by kernel_rfl) ?_
          refine Wp.region (by kernel_rfl) ?_
          refine Ops.seg' 5 5 (by kernel_rfl) ?_
          refine Ops.done (by kernel_rfl) ?_
          refine seqQ.n ?_
          refine Wp.cnd h [2, 4, 5, 24, 25, 26] 3 (by kernel_rfl) (fun h => ?_) (fun h => ?_)
          · refine Wp.seq' (by kernel_rfl) ?_
            refine Wp.region (by kernel_rfl) ?_
            refine Ops.seg' 1 1 (by kernel_rfl) ?_
            refine Ops.done (by kernel_rfl) ?_
            refine seqQ.n ?_
            refine Wp.ret (by kernel_rfl) ?_
            refine sqQ.r ?_
            refine blkQ.r ?_
            refine seqQ.r ?_
            cases h
            refine lpQ.r ?_
            refine blkQ.r ?_
            exact hrx12 _ hsx16 _ (RetOk.forget [2, 4, 5, 24, 25, 26] (by kernel_rfl) (RetOk.mk' (dI 7) (by kernel_rfl) (by kernel_rfl)))
          · refine Wp.skip (by kernel_rfl) ?_
            refine sqQ.n' ?_
            refine blkQ.n' ?_
            refine seqQ.n ?_
            refine Wp.region (by kernel_rfl) ?_
            refine Ops.seg' 2 2 (by kernel_rfl) ?_
            refine Ops.done (by kernel_rfl) ?_
            refine lpQ.n ⟨q2 ((.ptr 0 0) :: q1 ((dI 0) :: (.ptr 1 0) :: q18 ((dP e88 v3) :: (dI (v3.length : Int)) :: (dI (w64 (v7 + 1))) :: q40 (q37 [])))), [(.cells [(dP e88 a0.fClasses)]), (.cells [(.v (.str v1.fName)), (dP e90 v1.fItems)])]⟩ (by kernel_rfl) ?_
            cases h
            exact ihx11 (w64 (v7 + 1))  _ hsx16 _ (by omega) hrx12 hxx13
        · refine Wp.exit (id := 0) (by kernel_rfl) ?_
          refine sqQ.x ?_
          refine seqQ.x ?_
          cases h
          refine lpQ.x ?_
          refine blkQ.x ⟨q2 ((.ptr 0 0) :: q1 ((dI 0) :: (.ptr 1 0) :: q18 ((dP e88 v3) :: (dI (v3.length : Int)) :: (dI v7) :: q40 (q37 [])))), [(.cells [(dP e88 a0.fClasses)]), (.cells [(.v (.str v1.fName)), (dP e90 v1.fItems)])]⟩ (by kernel_rfl) ?_
          exact hxx13 v7  hsx16
    refine Wp.loop' [2, 4, 5, 24, 25, 26] 2 (by kernel_rfl) ⟨q2 ((.ptr 0 0) :: q1 ((dI 0) :: (.ptr 1 0) :: q18 ((dP e88 v3) :: (dI (v3.length : Int)) :: (dI 0) :: q40 (q37 [])))), [(.cells [(dP e88 a0.fClasses)]), (.cells [(.v (.str v1.fName)), (dP e90 v1.fItems)])]⟩ (by kernel_rfl) ?_
    rcases brk_some h with ⟨r20, er20, h⟩ | ⟨y19, ey19, h⟩
    · refine hLx18 _ 0  _ er20 n (by omega) (fun r er σ hσ => ?_) (fun y  ey => by cases ey)
      cases er
      refine seqQ.r ?_
      exact fnQ.r' (X72 n) (fun z => (eI z)) h hσ
    · refine hLx18 _ 0  _ ey19 n (by omega) (fun r er => by cases er) (fun y  ey => ?_)
      cases ey
      refine seqQ.n ?_
      refine Wp.seq' (by kernel_rfl) ?_
      refine Wp.seq' (by kernel_rfl) ?_
      refine Wp.region (by kernel_rfl) ?_
      refine Ops.seg' 2 2 (by kernel_rfl) ?_
      refine Ops.one' 3 (fun h0 e0 => (len_r (T := T) h0 87 91 .plain e90 v1.fItems (by kernel_rfl))) (by kernel_rfl) (by kernel_rfl) ?_
      refine Ops.seg' 1 4 (by kernel_rfl) ?_
      refine Ops.done (by kernel_rfl) ?_
      refine seqQ.n ?_
      refine Wp.cnd h [2, 4, 5] 2 (by kernel_rfl) (fun h => ?_) (fun h => ?_)
      · refine Wp.seq' (by kernel_rfl) ?_
        refine Wp.region (by kernel_rfl) ?_
        refine Ops.seg' 1 1 (by kernel_rfl) ?_
        refine Ops.done (by kernel_rfl) ?_
        refine seqQ.n ?_
        refine Wp.ret (by kernel_rfl) ?_
        refine sqQ.r ?_
        refine seqQ.r ?_
        exact fnQ.r' (X72 n) (fun z => (eI z)) h (RetOk.mk' (dI 2) (by kernel_rfl) (by kernel_rfl))
      · refine Wp.skip (by kernel_rfl) ?_
        refine sqQ.n' ?_
        refine seqQ.n ?_
        refine Wp.seq' (by kernel_rfl) ?_
        refine Wp.seq' (by kernel_rfl) ?_
        refine Wp.region (by kernel_rfl) ?_
        refine Ops.seg' 2 2 (by kernel_rfl) ?_
        refine Ops.one' 3 (fun h0 e0 => (len_r (T := T) h0 87 91 .plain e90 v1.fItems (by kernel_rfl))) (by kernel_rfl) (by kernel_rfl) ?_
        refine Ops.seg' 1 4 (by kernel_rfl) ?_
        refine Ops.done (by kernel_rfl) ?_
        refine seqQ.n ?_
        refine Wp.block' 2 [4] 2 (by kernel_rfl) ?_
        have hLx257 := f72_hLx257 m a0 a1 o n hn v1
        refine Wp.loop' [2, 4, 41, 42, 43] 2 (by kernel_rfl) ⟨q2 ((.ptr 0 0) :: q1 ((dI 0) :: q36 ((dP e90 v1.fItems) :: (dI (v1.fItems.length : Int)) :: (dI 0) :: q40 (q20 [])))), [(.cells [(dP e88 a0.fClasses)]), (.cells [(.v (.str v1.fName)), (dP e90 v1.fItems)])]⟩ (by kernel_rfl) ?_
        rcases brk_some h with ⟨r259, er259, h⟩ | ⟨y258, ey258, h⟩
        · refine hLx257 _ 0  _ er259 n (by omega) (fun r er σ hσ => ?_) (fun y  ey => by cases ey)
          cases er
          refine seqQ.r ?_
          exact fnQ.r' (X72 n) (fun z => (eI z)) h hσ
        · refine hLx257 _ 0  _ ey258 n (by omega) (fun r er => by cases er) (fun y  ey => ?_)
          cases ey
          refine seqQ.n ?_
          refine Wp.seq' (by kernel_rfl) ?_
          refine Wp.region (by kernel_rfl) ?_
          refine Ops.seg' 1 1 (by kernel_rfl) ?_
          refine Ops.done (by kernel_rfl) ?_
          refine seqQ.n ?_
          refine Wp.ret (by kernel_rfl) ?_
          exact fnQ.r' (X72 n) (fun z => (eI z)) h (RetOk.mk' (dI 0) (by kernel_rfl) (by kernel_rfl))

/-! ### 52 glosswright/lexicon.Validate -/
def f52_B1 (m : Nat) (a0 : S51) (v16 : Int) : Option (Stp S27 (Int)) :=
  cnd (decide (v16 < (a0.fClasses.length : Int)))
  (bnd (f72 m a0 v16) fun v26 =>
  cnd (v26 != 0)
  (bnd (f53 m v26 v16) fun v27 =>
  some (.ret v27))
  (some (.nxt (w64 (v16 + 1)))))
  (some (.brk v16))
def f52_r2 (m : Nat) (a0 : S51) (v8 : Bool) : Option S27 :=
  cnd v8
  (bnd (f53 m 9 (-1)) fun v10 =>
  some v10)
  (brk (iter (fun (y : Int) => f52_B1 m a0 y) m 0) some fun y29 =>
  some ((⟨0, 0⟩ : S27)))
def f52 (m : Nat) (a0 : S51) : Option S27 :=
  f52_r2 m a0 ((decide ((a0.fClasses.length : Int) < 1)) || (decide ((a0.fClasses.length : Int) > 40)))
noncomputable abbrev X52 (n : Nat) : Cx := cxOf Proofs.Tryd.prog E 52 n
noncomputable def C52 : Code := bodyOf Proofs.Tryd.prog 52
theorem ok52 (m : Nat) (a0 : S51) (o : S27) (h : f52 m a0 = some o) (n : Nat) (hn : m + 5 ≤ n) : Fn Proofs.Tryd.prog E n 52 [.v (e51 a0)] (e27 o) := by
  obtain ⟨n, rfl⟩ : ∃ q, n = q + 1 := ⟨n - 1, by omega⟩
  unfold f52 at h
  refine Fn.of (by kernel_rfl) (by kernel_rfl) (by kernel_rfl) ⟨(.v (.agg [(vP e88 a0.fClasses)])) :: u31 [], []⟩ (by kernel_rfl) ?_
  refine Wp.seq' (by kernel_rfl) ?_
  refine Wp.region (by kernel_rfl) ?_
  refine Ops.seg' 2 2 (by kernel_rfl) ?_
  refine Ops.done (by kernel_rfl) ?_
  refine seqQ.n ?_
  refine Wp.seq' (by kernel_rfl) ?_
  refine Wp.seq' (by kernel_rfl) ?_
  refine Wp.region (by kernel_rfl) ?_
  refine Ops.seg' 2 2 (by kernel_rfl) ?_
  refine Ops.one' 3 (fun h0 e0 => (len_r (T := T) h0 50 89 .plain e88 a0.fClasses (by kernel_rfl))) (by kernel_rfl) (by kernel_rfl) ?_
  refine Ops.seg' 2 5 (by kernel_rfl) ?_
  refine Ops.hv (fun K => ∀ (d3 d4 d5 d6 : D) (v7 : Bool) (v8 : Bool), f52_r2 m a0 v8 = some o → K 10 ⟨(.v (.agg [(vP e88 a0.fClasses)])) :: (.ptr 0 0) :: (.ptr 1 0) :: u2 ((.ptr 0 0) :: (dP e88 a0.fClasses) :: (dI (a0.fClasses.length : Int)) :: (dB v7) :: (dB v7) :: d3 :: d4 :: d5 :: d6 :: (dB v8) :: u17 []), [(.cells [(dP e88 a0.fClasses)]), (.cells [(dI 0), (dI 0)])]⟩) ?_ fun J52j9 => ?_
  · intro d3 d4 d5 d6 v7 v8 h
    unfold f52_r2 at h
    refine Ops.done (by kernel_rfl) ?_
    refine seqQ.n ?_
    refine Wp.cnd h [1, 2] 2 (by kernel_rfl) (fun h => ?_) (fun h => ?_)
    · refine Wp.seq' (by kernel_rfl) ?_
      refine Wp.region (by kernel_rfl) ?_
      obtain ⟨v10, ev10, h⟩ := bnd_some h
      refine Ops.one' 1 (fun h0 e0 => (call_ok (E' := E) (h := h0) (by kernel_rfl) (Args.v (vI 9) (eI 9) (by kernel_rfl) (Args.v (vI (-1)) (eI (-1)) (by kernel_rfl) Args.nil)) (ok53 m 9 (-1) v10 ev10 n (by omega)))) (by kernel_rfl) (by kernel_rfl) ?_
      refine Ops.seg' 1 2 (by kernel_rfl) ?_
      refine Ops.done (by kernel_rfl) ?_
      refine seqQ.n ?_
      refine Wp.ret (by kernel_rfl) ?_
      refine sqQ.r ?_
      refine seqQ.r ?_
      exact fnQ.r' (X52 n) (fun z => (e27 z)) h (RetOk.mk' (.v (.agg [(vI v10.fCode), (vI v10.fIndex)])) (by kernel_rfl) (by kernel_rfl))
    · refine Wp.skip (by kernel_rfl) ?_
      refine sqQ.n' ?_
      refine seqQ.n ?_
      refine Wp.seq' (by kernel_rfl) ?_
      refine Wp.seq' (by kernel_rfl) ?_
      refine Wp.region (by kernel_rfl) ?_
      refine Ops.seg' 2 2 (by kernel_rfl) ?_
      refine Ops.one' 3 (fun h0 e0 => (len_r (T := T) h0 50 89 .plain e88 a0.fClasses (by kernel_rfl))) (by kernel_rfl) (by kernel_rfl) ?_
      refine Ops.seg' 1 4 (by kernel_rfl) ?_
      refine Ops.done (by kernel_rfl) ?_
      refine seqQ.n ?_
      refine Wp.block' 0 [2] 2 (by kernel_rfl) ?_
      have hLx28 : ∀ (kx18 : Nat) (v16 : Int)  (ox17 : S27 ⊕ (Int)), iter (fun (y : Int) => f52_B1 m a0 y) kx18 v16 = some ox17 → ∀ nx19, kx18 ≤ nx19 → (∀ r, ox17 = .inl r → ∀ σ, RetOk (X52 n) (resOf Proofs.Tryd.prog 52) (e27 r) σ → (seqQ (X52 n) (cR (cR (cR C52))) (fnQ (X52 n).E.T (resOf Proofs.Tryd.prog 52) (e27 o))) .ret σ) → (∀ (y : Int) , ox17 = .inr y → (seqQ (X52 n) (cR (cR (cR C52))) (fnQ (X52 n).E.T (resOf Proofs.Tryd.prog 52) (e27 o))) .normal ⟨q1 ((.ptr 0 0) :: (.ptr 1 0) :: q15 ((dI (a0.fClasses.length : Int)) :: (dI y) :: q12 [])), [(.cells [(dP e88 a0.fClasses)]), (.cells [(dI 0), (dI 0)])]⟩) → Lp (X52 n) [1, 2, 18, 19] 2 (cL (cL (cR (cL (cR (cR C52)))))) nx19 ⟨q1 ((.ptr 0 0) :: (.ptr 1 0) :: q15 ((dI (a0.fClasses.length : Int)) :: (dI v16) :: q12 [])), [(.cells [(dP e88 a0.fClasses)]), (.cells [(dI 0), (dI 0)])]⟩ (blkQ (X52 n) 0 [2] 2 (seqQ (X52 n) (cR (cR (cR C52))) (fnQ (X52 n).E.T (resOf Proofs.Tryd.prog 52) (e27 o)))) := by
        intro kx18
        induction kx18 with
        | zero => intro v16  ox17 h; exact (iter_zero h).elim
        | succ kx18 ihx20 =>
          intro v16  ox17 h nx19 hnx23 hrx21 hxx22
          obtain ⟨nx19, rfl⟩ : ∃ q, nx19 = q + 1 := ⟨nx19 - 1, by omega⟩
          obtain ⟨sx24, h, hsx25⟩ := iter_some h
          have h : f52_B1 m a0 v16 = some sx24 := h
          unfold f52_B1 at h
          refine Lp.succ ?_
          refine Wp.seq' (by kernel_rfl) ?_
          refine Wp.region (by kernel_rfl) ?_
          refine Ops.seg' 1 1 (by kernel_rfl) ?_
          refine Ops.done (by kernel_rfl) ?_
          refine seqQ.n ?_
          refine Wp.seq' (by kernel_rfl) ?_
          refine Wp.cnd h [1, 2, 18, 19] 2 (by kernel_rfl) (fun h => ?_) (fun h => ?_)
          · refine Wp.skip (by kernel_rfl) ?_
            refine sqQ.n' ?_
            refine seqQ.n ?_
            refine Wp.seq' (by kernel_rfl) ?_
            refine Wp.block' 1 [1, 2, 18, 19] 2 (by kernel_rfl) ?_
            refine Wp.seq' (by kernel_rfl) ?_
            refine Wp.region (by kernel_rfl) ?_
            refine Ops.seg' 2 2 (by kernel_rfl) ?_
            refine Ops.done (by kernel_rfl) ?_
            refine seqQ.n ?_
            refine Wp.seq' (by kernel_rfl) ?_
            refine Wp.region (by kernel_rfl) ?_
            refine Ops.seg' 2 2 (by kernel_rfl) ?_
            obtain ⟨v26, ev26, h⟩ := bnd_some h
            refine Ops.one' 3 (fun h0 e0 => (call_ok (E' := E) (h := h0) (by kernel_rfl) (Args.v (.agg [(vP e88 a0.fClasses)]) (e51 a0) (by kernel_rfl) (Args.v (vI v16) (eI v16) (by kernel_rfl) Args.nil)) (ok72 m a0 v16 v26 ev26 n (by omega)))) (by kernel_rfl) (by kernel_rfl) ?_
            refine Ops.seg' 1 4 (by kernel_rfl) ?_
            refine Ops.done (by kernel_rfl) ?_
            refine seqQ.n ?_
            refine Wp.seq' (by kernel_rfl) ?_
            refine Wp.region (by kernel_rfl) ?_
            refine Ops.seg' 2 2 (by kernel_rfl) ?_
            refine Ops.done (by kernel_rfl) ?_
            refine seqQ.n ?_
            refine Wp.cnd h [1, 2, 18, 19] 2 (by kernel_rfl) (fun h => ?_) (fun h => ?_)
            · refine Wp.seq' (by kernel_rfl) ?_
              refine Wp.region (by kernel_rfl) ?_
              refine Ops.seg' 2 2 (by kernel_rfl) ?_
              obtain ⟨v27, ev27, h⟩ := bnd_some h
              refine Ops.one' 3 (fun h0 e0 => (call_ok (E' := E) (h := h0) (by kernel_rfl) (Args.v (vI v26) (eI v26) (by kernel_rfl) (Args.v (vI v16) (eI v16) (by kernel_rfl) Args.nil)) (ok53 m v26 v16 v27 ev27 n (by omega)))) (by kernel_rfl) (by kernel_rfl) ?_
              refine Ops.seg' 1 4 (by kernel_rfl) ?_
              refine Ops.done (by kernel_rfl) ?_
              refine seqQ.n ?_
              refine Wp.ret (by kernel_rfl) ?_
              refine sqQ.r ?_
              refine blkQ.r ?_
              refine seqQ.r ?_
              cases h
              refine lpQ.r ?_
              refine blkQ.r ?_
              exact hrx21 _ hsx25 _ (RetOk.forget [1, 2, 18, 19] (by kernel_rfl) (RetOk.mk' (.v (.agg [(vI v27.fCode), (vI v27.fIndex)])) (by kernel_rfl) (by kernel_rfl)))
            · refine Wp.skip (by kernel_rfl) ?_
              refine sqQ.n' ?_
              refine blkQ.n' ?_
              refine seqQ.n ?_
              refine Wp.region (by kernel_rfl) ?_
              refine Ops.seg' 2 2 (by kernel_rfl) ?_
              refine Ops.done (by kernel_rfl) ?_
              refine lpQ.n ⟨q1 ((.ptr 0 0) :: (.ptr 1 0) :: q15 ((dI (a0.fClasses.length : Int)) :: (dI (w64 (v16 + 1))) :: q12 [])), [(.cells [(dP e88 a0.fClasses)]), (.cells [(dI 0), (dI 0)])]⟩ (by kernel_rfl) ?_
              cases h
              exact ihx20 (w64 (v16 + 1))  _ hsx25 _ (by omega) hrx21 hxx22
          · refine Wp.exit (id := 0) (by kernel_rfl) ?_
            refine sqQ.x ?_
            refine seqQ.x ?_
            cases h
            refine lpQ.x ?_
            refine blkQ.x ⟨q1 ((.ptr 0 0) :: (.ptr 1 0) :: q15 ((dI (a0.fClasses.length : Int)) :: (dI v16) :: q12 [])), [(.cells [(dP e88 a0.fClasses)]), (.cells [(dI 0), (dI 0)])]⟩ (by kernel_rfl) ?_
            exact hxx22 v16  hsx25
      refine Wp.loop' [1, 2, 18, 19] 2 (by kernel_rfl) ⟨q1 ((.ptr 0 0) :: (.ptr 1 0) :: q15 ((dI (a0.fClasses.length : Int)) :: (dI 0) :: q12 [])), [(.cells [(dP e88 a0.fClasses)]), (.cells [(dI 0), (dI 0)])]⟩ (by kernel_rfl) ?_
      rcases brk_some h with ⟨r30, er30, h⟩ | ⟨y29, ey29, h⟩
      · refine hLx28 _ 0  _ er30 n (by omega) (fun r er σ hσ => ?_) (fun y  ey => by cases ey)
        cases er
        refine seqQ.r ?_
        exact fnQ.r' (X52 n) (fun z => (e27 z)) h hσ
      · refine hLx28 _ 0  _ ey29 n (by omega) (fun r er => by cases er) (fun y  ey => ?_)
        cases ey
        refine seqQ.n ?_
        refine Wp.seq' (by kernel_rfl) ?_
        refine Wp.region (by kernel_rfl) ?_
        refine Ops.seg' 2 2 (by kernel_rfl) ?_
        refine Ops.done (by kernel_rfl) ?_
        refine seqQ.n ?_
        refine Wp.ret (by kernel_rfl) ?_
        exact fnQ.r' (X52 n) (fun z => (e27 z)) h (RetOk.mk' (.v (.agg [(vI 0), (vI 0)])) (by kernel_rfl) (by kernel_rfl))
  refine Ops.hv (fun K => ∀ v1 : Bool, f52_r2 m a0 (v1 || (decide ((a0.fClasses.length : Int) > 40))) = some o → K 5 ⟨(.v (.agg [(vP e88 a0.fClasses)])) :: (.ptr 0 0) :: (.ptr 1 0) :: u2 ((.ptr 0 0) :: (dP e88 a0.fClasses) :: (dI (a0.fClasses.length : Int)) :: (dB v1) :: (dB v1) :: u22 []), [(.cells [(dP e88 a0.fClasses)]), (.cells [(dI 0), (dI 0)])]⟩) ?_ fun G52g2 => Ops.st _ (by kernel_rfl) (G52g2 (decide ((a0.fClasses.length : Int) < 1)) h)
  intro v1 h
  cases v1
  · refine Ops.seg' 2 7 (by kernel_rfl) ?_
    refine Ops.one' 8 (fun h0 e0 => (len_r (T := T) h0 50 89 .plain e88 a0.fClasses (by kernel_rfl))) (by kernel_rfl) (by kernel_rfl) ?_
    refine Ops.seg' 2 10 (by kernel_rfl) ?_
    exact Ops.st _ (by kernel_rfl) (J52j9 (.ptr 0 0) (dP e88 a0.fClasses) (dI (a0.fClasses.length : Int)) (dB (decide ((a0.fClasses.length : Int) > 40))) false (decide ((a0.fClasses.length : Int) > 40)) h)
  · refine Ops.seg' 5 10 (by kernel_rfl) ?_
    exact Ops.st _ (by kernel_rfl) (J52j9 U U U U true true h)

/-! ### 73 slices.Concat[[]string,string] -/
def f73_B1 (m : Nat) (a0 : (List (List ByteArray))) (v5 : Int) (v6 : Int) : Option (Stp (List ByteArray) (Int × Int)) :=
  cnd (decide (v6 < (a0.length : Int)))
  (bnd (idx a0 v6) fun v16 =>
  cnd (decide (w64 (v5 + (v16.length : Int)) < 0))
  (none)
  (some (.nxt (w64 (v5 + (v16.length : Int)), w64 (v6 + 1)))))
  (some (.brk (v5, v6)))
def f73_B2 (m : Nat) (a0 : (List (List ByteArray))) (v28 : (List ByteArray)) (v30 : Int) : Option (Stp (List ByteArray) ((List ByteArray) × Int)) :=
  cnd (decide (v30 < (a0.length : Int)))
  (bnd (idx a0 v30) fun v40 =>
  bnd (app 16 v28 v40) fun v41 =>
  some (.nxt (v41, w64 (v30 + 1))))
  (some (.brk (v28, v30)))
def f73 (m : Nat) (a0 : (List (List ByteArray))) : Option (List ByteArray) :=
  brk (iter (fun (y : Int × Int) => f73_B1 m a0 y.1 y.2) m (0, 0)) some fun y18 =>
  bnd (grw 16 y18.1) fun v20 =>
  brk (iter (fun (y : (List ByteArray) × Int) => f73_B2 m a0 y.1 y.2) m ([], 0)) some fun y43 =>
  some y43.1
noncomputable abbrev X73 (n : Nat) : Cx := cxOf Proofs.Tryd.prog E 73 n
noncomputable def C73 : Code := bodyOf Proofs.Tryd.prog 73
theorem ok73 (m : Nat) (a0 : (List (List ByteArray))) (o : (List ByteArray)) (h : f73 m a0 = some o) (n : Nat) (hn : m + 2 ≤ n) : Fn Proofs.Tryd.prog E n 73 [.v ((eL (eL eS)) a0)] ((eL eS) o) := by
  obtain ⟨n, rfl⟩ : ∃ q, n = q + 1 := ⟨n - 1, by omega⟩
  unfold f73 at h
  refine Fn.of (by kernel_rfl) (by kernel_rfl) (by kernel_rfl) ⟨(dP (eL eS) a0) :: u35 [], []⟩ (by kernel_rfl) ?_
  refine Wp.seq' (by kernel_rfl) ?_
  refine Wp.region (by kernel_rfl) ?_
  refine Ops.seg' 1 1 (by kernel_rfl) ?_
  refine Ops.done (by kernel_rfl) ?_
  refine seqQ.n ?_
  refine Wp.seq' (by kernel_rfl) ?_
  refine Wp.region (by kernel_rfl) ?_
  refine Ops.seg' 1 1 (by kernel_rfl) ?_
  refine Ops.done (by kernel_rfl) ?_
  refine seqQ.n ?_
  refine Wp.seq' (by kernel_rfl) ?_
  refine Wp.seq' (by kernel_rfl) ?_
  refine Wp.region (by kernel_rfl) ?_
  refine Ops.seg' 1 1 (by kernel_rfl) ?_
  refine Ops.one' 2 (fun h0 e0 => (len_r (T := T) h0 118 36 .plain (eL eS) a0 (by kernel_rfl))) (by kernel_rfl) (by kernel_rfl) ?_
  refine Ops.seg' 1 3 (by kernel_rfl) ?_
  refine Ops.done (by kernel_rfl) ?_
  refine seqQ.n ?_
  refine Wp.block' 0 [0, 2, 3] 0 (by kernel_rfl) ?_
  have hLx17 : ∀ (kx8 : Nat) (v5 : Int) (v6 : Int)  (ox7 : (List ByteArray) ⊕ (Int × Int)), iter (fun (y : Int × Int) => f73_B1 m a0 y.1 y.2) kx8 (v5, v6) = some ox7 → ∀ nx9, kx8 ≤ nx9 → (∀ r, ox7 = .inl r → ∀ σ, RetOk (X73 n) (resOf Proofs.Tryd.prog 73) ((eL eS) r) σ → (seqQ (X73 n) (cR (cR (cR C73))) (fnQ (X73 n).E.T (resOf Proofs.Tryd.prog 73) ((eL eS) o))) .ret σ) → (∀ (y : Int × Int) , ox7 = .inr y → (seqQ (X73 n) (cR (cR (cR C73))) (fnQ (X73 n).E.T (resOf Proofs.Tryd.prog 73) ((eL eS) o))) .normal ⟨(dP (eL eS) a0) :: q1 ((.v (.sl .nil (List.map eS []))) :: (dI y.1) :: q32 []), [.dead]⟩) → Lp (X73 n) [0, 2, 3, 9, 10, 11] 0 (cL (cL (cR (cL (cR (cR C73)))))) nx9 ⟨(dP (eL eS) a0) :: q1 ((.v (.sl .nil (List.map eS []))) :: (dI v5) :: q5 ((dP (eL eS) a0) :: (dI (a0.length : Int)) :: (dI v6) :: q24 [])), [.dead]⟩ (blkQ (X73 n) 0 [0, 2, 3] 0 (seqQ (X73 n) (cR (cR (cR C73))) (fnQ (X73 n).E.T (resOf Proofs.Tryd.prog 73) ((eL eS) o)))) := by
    intro kx8
    induction kx8 with
    | zero => intro v5 v6  ox7 h; exact (iter_zero h).elim
    | succ kx8 ihx10 =>
      intro v5 v6  ox7 h nx9 hnx13 hrx11 hxx12
      obtain ⟨nx9, rfl⟩ : ∃ q, nx9 = q + 1 := ⟨nx9 - 1, by omega⟩
      obtain ⟨sx14, h, hsx15⟩ := iter_some h
      have h : f73_B1 m a0 v5 v6 = some sx14 := h
      unfold f73_B1 at h
      refine Lp.succ ?_
      refine Wp.seq' (by kernel_rfl) ?_
      refine Wp.region (by kernel_rfl) ?_
      refine Ops.seg' 1 1 (by kernel_rfl) ?_
      refine Ops.done (by kernel_rfl) ?_
      refine seqQ.n ?_
      refine Wp.seq' (by kernel_rfl) ?_
      refine Wp.cnd h [0, 2, 3, 9, 10, 11] 1 (by kernel_rfl) (fun h => ?_) (fun h => ?_)
      · refine Wp.skip (by kernel_rfl) ?_
        refine sqQ.n' ?_
        refine seqQ.n ?_
        refine Wp.seq' (by kernel_rfl) ?_
        refine Wp.block' 1 [0, 2, 3, 9, 10, 11] 2 (by kernel_rfl) ?_
        refine Wp.seq' (by kernel_rfl) ?_
        refine Wp.region (by kernel_rfl) ?_
        obtain ⟨v16, ev16, h⟩ := bnd_some h
        refine Ops.one' 1 (fun h0 e0 => (ix_r (T := T) h0 118 36 1 .plain (eL eS) a0 v6 v16 ev16 (by kernel_rfl) (by kernel_rfl) (fun _ => rfl))) (by kernel_rfl) (by kernel_rfl) ?_
        refine Ops.seg' 2 3 (by kernel_rfl) ?_
        refine Ops.done (by kernel_rfl) ?_
        refine seqQ.n ?_
        refine Wp.seq' (by kernel_rfl) ?_
        refine Wp.region (by kernel_rfl) ?_
        refine Ops.seg' 2 2 (by kernel_rfl) ?_
        refine Ops.one' 3 (fun h0 e0 => (len_r (T := T) h0 36 9 .plain eS v16 (by kernel_rfl))) (by kernel_rfl) (by kernel_rfl) ?_
        refine Ops.seg' 2 5 (by kernel_rfl) ?_
        refine Ops.done (by kernel_rfl) ?_
        refine seqQ.n ?_
        refine Wp.seq' (by kernel_rfl) ?_
        refine Wp.region (by kernel_rfl) ?_
        refine Ops.seg' 2 2 (by kernel_rfl) ?_
        refine Ops.done (by kernel_rfl) ?_
        refine seqQ.n ?_
        refine Wp.cnd h [0, 2, 3, 9, 10, 11] 2 (by kernel_rfl) (fun h => ?_) (fun h => ?_)
        · cases h
        · refine Wp.skip (by kernel_rfl) ?_
          refine sqQ.n' ?_
          refine blkQ.n' ?_
          refine seqQ.n ?_
          refine Wp.region (by kernel_rfl) ?_
          refine Ops.seg' 2 2 (by kernel_rfl) ?_
          refine Ops.done (by kernel_rfl) ?_
          refine lpQ.n ⟨(dP (eL eS) a0) :: q1 ((.v (.sl .nil (List.map eS []))) :: (dI (w64 (v5 + (v16.length : Int)))) :: q5 ((dP (eL eS) a0) :: (dI (a0.length : Int)) :: (dI (w64 (v6 + 1))) :: q24 [])), [.dead]⟩ (by kernel_rfl) ?_
          cases h
          exact ihx10 (w64 (v5 + (v16.length : Int))) (w64 (v6 + 1))  _ hsx15 _ (by omega) hrx11 hxx12
      · refine Wp.exit (id := 0) (by kernel_rfl) ?_
        refine sqQ.x ?_
        refine seqQ.x ?_
        cases h
        refine lpQ.x ?_
        refine blkQ.x ⟨(dP (eL eS) a0) :: q1 ((.v (.sl .nil (List.map eS []))) :: (dI v5) :: q32 []), [.dead]⟩ (by kernel_rfl) ?_
        exact hxx12 (v5, v6)  hsx15
  refine Wp.loop' [0, 2, 3, 9, 10, 11] 0 (by kernel_rfl) ⟨(dP (eL eS) a0) :: q1 ((.v (.sl .nil (List.map eS []))) :: (dI 0) :: q5 ((dP (eL eS) a0) :: (dI (a0.length : Int)) :: (dI 0) :: q24 [])), [.dead]⟩ (by kernel_rfl) ?_
  rcases brk_some h with ⟨r19, er19, h⟩ | ⟨y18, ey18, h⟩
  · refine hLx17 _ 0 0  _ er19 n (by omega) (fun r er σ hσ => ?_) (fun y  ey => by cases ey)
    cases er
    refine seqQ.r ?_
    exact fnQ.r' (X73 n) (fun z => ((eL eS) z)) h hσ
  · refine hLx17 _ 0 0  _ ey18 n (by omega) (fun r er => by cases er) (fun y  ey => ?_)
    cases ey
    refine seqQ.n ?_
    refine Wp.seq' (by kernel_rfl) ?_
    refine Wp.region (by kernel_rfl) ?_
    refine Ops.seg' 1 1 (by kernel_rfl) ?_
    obtain ⟨v20, ev20, h⟩ := bnd_some h
    refine Ops.one' 2 (fun h0 e0 => (callD_own (P := Proofs.Tryd.prog) (E := E) (E' := E) (n := n) (f := 87) (by kernel_rfl) (by kernel_rfl) (by kernel_rfl) (row_growT h0 1 16 y18.1 v20 ev20) (by omega))) (by kernel_rfl) (by kernel_rfl) ?_
    refine Ops.seg' 1 3 (by kernel_rfl) ?_
    refine Ops.done (by kernel_rfl) ?_
    refine seqQ.n ?_
    refine Wp.seq' (by kernel_rfl) ?_
    refine Wp.seq' (by kernel_rfl) ?_
    refine Wp.region (by kernel_rfl) ?_
    refine Ops.seg' 1 1 (by kernel_rfl) ?_
    refine Ops.one' 2 (fun h0 e0 => (len_r (T := T) h0 118 36 .plain (eL eS) a0 (by kernel_rfl))) (by kernel_rfl) (by kernel_rfl) ?_
    refine Ops.seg' 1 3 (by kernel_rfl) ?_
    refine Ops.done (by kernel_rfl) ?_
    refine seqQ.n ?_
    refine Wp.block' 2 [2, 6] 2 (by kernel_rfl) ?_
    have hLx42 : ∀ (kx32 : Nat) (v28 : (List ByteArray)) (v30 : Int) (ag29 : AG) (ox31 : (List ByteArray) ⊕ ((List ByteArray) × Int)), iter (fun (y : (List ByteArray) × Int) => f73_B2 m a0 y.1 y.2) kx32 (v28, v30) = some ox31 → ∀ nx33, kx32 ≤ nx33 → (∀ r, ox31 = .inl r → ∀ σ, RetOk (X73 n) (resOf Proofs.Tryd.prog 73) ((eL eS) r) σ → (seqQ (X73 n) (cR (cR (cR (cR (cR C73))))) (fnQ (X73 n).E.T (resOf Proofs.Tryd.prog 73) ((eL eS) o))) .ret σ) → (∀ (y : (List ByteArray) × Int) (ag29 : AG), ox31 = .inr y → (seqQ (X73 n) (cR (cR (cR (cR (cR C73))))) (fnQ (X73 n).E.T (resOf Proofs.Tryd.prog 73) ((eL eS) o))) .normal ⟨q2 ((.v (.sl .nil (List.map eS []))) :: q3 ((AG.d ag29 2 (List.map eS y.1)) :: q29 [])), [.dead, .dead, (AG.o ag29 1 (List.map eS y.1))]⟩) → Lp (X73 n) [2, 6, 25, 26, 27] 2 (cL (cL (cR (cL (cR (cR (cR (cR C73)))))))) nx33 ⟨q2 ((.v (.sl .nil (List.map eS []))) :: q3 ((AG.d ag29 2 (List.map eS v28)) :: q18 ((dP (eL eS) a0) :: (dI (a0.length : Int)) :: (dI v30) :: q8 []))), [.dead, .dead, (AG.o ag29 1 (List.map eS v28))]⟩ (blkQ (X73 n) 2 [2, 6] 2 (seqQ (X73 n) (cR (cR (cR (cR (cR C73))))) (fnQ (X73 n).E.T (resOf Proofs.Tryd.prog 73) ((eL eS) o)))) := by
      intro kx32
      induction kx32 with
      | zero => intro v28 v30 ag29 ox31 h; exact (iter_zero h).elim
      | succ kx32 ihx34 =>
        intro v28 v30 ag29 ox31 h nx33 hnx37 hrx35 hxx36
        obtain ⟨nx33, rfl⟩ : ∃ q, nx33 = q + 1 := ⟨nx33 - 1, by omega⟩
        obtain ⟨sx38, h, hsx39⟩ := iter_some h
        have h : f73_B2 m a0 v28 v30 = some sx38 := h
        unfold f73_B2 at h
        refine Lp.succ ?_
        refine Wp.seq' (by kernel_rfl) ?_
        refine Wp.region (by kernel_rfl) ?_
        refine Ops.seg' 1 1 (by kernel_rfl) ?_
        refine Ops.done (by kernel_rfl) ?_
        refine seqQ.n ?_
        refine Wp.seq' (by kernel_rfl) ?_
        refine Wp.cnd h [2, 6, 25, 26, 27] 3 (by kernel_rfl) (fun h => ?_) (fun h => ?_)
        · refine Wp.skip (by kernel_rfl) ?_
          refine sqQ.n ⟨q2 ((.v (.sl .nil (List.map eS []))) :: q3 ((AG.d ag29 3 (List.map eS v28)) :: q18 ((dP (eL eS) a0) :: (dI (a0.length : Int)) :: (dI v30) :: q8 []))), [.dead, .dead, .dead, (AG.o ag29 1 (List.map eS v28))]⟩ (by cases ag29 <;> kernel_rfl) ?_
          refine seqQ.n ?_
          refine Wp.seq' (by kernel_rfl) ?_
          refine Wp.block' 3 [2, 6, 25, 26, 27] 4 (by kernel_rfl) ?_
          refine Wp.seq' (by kernel_rfl) ?_
          refine Wp.region (by kernel_rfl) ?_
          obtain ⟨v40, ev40, h⟩ := bnd_some h
          refine Ops.one' 1 (fun h0 e0 => (ix_r (T := T) h0 118 36 1 .plain (eL eS) a0 v30 v40 ev40 (by kernel_rfl) (by kernel_rfl) (fun _ => rfl))) (by kernel_rfl) (by kernel_rfl) ?_
          refine Ops.seg' 2 3 (by kernel_rfl) ?_
          refine Ops.done (by kernel_rfl) ?_
          refine seqQ.n ?_
          refine Wp.region (by kernel_rfl) ?_
          refine Ops.seg' 2 2 (by kernel_rfl) ?_
          obtain ⟨v41, ev41, h⟩ := bnd_some h
          refine Ops.one' 3 (fun h0 e0 => (app_g (T := T) h0 36 9 3 1 ti9 ag29 .plain eS v28 v40 v41 ev41 (by kernel_rfl) (by kernel_rfl) (by kernel_rfl) (by kernel_rfl) (fun _ => rfl) (hq_of e0 (by kernel_rfl)))) (by kernel_rfl) (by kernel_rfl) ?_
          refine Ops.seg' 1 4 (by kernel_rfl) ?_
          refine Ops.done (by kernel_rfl) ?_
          refine blkQ.n ⟨q2 ((.v (.sl .nil (List.map eS []))) :: q3 ((AG.d (AG.app ag29 (List.map eS v40)) 4 (List.map eS v41)) :: q18 ((dP (eL eS) a0) :: (dI (a0.length : Int)) :: (dI v30) :: q8 []))), [.dead, .dead, .dead, .dead, (AG.o (AG.app ag29 (List.map eS v40)) 1 (List.map eS v41))]⟩ (by generalize (AG.app ag29 (List.map eS v40)) = g0; cases g0 <;> kernel_rfl) ?_
          refine seqQ.n ?_
          refine Wp.region (by kernel_rfl) ?_
          refine Ops.seg' 2 2 (by kernel_rfl) ?_
          refine Ops.done (by kernel_rfl) ?_
          refine lpQ.n ⟨q2 ((.v (.sl .nil (List.map eS []))) :: q3 ((AG.d (AG.app ag29 (List.map eS v40)) 2 (List.map eS v41)) :: q18 ((dP (eL eS) a0) :: (dI (a0.length : Int)) :: (dI (w64 (v30 + 1))) :: q8 []))), [.dead, .dead, (AG.o (AG.app ag29 (List.map eS v40)) 1 (List.map eS v41))]⟩ (by generalize (AG.app ag29 (List.map eS v40)) = g0; cases g0 <;> kernel_rfl) ?_
          cases h
          exact ihx34 v41 (w64 (v30 + 1)) _ _ hsx39 _ (by omega) hrx35 hxx36
        · refine Wp.exit (id := 2) (by kernel_rfl) ?_
          refine sqQ.x ?_
          refine seqQ.x ?_
          cases h
          refine lpQ.x ?_
          refine blkQ.x ⟨q2 ((.v (.sl .nil (List.map eS []))) :: q3 ((AG.d ag29 2 (List.map eS v28)) :: q29 [])), [.dead, .dead, (AG.o ag29 1 (List.map eS v28))]⟩ (by cases ag29 <;> kernel_rfl) ?_
          exact hxx36 (v28, v30) _ hsx39
    refine Wp.loop' [2, 6, 25, 26, 27] 2 (by kernel_rfl) ⟨q2 ((.v (.sl .nil (List.map eS []))) :: q3 ((AG.d (AG.grown y18.1) 2 (List.map eS [])) :: q18 ((dP (eL eS) a0) :: (dI (a0.length : Int)) :: (dI 0) :: q8 []))), [.dead, .dead, (AG.o (AG.grown y18.1) 1 (List.map eS []))]⟩ (by generalize (AG.grown y18.1) = g0; cases g0 <;> kernel_rfl) ?_
    rcases brk_some h with ⟨r44, er44, h⟩ | ⟨y43, ey43, h⟩
    · refine hLx42 _ [] 0 _ _ er44 n (by omega) (fun r er σ hσ => ?_) (fun y ag29 ey => by cases ey)
      cases er
      refine seqQ.r ?_
      exact fnQ.r' (X73 n) (fun z => ((eL eS) z)) h hσ
    · refine hLx42 _ [] 0 _ _ ey43 n (by omega) (fun r er => by cases er) (fun y ag29 ey => ?_)
      cases ey
      refine seqQ.n ?_
      refine Wp.seq' (by kernel_rfl) ?_
      refine Wp.region (by kernel_rfl) ?_
      refine Ops.seg' 2 2 (by kernel_rfl) ?_
      refine Ops.done (by kernel_rfl) ?_
      refine seqQ.n ?_
      refine Wp.ret (by kernel_rfl) ?_
      exact fnQ.r' (X73 n) (fun z => ((eL eS) z)) h (RetOk.mk' (AG.d ag29 2 (List.map eS y43.1)) (by kernel_rfl) (AG.frz _ _ _ _ _))

end Go.Abs
