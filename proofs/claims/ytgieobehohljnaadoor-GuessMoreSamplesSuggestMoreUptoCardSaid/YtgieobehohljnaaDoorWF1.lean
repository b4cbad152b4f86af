import Derived.Test.YtgieobehohljnaaDoorWEnv
namespace Go.Abs
set_option linter.unusedVariables false
set_option maxRecDepth 100000

/-! ### 38 cmp.isNaN[int] -/
def f38 (m : Nat) (a0 : Int) : Option Bool :=
  some (a0 != a0)
noncomputable abbrev X38 (n : Nat) : Cx := cxOf Proofs.Tryd.prog E0 38 n
noncomputable def C38 : Code := bodyOf Proofs.Tryd.prog 38
theorem ok38 (m : Nat) (a0 : Int) (o : Bool) (h : f38 m a0 = some o) (n : Nat) (hn : m + 1 ≤ n) : Fn Proofs.Tryd.prog E0 n 38 [.v (eI a0)] (eB o) := by
  obtain ⟨n, rfl⟩ : ∃ q, n = q + 1 := ⟨n - 1, by omega⟩
  unfold f38 at h
  refine Fn.of (by kernel_rfl) (by kernel_rfl) (by kernel_rfl) ⟨(dI a0) :: u5 [], []⟩ (by kernel_rfl) ?_
  refine Wp.seq' (by kernel_rfl) ?_
  refine Wp.region (by kernel_rfl) ?_
  refine Ops.seg' 1 1 (by kernel_rfl) ?_
  refine Ops.done (by kernel_rfl) ?_
  refine seqQ.n ?_
  refine Wp.seq' (by kernel_rfl) ?_
  refine Wp.region (by kernel_rfl) ?_
  refine Ops.seg' 4 4 (by kernel_rfl) ?_
  refine Ops.done (by kernel_rfl) ?_
  refine seqQ.n ?_
  refine Wp.ret (by kernel_rfl) ?_
  exact fnQ.r' (X38 n) (fun z => (eB z)) h (RetOk.mk' (dB (a0 != a0)) (by kernel_rfl) (by kernel_rfl))

/-! ### 26 cmp.Compare[int] -/
def f26 (m : Nat) (a0 : Int) (a1 : Int) : Option Int :=
  bnd (f38 m a0) fun v1 =>
  bnd (f38 m a1) fun v2 =>
  cnd v1
  (cnd v2
  (some 0)
  (some ((-1))))
  (cnd v2
  (some 1)
  (cnd (decide (a0 < a1))
  (some ((-1)))
  (cnd (decide (a0 > a1))
  (some 1)
  (some 0))))
noncomputable abbrev X26 (n : Nat) : Cx := cxOf Proofs.Tryd.prog E0 26 n
noncomputable def C26 : Code := bodyOf Proofs.Tryd.prog 26
theorem ok26 (m : Nat) (a0 : Int) (a1 : Int) (o : Int) (h : f26 m a0 a1 = some o) (n : Nat) (hn : m + 2 ≤ n) : Fn Proofs.Tryd.prog E0 n 26 [.v (eI a0), .v (eI a1)] (eI o) := by
  obtain ⟨n, rfl⟩ : ∃ q, n = q + 1 := ⟨n - 1, by omega⟩
  unfold f26 at h
  refine Fn.of (by kernel_rfl) (by kernel_rfl) (by kernel_rfl) ⟨(dI a0) :: (dI a1) :: u18 [], []⟩ (by kernel_rfl) ?_
  refine Wp.seq' (by kernel_rfl) ?_
  refine Wp.region (by kernel_rfl) ?_
  refine Ops.seg' 1 1 (by kernel_rfl) ?_
  refine Ops.done (by kernel_rfl) ?_
  refine seqQ.n ?_
  refine Wp.seq' (by kernel_rfl) ?_
  refine Wp.region (by kernel_rfl) ?_
  refine Ops.seg' 1 1 (by kernel_rfl) ?_
  obtain ⟨v1, ev1, h⟩ := bnd_some h
  refine Ops.one' 2 (fun h0 e0 => (call_ok (E' := E0) (h := h0) (by kernel_rfl) (Args.v (vI a0) (eI a0) (by kernel_rfl) Args.nil) (ok38 m a0 v1 ev1 n (by omega)))) (by kernel_rfl) (by kernel_rfl) ?_
  refine Ops.seg' 1 3 (by kernel_rfl) ?_
  refine Ops.done (by kernel_rfl) ?_
  refine seqQ.n ?_
  refine Wp.seq' (by kernel_rfl) ?_
  refine Wp.region (by kernel_rfl) ?_
  refine Ops.seg' 1 1 (by kernel_rfl) ?_
  obtain ⟨v2, ev2, h⟩ := bnd_some h
  refine Ops.one' 2 (fun h0 e0 => (call_ok (E' := E0) (h := h0) (by kernel_rfl) (Args.v (vI a1) (eI a1) (by kernel_rfl) Args.nil) (ok38 m a1 v2 ev2 n (by omega)))) (by kernel_rfl) (by kernel_rfl) ?_
  refine Ops.seg' 1 3 (by kernel_rfl) ?_
  refine Ops.done (by kernel_rfl) ?_
  refine seqQ.n ?_
  refine Wp.seq' (by kernel_rfl) ?_
  refine Wp.seq' (by kernel_rfl) ?_
  refine Wp.region (by kernel_rfl) ?_
  refine Ops.seg' 1 1 (by kernel_rfl) ?_
  refine Ops.done (by kernel_rfl) ?_
  refine seqQ.n ?_
  refine Wp.cnd h [0, 1, 4, 6] 0 (by kernel_rfl) (fun h => ?_) (fun h => ?_)
  · refine Wp.seq' (by kernel_rfl) ?_
    refine Wp.seq' (by kernel_rfl) ?_
    refine Wp.region (by kernel_rfl) ?_
    refine Ops.seg' 1 1 (by kernel_rfl) ?_
    refine Ops.done (by kernel_rfl) ?_
    refine seqQ.n ?_
    refine Wp.cnd h [4] 0 (by kernel_rfl) (fun h => ?_) (fun h => ?_)
    · refine Wp.seq' (by kernel_rfl) ?_
      refine Wp.region (by kernel_rfl) ?_
      refine Ops.seg' 1 1 (by kernel_rfl) ?_
      refine Ops.done (by kernel_rfl) ?_
      refine seqQ.n ?_
      refine Wp.ret (by kernel_rfl) ?_
      refine sqQ.r ?_
      refine seqQ.r ?_
      refine sqQ.r ?_
      refine seqQ.r ?_
      exact fnQ.r' (X26 n) (fun z => (eI z)) h (RetOk.mk' (dI 0) (by kernel_rfl) (by kernel_rfl))
    · refine Wp.skip (by kernel_rfl) ?_
      refine sqQ.n' ?_
      refine seqQ.n ?_
      refine Wp.seq' (by kernel_rfl) ?_
      refine Wp.region (by kernel_rfl) ?_
      refine Ops.seg' 1 1 (by kernel_rfl) ?_
      refine Ops.done (by kernel_rfl) ?_
      refine seqQ.n ?_
      refine Wp.ret (by kernel_rfl) ?_
      refine sqQ.r ?_
      refine seqQ.r ?_
      exact fnQ.r' (X26 n) (fun z => (eI z)) h (RetOk.mk' (dI ((-1))) (by kernel_rfl) (by kernel_rfl))
  · refine Wp.skip (by kernel_rfl) ?_
    refine sqQ.n' ?_
    refine seqQ.n ?_
    refine Wp.seq' (by kernel_rfl) ?_
    refine Wp.seq' (by kernel_rfl) ?_
    refine Wp.region (by kernel_rfl) ?_
    refine Ops.seg' 1 1 (by kernel_rfl) ?_
    refine Ops.done (by kernel_rfl) ?_
    refine seqQ.n ?_
    refine Wp.cnd h [0, 1, 4] 0 (by kernel_rfl) (fun h => ?_) (fun h => ?_)
    · refine Wp.seq' (by kernel_rfl) ?_
      refine Wp.region (by kernel_rfl) ?_
      refine Ops.seg' 1 1 (by kernel_rfl) ?_
      refine Ops.done (by kernel_rfl) ?_
      refine seqQ.n ?_
      refine Wp.ret (by kernel_rfl) ?_
      refine sqQ.r ?_
      refine seqQ.r ?_
      exact fnQ.r' (X26 n) (fun z => (eI z)) h (RetOk.mk' (dI 1) (by kernel_rfl) (by kernel_rfl))
    · refine Wp.skip (by kernel_rfl) ?_
      refine sqQ.n' ?_
      refine seqQ.n ?_
      refine Wp.seq' (by kernel_rfl) ?_
      refine Wp.seq' (by kernel_rfl) ?_
      refine Wp.region (by kernel_rfl) ?_
      refine Ops.seg' 3 3 (by kernel_rfl) ?_
      refine Ops.done (by kernel_rfl) ?_
      refine seqQ.n ?_
      refine Wp.cnd h [0, 1, 4] 0 (by kernel_rfl) (fun h => ?_) (fun h => ?_)
      · refine Wp.seq' (by kernel_rfl) ?_
        refine Wp.region (by kernel_rfl) ?_
        refine Ops.seg' 1 1 (by kernel_rfl) ?_
        refine Ops.done (by kernel_rfl) ?_
        refine seqQ.n ?_
        refine Wp.ret (by kernel_rfl) ?_
        refine sqQ.r ?_
        refine seqQ.r ?_
        exact fnQ.r' (X26 n) (fun z => (eI z)) h (RetOk.mk' (dI ((-1))) (by kernel_rfl) (by kernel_rfl))
      · refine Wp.skip (by kernel_rfl) ?_
        refine sqQ.n' ?_
        refine seqQ.n ?_
        refine Wp.seq' (by kernel_rfl) ?_
        refine Wp.seq' (by kernel_rfl) ?_
        refine Wp.region (by kernel_rfl) ?_
        refine Ops.seg' 3 3 (by kernel_rfl) ?_
        refine Ops.done (by kernel_rfl) ?_
        refine seqQ.n ?_
        refine Wp.cnd h [4] 0 (by kernel_rfl) (fun h => ?_) (fun h => ?_)
        · refine Wp.seq' (by kernel_rfl) ?_
          refine Wp.region (by kernel_rfl) ?_
          refine Ops.seg' 1 1 (by kernel_rfl) ?_
          refine Ops.done (by kernel_rfl) ?_
          refine seqQ.n ?_
          refine Wp.ret (by kernel_rfl) ?_
          refine sqQ.r ?_
          refine seqQ.r ?_
          exact fnQ.r' (X26 n) (fun z => (eI z)) h (RetOk.mk' (dI 1) (by kernel_rfl) (by kernel_rfl))
        · refine Wp.skip (by kernel_rfl) ?_
          refine sqQ.n' ?_
          refine seqQ.n ?_
          refine Wp.seq' (by kernel_rfl) ?_
          refine Wp.region (by kernel_rfl) ?_
          refine Ops.seg' 1 1 (by kernel_rfl) ?_
          refine Ops.done (by kernel_rfl) ?_
          refine seqQ.n ?_
          refine Wp.ret (by kernel_rfl) ?_
          exact fnQ.r' (X26 n) (fun z => (eI z)) h (RetOk.mk' (dI 0) (by kernel_rfl) (by kernel_rfl))

/-! ### 39 cmp.isNaN[string] -/
def f39 (m : Nat) (a0 : ByteArray) : Option Bool :=
  some (!(a0.toList == a0.toList))
noncomputable abbrev X39 (n : Nat) : Cx := cxOf Proofs.Tryd.prog E0 39 n
noncomputable def C39 : Code := bodyOf Proofs.Tryd.prog 39
theorem ok39 (m : Nat) (a0 : ByteArray) (o : Bool) (h : f39 m a0 = some o) (n : Nat) (hn : m + 1 ≤ n) : Fn Proofs.Tryd.prog E0 n 39 [.v (eS a0)] (eB o) := by
  obtain ⟨n, rfl⟩ : ∃ q, n = q + 1 := ⟨n - 1, by omega⟩
  unfold f39 at h
  refine Fn.of (by kernel_rfl) (by kernel_rfl) (by kernel_rfl) ⟨(.v (.str a0)) :: u5 [], []⟩ (by kernel_rfl) ?_
  refine Wp.seq' (by kernel_rfl) ?_
  refine Wp.region (by kernel_rfl) ?_
  refine Ops.seg' 1 1 (by kernel_rfl) ?_
  refine Ops.done (by kernel_rfl) ?_
  refine seqQ.n ?_
  refine Wp.seq' (by kernel_rfl) ?_
  refine Wp.region (by kernel_rfl) ?_
  refine Ops.seg' 4 4 (by kernel_rfl) ?_
  refine Ops.done (by kernel_rfl) ?_
  refine seqQ.n ?_
  refine Wp.ret (by kernel_rfl) ?_
  exact fnQ.r' (X39 n) (fun z => (eB z)) h (RetOk.mk' (dB (!(a0.toList == a0.toList))) (by kernel_rfl) (by kernel_rfl))

/-! ### 27 cmp.Compare[string] -/
def f27 (m : Nat) (a0 : ByteArray) (a1 : ByteArray) : Option Int :=
  bnd (f39 m a0) fun v1 =>
  bnd (f39 m a1) fun v2 =>
  cnd v1
  (cnd v2
  (some 0)
  (some ((-1))))
  (cnd v2
  (some 1)
  (cnd (Op.bytesLess a0.toList a1.toList)
  (some ((-1)))
  (cnd (!(Op.bytesLess a0.toList a1.toList || a0.toList == a1.toList))
  (some 1)
  (some 0))))
noncomputable abbrev X27 (n : Nat) : Cx := cxOf Proofs.Tryd.prog E0 27 n
noncomputable def C27 : Code := bodyOf Proofs.Tryd.prog 27
theorem ok27 (m : Nat) (a0 : ByteArray) (a1 : ByteArray) (o : Int) (h : f27 m a0 a1 = some o) (n : Nat) (hn : m + 2 ≤ n) : Fn Proofs.Tryd.prog E0 n 27 [.v (eS a0), .v (eS a1)] (eI o) := by
  obtain ⟨n, rfl⟩ : ∃ q, n = q + 1 := ⟨n - 1, by omega⟩
  unfold f27 at h
  refine Fn.of (by kernel_rfl) (by kernel_rfl) (by kernel_rfl) ⟨(.v (.str a0)) :: (.v (.str a1)) :: u18 [], []⟩ (by kernel_rfl) ?_
  refine Wp.seq' (by kernel_rfl) ?_
  refine Wp.region (by kernel_rfl) ?_
  refine Ops.seg' 1 1 (by kernel_rfl) ?_
  refine Ops.done (by kernel_rfl) ?_
  refine seqQ.n ?_
  refine Wp.seq' (by kernel_rfl) ?_
  refine Wp.region (by kernel_rfl) ?_
  refine Ops.seg' 1 1 (by kernel_rfl) ?_
  obtain ⟨v1, ev1, h⟩ := bnd_some h
  refine Ops.one' 2 (fun h0 e0 => (call_ok (E' := E0) (h := h0) (by kernel_rfl) (Args.v (.str a0) (eS a0) (by kernel_rfl) Args.nil) (ok39 m a0 v1 ev1 n (by omega)))) (by kernel_rfl) (by kernel_rfl) ?_
  refine Ops.seg' 1 3 (by kernel_rfl) ?_
  refine Ops.done (by kernel_rfl) ?_
  refine seqQ.n ?_
  refine Wp.seq' (by kernel_rfl) ?_
  refine Wp.region (by kernel_rfl) ?_
  refine Ops.seg' 1 1 (by kernel_rfl) ?_
  obtain ⟨v2, ev2, h⟩ := bnd_some h
  refine Ops.one' 2 (fun h0 e0 => (call_ok (E' := E0) (h := h0) (by kernel_rfl) (Args.v (.str a1) (eS a1) (by kernel_rfl) Args.nil) (ok39 m a1 v2 ev2 n (by omega)))) (by kernel_rfl) (by kernel_rfl) ?_
  refine Ops.seg' 1 3 (by kernel_rfl) ?_
  refine Ops.done (by kernel_rfl) ?_
  refine seqQ.n ?_
  refine Wp.seq' (by kernel_rfl) ?_
  refine Wp.seq' (by kernel_rfl) ?_
  refine Wp.region (by kernel_rfl) ?_
  refine Ops.seg' 1 1 (by kernel_rfl) ?_
  refine Ops.done (by kernel_rfl) ?_
  refine seqQ.n ?_
  refine Wp.cnd h [0, 1, 4, 6] 0 (by kernel_rfl) (fun h => ?_) (fun h => ?_)
  · refine Wp.seq' (by kernel_rfl) ?_
    refine Wp.seq' (by kernel_rfl) ?_
    refine Wp.region (by kernel_rfl) ?_
    refine Ops.seg' 1 1 (by kernel_rfl) ?_
    refine Ops.done (by kernel_rfl) ?_
    refine seqQ.n ?_
    refine Wp.cnd h [4] 0 (by kernel_rfl) (fun h => ?_) (fun h => ?_)
    · refine Wp.seq' (by kernel_rfl) ?_
      refine Wp.region (by kernel_rfl) ?_
      refine Ops.seg' 1 1 (by kernel_rfl) ?_
      refine Ops.done (by kernel_rfl) ?_
      refine seqQ.n ?_
      refine Wp.ret (by kernel_rfl) ?_
      refine sqQ.r ?_
      refine seqQ.r ?_
      refine sqQ.r ?_
      refine seqQ.r ?_
      exact fnQ.r' (X27 n) (fun z => (eI z)) h (RetOk.mk' (dI 0) (by kernel_rfl) (by kernel_rfl))
    · refine Wp.skip (by kernel_rfl) ?_
      refine sqQ.n' ?_
      refine seqQ.n ?_
      refine Wp.seq' (by kernel_rfl) ?_
      refine Wp.region (by kernel_rfl) ?_
      refine Ops.seg' 1 1 (by kernel_rfl) ?_
      refine Ops.done (by kernel_rfl) ?_
      refine seqQ.n ?_
      refine Wp.ret (by kernel_rfl) ?_
      refine sqQ.r ?_
      refine seqQ.r ?_
      exact fnQ.r' (X27 n) (fun z => (eI z)) h (RetOk.mk' (dI ((-1))) (by kernel_rfl) (by kernel_rfl))
  · refine Wp.skip (by kernel_rfl) ?_
    refine sqQ.n' ?_
    refine seqQ.n ?_
    refine Wp.seq' (by kernel_rfl) ?_
    refine Wp.seq' (by kernel_rfl) ?_
    refine Wp.region (by kernel_rfl) ?_
    refine Ops.seg' 1 1 (by kernel_rfl) ?_
    refine Ops.done (by kernel_rfl) ?_
    refine seqQ.n ?_
    refine Wp.cnd h [0, 1, 4] 0 (by kernel_rfl) (fun h => ?_) (fun h => ?_)
    · refine Wp.seq' (by kernel_rfl) ?_
      refine Wp.region (by kernel_rfl) ?_
      refine Ops.seg' 1 1 (by kernel_rfl) ?_
      refine Ops.done (by kernel_rfl) ?_
      refine seqQ.n ?_
      refine Wp.ret (by kernel_rfl) ?_
      refine sqQ.r ?_
      refine seqQ.r ?_
      exact fnQ.r' (X27 n) (fun z => (eI z)) h (RetOk.mk' (dI 1) (by kernel_rfl) (by kernel_rfl))
    · refine Wp.skip (by kernel_rfl) ?_
      refine sqQ.n' ?_
      refine seqQ.n ?_
      refine Wp.seq' (by kernel_rfl) ?_
      refine Wp.seq' (by kernel_rfl) ?_
      refine Wp.region (by kernel_rfl) ?_
      refine Ops.seg' 3 3 (by kernel_rfl) ?_
      refine Ops.done (by kernel_rfl) ?_
      refine seqQ.n ?_
      refine Wp.cnd h [0, 1, 4] 0 (by kernel_rfl) (fun h => ?_) (fun h => ?_)
      · refine Wp.seq' (by kernel_rfl) ?_
        refine Wp.region (by kernel_rfl) ?_
        refine Ops.seg' 1 1 (by kernel_rfl) ?_
        refine Ops.done (by kernel_rfl) ?_
        refine seqQ.n ?_
        refine Wp.ret (by kernel_rfl) ?_
        refine sqQ.r ?_
        refine seqQ.r ?_
        exact fnQ.r' (X27 n) (fun z => (eI z)) h (RetOk.mk' (dI ((-1))) (by kernel_rfl) (by kernel_rfl))
      · refine Wp.skip (by kernel_rfl) ?_
        refine sqQ.n' ?_
        refine seqQ.n ?_
        refine Wp.seq' (by kernel_rfl) ?_
        refine Wp.seq' (by kernel_rfl) ?_
        refine Wp.region (by kernel_rfl) ?_
        refine Ops.seg' 3 3 (by kernel_rfl) ?_
        refine Ops.done (by kernel_rfl) ?_
        refine seqQ.n ?_
        refine Wp.cnd h [4] 0 (by kernel_rfl) (fun h => ?_) (fun h => ?_)
        · refine Wp.seq' (by kernel_rfl) ?_
          refine Wp.region (by kernel_rfl) ?_
          refine Ops.seg' 1 1 (by kernel_rfl) ?_
          refine Ops.done (by kernel_rfl) ?_
          refine seqQ.n ?_
          refine Wp.ret (by kernel_rfl) ?_
          refine sqQ.r ?_
          refine seqQ.r ?_
          exact fnQ.r' (X27 n) (fun z => (eI z)) h (RetOk.mk' (dI 1) (by kernel_rfl) (by kernel_rfl))
        · refine Wp.skip (by kernel_rfl) ?_
          refine sqQ.n' ?_
          refine seqQ.n ?_
          refine Wp.seq' (by kernel_rfl) ?_
          refine Wp.region (by kernel_rfl) ?_
          refine Ops.seg' 1 1 (by kernel_rfl) ?_
          refine Ops.done (by kernel_rfl) ?_
          refine seqQ.n ?_
          refine Wp.ret (by kernel_rfl) ?_
          exact fnQ.r' (X27 n) (fun z => (eI z)) h (RetOk.mk' (dI 0) (by kernel_rfl) (by kernel_rfl))

/-! ### 25 cmp.Or[int] -/
def f25_B1 (m : Nat) (a0 : (List Int)) (v4 : Int) : Option (Stp Int (Int)) :=
  cnd (decide (v4 < (a0.length : Int)))
  (bnd (idx a0 v4) fun v14 =>
  cnd (v14 != 0)
  (some (.ret v14))
  (some (.nxt (w64 (v4 + 1)))))
  (some (.brk v4))
def f25 (m : Nat) (a0 : (List Int)) : Option Int :=
  brk (iter (fun (y : Int) => f25_B1 m a0 y) m 0) some fun y16 =>
  some 0
noncomputable abbrev X25 (n : Nat) : Cx := cxOf Proofs.Tryd.prog E0 25 n
noncomputable def C25 : Code := bodyOf Proofs.Tryd.prog 25
theorem ok25 (m : Nat) (a0 : (List Int)) (o : Int) (h : f25 m a0 = some o) (n : Nat) (hn : m + 1 ≤ n) : Fn Proofs.Tryd.prog E0 n 25 [.v ((eL eI) a0)] (eI o) := by
  obtain ⟨n, rfl⟩ : ∃ q, n = q + 1 := ⟨n - 1, by omega⟩
  unfold f25 at h
  refine Fn.of (by kernel_rfl) (by kernel_rfl) (by kernel_rfl) ⟨(dP eI a0) :: u17 [], []⟩ (by kernel_rfl) ?_
  refine Wp.seq' (by kernel_rfl) ?_
  refine Wp.region (by kernel_rfl) ?_
  refine Ops.seg' 1 1 (by kernel_rfl) ?_
  refine Ops.done (by kernel_rfl) ?_
  refine seqQ.n ?_
  refine Wp.seq' (by kernel_rfl) ?_
  refine Wp.region (by kernel_rfl) ?_
  refine Ops.seg' 1 1 (by kernel_rfl) ?_
  refine Ops.done (by kernel_rfl) ?_
  refine seqQ.n ?_
  refine Wp.seq' (by kernel_rfl) ?_
  refine Wp.seq' (by kernel_rfl) ?_
  refine Wp.region (by kernel_rfl) ?_
  refine Ops.seg' 1 1 (by kernel_rfl) ?_
  refine Ops.one' 2 (fun h0 e0 => (len_r (T := T) h0 41 3 .plain eI a0 (by kernel_rfl))) (by kernel_rfl) (by kernel_rfl) ?_
  refine Ops.seg' 1 3 (by kernel_rfl) ?_
  refine Ops.done (by kernel_rfl) ?_
  refine seqQ.n ?_
  refine Wp.block' 0 [2, 3] 0 (by kernel_rfl) ?_
  have hLx15 : ∀ (kx6 : Nat) (v4 : Int)  (ox5 : Int ⊕ (Int)), iter (fun (y : Int) => f25_B1 m a0 y) kx6 v4 = some ox5 → ∀ nx7, kx6 ≤ nx7 → (∀ r, ox5 = .inl r → ∀ σ, RetOk (X25 n) (resOf Proofs.Tryd.prog 25) (eI r) σ → (seqQ (X25 n) (cR (cR (cR C25))) (fnQ (X25 n).E.T (resOf Proofs.Tryd.prog 25) (eI o))) .ret σ) → (∀ (y : Int) , ox5 = .inr y → (seqQ (X25 n) (cR (cR (cR C25))) (fnQ (X25 n).E.T (resOf Proofs.Tryd.prog 25) (eI o))) .normal ⟨q2 ((dI 0) :: (dI 0) :: q2 ((dP eI a0) :: (dI ((a0.length : Int))) :: (dI y) :: q9 [])), []⟩) → Lp (X25 n) [2, 3, 6, 7, 8] 0 (cL (cL (cR (cL (cR (cR C25)))))) nx7 ⟨q2 ((dI 0) :: (dI 0) :: q2 ((dP eI a0) :: (dI ((a0.length : Int))) :: (dI v4) :: q9 [])), []⟩ (blkQ (X25 n) 0 [2, 3] 0 (seqQ (X25 n) (cR (cR (cR C25))) (fnQ (X25 n).E.T (resOf Proofs.Tryd.prog 25) (eI o)))) := by
    intro kx6
    induction kx6 with
    | zero => intro v4  ox5 h; exact (iter_zero h).elim
    | succ kx6 ihx8 =>
      intro v4  ox5 h nx7 hnx11 hrx9 hxx10
      obtain ⟨nx7, rfl⟩ : ∃ q, nx7 = q + 1 := ⟨nx7 - 1, by omega⟩
      obtain ⟨sx12, h, hsx13⟩ := iter_some h
      have h : f25_B1 m a0 v4 = some sx12 := h
      unfold f25_B1 at h
      refine Lp.succ ?_
      refine Wp.seq' (by kernel_rfl) ?_
      refine Wp.region (by kernel_rfl) ?_
      refine Ops.seg' 1 1 (by kernel_rfl) ?_
      refine Ops.done (by kernel_rfl) ?_
      refine seqQ.n ?_
      refine Wp.seq' (by kernel_rfl) ?_
      refine Wp.cnd h [2, 3, 6, 7, 8] 0 (by kernel_rfl) (fun h => ?_) (fun h => ?_)
      · refine Wp.skip (by kernel_rfl) ?_
        refine sqQ.n' ?_
        refine seqQ.n ?_
        refine Wp.seq' (by kernel_rfl) ?_
        refine Wp.block' 1 [2, 3, 6, 7, 8] 0 (by kernel_rfl) ?_
        refine Wp.seq' (by kernel_rfl) ?_
        refine Wp.region (by kernel_rfl) ?_
        obtain ⟨v14, ev14, h⟩ := bnd_some h
        refine Ops.one' 1 (fun h0 e0 => (ix_r (T := T) h0 41 3 1 .plain eI a0 v4 v14 ev14 (by kernel_rfl) (by kernel_rfl) (fun _ => rfl))) (by kernel_rfl) (by kernel_rfl) ?_
        refine Ops.seg' 2 3 (by kernel_rfl) ?_
        refine Ops.done (by kernel_rfl) ?_
        refine seqQ.n ?_
        refine Wp.seq' (by kernel_rfl) ?_
        refine Wp.region (by kernel_rfl) ?_
        refine Ops.seg' 3 3 (by kernel_rfl) ?_
        refine Ops.done (by kernel_rfl) ?_
        refine seqQ.n ?_
        refine Wp.cnd h [2, 3, 6, 7, 8] 0 (by kernel_rfl) (fun h => ?_) (fun h => ?_)
        · refine Wp.seq' (by kernel_rfl) ?_
          refine Wp.region (by kernel_rfl) ?_
          refine Ops.seg' 2 2 (by kernel_rfl) ?_
          refine Ops.done (by kernel_rfl) ?_
          refine seqQ.n ?_
          refine Wp.ret (by kernel_rfl) ?_
          refine sqQ.r ?_
          refine blkQ.r ?_
          refine seqQ.r ?_
          cases h
          refine lpQ.r ?_
          refine blkQ.r ?_
          exact hrx9 _ hsx13 _ (RetOk.forget [2, 3, 6, 7, 8] (by kernel_rfl) (RetOk.mk' (dI v14) (by kernel_rfl) (by kernel_rfl)))
        · refine Wp.skip (by kernel_rfl) ?_
          refine sqQ.n' ?_
          refine blkQ.n' ?_
          refine seqQ.n ?_
          refine Wp.region (by kernel_rfl) ?_
          refine Ops.seg' 2 2 (by kernel_rfl) ?_
          refine Ops.done (by kernel_rfl) ?_
          refine lpQ.n ⟨q2 ((dI 0) :: (dI 0) :: q2 ((dP eI a0) :: (dI ((a0.length : Int))) :: (dI (w64 (v4 + 1))) :: q9 [])), []⟩ (by kernel_rfl) ?_
          cases h
          exact ihx8 (w64 (v4 + 1))  _ hsx13 _ (by omega) hrx9 hxx10
      · refine Wp.exit (id := 0) (by kernel_rfl) ?_
        refine sqQ.x ?_
        refine seqQ.x ?_
        cases h
        refine lpQ.x ?_
        refine blkQ.x ⟨q2 ((dI 0) :: (dI 0) :: q2 ((dP eI a0) :: (dI ((a0.length : Int))) :: (dI v4) :: q9 [])), []⟩ (by kernel_rfl) ?_
        exact hxx10 v4  hsx13
  refine Wp.loop' [2, 3, 6, 7, 8] 0 (by kernel_rfl) ⟨q2 ((dI 0) :: (dI 0) :: q2 ((dP eI a0) :: (dI ((a0.length : Int))) :: (dI 0) :: q9 [])), []⟩ (by kernel_rfl) ?_
  rcases brk_some h with ⟨r17, er17, h⟩ | ⟨y16, ey16, h⟩
  · refine hLx15 _ 0  _ er17 n (by omega) (fun r er σ hσ => ?_) (fun y  ey => by cases ey)
    cases er
    refine seqQ.r ?_
    exact fnQ.r' (X25 n) (fun z => (eI z)) h hσ
  · refine hLx15 _ 0  _ ey16 n (by omega) (fun r er => by cases er) (fun y  ey => ?_)
    cases ey
    refine seqQ.n ?_
    refine Wp.seq' (by kernel_rfl) ?_
    refine Wp.region (by kernel_rfl) ?_
    refine Ops.seg' 2 2 (by kernel_rfl) ?_
    refine Ops.done (by kernel_rfl) ?_
    refine seqQ.n ?_
    refine Wp.ret (by kernel_rfl) ?_
    exact fnQ.r' (X25 n) (fun z => (eI z)) h (RetOk.mk' (dI 0) (by kernel_rfl) (by kernel_rfl))

/-! ### 24 (glosswright/guess.Guesser).Rank$1 -/
def f24 (m : Nat) (a0 : S44) (a1 : S44) : Option Int :=
  bnd (f26 m a1.fLength a0.fLength) fun v1 =>
  bnd (f26 m a1.fCount a0.fCount) fun v2 =>
  bnd (f27 m a0.fTag a1.fTag) fun v3 =>
  bnd (f25 m ([v1, v2, v3])) fun v4 =>
  some v4
noncomputable abbrev X24 (n : Nat) : Cx := cxOf Proofs.Tryd.prog E0 24 n
noncomputable def C24 : Code := bodyOf Proofs.Tryd.prog 24
theorem ok24 (m : Nat) (a0 : S44) (a1 : S44) (o : Int) (h : f24 m a0 a1 = some o) (n : Nat) (hn : m + 3 ≤ n) : Fn Proofs.Tryd.prog E0 n 24 [.v (e44 a0), .v (e44 a1)] (eI o) := by
  obtain ⟨n, rfl⟩ : ∃ q, n = q + 1 := ⟨n - 1, by omega⟩
  unfold f24 at h
  refine Fn.of (by kernel_rfl) (by kernel_rfl) (by kernel_rfl) ⟨(.v (.agg [(.str a0.fTag), (vI a0.fLength), (vI a0.fCount)])) :: (.v (.agg [(.str a1.fTag), (vI a1.fLength), (vI a1.fCount)])) :: u20 [], []⟩ (by kernel_rfl) ?_
  refine Wp.seq' (by kernel_rfl) ?_
  refine Wp.region (by kernel_rfl) ?_
  refine Ops.seg' 3 3 (by kernel_rfl) ?_
  refine Ops.done (by kernel_rfl) ?_
  refine seqQ.n ?_
  refine Wp.seq' (by kernel_rfl) ?_
  refine Wp.region (by kernel_rfl) ?_
  refine Ops.seg' 4 4 (by kernel_rfl) ?_
  obtain ⟨v1, ev1, h⟩ := bnd_some h
  refine Ops.one' 5 (fun h0 e0 => (call_ok (E' := E0) (h := h0) (by kernel_rfl) (Args.v (vI a1.fLength) (eI a1.fLength) (by kernel_rfl) (Args.v (vI a0.fLength) (eI a0.fLength) (by kernel_rfl) Args.nil)) (ok26 m a1.fLength a0.fLength v1 ev1 n (by omega)))) (by kernel_rfl) (by kernel_rfl) ?_
  refine Ops.seg' 4 9 (by kernel_rfl) ?_
  obtain ⟨v2, ev2, h⟩ := bnd_some h
  refine Ops.one' 10 (fun h0 e0 => (call_ok (E' := E0) (h := h0) (by kernel_rfl) (Args.v (vI a1.fCount) (eI a1.fCount) (by kernel_rfl) (Args.v (vI a0.fCount) (eI a0.fCount) (by kernel_rfl) Args.nil)) (ok26 m a1.fCount a0.fCount v2 ev2 n (by omega)))) (by kernel_rfl) (by kernel_rfl) ?_
  refine Ops.seg' 4 14 (by kernel_rfl) ?_
  obtain ⟨v3, ev3, h⟩ := bnd_some h
  refine Ops.one' 15 (fun h0 e0 => (call_ok (E' := E0) (h := h0) (by kernel_rfl) (Args.v (.str a0.fTag) (eS a0.fTag) (by kernel_rfl) (Args.v (.str a1.fTag) (eS a1.fTag) (by kernel_rfl) Args.nil)) (ok27 m a0.fTag a1.fTag v3 ev3 n (by omega)))) (by kernel_rfl) (by kernel_rfl) ?_
  refine Ops.seg' 1 16 (by kernel_rfl) ?_
  obtain ⟨v4, ev4, h⟩ := bnd_some h
  refine Ops.one' 17 (fun h0 e0 => (call_ok (E' := E0) (h := h0) (by kernel_rfl) (Args.v (.sl .nonfull (List.map eI ([v1, v2, v3]))) ((eL eI) ([v1, v2, v3])) (by kernel_rfl) Args.nil) (ok25 m ([v1, v2, v3]) v4 ev4 n (by omega)))) (by kernel_rfl) (by kernel_rfl) ?_
  refine Ops.seg' 1 18 (by kernel_rfl) ?_
  refine Ops.done (by kernel_rfl) ?_
  refine seqQ.n ?_
  refine Wp.ret (by kernel_rfl) ?_
  exact fnQ.r' (X24 n) (fun z => (eI z)) h (RetOk.mk' (dI v4) (by kernel_rfl) (by kernel_rfl))

/-! ### 17 glosswright/guess.fault -/
def f17 (m : Nat) (a0 : Int) (a1 : Int) : Option S27 :=
  some ((⟨a0, a1⟩ : S27))
noncomputable abbrev X17 (n : Nat) : Cx := cxOf Proofs.Tryd.prog E 17 n
noncomputable def C17 : Code := bodyOf Proofs.Tryd.prog 17
theorem ok17 (m : Nat) (a0 : Int) (a1 : Int) (o : S27) (h : f17 m a0 a1 = some o) (n : Nat) (hn : m + 1 ≤ n) : Fn Proofs.Tryd.prog E n 17 [.v (eI a0), .v (eI a1)] (e27 o) := by
  obtain ⟨n, rfl⟩ : ∃ q, n = q + 1 := ⟨n - 1, by omega⟩
  unfold f17 at h
  refine Fn.of (by kernel_rfl) (by kernel_rfl) (by kernel_rfl) ⟨(dI a0) :: (dI a1) :: u6 [], []⟩ (by kernel_rfl) ?_
  refine Wp.seq' (by kernel_rfl) ?_
  refine Wp.region (by kernel_rfl) ?_
  refine Ops.seg' 1 1 (by kernel_rfl) ?_
  refine Ops.done (by kernel_rfl) ?_
  refine seqQ.n ?_
  refine Wp.seq' (by kernel_rfl) ?_
  refine Wp.region (by kernel_rfl) ?_
  refine Ops.seg' 4 4 (by kernel_rfl) ?_
  refine Ops.done (by kernel_rfl) ?_
  refine seqQ.n ?_
  refine Wp.ret (by kernel_rfl) ?_
  exact fnQ.r' (X17 n) (fun z => (e27 z)) h (RetOk.mk' (.v (.agg [(vI a0), (vI a1)])) (by kernel_rfl) (by kernel_rfl))

/-! ### 34 glosswright/letters.fault -/
def f34 (m : Nat) (a0 : Int) (a1 : Int) : Option S27 :=
  some ((⟨a0, a1⟩ : S27))
noncomputable abbrev X34 (n : Nat) : Cx := cxOf Proofs.Tryd.prog E 34 n
noncomputable def C34 : Code := bodyOf Proofs.Tryd.prog 34
theorem ok34 (m : Nat) (a0 : Int) (a1 : Int) (o : S27) (h : f34 m a0 a1 = some o) (n : Nat) (hn : m + 1 ≤ n) : Fn Proofs.Tryd.prog E n 34 [.v (eI a0), .v (eI a1)] (e27 o) := by
  obtain ⟨n, rfl⟩ : ∃ q, n = q + 1 := ⟨n - 1, by omega⟩
  unfold f34 at h
  refine Fn.of (by kernel_rfl) (by kernel_rfl) (by kernel_rfl) ⟨(dI a0) :: (dI a1) :: u6 [], []⟩ (by kernel_rfl) ?_
  refine Wp.seq' (by kernel_rfl) ?_
  refine Wp.region (by kernel_rfl) ?_
  refine Ops.seg' 1 1 (by kernel_rfl) ?_
  refine Ops.done (by kernel_rfl) ?_
  refine seqQ.n ?_
  refine Wp.seq' (by kernel_rfl) ?_
  refine Wp.region (by kernel_rfl) ?_
  refine Ops.seg' 4 4 (by kernel_rfl) ?_
  refine Ops.done (by kernel_rfl) ?_
  refine seqQ.n ?_
  refine Wp.ret (by kernel_rfl) ?_
  exact fnQ.r' (X34 n) (fun z => (e27 z)) h (RetOk.mk' (.v (.agg [(vI a0), (vI a1)])) (by kernel_rfl) (by kernel_rfl))

/-! ### 35 unicode/utf8.DecodeRuneInString -/
def f35 (m : Nat) (a0 : ByteArray) : Option (Int × Int) := some (((Lib.decodeGo a0).1 : Int), ((Lib.decodeGo a0).2 : Int))
theorem ok35 (m : Nat) (a0 : ByteArray) (o : (Int × Int)) (h : f35 m a0 = some o) (n : Nat) (hn : m + 1 ≤ n) : Fn Proofs.Tryd.prog E n 35 [.v (eS a0)] (.tuple [(eK .i32) o.1, eI o.2]) := by
  obtain ⟨n, rfl⟩ : ∃ q, n = q + 1 := ⟨n - 1, by omega⟩
  refine ora_fn (xs := [eS a0]) (by kernel_rfl) (by kernel_rfl) (by kernel_rfl) (F := decodeF) ?_ rfl
  cases h
  rfl

/-! ### 21 glosswright/letters.Decode -/
def f21_r1 (m : Nat) (v26 : (List Int)) (v27 : Int) (v38 : (Int × Int)) (v44 : Bool) : Option (Stp (((List Int) × S27)) ((List Int) × Int)) :=
  cnd v44
  (bnd (f34 m 5 v27) fun v46 =>
  some (.ret (([], v46))))
  (bnd (app 8 v26 ([w64 v38.1])) fun v47 =>
  some (.nxt (v47, w64 (v27 + v38.2))))
def f21_B2 (m : Nat) (a0 : ByteArray) (v26 : (List Int)) (v27 : Int) : Option (Stp (((List Int) × S27)) ((List Int) × Int)) :=
  cnd (decide (v27 < (a0.size : Int)))
  (bnd (ssub a0 v27 (a0.size : Int)) fun v37 =>
  bnd (f35 m v37) fun v38 =>
  f21_r1 m v26 v27 v38 (((v38.1 == 65533) && (decide (v38.2 ≤ 1)))))
  (some (.brk (v26, v27)))
def f21 (m : Nat) (a0 : ByteArray) : Option ((List Int) × S27) :=
  cnd (decide ((a0.size : Int) > 4000))
  (bnd (f34 m 1 ((-1))) fun v1 =>
  some (([], v1)))
  (brk (iter (fun (y : (List Int) × Int) => f21_B2 m a0 y.1 y.2) m ([], 0)) some fun y49 =>
  some ((y49.1, (⟨0, 0⟩ : S27))))
noncomputable abbrev X21 (n : Nat) : Cx := cxOf Proofs.Tryd.prog E 21 n
noncomputable def C21 : Code := bodyOf Proofs.Tryd.prog 21
theorem ok21 (m : Nat) (a0 : ByteArray) (o : ((List Int) × S27)) (h : f21 m a0 = some o) (n : Nat) (hn : m + 2 ≤ n) : Fn Proofs.Tryd.prog E n 21 [.v (eS a0)] (.tuple [(eL eI) o.1, e27 o.2]) := by
  obtain ⟨n, rfl⟩ : ∃ q, n = q + 1 := ⟨n - 1, by omega⟩
  unfold f21 at h
  refine Fn.of (by kernel_rfl) (by kernel_rfl) (by kernel_rfl) ⟨(.v (.str a0)) :: u40 [], []⟩ (by kernel_rfl) ?_
  refine Wp.seq' (by kernel_rfl) ?_
  refine Wp.region (by kernel_rfl) ?_
  refine Ops.seg' 2 2 (by kernel_rfl) ?_
  refine Ops.done (by kernel_rfl) ?_
  refine seqQ.n ?_
  refine Wp.seq' (by kernel_rfl) ?_
  refine Wp.seq' (by kernel_rfl) ?_
  refine Wp.region (by kernel_rfl) ?_
  refine Ops.seg' 3 3 (by kernel_rfl) ?_
  refine Ops.done (by kernel_rfl) ?_
  refine seqQ.n ?_
  refine Wp.cnd h [0, 2, 3] 1 (by kernel_rfl) (fun h => ?_) (fun h => ?_)
  · refine Wp.seq' (by kernel_rfl) ?_
    refine Wp.region (by kernel_rfl) ?_
    obtain ⟨v1, ev1, h⟩ := bnd_some h
    refine Ops.one' 1 (fun h0 e0 => (call_ok (E' := E) (h := h0) (by kernel_rfl) (Args.v (vI 1) (eI 1) (by kernel_rfl) (Args.v (vI ((-1))) (eI ((-1))) (by kernel_rfl) Args.nil)) (ok34 m 1 ((-1)) v1 ev1 n (by omega)))) (by kernel_rfl) (by kernel_rfl) ?_
    refine Ops.seg' 2 3 (by kernel_rfl) ?_
    refine Ops.done (by kernel_rfl) ?_
    refine seqQ.n ?_
    refine Wp.ret (by kernel_rfl) ?_
    refine sqQ.r ?_
    refine seqQ.r ?_
    exact fnQ.r' (X21 n) (fun z => (.tuple [(eL eI) z.1, e27 z.2])) h (RetOk.mk' (.v (.tuple [(.sl .nil (List.map eI [])), (.agg [(vI v1.fCode), (vI v1.fIndex)])])) (by kernel_rfl) (by kernel_rfl))
  · refine Wp.skip (by kernel_rfl) ?_
    refine sqQ.n' ?_
    refine seqQ.n ?_
    refine Wp.seq' (by kernel_rfl) ?_
    refine Wp.region (by kernel_rfl) ?_
    refine Ops.seg' 1 1 (by kernel_rfl) ?_
    refine Ops.done (by kernel_rfl) ?_
    refine seqQ.n ?_
    refine Wp.seq' (by kernel_rfl) ?_
    refine Wp.seq' (by kernel_rfl) ?_
    refine Wp.region (by kernel_rfl) ?_
    refine Ops.seg' 1 1 (by kernel_rfl) ?_
    refine Ops.done (by kernel_rfl) ?_
    refine seqQ.n ?_
    refine Wp.block' 0 [2, 3, 4] 2 (by kernel_rfl) ?_
    have hLx48 : ∀ (kx29 : Nat) (v26 : (List Int)) (v27 : Int)  (ox28 : ((List Int) × S27) ⊕ ((List Int) × Int)), iter (fun (y : (List Int) × Int) => f21_B2 m a0 y.1 y.2) kx29 (v26, v27) = some ox28 → ∀ nx30, kx29 ≤ nx30 → (∀ r, ox28 = .inl r → ∀ σ, RetOk (X21 n) (resOf Proofs.Tryd.prog 21) (.tuple [(eL eI) r.1, e27 r.2]) σ → (seqQ (X21 n) (cR (cR (cR (cR C21)))) (fnQ (X21 n).E.T (resOf Proofs.Tryd.prog 21) (.tuple [(eL eI) o.1, e27 o.2]))) .ret σ) → (∀ (y : (List Int) × Int) , ox28 = .inr y → (seqQ (X21 n) (cR (cR (cR (cR C21)))) (fnQ (X21 n).E.T (resOf Proofs.Tryd.prog 21) (.tuple [(eL eI) o.1, e27 o.2]))) .normal ⟨q2 ((.v (.sl .nil (List.map eI []))) :: (.ptr 0 0) :: (appD 2 (List.map eI y.1)) :: q36 []), [(.cells [(dI 0), (dI 0)]), .dead, (appO 1 (List.map eI y.1))]⟩) → Lp (X21 n) [0, 2, 3, 4, 5] 2 (cL (cL (cR (cL (cR (cR (cR C21))))))) nx30 ⟨(.v (.str a0)) :: q1 ((.v (.sl .nil (List.map eI []))) :: (.ptr 0 0) :: (appD 2 (List.map eI v26)) :: (dI v27) :: q35 []), [(.cells [(dI 0), (dI 0)]), .dead, (appO 1 (List.map eI v26))]⟩ (blkQ (X21 n) 0 [2, 3, 4] 2 (seqQ (X21 n) (cR (cR (cR (cR C21)))) (fnQ (X21 n).E.T (resOf Proofs.Tryd.prog 21) (.tuple [(eL eI) o.1, e27 o.2])))) := by
      intro kx29
      induction kx29 with
      | zero => intro v26 v27  ox28 h; exact (iter_zero h).elim
      | succ kx29 ihx31 =>
        intro v26 v27  ox28 h nx30 hnx34 hrx32 hxx33
        obtain ⟨nx30, rfl⟩ : ∃ q, nx30 = q + 1 := ⟨nx30 - 1, by omega⟩
        obtain ⟨sx35, h, hsx36⟩ := iter_some h
        have h : f21_B2 m a0 v26 v27 = some sx35 := h
        unfold f21_B2 at h
        refine Lp.succ ?_
        refine Wp.seq' (by kernel_rfl) ?_
        refine Wp.seq' (by kernel_rfl) ?_
        refine Wp.region (by kernel_rfl) ?_
        refine Ops.seg' 4 4 (by kernel_rfl) ?_
        refine Ops.done (by kernel_rfl) ?_
        refine seqQ.n ?_
        refine Wp.cnd h [0, 2, 3, 4, 5] 3 (by kernel_rfl) (fun h => ?_) (fun h => ?_)
        · refine Wp.skip (by kernel_rfl) ?_
          refine sqQ.n ⟨(.v (.str a0)) :: q1 ((.v (.sl .nil (List.map eI []))) :: (.ptr 0 0) :: (appD 3 (List.map eI v26)) :: (dI v27) :: q35 []), [(.cells [(dI 0), (dI 0)]), .dead, .dead, (appO 1 (List.map eI v26))]⟩ (by generalize v26 = z0; cases z0 <;> kernel_rfl) ?_
          refine seqQ.n ?_
          refine Wp.block' 1 [0, 2, 3, 4, 5] 4 (by kernel_rfl) ?_
          refine Wp.seq' (by kernel_rfl) ?_
          refine Wp.region (by kernel_rfl) ?_
          refine Ops.seg' 2 2 (by kernel_rfl) ?_
          obtain ⟨v37, ev37, h⟩ := bnd_some h
          refine Ops.one' 3 (fun h0 e0 => (str_sub (T := T) h0 9 a0 v37 (some v27) none ev37 (by kernel_rfl))) (by kernel_rfl) (by kernel_rfl) ?_
          obtain ⟨v38, ev38, h⟩ := bnd_some h
          refine Ops.one' 4 (fun h0 e0 => (call_ok (E' := E) (h := h0) (by kernel_rfl) (Args.v (.str v37) (eS v37) (by kernel_rfl) Args.nil) (ok35 m v37 v38 ev38 n (by omega)))) (by kernel_rfl) (by kernel_rfl) ?_
          refine Ops.seg' 5 9 (by kernel_rfl) ?_
          refine Ops.done (by kernel_rfl) ?_
          refine seqQ.n ?_
          refine Wp.seq' (by kernel_rfl) ?_
          refine Wp.seq' (by kernel_rfl) ?_
          refine Wp.region (by kernel_rfl) ?_
          refine Ops.seg' 3 3 (by kernel_rfl) ?_
          have J21j45 : ∀ (d41 d42 : D) (v43 : Bool) (v44 : Bool), f21_r1 m v26 v27 v38 v44 = some sx35 → Ops (X21 n) (opl (cL (cL (cR (cL (cR (cL (cL (cR (cL (cR (cR (cR C21))))))))))))) 6 ⟨(.v (.str a0)) :: q1 ((.v (.sl .nil (List.map eI []))) :: (.ptr 0 0) :: (appD 3 (List.map eI v26)) :: (dI v27) :: (.v (.int .i32 v38.1)) :: (dI v38.2) :: q8 ((.v (.tuple [(.int .i32 v38.1), (vI v38.2)])) :: (.v (.str a0)) :: (dI v27) :: (.v (.str v37)) :: (.v (.tuple [(.int .i32 v38.1), (vI v38.2)])) :: (.v (.int .i32 v38.1)) :: (dI v38.2) :: (.v (.int .i32 v38.1)) :: (dB v43) :: (dB v43) :: d41 :: d42 :: (dB v44) :: q12 [])), [(.cells [(dI 0), (dI 0)]), .dead, .dead, (appO 1 (List.map eI v26))]⟩ ((seqQ (X21 n) (cR (cL (cR (cL (cR (cL (cL (cR (cL (cR (cR (cR C21)))))))))))) (seqQ (X21 n) (cR (cR (cL (cR (cL (cL (cR (cL (cR (cR (cR C21))))))))))) (blkQ (X21 n) 1 [0, 2, 3, 4, 5] 4 (lpQ (X21 n) [0, 2, 3, 4, 5] 2 (cL (cL (cR (cL (cR (cR (cR C21))))))) nx30 (blkQ (X21 n) 0 [2, 3, 4] 2 (seqQ (X21 n) (cR (cR (cR (cR C21)))) (fnQ (X21 n).E.T (resOf Proofs.Tryd.prog 21) (.tuple [(eL eI) o.1, e27 o.2])))))))) .normal) := by
            intro d41 d42 v43 v44 h
            unfold f21_r1 at h
            refine Ops.done (by kernel_rfl) ?_
            refine seqQ.n ?_
            refine Wp.cnd h [0, 2, 3, 4, 5, 6, 7] 4 (by kernel_rfl) (fun h => ?_) (fun h => ?_)
            · refine Wp.seq' (by kernel_rfl) ?_
              refine Wp.region (by kernel_rfl) ?_
              refine Ops.seg' 1 1 (by kernel_rfl) ?_
              obtain ⟨v46, ev46, h⟩ := bnd_some h
              refine Ops.one' 2 (fun h0 e0 => (call_ok (E' := E) (h := h0) (by kernel_rfl) (Args.v (vI 5) (eI 5) (by kernel_rfl) (Args.v (vI v27) (eI v27) (by kernel_rfl) Args.nil)) (ok34 m 5 v27 v46 ev46 n (by omega)))) (by kernel_rfl) (by kernel_rfl) ?_
              refine Ops.seg' 2 4 (by kernel_rfl) ?_
              refine Ops.done (by kernel_rfl) ?_
              refine seqQ.n ?_
              refine Wp.ret (by kernel_rfl) ?_
              refine sqQ.r ?_
              refine seqQ.r ?_
              refine blkQ.r ?_
              cases h
              refine lpQ.r ?_
              refine blkQ.r ?_
              exact hrx32 _ hsx36 _ (RetOk.forget [0, 2, 3, 4, 5] (by kernel_rfl) (RetOk.mk' (.v (.tuple [(.sl .nil (List.map eI [])), (.agg [(vI v46.fCode), (vI v46.fIndex)])])) (by kernel_rfl) (by kernel_rfl)))
            · refine Wp.skip (by kernel_rfl) ?_
              refine sqQ.n ⟨(.v (.str a0)) :: q1 ((.v (.sl .nil (List.map eI []))) :: (.ptr 0 0) :: (appD 4 (List.map eI v26)) :: (dI v27) :: (.v (.int .i32 v38.1)) :: (dI v38.2) :: q33 []), [(.cells [(dI 0), (dI 0)]), .dead, .dead, .dead, (appO 1 (List.map eI v26))]⟩ (by generalize v26 = z0; cases z0 <;> kernel_rfl) ?_
              refine seqQ.n ?_
              refine Wp.seq' (by kernel_rfl) ?_
              refine Wp.region (by kernel_rfl) ?_
              refine Ops.seg' 4 4 (by kernel_rfl) ?_
              obtain ⟨v47, ev47, h⟩ := bnd_some h
              refine Ops.one' 5 (fun h0 e0 => (app_r (T := T) (g := .nil) h0 41 3 4 1 ti3 .nonfull eI v26 ([w64 v38.1]) v47 ev47 (by kernel_rfl) (by kernel_rfl) (by kernel_rfl) (by kernel_rfl) (fun _ => rfl) (hq_of e0 (by kernel_rfl)))) (by kernel_rfl) (by kernel_rfl) ?_
              refine Ops.seg' 1 6 (by kernel_rfl) ?_
              refine Ops.done (by kernel_rfl) ?_
              refine seqQ.n ?_
              refine Wp.region (by kernel_rfl) ?_
              refine Ops.seg' 4 4 (by kernel_rfl) ?_
              refine Ops.done (by kernel_rfl) ?_
              refine blkQ.n ⟨(.v (.str a0)) :: q1 ((.v (.sl .nil (List.map eI []))) :: (.ptr 0 0) :: (appD 4 (List.map eI v47)) :: (dI (w64 (v27 + v38.2))) :: q35 []), [(.cells [(dI 0), (dI 0)]), .dead, .dead, .dead, (appO 1 (List.map eI v47))]⟩ (by generalize v47 = z0; cases z0 <;> kernel_rfl) ?_
              refine lpQ.n ⟨(.v (.str a0)) :: q1 ((.v (.sl .nil (List.map eI []))) :: (.ptr 0 0) :: (appD 2 (List.map eI v47)) :: (dI (w64 (v27 + v38.2))) :: q35 []), [(.cells [(dI 0), (dI 0)]), .dead, (appO 1 (List.map eI v47))]⟩ (by generalize v47 = z0; cases z0 <;> kernel_rfl) ?_
              cases h
              exact ihx31 v47 (w64 (v27 + v38.2))  _ hsx36 _ (by omega) hrx32 hxx33
          have G21g40 : ∀ v39 : Bool, f21_r1 m v26 v27 v38 ((v39 && (decide (v38.2 ≤ 1)))) = some sx35 → Ops (X21 n) (opl (cL (cL (cR (cL (cR (cL (cL (cR (cL (cR (cR (cR C21))))))))))))) 3 ⟨(.v (.str a0)) :: q1 ((.v (.sl .nil (List.map eI []))) :: (.ptr 0 0) :: (appD 3 (List.map eI v26)) :: (dI v27) :: (.v (.int .i32 v38.1)) :: (dI v38.2) :: q8 ((.v (.tuple [(.int .i32 v38.1), (vI v38.2)])) :: (.v (.str a0)) :: (dI v27) :: (.v (.str v37)) :: (.v (.tuple [(.int .i32 v38.1), (vI v38.2)])) :: (.v (.int .i32 v38.1)) :: (dI v38.2) :: (.v (.int .i32 v38.1)) :: (dB v39) :: (dB v39) :: q15 [])), [(.cells [(dI 0), (dI 0)]), .dead, .dead, (appO 1 (List.map eI v26))]⟩ ((seqQ (X21 n) (cR (cL (cR (cL (cR (cL (cL (cR (cL (cR (cR (cR C21)))))))))))) (seqQ (X21 n) (cR (cR (cL (cR (cL (cL (cR (cL (cR (cR (cR C21))))))))))) (blkQ (X21 n) 1 [0, 2, 3, 4, 5] 4 (lpQ (X21 n) [0, 2, 3, 4, 5] 2 (cL (cL (cR (cL (cR (cR (cR C21))))))) nx30 (blkQ (X21 n) 0 [2, 3, 4] 2 (seqQ (X21 n) (cR (cR (cR (cR C21)))) (fnQ (X21 n).E.T (resOf Proofs.Tryd.prog 21) (.tuple [(eL eI) o.1, e27 o.2])))))))) .normal) := by
            intro v39 h
            cases v39
            · refine Ops.seg' 3 6 (by kernel_rfl) ?_
              refine Ops.st ⟨(.v (.str a0)) :: q1 ((.v (.sl .nil (List.map eI []))) :: (.ptr 0 0) :: (appD 3 (List.map eI v26)) :: (dI v27) :: (.v (.int .i32 v38.1)) :: (dI v38.2) :: q8 ((.v (.tuple [(.int .i32 v38.1), (vI v38.2)])) :: (.v (.str a0)) :: (dI v27) :: (.v (.str v37)) :: (.v (.tuple [(.int .i32 v38.1), (vI v38.2)])) :: (.v (.int .i32 v38.1)) :: (dI v38.2) :: (.v (.int .i32 v38.1)) :: (dB false) :: (dB false) :: u2 ((dB false) :: q12 []))), [(.cells [(dI 0), (dI 0)]), .dead, .dead, (appO 1 (List.map eI v26))]⟩ (by kernel_rfl) ?_
              exact J21j45 _ _ _ _ h
            · refine Ops.seg' 3 6 (by kernel_rfl) ?_
              refine Ops.st ⟨(.v (.str a0)) :: q1 ((.v (.sl .nil (List.map eI []))) :: (.ptr 0 0) :: (appD 3 (List.map eI v26)) :: (dI v27) :: (.v (.int .i32 v38.1)) :: (dI v38.2) :: q8 ((.v (.tuple [(.int .i32 v38.1), (vI v38.2)])) :: (.v (.str a0)) :: (dI v27) :: (.v (.str v37)) :: (.v (.tuple [(.int .i32 v38.1), (vI v38.2)])) :: (.v (.int .i32 v38.1)) :: (dI v38.2) :: (.v (.int .i32 v38.1)) :: (dB true) :: (dB true) :: (dI v38.2) :: (dB (decide (v38.2 ≤ 1))) :: (dB (decide (v38.2 ≤ 1))) :: q12 [])), [(.cells [(dI 0), (dI 0)]), .dead, .dead, (appO 1 (List.map eI v26))]⟩ (by kernel_rfl) ?_
              exact J21j45 _ _ _ _ h
          exact Ops.st ⟨(.v (.str a0)) :: q1 ((.v (.sl .nil (List.map eI []))) :: (.ptr 0 0) :: (appD 3 (List.map eI v26)) :: (dI v27) :: (.v (.int .i32 v38.1)) :: (dI v38.2) :: q8 ((.v (.tuple [(.int .i32 v38.1), (vI v38.2)])) :: (.v (.str a0)) :: (dI v27) :: (.v (.str v37)) :: (.v (.tuple [(.int .i32 v38.1), (vI v38.2)])) :: (.v (.int .i32 v38.1)) :: (dI v38.2) :: (.v (.int .i32 v38.1)) :: (dB ((v38.1 == 65533))) :: (dB ((v38.1 == 65533))) :: q15 [])), [(.cells [(dI 0), (dI 0)]), .dead, .dead, (appO 1 (List.map eI v26))]⟩ (by kernel_rfl) (G21g40 (v38.1 == 65533) h)
        · refine Wp.exit (id := 0) (by kernel_rfl) ?_
          refine sqQ.x ?_
          refine seqQ.x ?_
          cases h
          refine lpQ.x ?_
          refine blkQ.x ⟨q2 ((.v (.sl .nil (List.map eI []))) :: (.ptr 0 0) :: (appD 2 (List.map eI v26)) :: q36 []), [(.cells [(dI 0), (dI 0)]), .dead, (appO 1 (List.map eI v26))]⟩ (by generalize v26 = z0; cases z0 <;> kernel_rfl) ?_
          exact hxx33 (v26, v27)  hsx36
    refine Wp.loop' [0, 2, 3, 4, 5] 2 (by kernel_rfl) ⟨(.v (.str a0)) :: q1 ((.v (.sl .nil (List.map eI []))) :: (.ptr 0 0) :: (appD 2 (List.map eI [])) :: (dI 0) :: q35 []), [(.cells [(dI 0), (dI 0)]), .dead, .dead]⟩ (by kernel_rfl) ?_
    rcases brk_some h with ⟨r50, er50, h⟩ | ⟨y49, ey49, h⟩
    · refine hLx48 _ [] 0  _ er50 n (by omega) (fun r er σ hσ => ?_) (fun y  ey => by cases ey)
      cases er
      refine seqQ.r ?_
      exact fnQ.r' (X21 n) (fun z => (.tuple [(eL eI) z.1, e27 z.2])) h hσ
    · refine hLx48 _ [] 0  _ ey49 n (by omega) (fun r er => by cases er) (fun y  ey => ?_)
      cases ey
      refine seqQ.n ?_
      refine Wp.seq' (by kernel_rfl) ?_
      refine Wp.region (by kernel_rfl) ?_
      refine Ops.seg' 4 4 (by kernel_rfl) ?_
      refine Ops.done (by kernel_rfl) ?_
      refine seqQ.n ?_
      refine Wp.ret (by kernel_rfl) ?_
      exact fnQ.r' (X21 n) (fun z => (.tuple [(eL eI) z.1, e27 z.2])) h (RetOk.tup [(appD 2 (List.map eI y49.1)), (.v (.agg [(vI 0), (vI 0)]))] (by kernel_rfl) (.d (appD 2 (List.map eI y49.1)) _ (appD_frz _ _ _ _) (appF_nt _ _ _) (.v (.agg [(vI 0), (vI 0)]) _ (by kernel_rfl) (by kernel_rfl) .nil)))

/-! ### 33 strings.IndexByte -/
def f33 (m : Nat) (a0 : ByteArray) (a1 : Int) : Option Int := some (Lib.indexByte a0.data.toList a1.toNat.toUInt8)
theorem ok33 (m : Nat) (a0 : ByteArray) (a1 : Int) (o : Int) (h : f33 m a0 a1 = some o) (n : Nat) (hn : m + 1 ≤ n) : Fn Proofs.Tryd.prog E n 33 [.v (eS a0), .v ((eK .u8) a1)] (eI o) := by
  obtain ⟨n, rfl⟩ : ∃ q, n = q + 1 := ⟨n - 1, by omega⟩
  refine ora_fn (xs := [eS a0, (eK .u8) a1]) (by kernel_rfl) (by kernel_rfl) (by kernel_rfl) (F := ixbyteF) ?_ rfl
  cases h
  rfl

/-! ### 18 glosswright/lexicon.Word -/
def f18_r1 (m : Nat) (v67 : Int) (v96 : Bool) : Option (Stp Bool (Int)) :=
  cnd v96
  (some (.ret false))
  (some (.nxt (w64 (v67 + 1))))
def f18_r2 (m : Nat) (v67 : Int) (v77 : Int) (v83 : Bool) : Option (Stp Bool (Int)) :=
  bnd (cnd v83
  (some true)
  (cnd (decide (v77 < 128))
  (bnd (f33 m ((⟨#[32, 9, 10, 40, 41, 91, 93, 44, 59]⟩ : ByteArray)) (IntKind.u8.wrap v77)) fun v100 =>
  some (decide (v100 ≥ 0)))
  (some false))) fun v96 =>
  f18_r1 m v67 v96
def f18_B3 (m : Nat) (v1 : ((List Int) × S27)) (v67 : Int) : Option (Stp Bool (Int)) :=
  cnd (decide (v67 < (v1.1.length : Int)))
  (bnd (idx v1.1 v67) fun v77 =>
  f18_r2 m v67 v77 (((v77 == 0) || (decide (v77 ≥ 983040)))))
  (some (.brk v67))
def f18_r4 (m : Nat) (v1 : ((List Int) × S27)) (v16 : Bool) : Option Bool :=
  cnd v16
  (some false)
  (brk (iter (fun (y : Int) => f18_B3 m v1 y) m 0) some fun y102 =>
  some true)
def f18_r5 (m : Nat) (v1 : ((List Int) × S27)) (v8 : Bool) : Option Bool :=
  f18_r4 m v1 ((v8 || (decide ((v1.1.length : Int) > 30))))
def f18 (m : Nat) (a0 : ByteArray) : Option Bool :=
  bnd (f21 m a0) fun v1 =>
  f18_r5 m v1 (((!((v1.2.fCode == 0) && ((v1.2.fIndex == 0) && true))) || (decide ((v1.1.length : Int) < 1))))
noncomputable abbrev X18 (n : Nat) : Cx := cxOf Proofs.Tryd.prog E 18 n
noncomputable def C18 : Code := bodyOf Proofs.Tryd.prog 18
theorem ok18 (m : Nat) (a0 : ByteArray) (o : Bool) (h : f18 m a0 = some o) (n : Nat) (hn : m + 3 ≤ n) : Fn Proofs.Tryd.prog E n 18 [.v (eS a0)] (eB o) := by
  obtain ⟨n, rfl⟩ : ∃ q, n = q + 1 := ⟨n - 1, by omega⟩
  unfold f18 at h
  refine Fn.of (by kernel_rfl) (by kernel_rfl) (by kernel_rfl) ⟨(.v (.str a0)) :: u40 (u7 []), []⟩ (by kernel_rfl) ?_
  refine Wp.seq' (by kernel_rfl) ?_
  refine Wp.region (by kernel_rfl) ?_
  refine Ops.seg' 1 1 (by kernel_rfl) ?_
  refine Ops.done (by kernel_rfl) ?_
  refine seqQ.n ?_
  refine Wp.seq' (by kernel_rfl) ?_
  refine Wp.region (by kernel_rfl) ?_
  refine Ops.seg' 1 1 (by kernel_rfl) ?_
  obtain ⟨v1, ev1, h⟩ := bnd_some h
  refine Ops.one' 2 (fun h0 e0 => (call_ok (E' := E) (h := h0) (by kernel_rfl) (Args.v (.str a0) (eS a0) (by kernel_rfl) Args.nil) (ok21 m a0 v1 ev1 n (by omega)))) (by kernel_rfl) (by kernel_rfl) ?_
  refine Ops.seg' 6 8 (by kernel_rfl) ?_
  refine Ops.done (by kernel_rfl) ?_
  refine seqQ.n ?_
  refine Wp.seq' (by kernel_rfl) ?_
  refine Wp.seq' (by kernel_rfl) ?_
  refine Wp.region (by kernel_rfl) ?_
  refine Ops.seg' 4 4 (by kernel_rfl) ?_
  have J18j9 : ∀ (d4 d5 d6 : D) (v7 : Bool) (v8 : Bool), f18_r5 m v1 v8 = some o → Ops (X18 n) (opl (cL (cL (cR (cR C18))))) 8 ⟨(.v (.str a0)) :: u1 ((dB false) :: (dP eI v1.1) :: (.ptr 0 0) :: u2 ((.v (.tuple [(vP eI v1.1), (.agg [(vI v1.2.fCode), (vI v1.2.fIndex)])])) :: (.v (.str a0)) :: (.v (.tuple [(vP eI v1.1), (.agg [(vI v1.2.fCode), (vI v1.2.fIndex)])])) :: (dP eI v1.1) :: (.v (.agg [(vI v1.2.fCode), (vI v1.2.fIndex)])) :: (.v (.agg [(vI v1.2.fCode), (vI v1.2.fIndex)])) :: (.v (.agg [(vI 0), (vI 0)])) :: (dB v7) :: (dB v7) :: d4 :: d5 :: d6 :: (dB v8) :: u28 [])), [(.cells [(dI v1.2.fCode), (dI v1.2.fIndex)])]⟩ ((seqQ (X18 n) (cR (cL (cR (cR C18)))) (seqQ (X18 n) (cR (cR (cR C18))) (fnQ (X18 n).E.T (resOf Proofs.Tryd.prog 18) (eB o)))) .normal) := by
    intro d4 d5 d6 v7 v8 h
    unfold f18_r5 at h
    refine Ops.seg' 1 9 (by kernel_rfl) ?_
    have J18j17 : ∀ (d12 d13 d14 : D) (v15 : Bool) (v16 : Bool), f18_r4 m v1 v16 = some o → Ops (X18 n) (opl (cL (cL (cR (cR C18))))) 13 ⟨(.v (.str a0)) :: u1 ((dB false) :: (dP eI v1.1) :: (.ptr 0 0) :: u2 ((.v (.tuple [(vP eI v1.1), (.agg [(vI v1.2.fCode), (vI v1.2.fIndex)])])) :: (.v (.str a0)) :: (.v (.tuple [(vP eI v1.1), (.agg [(vI v1.2.fCode), (vI v1.2.fIndex)])])) :: (dP eI v1.1) :: (.v (.agg [(vI v1.2.fCode), (vI v1.2.fIndex)])) :: (.v (.agg [(vI v1.2.fCode), (vI v1.2.fIndex)])) :: (.v (.agg [(vI 0), (vI 0)])) :: (dB v7) :: (dB v7) :: d4 :: d5 :: d6 :: (dB v15) :: (dB v15) :: d12 :: d13 :: d14 :: (dB v16) :: u23 [])), [(.cells [(dI v1.2.fCode), (dI v1.2.fIndex)])]⟩ ((seqQ (X18 n) (cR (cL (cR (cR C18)))) (seqQ (X18 n) (cR (cR (cR C18))) (fnQ (X18 n).E.T (resOf Proofs.Tryd.prog 18) (eB o)))) .normal) := by
      intro d12 d13 d14 v15 v16 h
      unfold f18_r4 at h
      refine Ops.done (by kernel_rfl) ?_
      refine seqQ.n ?_
      refine Wp.cnd h [2, 3] 1 (by kernel_rfl) (fun h => ?_) (fun h => ?_)
      · refine Wp.seq' (by kernel_rfl) ?_
        refine Wp.region (by kernel_rfl) ?_
        refine Ops.seg' 1 1 (by kernel_rfl) ?_
        refine Ops.done (by kernel_rfl) ?_
        refine seqQ.n ?_
        refine Wp.ret (by kernel_rfl) ?_
        refine sqQ.r ?_
        refine seqQ.r ?_
        exact fnQ.r' (X18 n) (fun z => (eB z)) h (RetOk.mk' (dB false) (by kernel_rfl) (by kernel_rfl))
      · refine Wp.skip (by kernel_rfl) ?_
        refine sqQ.n' ?_
        refine seqQ.n ?_
        refine Wp.seq' (by kernel_rfl) ?_
        refine Wp.seq' (by kernel_rfl) ?_
        refine Wp.region (by kernel_rfl) ?_
        refine Ops.seg' 1 1 (by kernel_rfl) ?_
        refine Ops.one' 2 (fun h0 e0 => (len_r (T := T) h0 41 3 .plain eI v1.1 (by kernel_rfl))) (by kernel_rfl) (by kernel_rfl) ?_
        refine Ops.seg' 1 3 (by kernel_rfl) ?_
        refine Ops.done (by kernel_rfl) ?_
        refine seqQ.n ?_
        refine Wp.block' 0 [2] 1 (by kernel_rfl) ?_
        have hLx101 : ∀ (kx69 : Nat) (v67 : Int)  (ox68 : Bool ⊕ (Int)), iter (fun (y : Int) => f18_B3 m v1 y) kx69 v67 = some ox68 → ∀ nx70, kx69 ≤ nx70 → (∀ r, ox68 = .inl r → ∀ σ, RetOk (X18 n) (resOf Proofs.Tryd.prog 18) (eB r) σ → (seqQ (X18 n) (cR (cR (cR (cR C18)))) (fnQ (X18 n).E.T (resOf Proofs.Tryd.prog 18) (eB o))) .ret σ) → (∀ (y : Int) , ox68 = .inr y → (seqQ (X18 n) (cR (cR (cR (cR C18)))) (fnQ (X18 n).E.T (resOf Proofs.Tryd.prog 18) (eB o))) .normal ⟨q2 ((dB false) :: q22 ((dP eI v1.1) :: (dI ((v1.1.length : Int))) :: (dI y) :: q20 [])), [(.cells [(dI v1.2.fCode), (dI v1.2.fIndex)])]⟩) → Lp (X18 n) [2, 25, 26, 27] 1 (cL (cL (cR (cL (cR (cR (cR C18))))))) nx70 ⟨q2 ((dB false) :: q22 ((dP eI v1.1) :: (dI ((v1.1.length : Int))) :: (dI v67) :: q20 [])), [(.cells [(dI v1.2.fCode), (dI v1.2.fIndex)])]⟩ (blkQ (X18 n) 0 [2] 1 (seqQ (X18 n) (cR (cR (cR (cR C18)))) (fnQ (X18 n).E.T (resOf Proofs.Tryd.prog 18) (eB o)))) := by
          intro kx69
          induction kx69 with
          | zero => intro v67  ox68 h; exact (iter_zero h).elim
          | succ kx69 ihx71 =>
            intro v67  ox68 h nx70 hnx74 hrx72 hxx73
            obtain ⟨nx70, rfl⟩ : ∃ q, nx70 = q + 1 := ⟨nx70 - 1, by omega⟩
            obtain ⟨sx75, h, hsx76⟩ := iter_some h
            have h : f18_B3 m v1 v67 = some sx75 := h
            unfold f18_B3 at h
            refine Lp.succ ?_
            refine Wp.seq' (by kernel_rfl) ?_
            refine Wp.region (by kernel_rfl) ?_
            refine Ops.seg' 1 1 (by kernel_rfl) ?_
            refine Ops.done (by kernel_rfl) ?_
            refine seqQ.n ?_
            refine Wp.seq' (by kernel_rfl) ?_
            refine Wp.cnd h [2, 25, 26, 27] 1 (by kernel_rfl) (fun h => ?_) (fun h => ?_)
            · refine Wp.skip (by kernel_rfl) ?_
              refine sqQ.n' ?_
              refine seqQ.n ?_
              refine Wp.seq' (by kernel_rfl) ?_
              refine Wp.block' 1 [2, 25, 26, 27] 1 (by kernel_rfl) ?_
              refine Wp.seq' (by kernel_rfl) ?_
              refine Wp.region (by kernel_rfl) ?_
              obtain ⟨v77, ev77, h⟩ := bnd_some h
              refine Ops.one' 1 (fun h0 e0 => (ix_r (T := T) h0 41 3 1 .plain eI v1.1 v67 v77 ev77 (by kernel_rfl) (by kernel_rfl) (fun _ => rfl))) (by kernel_rfl) (by kernel_rfl) ?_
              refine Ops.seg' 2 3 (by kernel_rfl) ?_
              refine Ops.done (by kernel_rfl) ?_
              refine seqQ.n ?_
              refine Wp.seq' (by kernel_rfl) ?_
              refine Wp.region (by kernel_rfl) ?_
              refine Ops.seg' 3 3 (by kernel_rfl) ?_
              have J18j84 : ∀ (d80 d81 : D) (v82 : Bool) (v83 : Bool), f18_r2 m v67 v77 v83 = some sx75 → Ops (X18 n) (opl (cL (cR (cL (cL (cR (cR (cL (cL (cR (cL (cR (cR (cR C18)))))))))))))) 6 ⟨q2 ((dB false) :: q3 ((dI v77) :: q18 ((dP eI v1.1) :: (dI ((v1.1.length : Int))) :: (dI v67) :: (dB (decide (v67 < (v1.1.length : Int)))) :: (.vptr [(vI v77)]) :: (dI v77) :: (dI v77) :: (dB v82) :: (dB v82) :: d80 :: d81 :: (dB v83) :: q11 []))), [(.cells [(dI v1.2.fCode), (dI v1.2.fIndex)])]⟩ ((seqQ (X18 n) (cR (cR (cL (cL (cR (cR (cL (cL (cR (cL (cR (cR (cR C18))))))))))))) (blkQ (X18 n) 1 [2, 25, 26, 27] 1 (seqQ (X18 n) (cR (cR (cR (cL (cL (cR (cL (cR (cR (cR C18)))))))))) (lpQ (X18 n) [2, 25, 26, 27] 1 (cL (cL (cR (cL (cR (cR (cR C18))))))) nx70 (blkQ (X18 n) 0 [2] 1 (seqQ (X18 n) (cR (cR (cR (cR C18)))) (fnQ (X18 n).E.T (resOf Proofs.Tryd.prog 18) (eB o)))))))) .normal) := by
                intro d80 d81 v82 v83 h
                unfold f18_r2 at h
                refine Ops.seg' 1 7 (by kernel_rfl) ?_
                have J18j97 : ∀ (d87 d88 d89 d90 d91 d92 d93 d94 : D) (v95 : Bool) (v96 : Bool), f18_r1 m v67 v96 = some sx75 → Ops (X18 n) (opl (cL (cR (cL (cL (cR (cR (cL (cL (cR (cL (cR (cR (cR C18)))))))))))))) 16 ⟨q2 ((dB false) :: q3 ((dI v77) :: q18 ((dP eI v1.1) :: (dI ((v1.1.length : Int))) :: (dI v67) :: (dB (decide (v67 < (v1.1.length : Int)))) :: (.vptr [(vI v77)]) :: (dI v77) :: (dI v77) :: (dB v82) :: (dB v82) :: d80 :: d81 :: (dB v95) :: (dB v95) :: d87 :: d88 :: d89 :: d90 :: d91 :: d92 :: d93 :: d94 :: (dB v96) :: q1 []))), [(.cells [(dI v1.2.fCode), (dI v1.2.fIndex)])]⟩ ((seqQ (X18 n) (cR (cR (cL (cL (cR (cR (cL (cL (cR (cL (cR (cR (cR C18))))))))))))) (blkQ (X18 n) 1 [2, 25, 26, 27] 1 (seqQ (X18 n) (cR (cR (cR (cL (cL (cR (cL (cR (cR (cR C18)))))))))) (lpQ (X18 n) [2, 25, 26, 27] 1 (cL (cL (cR (cL (cR (cR (cR C18))))))) nx70 (blkQ (X18 n) 0 [2] 1 (seqQ (X18 n) (cR (cR (cR (cR C18)))) (fnQ (X18 n).E.T (resOf Proofs.Tryd.prog 18) (eB o)))))))) .normal) := by
                  intro d87 d88 d89 d90 d91 d92 d93 d94 v95 v96 h
                  unfold f18_r1 at h
                  refine Ops.done (by kernel_rfl) ?_
                  refine seqQ.n ?_
                  refine Wp.cnd h [2, 25, 26, 27] 1 (by kernel_rfl) (fun h => ?_) (fun h => ?_)
                  · refine Wp.seq' (by kernel_rfl) ?_
                    refine Wp.region (by kernel_rfl) ?_
                    refine Ops.seg' 1 1 (by kernel_rfl) ?_
                    refine Ops.done (by kernel_rfl) ?_
                    refine seqQ.n ?_
                    refine Wp.ret (by kernel_rfl) ?_
                    refine sqQ.r ?_
                    refine blkQ.r ?_
                    refine seqQ.r ?_
                    cases h
                    refine lpQ.r ?_
                    refine blkQ.r ?_
                    exact hrx72 _ hsx76 _ (RetOk.forget [2, 25, 26, 27] (by kernel_rfl) (RetOk.mk' (dB false) (by kernel_rfl) (by kernel_rfl)))
                  · refine Wp.skip (by kernel_rfl) ?_
                    refine sqQ.n' ?_
                    refine blkQ.n' ?_
                    refine seqQ.n ?_
                    refine Wp.region (by kernel_rfl) ?_
                    refine Ops.seg' 2 2 (by kernel_rfl) ?_
                    refine Ops.done (by kernel_rfl) ?_
                    refine lpQ.n ⟨q2 ((dB false) :: q22 ((dP eI v1.1) :: (dI ((v1.1.length : Int))) :: (dI (w64 (v67 + 1))) :: q20 [])), [(.cells [(dI v1.2.fCode), (dI v1.2.fIndex)])]⟩ (by kernel_rfl) ?_
                    cases h
                    exact ihx71 (w64 (v67 + 1))  _ hsx76 _ (by omega) hrx72 hxx73
                obtain ⟨v96, ev96, h⟩ := bnd_some h
                have G18g86 : ∀ v85 : Bool, (cnd v85 (some true) (cnd (decide (v77 < 128)) (bnd (f33 m ((⟨#[32, 9, 10, 40, 41, 91, 93, 44, 59]⟩ : ByteArray)) (IntKind.u8.wrap v77)) fun v100 => some (decide (v100 ≥ 0))) (some false))) = some v96 → Ops (X18 n) (opl (cL (cR (cL (cL (cR (cR (cL (cL (cR (cL (cR (cR (cR C18)))))))))))))) 7 ⟨q2 ((dB false) :: q3 ((dI v77) :: q18 ((dP eI v1.1) :: (dI ((v1.1.length : Int))) :: (dI v67) :: (dB (decide (v67 < (v1.1.length : Int)))) :: (.vptr [(vI v77)]) :: (dI v77) :: (dI v77) :: (dB v82) :: (dB v82) :: d80 :: d81 :: (dB v85) :: (dB v85) :: q10 []))), [(.cells [(dI v1.2.fCode), (dI v1.2.fIndex)])]⟩ ((seqQ (X18 n) (cR (cR (cL (cL (cR (cR (cL (cL (cR (cL (cR (cR (cR C18))))))))))))) (blkQ (X18 n) 1 [2, 25, 26, 27] 1 (seqQ (X18 n) (cR (cR (cR (cL (cL (cR (cL (cR (cR (cR C18)))))))))) (lpQ (X18 n) [2, 25, 26, 27] 1 (cL (cL (cR (cL (cR (cR (cR C18))))))) nx70 (blkQ (X18 n) 0 [2] 1 (seqQ (X18 n) (cR (cR (cR (cR C18)))) (fnQ (X18 n).E.T (resOf Proofs.Tryd.prog 18) (eB o)))))))) .normal) := by
                  intro v85 ev96
                  cases v85
                  · have ev96 := cnd_f ev96
                    refine Ops.seg' 3 10 (by kernel_rfl) ?_
                    have G18g99 : ∀ v98 : Bool, (cnd v98 (bnd (f33 m ((⟨#[32, 9, 10, 40, 41, 91, 93, 44, 59]⟩ : ByteArray)) (IntKind.u8.wrap v77)) fun v100 => some (decide (v100 ≥ 0))) (some false)) = some v96 → Ops (X18 n) (opl (cL (cR (cL (cL (cR (cR (cL (cL (cR (cL (cR (cR (cR C18)))))))))))))) 10 ⟨q2 ((dB false) :: q3 ((dI v77) :: q18 ((dP eI v1.1) :: (dI ((v1.1.length : Int))) :: (dI v67) :: (dB (decide (v67 < (v1.1.length : Int)))) :: (.vptr [(vI v77)]) :: (dI v77) :: (dI v77) :: (dB v82) :: (dB v82) :: d80 :: d81 :: (dB false) :: (dB false) :: (dI v77) :: (dB v98) :: (dB v98) :: q7 []))), [(.cells [(dI v1.2.fCode), (dI v1.2.fIndex)])]⟩ ((seqQ (X18 n) (cR (cR (cL (cL (cR (cR (cL (cL (cR (cL (cR (cR (cR C18))))))))))))) (blkQ (X18 n) 1 [2, 25, 26, 27] 1 (seqQ (X18 n) (cR (cR (cR (cL (cL (cR (cL (cR (cR (cR C18)))))))))) (lpQ (X18 n) [2, 25, 26, 27] 1 (cL (cL (cR (cL (cR (cR (cR C18))))))) nx70 (blkQ (X18 n) 0 [2] 1 (seqQ (X18 n) (cR (cR (cR (cR C18)))) (fnQ (X18 n).E.T (resOf Proofs.Tryd.prog 18) (eB o)))))))) .normal) := by
                      intro v98 ev96
                      cases v98
                      · have ev96 := cnd_f ev96
                        refine Ops.seg' 6 16 (by kernel_rfl) ?_
                        refine Ops.st ⟨q2 ((dB false) :: q3 ((dI v77) :: q18 ((dP eI v1.1) :: (dI ((v1.1.length : Int))) :: (dI v67) :: (dB (decide (v67 < (v1.1.length : Int)))) :: (.vptr [(vI v77)]) :: (dI v77) :: (dI v77) :: (dB v82) :: (dB v82) :: d80 :: d81 :: (dB false) :: (dB false) :: (dI v77) :: (dB false) :: (dB false) :: u4 ((dB false) :: (dB false) :: q1 [])))), [(.cells [(dI v1.2.fCode), (dI v1.2.fIndex)])]⟩ (by kernel_rfl) ?_
                        exact J18j97 _ _ _ _ _ _ _ _ _ _ (some_sub (fun v96 => f18_r1 m v67 v96 = some sx75) ev96 h)
                      · have ev96 := cnd_t ev96
                        refine Ops.seg' 2 12 (by kernel_rfl) ?_
                        obtain ⟨v100, ev100, ev96⟩ := bnd_some ev96
                        refine Ops.one' 13 (fun h0 e0 => (call_ok (E' := E) (h := h0) (by kernel_rfl) (Args.v (.str ((⟨#[32, 9, 10, 40, 41, 91, 93, 44, 59]⟩ : ByteArray))) (eS ((⟨#[32, 9, 10, 40, 41, 91, 93, 44, 59]⟩ : ByteArray))) (by kernel_rfl) (Args.v (.int .u8 (IntKind.u8.wrap v77)) ((eK .u8) (IntKind.u8.wrap v77)) (by kernel_rfl) Args.nil)) (ok33 m ((⟨#[32, 9, 10, 40, 41, 91, 93, 44, 59]⟩ : ByteArray)) (IntKind.u8.wrap v77) v100 ev100 n (by omega)))) (by kernel_rfl) (by kernel_rfl) ?_
                        refine Ops.seg' 3 16 (by kernel_rfl) ?_
                        refine Ops.st ⟨q2 ((dB false) :: q3 ((dI v77) :: q18 ((dP eI v1.1) :: (dI ((v1.1.length : Int))) :: (dI v67) :: (dB (decide (v67 < (v1.1.length : Int)))) :: (.vptr [(vI v77)]) :: (dI v77) :: (dI v77) :: (dB v82) :: (dB v82) :: d80 :: d81 :: (dB false) :: (dB false) :: (dI v77) :: (dB true) :: (dB true) :: (dI v77) :: (.v (.int .u8 (IntKind.u8.wrap v77))) :: (dI v100) :: (dB (decide (v100 ≥ 0))) :: (dB (decide (v100 ≥ 0))) :: (dB (decide (v100 ≥ 0))) :: q1 []))), [(.cells [(dI v1.2.fCode), (dI v1.2.fIndex)])]⟩ (by kernel_rfl) ?_
                        exact J18j97 _ _ _ _ _ _ _ _ _ _ (some_sub (fun v96 => f18_r1 m v67 v96 = some sx75) ev96 h)
                    exact Ops.st ⟨q2 ((dB false) :: q3 ((dI v77) :: q18 ((dP eI v1.1) :: (dI ((v1.1.length : Int))) :: (dI v67) :: (dB (decide (v67 < (v1.1.length : Int)))) :: (.vptr [(vI v77)]) :: (dI v77) :: (dI v77) :: (dB v82) :: (dB v82) :: d80 :: d81 :: (dB false) :: (dB false) :: (dI v77) :: (dB ((decide (v77 < 128)))) :: (dB ((decide (v77 < 128)))) :: q7 []))), [(.cells [(dI v1.2.fCode), (dI v1.2.fIndex)])]⟩ (by kernel_rfl) (G18g99 (decide (v77 < 128)) ev96)
                  · have ev96 := cnd_t ev96
                    refine Ops.seg' 9 16 (by kernel_rfl) ?_
                    refine Ops.st ⟨q2 ((dB false) :: q3 ((dI v77) :: q18 ((dP eI v1.1) :: (dI ((v1.1.length : Int))) :: (dI v67) :: (dB (decide (v67 < (v1.1.length : Int)))) :: (.vptr [(vI v77)]) :: (dI v77) :: (dI v77) :: (dB v82) :: (dB v82) :: d80 :: d81 :: (dB true) :: (dB true) :: u8 ((dB true) :: q1 [])))), [(.cells [(dI v1.2.fCode), (dI v1.2.fIndex)])]⟩ (by kernel_rfl) ?_
                    exact J18j97 _ _ _ _ _ _ _ _ _ _ (some_sub (fun v96 => f18_r1 m v67 v96 = some sx75) ev96 h)
                exact Ops.st ⟨q2 ((dB false) :: q3 ((dI v77) :: q18 ((dP eI v1.1) :: (dI ((v1.1.length : Int))) :: (dI v67) :: (dB (decide (v67 < (v1.1.length : Int)))) :: (.vptr [(vI v77)]) :: (dI v77) :: (dI v77) :: (dB v82) :: (dB v82) :: d80 :: d81 :: (dB v83) :: (dB v83) :: q10 []))), [(.cells [(dI v1.2.fCode), (dI v1.2.fIndex)])]⟩ (by kernel_rfl) (G18g86 v83 ev96)
              have G18g79 : ∀ v78 : Bool, f18_r2 m v67 v77 ((v78 || (decide (v77 ≥ 983040)))) = some sx75 → Ops (X18 n) (opl (cL (cR (cL (cL (cR (cR (cL (cL (cR (cL (cR (cR (cR C18)))))))))))))) 3 ⟨q2 ((dB false) :: q3 ((dI v77) :: q18 ((dP eI v1.1) :: (dI ((v1.1.length : Int))) :: (dI v67) :: (dB (decide (v67 < (v1.1.length : Int)))) :: (.vptr [(vI v77)]) :: (dI v77) :: (dI v77) :: (dB v78) :: (dB v78) :: q14 []))), [(.cells [(dI v1.2.fCode), (dI v1.2.fIndex)])]⟩ ((seqQ (X18 n) (cR (cR (cL (cL (cR (cR (cL (cL (cR (cL (cR (cR (cR C18))))))))))))) (blkQ (X18 n) 1 [2, 25, 26, 27] 1 (seqQ (X18 n) (cR (cR (cR (cL (cL (cR (cL (cR (cR (cR C18)))))))))) (lpQ (X18 n) [2, 25, 26, 27] 1 (cL (cL (cR (cL (cR (cR (cR C18))))))) nx70 (blkQ (X18 n) 0 [2] 1 (seqQ (X18 n) (cR (cR (cR (cR C18)))) (fnQ (X18 n).E.T (resOf Proofs.Tryd.prog 18) (eB o)))))))) .normal) := by
                intro v78 h
                cases v78
                · refine Ops.seg' 3 6 (by kernel_rfl) ?_
                  refine Ops.st ⟨q2 ((dB false) :: q3 ((dI v77) :: q18 ((dP eI v1.1) :: (dI ((v1.1.length : Int))) :: (dI v67) :: (dB (decide (v67 < (v1.1.length : Int)))) :: (.vptr [(vI v77)]) :: (dI v77) :: (dI v77) :: (dB false) :: (dB false) :: (dI v77) :: (dB (decide (v77 ≥ 983040))) :: (dB (decide (v77 ≥ 983040))) :: q11 []))), [(.cells [(dI v1.2.fCode), (dI v1.2.fIndex)])]⟩ (by kernel_rfl) ?_
                  exact J18j84 _ _ _ _ h
                · refine Ops.seg' 3 6 (by kernel_rfl) ?_
                  refine Ops.st ⟨q2 ((dB false) :: q3 ((dI v77) :: q18 ((dP eI v1.1) :: (dI ((v1.1.length : Int))) :: (dI v67) :: (dB (decide (v67 < (v1.1.length : Int)))) :: (.vptr [(vI v77)]) :: (dI v77) :: (dI v77) :: (dB true) :: (dB true) :: u2 ((dB true) :: q11 [])))), [(.cells [(dI v1.2.fCode), (dI v1.2.fIndex)])]⟩ (by kernel_rfl) ?_
                  exact J18j84 _ _ _ _ h
              exact Ops.st ⟨q2 ((dB false) :: q3 ((dI v77) :: q18 ((dP eI v1.1) :: (dI ((v1.1.length : Int))) :: (dI v67) :: (dB (decide (v67 < (v1.1.length : Int)))) :: (.vptr [(vI v77)]) :: (dI v77) :: (dI v77) :: (dB ((v77 == 0))) :: (dB ((v77 == 0))) :: q14 []))), [(.cells [(dI v1.2.fCode), (dI v1.2.fIndex)])]⟩ (by kernel_rfl) (G18g79 (v77 == 0) h)
            · refine Wp.exit (id := 0) (by kernel_rfl) ?_
              refine sqQ.x ?_
              refine seqQ.x ?_
              cases h
              refine lpQ.x ?_
              refine blkQ.x ⟨q2 ((dB false) :: q22 ((dP eI v1.1) :: (dI ((v1.1.length : Int))) :: (dI v67) :: q20 [])), [(.cells [(dI v1.2.fCode), (dI v1.2.fIndex)])]⟩ (by kernel_rfl) ?_
              exact hxx73 v67  hsx76
        refine Wp.loop' [2, 25, 26, 27] 1 (by kernel_rfl) ⟨q2 ((dB false) :: q22 ((dP eI v1.1) :: (dI ((v1.1.length : Int))) :: (dI 0) :: q20 [])), [(.cells [(dI v1.2.fCode), (dI v1.2.fIndex)])]⟩ (by kernel_rfl) ?_
        rcases brk_some h with ⟨r103, er103, h⟩ | ⟨y102, ey102, h⟩
        · refine hLx101 _ 0  _ er103 n (by omega) (fun r er σ hσ => ?_) (fun y  ey => by cases ey)
          cases er
          refine seqQ.r ?_
          exact fnQ.r' (X18 n) (fun z => (eB z)) h hσ
        · refine hLx101 _ 0  _ ey102 n (by omega) (fun r er => by cases er) (fun y  ey => ?_)
          cases ey
          refine seqQ.n ?_
          refine Wp.seq' (by kernel_rfl) ?_
          refine Wp.region (by kernel_rfl) ?_
          refine Ops.seg' 1 1 (by kernel_rfl) ?_
          refine Ops.done (by kernel_rfl) ?_
          refine seqQ.n ?_
          refine Wp.ret (by kernel_rfl) ?_
          exact fnQ.r' (X18 n) (fun z => (eB z)) h (RetOk.mk' (dB true) (by kernel_rfl) (by kernel_rfl))
    have G18g11 : ∀ v10 : Bool, f18_r4 m v1 ((v10 || (decide ((v1.1.length : Int) > 30)))) = some o → Ops (X18 n) (opl (cL (cL (cR (cR C18))))) 9 ⟨(.v (.str a0)) :: u1 ((dB false) :: (dP eI v1.1) :: (.ptr 0 0) :: u2 ((.v (.tuple [(vP eI v1.1), (.agg [(vI v1.2.fCode), (vI v1.2.fIndex)])])) :: (.v (.str a0)) :: (.v (.tuple [(vP eI v1.1), (.agg [(vI v1.2.fCode), (vI v1.2.fIndex)])])) :: (dP eI v1.1) :: (.v (.agg [(vI v1.2.fCode), (vI v1.2.fIndex)])) :: (.v (.agg [(vI v1.2.fCode), (vI v1.2.fIndex)])) :: (.v (.agg [(vI 0), (vI 0)])) :: (dB v7) :: (dB v7) :: d4 :: d5 :: d6 :: (dB v10) :: (dB v10) :: u27 [])), [(.cells [(dI v1.2.fCode), (dI v1.2.fIndex)])]⟩ ((seqQ (X18 n) (cR (cL (cR (cR C18)))) (seqQ (X18 n) (cR (cR (cR C18))) (fnQ (X18 n).E.T (resOf Proofs.Tryd.prog 18) (eB o)))) .normal) := by
      intro v10 h
      cases v10
      · refine Ops.seg' 1 10 (by kernel_rfl) ?_
        refine Ops.one' 11 (fun h0 e0 => (len_r (T := T) h0 41 3 .plain eI v1.1 (by kernel_rfl))) (by kernel_rfl) (by kernel_rfl) ?_
        refine Ops.seg' 2 13 (by kernel_rfl) ?_
        refine Ops.st ⟨(.v (.str a0)) :: u1 ((dB false) :: (dP eI v1.1) :: (.ptr 0 0) :: u2 ((.v (.tuple [(vP eI v1.1), (.agg [(vI v1.2.fCode), (vI v1.2.fIndex)])])) :: (.v (.str a0)) :: (.v (.tuple [(vP eI v1.1), (.agg [(vI v1.2.fCode), (vI v1.2.fIndex)])])) :: (dP eI v1.1) :: (.v (.agg [(vI v1.2.fCode), (vI v1.2.fIndex)])) :: (.v (.agg [(vI v1.2.fCode), (vI v1.2.fIndex)])) :: (.v (.agg [(vI 0), (vI 0)])) :: (dB v7) :: (dB v7) :: d4 :: d5 :: d6 :: (dB false) :: (dB false) :: (dP eI v1.1) :: (dI ((v1.1.length : Int))) :: (dB (decide ((v1.1.length : Int) > 30))) :: (dB (decide ((v1.1.length : Int) > 30))) :: u23 [])), [(.cells [(dI v1.2.fCode), (dI v1.2.fIndex)])]⟩ (by kernel_rfl) ?_
        exact J18j17 _ _ _ _ _ h
      · refine Ops.seg' 4 13 (by kernel_rfl) ?_
        refine Ops.st ⟨(.v (.str a0)) :: u1 ((dB false) :: (dP eI v1.1) :: (.ptr 0 0) :: u2 ((.v (.tuple [(vP eI v1.1), (.agg [(vI v1.2.fCode), (vI v1.2.fIndex)])])) :: (.v (.str a0)) :: (.v (.tuple [(vP eI v1.1), (.agg [(vI v1.2.fCode), (vI v1.2.fIndex)])])) :: (dP eI v1.1) :: (.v (.agg [(vI v1.2.fCode), (vI v1.2.fIndex)])) :: (.v (.agg [(vI v1.2.fCode), (vI v1.2.fIndex)])) :: (.v (.agg [(vI 0), (vI 0)])) :: (dB v7) :: (dB v7) :: d4 :: d5 :: d6 :: (dB true) :: (dB true) :: u3 ((dB true) :: u23 []))), [(.cells [(dI v1.2.fCode), (dI v1.2.fIndex)])]⟩ (by kernel_rfl) ?_
        exact J18j17 _ _ _ _ _ h
    exact Ops.st ⟨(.v (.str a0)) :: u1 ((dB false) :: (dP eI v1.1) :: (.ptr 0 0) :: u2 ((.v (.tuple [(vP eI v1.1), (.agg [(vI v1.2.fCode), (vI v1.2.fIndex)])])) :: (.v (.str a0)) :: (.v (.tuple [(vP eI v1.1), (.agg [(vI v1.2.fCode), (vI v1.2.fIndex)])])) :: (dP eI v1.1) :: (.v (.agg [(vI v1.2.fCode), (vI v1.2.fIndex)])) :: (.v (.agg [(vI v1.2.fCode), (vI v1.2.fIndex)])) :: (.v (.agg [(vI 0), (vI 0)])) :: (dB v7) :: (dB v7) :: d4 :: d5 :: d6 :: (dB v8) :: (dB v8) :: u27 [])), [(.cells [(dI v1.2.fCode), (dI v1.2.fIndex)])]⟩ (by kernel_rfl) (G18g11 v8 h)
  have G18g3 : ∀ v2 : Bool, f18_r5 m v1 ((v2 || (decide ((v1.1.length : Int) < 1)))) = some o → Ops (X18 n) (opl (cL (cL (cR (cR C18))))) 4 ⟨(.v (.str a0)) :: u1 ((dB false) :: (dP eI v1.1) :: (.ptr 0 0) :: u2 ((.v (.tuple [(vP eI v1.1), (.agg [(vI v1.2.fCode), (vI v1.2.fIndex)])])) :: (.v (.str a0)) :: (.v (.tuple [(vP eI v1.1), (.agg [(vI v1.2.fCode), (vI v1.2.fIndex)])])) :: (dP eI v1.1) :: (.v (.agg [(vI v1.2.fCode), (vI v1.2.fIndex)])) :: (.v (.agg [(vI v1.2.fCode), (vI v1.2.fIndex)])) :: (.v (.agg [(vI 0), (vI 0)])) :: (dB v2) :: (dB v2) :: u32 [])), [(.cells [(dI v1.2.fCode), (dI v1.2.fIndex)])]⟩ ((seqQ (X18 n) (cR (cL (cR (cR C18)))) (seqQ (X18 n) (cR (cR (cR C18))) (fnQ (X18 n).E.T (resOf Proofs.Tryd.prog 18) (eB o)))) .normal) := by
    intro v2 h
    cases v2
    · refine Ops.seg' 1 5 (by kernel_rfl) ?_
      refine Ops.one' 6 (fun h0 e0 => (len_r (T := T) h0 41 3 .plain eI v1.1 (by kernel_rfl))) (by kernel_rfl) (by kernel_rfl) ?_
      refine Ops.seg' 2 8 (by kernel_rfl) ?_
      refine Ops.st ⟨(.v (.str a0)) :: u1 ((dB false) :: (dP eI v1.1) :: (.ptr 0 0) :: u2 ((.v (.tuple [(vP eI v1.1), (.agg [(vI v1.2.fCode), (vI v1.2.fIndex)])])) :: (.v (.str a0)) :: (.v (.tuple [(vP eI v1.1), (.agg [(vI v1.2.fCode), (vI v1.2.fIndex)])])) :: (dP eI v1.1) :: (.v (.agg [(vI v1.2.fCode), (vI v1.2.fIndex)])) :: (.v (.agg [(vI v1.2.fCode), (vI v1.2.fIndex)])) :: (.v (.agg [(vI 0), (vI 0)])) :: (dB false) :: (dB false) :: (dP eI v1.1) :: (dI ((v1.1.length : Int))) :: (dB (decide ((v1.1.length : Int) < 1))) :: (dB (decide ((v1.1.length : Int) < 1))) :: u28 [])), [(.cells [(dI v1.2.fCode), (dI v1.2.fIndex)])]⟩ (by kernel_rfl) ?_
      exact J18j9 _ _ _ _ _ h
    · refine Ops.seg' 4 8 (by kernel_rfl) ?_
      refine Ops.st ⟨(.v (.str a0)) :: u1 ((dB false) :: (dP eI v1.1) :: (.ptr 0 0) :: u2 ((.v (.tuple [(vP eI v1.1), (.agg [(vI v1.2.fCode), (vI v1.2.fIndex)])])) :: (.v (.str a0)) :: (.v (.tuple [(vP eI v1.1), (.agg [(vI v1.2.fCode), (vI v1.2.fIndex)])])) :: (dP eI v1.1) :: (.v (.agg [(vI v1.2.fCode), (vI v1.2.fIndex)])) :: (.v (.agg [(vI v1.2.fCode), (vI v1.2.fIndex)])) :: (.v (.agg [(vI 0), (vI 0)])) :: (dB true) :: (dB true) :: u3 ((dB true) :: u28 []))), [(.cells [(dI v1.2.fCode), (dI v1.2.fIndex)])]⟩ (by kernel_rfl) ?_
      exact J18j9 _ _ _ _ _ h
  exact Ops.st ⟨(.v (.str a0)) :: u1 ((dB false) :: (dP eI v1.1) :: (.ptr 0 0) :: u2 ((.v (.tuple [(vP eI v1.1), (.agg [(vI v1.2.fCode), (vI v1.2.fIndex)])])) :: (.v (.str a0)) :: (.v (.tuple [(vP eI v1.1), (.agg [(vI v1.2.fCode), (vI v1.2.fIndex)])])) :: (dP eI v1.1) :: (.v (.agg [(vI v1.2.fCode), (vI v1.2.fIndex)])) :: (.v (.agg [(vI v1.2.fCode), (vI v1.2.fIndex)])) :: (.v (.agg [(vI 0), (vI 0)])) :: (dB ((!((v1.2.fCode == 0) && ((v1.2.fIndex == 0) && true))))) :: (dB ((!((v1.2.fCode == 0) && ((v1.2.fIndex == 0) && true))))) :: u32 [])), [(.cells [(dI v1.2.fCode), (dI v1.2.fIndex)])]⟩ (by kernel_rfl) (G18g3 (!((v1.2.fCode == 0) && ((v1.2.fIndex == 0) && true))) h)

/-! ### 19 glosswright/lexicon.Name -/
def f19_r1 (m : Nat) (v88 : Int) (v127 : Bool) : Option (Stp Bool (Int)) :=
  cnd v127
  (some (.ret false))
  (some (.nxt (w64 (v88 + 1))))
def f19_r2 (m : Nat) (v88 : Int) (v98 : Int) (v104 : Bool) : Option (Stp Bool (Int)) :=
  f19_r1 m v88 (((!v104) && (((v88 == 0) || (((v98 != 95) && (((v98 != 45) && (((decide (v98 < 48)) || (decide (v98 > 57))))))))))))
def f19_B3 (m : Nat) (a0 : ByteArray) (v88 : Int) : Option (Stp Bool (Int)) :=
  cnd (decide (v88 < (a0.size : Int)))
  (bnd (sidx a0 v88) fun v98 =>
  f19_r2 m v88 v98 (((decide (v98 ≥ 97)) && (decide (v98 ≤ 122)))))
  (some (.brk v88))
def f19_r4 (m : Nat) (a0 : ByteArray) (v7 : Bool) : Option Bool :=
  cnd v7
  (some false)
  (brk (iter (fun (y : Int) => f19_B3 m a0 y) m 0) some fun y138 =>
  some true)
def f19 (m : Nat) (a0 : ByteArray) : Option Bool :=
  f19_r4 m a0 (((decide ((a0.size : Int) < 1)) || (decide ((a0.size : Int) > 30))))
noncomputable abbrev X19 (n : Nat) : Cx := cxOf Proofs.Tryd.prog E 19 n
noncomputable def C19 : Code := bodyOf Proofs.Tryd.prog 19
theorem ok19 (m : Nat) (a0 : ByteArray) (o : Bool) (h : f19 m a0 = some o) (n : Nat) (hn : m + 1 ≤ n) : Fn Proofs.Tryd.prog E n 19 [.v (eS a0)] (eB o) := by
  obtain ⟨n, rfl⟩ : ∃ q, n = q + 1 := ⟨n - 1, by omega⟩
  unfold f19 at h
  refine Fn.of (by kernel_rfl) (by kernel_rfl) (by kernel_rfl) ⟨(.v (.str a0)) :: u40 (u10 []), []⟩ (by kernel_rfl) ?_
  refine Wp.seq' (by kernel_rfl) ?_
  refine Wp.region (by kernel_rfl) ?_
  refine Ops.seg' 1 1 (by kernel_rfl) ?_
  refine Ops.done (by kernel_rfl) ?_
  refine seqQ.n ?_
  refine Wp.seq' (by kernel_rfl) ?_
  refine Wp.seq' (by kernel_rfl) ?_
  refine Wp.region (by kernel_rfl) ?_
  refine Ops.seg' 4 4 (by kernel_rfl) ?_
  have J19j8 : ∀ (d3 d4 d5 : D) (v6 : Bool) (v7 : Bool), f19_r4 m a0 v7 = some o → Ops (X19 n) (opl (cL (cL (cR C19)))) 8 ⟨(.v (.str a0)) :: u1 ((dB false) :: u3 ((.v (.str a0)) :: (dI ((a0.size : Int))) :: (dB v6) :: (dB v6) :: d3 :: d4 :: d5 :: (dB v7) :: u37 [])), []⟩ ((seqQ (X19 n) (cR (cL (cR C19))) (seqQ (X19 n) (cR (cR C19)) (fnQ (X19 n).E.T (resOf Proofs.Tryd.prog 19) (eB o)))) .normal) := by
    intro d3 d4 d5 v6 v7 h
    unfold f19_r4 at h
    refine Ops.done (by kernel_rfl) ?_
    refine seqQ.n ?_
    refine Wp.cnd h [0, 2] 0 (by kernel_rfl) (fun h => ?_) (fun h => ?_)
    · refine Wp.seq' (by kernel_rfl) ?_
      refine Wp.region (by kernel_rfl) ?_
      refine Ops.seg' 1 1 (by kernel_rfl) ?_
      refine Ops.done (by kernel_rfl) ?_
      refine seqQ.n ?_
      refine Wp.ret (by kernel_rfl) ?_
      refine sqQ.r ?_
      refine seqQ.r ?_
      exact fnQ.r' (X19 n) (fun z => (eB z)) h (RetOk.mk' (dB false) (by kernel_rfl) (by kernel_rfl))
    · refine Wp.skip (by kernel_rfl) ?_
      refine sqQ.n' ?_
      refine seqQ.n ?_
      refine Wp.seq' (by kernel_rfl) ?_
      refine Wp.seq' (by kernel_rfl) ?_
      refine Wp.region (by kernel_rfl) ?_
      refine Ops.seg' 3 3 (by kernel_rfl) ?_
      refine Ops.done (by kernel_rfl) ?_
      refine seqQ.n ?_
      refine Wp.block' 0 [2] 0 (by kernel_rfl) ?_
      have hLx137 : ∀ (kx90 : Nat) (v88 : Int)  (ox89 : Bool ⊕ (Int)), iter (fun (y : Int) => f19_B3 m a0 y) kx90 v88 = some ox89 → ∀ nx91, kx90 ≤ nx91 → (∀ r, ox89 = .inl r → ∀ σ, RetOk (X19 n) (resOf Proofs.Tryd.prog 19) (eB r) σ → (seqQ (X19 n) (cR (cR (cR C19))) (fnQ (X19 n).E.T (resOf Proofs.Tryd.prog 19) (eB o))) .ret σ) → (∀ (y : Int) , ox89 = .inr y → (seqQ (X19 n) (cR (cR (cR C19))) (fnQ (X19 n).E.T (resOf Proofs.Tryd.prog 19) (eB o))) .normal ⟨(.v (.str a0)) :: q1 ((dB false) :: q12 ((dI ((a0.size : Int))) :: (dI y) :: q34 [])), []⟩) → Lp (X19 n) [0, 2, 15, 16] 0 (cL (cL (cR (cL (cR (cR C19)))))) nx91 ⟨(.v (.str a0)) :: q1 ((dB false) :: q12 ((dI ((a0.size : Int))) :: (dI v88) :: q34 [])), []⟩ (blkQ (X19 n) 0 [2] 0 (seqQ (X19 n) (cR (cR (cR C19))) (fnQ (X19 n).E.T (resOf Proofs.Tryd.prog 19) (eB o)))) := by
        intro kx90
        induction kx90 with
        | zero => intro v88  ox89 h; exact (iter_zero h).elim
        | succ kx90 ihx92 =>
          intro v88  ox89 h nx91 hnx95 hrx93 hxx94
          obtain ⟨nx91, rfl⟩ : ∃ q, nx91 = q + 1 := ⟨nx91 - 1, by omega⟩
          obtain ⟨sx96, h, hsx97⟩ := iter_some h
          have h : f19_B3 m a0 v88 = some sx96 := h
          unfold f19_B3 at h
          refine Lp.succ ?_
          refine Wp.seq' (by kernel_rfl) ?_
          refine Wp.region (by kernel_rfl) ?_
          refine Ops.seg' 1 1 (by kernel_rfl) ?_
          refine Ops.done (by kernel_rfl) ?_
          refine seqQ.n ?_
          refine Wp.seq' (by kernel_rfl) ?_
          refine Wp.cnd h [0, 2, 15, 16] 0 (by kernel_rfl) (fun h => ?_) (fun h => ?_)
          · refine Wp.skip (by kernel_rfl) ?_
            refine sqQ.n' ?_
            refine seqQ.n ?_
            refine Wp.seq' (by kernel_rfl) ?_
            refine Wp.block' 1 [0, 2, 15, 16] 0 (by kernel_rfl) ?_
            refine Wp.seq' (by kernel_rfl) ?_
            refine Wp.region (by kernel_rfl) ?_
            refine Ops.seg' 2 2 (by kernel_rfl) ?_
            refine Ops.done (by kernel_rfl) ?_
            refine seqQ.n ?_
            refine Wp.seq' (by kernel_rfl) ?_
            refine Wp.region (by kernel_rfl) ?_
            refine Ops.seg' 2 2 (by kernel_rfl) ?_
            obtain ⟨v98, ev98, h⟩ := bnd_some h
            refine Ops.one' 3 (fun h0 e0 => (str_ix (T := T) h0 9 a0 v88 v98 ev98 (by kernel_rfl))) (by kernel_rfl) (by kernel_rfl) ?_
            refine Ops.seg' 1 4 (by kernel_rfl) ?_
            refine Ops.done (by kernel_rfl) ?_
            refine seqQ.n ?_
            refine Wp.seq' (by kernel_rfl) ?_
            refine Wp.region (by kernel_rfl) ?_
            refine Ops.seg' 3 3 (by kernel_rfl) ?_
            have J19j105 : ∀ (d101 d102 : D) (v103 : Bool) (v104 : Bool), f19_r2 m v88 v98 v104 = some sx96 → Ops (X19 n) (opl (cL (cR (cR (cL (cL (cR (cR (cL (cL (cR (cL (cR (cR C19)))))))))))))) 6 ⟨(.v (.str a0)) :: q1 ((dB false) :: (dI v88) :: (.v (.int .u8 v98)) :: q10 ((dI ((a0.size : Int))) :: (dI v88) :: (dB (decide (v88 < (a0.size : Int)))) :: (dI v88) :: (.v (.str a0)) :: (dI v88) :: (.v (.int .u8 v98)) :: (.v (.int .u8 v98)) :: (dB v103) :: (dB v103) :: d101 :: d102 :: (dB v104) :: q23 [])), []⟩ ((seqQ (X19 n) (cR (cR (cR (cL (cL (cR (cR (cL (cL (cR (cL (cR (cR C19))))))))))))) (blkQ (X19 n) 1 [0, 2, 15, 16] 0 (seqQ (X19 n) (cR (cR (cR (cL (cL (cR (cL (cR (cR C19))))))))) (lpQ (X19 n) [0, 2, 15, 16] 0 (cL (cL (cR (cL (cR (cR C19)))))) nx91 (blkQ (X19 n) 0 [2] 0 (seqQ (X19 n) (cR (cR (cR C19))) (fnQ (X19 n).E.T (resOf Proofs.Tryd.prog 19) (eB o)))))))) .normal) := by
              intro d101 d102 v103 v104 h
              unfold f19_r2 at h
              refine Ops.seg' 1 7 (by kernel_rfl) ?_
              refine Ops.done (by kernel_rfl) ?_
              refine seqQ.n ?_
              refine Wp.seq' (by kernel_rfl) ?_
              refine Wp.region (by kernel_rfl) ?_
              refine Ops.seg' 3 3 (by kernel_rfl) ?_
              have J19j128 : ∀ (d108 d109 d110 d111 d112 d113 d114 d115 d116 d117 d118 d119 d120 d121 d122 d123 d124 d125 : D) (v126 : Bool) (v127 : Bool), f19_r1 m v88 v127 = some sx96 → Ops (X19 n) (opl (cL (cR (cR (cR (cL (cL (cR (cR (cL (cL (cR (cL (cR (cR C19))))))))))))))) 22 ⟨(.v (.str a0)) :: q1 ((dB false) :: (dI v88) :: (.v (.int .u8 v98)) :: (dB v104) :: q9 ((dI ((a0.size : Int))) :: (dI v88) :: (dB (decide (v88 < (a0.size : Int)))) :: (dI v88) :: (.v (.str a0)) :: (dI v88) :: (.v (.int .u8 v98)) :: (.v (.int .u8 v98)) :: (dB v103) :: (dB v103) :: d101 :: d102 :: (dB v104) :: (dB v104) :: (dB v126) :: (dB v126) :: d108 :: d109 :: d110 :: d111 :: d112 :: d113 :: d114 :: d115 :: d116 :: d117 :: d118 :: d119 :: d120 :: d121 :: d122 :: d123 :: d124 :: d125 :: (dB v127) :: q1 [])), []⟩ ((seqQ (X19 n) (cR (cR (cR (cR (cL (cL (cR (cR (cL (cL (cR (cL (cR (cR C19)))))))))))))) (blkQ (X19 n) 1 [0, 2, 15, 16] 0 (seqQ (X19 n) (cR (cR (cR (cL (cL (cR (cL (cR (cR C19))))))))) (lpQ (X19 n) [0, 2, 15, 16] 0 (cL (cL (cR (cL (cR (cR C19)))))) nx91 (blkQ (X19 n) 0 [2] 0 (seqQ (X19 n) (cR (cR (cR C19))) (fnQ (X19 n).E.T (resOf Proofs.Tryd.prog 19) (eB o)))))))) .normal) := by
                intro d108 d109 d110 d111 d112 d113 d114 d115 d116 d117 d118 d119 d120 d121 d122 d123 d124 d125 v126 v127 h
                unfold f19_r1 at h
                refine Ops.done (by kernel_rfl) ?_
                refine seqQ.n ?_
                refine Wp.cnd h [0, 2, 15, 16] 0 (by kernel_rfl) (fun h => ?_) (fun h => ?_)
                · refine Wp.seq' (by kernel_rfl) ?_
                  refine Wp.region (by kernel_rfl) ?_
                  refine Ops.seg' 1 1 (by kernel_rfl) ?_
                  refine Ops.done (by kernel_rfl) ?_
                  refine seqQ.n ?_
                  refine Wp.ret (by kernel_rfl) ?_
                  refine sqQ.r ?_
                  refine blkQ.r ?_
                  refine seqQ.r ?_
                  cases h
                  refine lpQ.r ?_
                  refine blkQ.r ?_
                  exact hrx93 _ hsx97 _ (RetOk.forget [0, 2, 15, 16] (by kernel_rfl) (RetOk.mk' (dB false) (by kernel_rfl) (by kernel_rfl)))
                · refine Wp.skip (by kernel_rfl) ?_
                  refine sqQ.n' ?_
                  refine blkQ.n' ?_
                  refine seqQ.n ?_
                  refine Wp.region (by kernel_rfl) ?_
                  refine Ops.seg' 2 2 (by kernel_rfl) ?_
                  refine Ops.done (by kernel_rfl) ?_
                  refine lpQ.n ⟨(.v (.str a0)) :: q1 ((dB false) :: q12 ((dI ((a0.size : Int))) :: (dI (w64 (v88 + 1))) :: q34 [])), []⟩ (by kernel_rfl) ?_
                  cases h
                  exact ihx92 (w64 (v88 + 1))  _ hsx97 _ (by omega) hrx93 hxx94
              have G19g107 : ∀ v106 : Bool, f19_r1 m v88 ((v106 && (((v88 == 0) || (((v98 != 95) && (((v98 != 45) && (((decide (v98 < 48)) || (decide (v98 > 57)))))))))))) = some sx96 → Ops (X19 n) (opl (cL (cR (cR (cR (cL (cL (cR (cR (cL (cL (cR (cL (cR (cR C19))))))))))))))) 3 ⟨(.v (.str a0)) :: q1 ((dB false) :: (dI v88) :: (.v (.int .u8 v98)) :: (dB v104) :: q9 ((dI ((a0.size : Int))) :: (dI v88) :: (dB (decide (v88 < (a0.size : Int)))) :: (dI v88) :: (.v (.str a0)) :: (dI v88) :: (.v (.int .u8 v98)) :: (.v (.int .u8 v98)) :: (dB v103) :: (dB v103) :: d101 :: d102 :: (dB v104) :: (dB v104) :: (dB v106) :: (dB v106) :: q20 [])), []⟩ ((seqQ (X19 n) (cR (cR (cR (cR (cL (cL (cR (cR (cL (cL (cR (cL (cR (cR C19)))))))))))))) (blkQ (X19 n) 1 [0, 2, 15, 16] 0 (seqQ (X19 n) (cR (cR (cR (cL (cL (cR (cL (cR (cR C19))))))))) (lpQ (X19 n) [0, 2, 15, 16] 0 (cL (cL (cR (cL (cR (cR C19)))))) nx91 (blkQ (X19 n) 0 [2] 0 (seqQ (X19 n) (cR (cR (cR C19))) (fnQ (X19 n).E.T (resOf Proofs.Tryd.prog 19) (eB o)))))))) .normal) := by
                intro v106 h
                cases v106
                · refine Ops.seg' 19 22 (by kernel_rfl) ?_
                  refine Ops.st ⟨(.v (.str a0)) :: q1 ((dB false) :: (dI v88) :: (.v (.int .u8 v98)) :: (dB v104) :: q9 ((dI ((a0.size : Int))) :: (dI v88) :: (dB (decide (v88 < (a0.size : Int)))) :: (dI v88) :: (.v (.str a0)) :: (dI v88) :: (.v (.int .u8 v98)) :: (.v (.int .u8 v98)) :: (dB v103) :: (dB v103) :: d101 :: d102 :: (dB v104) :: (dB v104) :: (dB false) :: (dB false) :: u18 ((dB false) :: q1 []))), []⟩ (by kernel_rfl) ?_
                  exact J19j128 _ _ _ _ _ _ _ _ _ _ _ _ _ _ _ _ _ _ _ _ h
                · refine Ops.seg' 3 6 (by kernel_rfl) ?_
                  have G19g130 : ∀ v129 : Bool, (f19_r1 m v88 ((true && ((v129 || (((v98 != 95) && (((v98 != 45) && (((decide (v98 < 48)) || (decide (v98 > 57))))))))))))) = some sx96 → Ops (X19 n) (opl (cL (cR (cR (cR (cL (cL (cR (cR (cL (cL (cR (cL (cR (cR C19))))))))))))))) 6 ⟨(.v (.str a0)) :: q1 ((dB false) :: (dI v88) :: (.v (.int .u8 v98)) :: (dB v104) :: q9 ((dI ((a0.size : Int))) :: (dI v88) :: (dB (decide (v88 < (a0.size : Int)))) :: (dI v88) :: (.v (.str a0)) :: (dI v88) :: (.v (.int .u8 v98)) :: (.v (.int .u8 v98)) :: (dB v103) :: (dB v103) :: d101 :: d102 :: (dB v104) :: (dB v104) :: (dB true) :: (dB true) :: (dI v88) :: (dB v129) :: (dB v129) :: q17 [])), []⟩ ((seqQ (X19 n) (cR (cR (cR (cR (cL (cL (cR (cR (cL (cL (cR (cL (cR (cR C19)))))))))))))) (blkQ (X19 n) 1 [0, 2, 15, 16] 0 (seqQ (X19 n) (cR (cR (cR (cL (cL (cR (cL (cR (cR C19))))))))) (lpQ (X19 n) [0, 2, 15, 16] 0 (cL (cL (cR (cL (cR (cR C19)))))) nx91 (blkQ (X19 n) 0 [2] 0 (seqQ (X19 n) (cR (cR (cR C19))) (fnQ (X19 n).E.T (resOf Proofs.Tryd.prog 19) (eB o)))))))) .normal) := by
                    intro v129 h
                    cases v129
                    · refine Ops.seg' 3 9 (by kernel_rfl) ?_
                      have G19g132 : ∀ v131 : Bool, (f19_r1 m v88 ((true && ((false || ((v131 && (((v98 != 45) && (((decide (v98 < 48)) || (decide (v98 > 57))))))))))))) = some sx96 → Ops (X19 n) (opl (cL (cR (cR (cR (cL (cL (cR (cR (cL (cL (cR (cL (cR (cR C19))))))))))))))) 9 ⟨(.v (.str a0)) :: q1 ((dB false) :: (dI v88) :: (.v (.int .u8 v98)) :: (dB v104) :: q9 ((dI ((a0.size : Int))) :: (dI v88) :: (dB (decide (v88 < (a0.size : Int)))) :: (dI v88) :: (.v (.str a0)) :: (dI v88) :: (.v (.int .u8 v98)) :: (.v (.int .u8 v98)) :: (dB v103) :: (dB v103) :: d101 :: d102 :: (dB v104) :: (dB v104) :: (dB true) :: (dB true) :: (dI v88) :: (dB false) :: (dB false) :: (.v (.int .u8 v98)) :: (dB v131) :: (dB v131) :: q14 [])), []⟩ ((seqQ (X19 n) (cR (cR (cR (cR (cL (cL (cR (cR (cL (cL (cR (cL (cR (cR C19)))))))))))))) (blkQ (X19 n) 1 [0, 2, 15, 16] 0 (seqQ (X19 n) (cR (cR (cR (cL (cL (cR (cL (cR (cR C19))))))))) (lpQ (X19 n) [0, 2, 15, 16] 0 (cL (cL (cR (cL (cR (cR C19)))))) nx91 (blkQ (X19 n) 0 [2] 0 (seqQ (X19 n) (cR (cR (cR C19))) (fnQ (X19 n).E.T (resOf Proofs.Tryd.prog 19) (eB o)))))))) .normal) := by
                        intro v131 h
                        cases v131
                        · refine Ops.seg' 13 22 (by kernel_rfl) ?_
                          refine Ops.st ⟨(.v (.str a0)) :: q1 ((dB false) :: (dI v88) :: (.v (.int .u8 v98)) :: (dB v104) :: q9 ((dI ((a0.size : Int))) :: (dI v88) :: (dB (decide (v88 < (a0.size : Int)))) :: (dI v88) :: (.v (.str a0)) :: (dI v88) :: (.v (.int .u8 v98)) :: (.v (.int .u8 v98)) :: (dB v103) :: (dB v103) :: d101 :: d102 :: (dB v104) :: (dB v104) :: (dB true) :: (dB true) :: (dI v88) :: (dB false) :: (dB false) :: (.v (.int .u8 v98)) :: (dB false) :: (dB false) :: u2 ((dB false) :: (dB false) :: u6 ((dB false) :: (dB false) :: (dB false) :: q1 [])))), []⟩ (by kernel_rfl) ?_
                          exact J19j128 _ _ _ _ _ _ _ _ _ _ _ _ _ _ _ _ _ _ _ _ h
                        · refine Ops.seg' 4 13 (by kernel_rfl) ?_
                          have G19g134 : ∀ v133 : Bool, (f19_r1 m v88 ((true && ((false || ((true && ((v133 && (((decide (v98 < 48)) || (decide (v98 > 57))))))))))))) = some sx96 → Ops (X19 n) (opl (cL (cR (cR (cR (cL (cL (cR (cR (cL (cL (cR (cL (cR (cR C19))))))))))))))) 13 ⟨(.v (.str a0)) :: q1 ((dB false) :: (dI v88) :: (.v (.int .u8 v98)) :: (dB v104) :: q9 ((dI ((a0.size : Int))) :: (dI v88) :: (dB (decide (v88 < (a0.size : Int)))) :: (dI v88) :: (.v (.str a0)) :: (dI v88) :: (.v (.int .u8 v98)) :: (.v (.int .u8 v98)) :: (dB v103) :: (dB v103) :: d101 :: d102 :: (dB v104) :: (dB v104) :: (dB true) :: (dB true) :: (dI v88) :: (dB false) :: (dB false) :: (.v (.int .u8 v98)) :: (dB true) :: (dB true) :: (.v (.int .u8 v98)) :: (dB v133) :: (dB v133) :: (dB v133) :: q10 [])), []⟩ ((seqQ (X19 n) (cR (cR (cR (cR (cL (cL (cR (cR (cL (cL (cR (cL (cR (cR C19)))))))))))))) (blkQ (X19 n) 1 [0, 2, 15, 16] 0 (seqQ (X19 n) (cR (cR (cR (cL (cL (cR (cL (cR (cR C19))))))))) (lpQ (X19 n) [0, 2, 15, 16] 0 (cL (cL (cR (cL (cR (cR C19)))))) nx91 (blkQ (X19 n) 0 [2] 0 (seqQ (X19 n) (cR (cR (cR C19))) (fnQ (X19 n).E.T (resOf Proofs.Tryd.prog 19) (eB o)))))))) .normal) := by
                            intro v133 h
                            cases v133
                            · refine Ops.seg' 9 22 (by kernel_rfl) ?_
                              refine Ops.st ⟨(.v (.str a0)) :: q1 ((dB false) :: (dI v88) :: (.v (.int .u8 v98)) :: (dB v104) :: q9 ((dI ((a0.size : Int))) :: (dI v88) :: (dB (decide (v88 < (a0.size : Int)))) :: (dI v88) :: (.v (.str a0)) :: (dI v88) :: (.v (.int .u8 v98)) :: (.v (.int .u8 v98)) :: (dB v103) :: (dB v103) :: d101 :: d102 :: (dB v104) :: (dB v104) :: (dB true) :: (dB true) :: (dI v88) :: (dB false) :: (dB false) :: (.v (.int .u8 v98)) :: (dB true) :: (dB true) :: (.v (.int .u8 v98)) :: (dB false) :: (dB false) :: (dB false) :: u6 ((dB false) :: (dB false) :: (dB false) :: q1 []))), []⟩ (by kernel_rfl) ?_
                              exact J19j128 _ _ _ _ _ _ _ _ _ _ _ _ _ _ _ _ _ _ _ _ h
                            · refine Ops.seg' 3 16 (by kernel_rfl) ?_
                              have G19g136 : ∀ v135 : Bool, (f19_r1 m v88 ((true && ((false || ((true && ((true && ((v135 || (decide (v98 > 57))))))))))))) = some sx96 → Ops (X19 n) (opl (cL (cR (cR (cR (cL (cL (cR (cR (cL (cL (cR (cL (cR (cR C19))))))))))))))) 16 ⟨(.v (.str a0)) :: q1 ((dB false) :: (dI v88) :: (.v (.int .u8 v98)) :: (dB v104) :: q9 ((dI ((a0.size : Int))) :: (dI v88) :: (dB (decide (v88 < (a0.size : Int)))) :: (dI v88) :: (.v (.str a0)) :: (dI v88) :: (.v (.int .u8 v98)) :: (.v (.int .u8 v98)) :: (dB v103) :: (dB v103) :: d101 :: d102 :: (dB v104) :: (dB v104) :: (dB true) :: (dB true) :: (dI v88) :: (dB false) :: (dB false) :: (.v (.int .u8 v98)) :: (dB true) :: (dB true) :: (.v (.int .u8 v98)) :: (dB true) :: (dB true) :: (dB true) :: (.v (.int .u8 v98)) :: (dB v135) :: (dB v135) :: q7 [])), []⟩ ((seqQ (X19 n) (cR (cR (cR (cR (cL (cL (cR (cR (cL (cL (cR (cL (cR (cR C19)))))))))))))) (blkQ (X19 n) 1 [0, 2, 15, 16] 0 (seqQ (X19 n) (cR (cR (cR (cL (cL (cR (cL (cR (cR C19))))))))) (lpQ (X19 n) [0, 2, 15, 16] 0 (cL (cL (cR (cL (cR (cR C19)))))) nx91 (blkQ (X19 n) 0 [2] 0 (seqQ (X19 n) (cR (cR (cR C19))) (fnQ (X19 n).E.T (resOf Proofs.Tryd.prog 19) (eB o)))))))) .normal) := by
                                intro v135 h
                                cases v135
                                · refine Ops.seg' 6 22 (by kernel_rfl) ?_
                                  refine Ops.st ⟨(.v (.str a0)) :: q1 ((dB false) :: (dI v88) :: (.v (.int .u8 v98)) :: (dB v104) :: q9 ((dI ((a0.size : Int))) :: (dI v88) :: (dB (decide (v88 < (a0.size : Int)))) :: (dI v88) :: (.v (.str a0)) :: (dI v88) :: (.v (.int .u8 v98)) :: (.v (.int .u8 v98)) :: (dB v103) :: (dB v103) :: d101 :: d102 :: (dB v104) :: (dB v104) :: (dB true) :: (dB true) :: (dI v88) :: (dB false) :: (dB false) :: (.v (.int .u8 v98)) :: (dB true) :: (dB true) :: (.v (.int .u8 v98)) :: (dB true) :: (dB true) :: (dB true) :: (.v (.int .u8 v98)) :: (dB false) :: (dB false) :: (.v (.int .u8 v98)) :: (dB (decide (v98 > 57))) :: (dB (decide (v98 > 57))) :: (dB (decide (v98 > 57))) :: (dB (decide (v98 > 57))) :: (dB (decide (v98 > 57))) :: q1 [])), []⟩ (by kernel_rfl) ?_
                                  exact J19j128 _ _ _ _ _ _ _ _ _ _ _ _ _ _ _ _ _ _ _ _ h
                                · refine Ops.seg' 6 22 (by kernel_rfl) ?_
                                  refine Ops.st ⟨(.v (.str a0)) :: q1 ((dB false) :: (dI v88) :: (.v (.int .u8 v98)) :: (dB v104) :: q9 ((dI ((a0.size : Int))) :: (dI v88) :: (dB (decide (v88 < (a0.size : Int)))) :: (dI v88) :: (.v (.str a0)) :: (dI v88) :: (.v (.int .u8 v98)) :: (.v (.int .u8 v98)) :: (dB v103) :: (dB v103) :: d101 :: d102 :: (dB v104) :: (dB v104) :: (dB true) :: (dB true) :: (dI v88) :: (dB false) :: (dB false) :: (.v (.int .u8 v98)) :: (dB true) :: (dB true) :: (.v (.int .u8 v98)) :: (dB true) :: (dB true) :: (dB true) :: (.v (.int .u8 v98)) :: (dB true) :: (dB true) :: u2 ((dB true) :: (dB true) :: (dB true) :: (dB true) :: q1 []))), []⟩ (by kernel_rfl) ?_
                                  exact J19j128 _ _ _ _ _ _ _ _ _ _ _ _ _ _ _ _ _ _ _ _ h
                              exact Ops.st ⟨(.v (.str a0)) :: q1 ((dB false) :: (dI v88) :: (.v (.int .u8 v98)) :: (dB v104) :: q9 ((dI ((a0.size : Int))) :: (dI v88) :: (dB (decide (v88 < (a0.size : Int)))) :: (dI v88) :: (.v (.str a0)) :: (dI v88) :: (.v (.int .u8 v98)) :: (.v (.int .u8 v98)) :: (dB v103) :: (dB v103) :: d101 :: d102 :: (dB v104) :: (dB v104) :: (dB true) :: (dB true) :: (dI v88) :: (dB false) :: (dB false) :: (.v (.int .u8 v98)) :: (dB true) :: (dB true) :: (.v (.int .u8 v98)) :: (dB true) :: (dB true) :: (dB true) :: (.v (.int .u8 v98)) :: (dB ((decide (v98 < 48)))) :: (dB ((decide (v98 < 48)))) :: q7 [])), []⟩ (by kernel_rfl) (G19g136 (decide (v98 < 48)) h)
                          exact Ops.st ⟨(.v (.str a0)) :: q1 ((dB false) :: (dI v88) :: (.v (.int .u8 v98)) :: (dB v104) :: q9 ((dI ((a0.size : Int))) :: (dI v88) :: (dB (decide (v88 < (a0.size : Int)))) :: (dI v88) :: (.v (.str a0)) :: (dI v88) :: (.v (.int .u8 v98)) :: (.v (.int .u8 v98)) :: (dB v103) :: (dB v103) :: d101 :: d102 :: (dB v104) :: (dB v104) :: (dB true) :: (dB true) :: (dI v88) :: (dB false) :: (dB false) :: (.v (.int .u8 v98)) :: (dB true) :: (dB true) :: (.v (.int .u8 v98)) :: (dB ((v98 != 45))) :: (dB ((v98 != 45))) :: (dB ((v98 != 45))) :: q10 [])), []⟩ (by kernel_rfl) (G19g134 (v98 != 45) h)
                      exact Ops.st ⟨(.v (.str a0)) :: q1 ((dB false) :: (dI v88) :: (.v (.int .u8 v98)) :: (dB v104) :: q9 ((dI ((a0.size : Int))) :: (dI v88) :: (dB (decide (v88 < (a0.size : Int)))) :: (dI v88) :: (.v (.str a0)) :: (dI v88) :: (.v (.int .u8 v98)) :: (.v (.int .u8 v98)) :: (dB v103) :: (dB v103) :: d101 :: d102 :: (dB v104) :: (dB v104) :: (dB true) :: (dB true) :: (dI v88) :: (dB false) :: (dB false) :: (.v (.int .u8 v98)) :: (dB ((v98 != 95))) :: (dB ((v98 != 95))) :: q14 [])), []⟩ (by kernel_rfl) (G19g132 (v98 != 95) h)
                    · refine Ops.seg' 16 22 (by kernel_rfl) ?_
                      refine Ops.st ⟨(.v (.str a0)) :: q1 ((dB false) :: (dI v88) :: (.v (.int .u8 v98)) :: (dB v104) :: q9 ((dI ((a0.size : Int))) :: (dI v88) :: (dB (decide (v88 < (a0.size : Int)))) :: (dI v88) :: (.v (.str a0)) :: (dI v88) :: (.v (.int .u8 v98)) :: (.v (.int .u8 v98)) :: (dB v103) :: (dB v103) :: d101 :: d102 :: (dB v104) :: (dB v104) :: (dB true) :: (dB true) :: (dI v88) :: (dB true) :: (dB true) :: u14 ((dB true) :: (dB true) :: q1 []))), []⟩ (by kernel_rfl) ?_
                      exact J19j128 _ _ _ _ _ _ _ _ _ _ _ _ _ _ _ _ _ _ _ _ h
                  exact Ops.st ⟨(.v (.str a0)) :: q1 ((dB false) :: (dI v88) :: (.v (.int .u8 v98)) :: (dB v104) :: q9 ((dI ((a0.size : Int))) :: (dI v88) :: (dB (decide (v88 < (a0.size : Int)))) :: (dI v88) :: (.v (.str a0)) :: (dI v88) :: (.v (.int .u8 v98)) :: (.v (.int .u8 v98)) :: (dB v103) :: (dB v103) :: d101 :: d102 :: (dB v104) :: (dB v104) :: (dB true) :: (dB true) :: (dI v88) :: (dB ((v88 == 0))) :: (dB ((v88 == 0))) :: q17 [])), []⟩ (by kernel_rfl) (G19g130 (v88 == 0) h)
              exact Ops.st ⟨(.v (.str a0)) :: q1 ((dB false) :: (dI v88) :: (.v (.int .u8 v98)) :: (dB v104) :: q9 ((dI ((a0.size : Int))) :: (dI v88) :: (dB (decide (v88 < (a0.size : Int)))) :: (dI v88) :: (.v (.str a0)) :: (dI v88) :: (.v (.int .u8 v98)) :: (.v (.int .u8 v98)) :: (dB v103) :: (dB v103) :: d101 :: d102 :: (dB v104) :: (dB v104) :: (dB ((!v104))) :: (dB ((!v104))) :: q20 [])), []⟩ (by kernel_rfl) (G19g107 (!v104) h)
            have G19g100 : ∀ v99 : Bool, f19_r2 m v88 v98 ((v99 && (decide (v98 ≤ 122)))) = some sx96 → Ops (X19 n) (opl (cL (cR (cR (cL (cL (cR (cR (cL (cL (cR (cL (cR (cR C19)))))))))))))) 3 ⟨(.v (.str a0)) :: q1 ((dB false) :: (dI v88) :: (.v (.int .u8 v98)) :: q10 ((dI ((a0.size : Int))) :: (dI v88) :: (dB (decide (v88 < (a0.size : Int)))) :: (dI v88) :: (.v (.str a0)) :: (dI v88) :: (.v (.int .u8 v98)) :: (.v (.int .u8 v98)) :: (dB v99) :: (dB v99) :: q26 [])), []⟩ ((seqQ (X19 n) (cR (cR (cR (cL (cL (cR (cR (cL (cL (cR (cL (cR (cR C19))))))))))))) (blkQ (X19 n) 1 [0, 2, 15, 16] 0 (seqQ (X19 n) (cR (cR (cR (cL (cL (cR (cL (cR (cR C19))))))))) (lpQ (X19 n) [0, 2, 15, 16] 0 (cL (cL (cR (cL (cR (cR C19)))))) nx91 (blkQ (X19 n) 0 [2] 0 (seqQ (X19 n) (cR (cR (cR C19))) (fnQ (X19 n).E.T (resOf Proofs.Tryd.prog 19) (eB o)))))))) .normal) := by
              intro v99 h
              cases v99
              · refine Ops.seg' 3 6 (by kernel_rfl) ?_
                refine Ops.st ⟨(.v (.str a0)) :: q1 ((dB false) :: (dI v88) :: (.v (.int .u8 v98)) :: q10 ((dI ((a0.size : Int))) :: (dI v88) :: (dB (decide (v88 < (a0.size : Int)))) :: (dI v88) :: (.v (.str a0)) :: (dI v88) :: (.v (.int .u8 v98)) :: (.v (.int .u8 v98)) :: (dB false) :: (dB false) :: u2 ((dB false) :: q23 []))), []⟩ (by kernel_rfl) ?_
                exact J19j105 _ _ _ _ h
              · refine Ops.seg' 3 6 (by kernel_rfl) ?_
                refine Ops.st ⟨(.v (.str a0)) :: q1 ((dB false) :: (dI v88) :: (.v (.int .u8 v98)) :: q10 ((dI ((a0.size : Int))) :: (dI v88) :: (dB (decide (v88 < (a0.size : Int)))) :: (dI v88) :: (.v (.str a0)) :: (dI v88) :: (.v (.int .u8 v98)) :: (.v (.int .u8 v98)) :: (dB true) :: (dB true) :: (.v (.int .u8 v98)) :: (dB (decide (v98 ≤ 122))) :: (dB (decide (v98 ≤ 122))) :: q23 [])), []⟩ (by kernel_rfl) ?_
                exact J19j105 _ _ _ _ h
            exact Ops.st ⟨(.v (.str a0)) :: q1 ((dB false) :: (dI v88) :: (.v (.int .u8 v98)) :: q10 ((dI ((a0.size : Int))) :: (dI v88) :: (dB (decide (v88 < (a0.size : Int)))) :: (dI v88) :: (.v (.str a0)) :: (dI v88) :: (.v (.int .u8 v98)) :: (.v (.int .u8 v98)) :: (dB ((decide (v98 ≥ 97)))) :: (dB ((decide (v98 ≥ 97)))) :: q26 [])), []⟩ (by kernel_rfl) (G19g100 (decide (v98 ≥ 97)) h)
          · refine Wp.exit (id := 0) (by kernel_rfl) ?_
            refine sqQ.x ?_
            refine seqQ.x ?_
            cases h
            refine lpQ.x ?_
            refine blkQ.x ⟨(.v (.str a0)) :: q1 ((dB false) :: q12 ((dI ((a0.size : Int))) :: (dI v88) :: q34 [])), []⟩ (by kernel_rfl) ?_
            exact hxx94 v88  hsx97
      refine Wp.loop' [0, 2, 15, 16] 0 (by kernel_rfl) ⟨(.v (.str a0)) :: q1 ((dB false) :: q12 ((dI ((a0.size : Int))) :: (dI 0) :: q34 [])), []⟩ (by kernel_rfl) ?_
      rcases brk_some h with ⟨r139, er139, h⟩ | ⟨y138, ey138, h⟩
      · refine hLx137 _ 0  _ er139 n (by omega) (fun r er σ hσ => ?_) (fun y  ey => by cases ey)
        cases er
        refine seqQ.r ?_
        exact fnQ.r' (X19 n) (fun z => (eB z)) h hσ
      · refine hLx137 _ 0  _ ey138 n (by omega) (fun r er => by cases er) (fun y  ey => ?_)
        cases ey
        refine seqQ.n ?_
        refine Wp.seq' (by kernel_rfl) ?_
        refine Wp.region (by kernel_rfl) ?_
        refine Ops.seg' 1 1 (by kernel_rfl) ?_
        refine Ops.done (by kernel_rfl) ?_
        refine seqQ.n ?_
        refine Wp.ret (by kernel_rfl) ?_
        exact fnQ.r' (X19 n) (fun z => (eB z)) h (RetOk.mk' (dB true) (by kernel_rfl) (by kernel_rfl))
  have G19g2 : ∀ v1 : Bool, f19_r4 m a0 ((v1 || (decide ((a0.size : Int) > 30)))) = some o → Ops (X19 n) (opl (cL (cL (cR C19)))) 4 ⟨(.v (.str a0)) :: u1 ((dB false) :: u3 ((.v (.str a0)) :: (dI ((a0.size : Int))) :: (dB v1) :: (dB v1) :: u40 (u1 []))), []⟩ ((seqQ (X19 n) (cR (cL (cR C19))) (seqQ (X19 n) (cR (cR C19)) (fnQ (X19 n).E.T (resOf Proofs.Tryd.prog 19) (eB o)))) .normal) := by
    intro v1 h
    cases v1
    · refine Ops.seg' 4 8 (by kernel_rfl) ?_
      refine Ops.st ⟨(.v (.str a0)) :: u1 ((dB false) :: u3 ((.v (.str a0)) :: (dI ((a0.size : Int))) :: (dB false) :: (dB false) :: (.v (.str a0)) :: (dI ((a0.size : Int))) :: (dB (decide ((a0.size : Int) > 30))) :: (dB (decide ((a0.size : Int) > 30))) :: u37 [])), []⟩ (by kernel_rfl) ?_
      exact J19j8 _ _ _ _ _ h
    · refine Ops.seg' 4 8 (by kernel_rfl) ?_
      refine Ops.st ⟨(.v (.str a0)) :: u1 ((dB false) :: u3 ((.v (.str a0)) :: (dI ((a0.size : Int))) :: (dB true) :: (dB true) :: u3 ((dB true) :: u37 []))), []⟩ (by kernel_rfl) ?_
      exact J19j8 _ _ _ _ _ h
  exact Ops.st ⟨(.v (.str a0)) :: u1 ((dB false) :: u3 ((.v (.str a0)) :: (dI ((a0.size : Int))) :: (dB ((decide ((a0.size : Int) < 1)))) :: (dB ((decide ((a0.size : Int) < 1)))) :: u40 (u1 []))), []⟩ (by kernel_rfl) (G19g2 (decide ((a0.size : Int) < 1)) h)

end Go.Abs
