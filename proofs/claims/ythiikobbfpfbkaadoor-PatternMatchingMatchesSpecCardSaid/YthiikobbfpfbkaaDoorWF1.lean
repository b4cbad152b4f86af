import Derived.Test.YthiikobbfpfbkaaDoorWEnv
namespace Go.Abs
set_option linter.unusedVariables false
set_option maxRecDepth 100000
noncomputable def f68 (m : Nat) (a0 : Int) : Option Bool :=
  some (a0 != a0)
noncomputable abbrev X68 (n : Nat) : Cx := cxOf Proofs.Tryd.prog E 68 n
noncomputable def C68 : Code := bodyOf Proofs.Tryd.prog 68
theorem ok68 (m : Nat) (a0 : Int) (o : Bool) (h : f68 m a0 = some o) (n : Nat) (hn : m + 1 ≤ n) : Fn Proofs.Tryd.prog E n 68 [.v (eI a0)] (eB o) := by
  obtain ⟨n, rfl⟩ : ∃ q, n = q + 1 := ⟨n - 1, by omega⟩
  unfold f68 at h
  refine Fn.of (by kernel_rfl) (by kernel_rfl) (by kernel_rfl) ⟨(dI a0) :: u5 [], []⟩ (by kernel_rfl) ?_
  refine Wp.sq ?_
  refine Wp.rg ?_
  refine Ops.sg 1 1 ?_
  refine Ops.dn ?_
  refine seqQ.n ?_
  refine Wp.sq ?_
  refine Wp.rg ?_
  refine Ops.sg 4 4 ?_
  refine Ops.dn ?_
  refine seqQ.n ?_
  refine Wp.ret (by kernel_rfl) ?_
  exact fnQ.r' (X68 n) (fun z => (eB z)) h (RetOk.mk' (dB (a0 != a0)) (by kernel_rfl) (by kernel_rfl))
noncomputable def f62_r1 (m : Nat) (v16 : Bool) : Option Bool :=
  some v16
noncomputable def f62_r2 (m : Nat) (a0 : Int) (a1 : Int) (v8 : Bool) : Option Bool :=
  f62_r1 m (v8 || (decide (a0 < a1)))
noncomputable def f62 (m : Nat) (a0 : Int) (a1 : Int) : Option Bool :=
  bnd (f68 m a0) fun v1 =>
  bnd (cnd v1
  (bnd (f68 m a1) fun v18 =>
  some (!v18))
  (some false)) fun v8 =>
  f62_r2 m a0 a1 v8
noncomputable abbrev X62 (n : Nat) : Cx := cxOf Proofs.Tryd.prog E 62 n
noncomputable def C62 : Code := bodyOf Proofs.Tryd.prog 62
theorem ok62 (m : Nat) (a0 : Int) (a1 : Int) (o : Bool) (h : f62 m a0 a1 = some o) (n : Nat) (hn : m + 2 ≤ n) : Fn Proofs.Tryd.prog E n 62 [.v (eI a0), .v (eI a1)] (eB o) := by
  obtain ⟨n, rfl⟩ : ∃ q, n = q + 1 := ⟨n - 1, by omega⟩
  unfold f62 at h
  refine Fn.of (by kernel_rfl) (by kernel_rfl) (by kernel_rfl) ⟨(dI a0) :: (dI a1) :: u15 [], []⟩ (by kernel_rfl) ?_
  refine Wp.sq ?_
  refine Wp.rg ?_
  refine Ops.sg 1 1 ?_
  refine Ops.dn ?_
  refine seqQ.n ?_
  refine Wp.sq ?_
  refine Wp.rg ?_
  refine Ops.sg 1 1 ?_
  obtain ⟨v1, ev1, h⟩ := bnd_some h
  refine Ops.on 2 (fun h0 e0 => (call_ok (E' := E) (h := h0) (by kernel_rfl) (Args.v (vI a0) (eI a0) (by kernel_rfl) Args.nil) (ok68 m a0 v1 ev1 n (by omega)))) ?_
  refine Ops.sg 1 3 ?_
  refine Ops.hv (fun KQ => ∀ (d4 d5 d6 : D) (v7 : Bool) (v8 : Bool), f62_r2 m a0 a1 v8 = some o → KQ 7 ⟨(dI a0) :: (dI a1) :: u2 ((dB false) :: (dI a0) :: (dB v7) :: (dB v7) :: d4 :: d5 :: d6 :: (dB v8) :: u5 []), []⟩) ?_ fun J62j9 => ?_
  · intro d4 d5 d6 v7 v8 h
    unfold f62_r2 at h
    refine Ops.sg 1 8 ?_
    refine Ops.hv (fun KQ => ∀ (d12 d13 d14 : D) (v15 : Bool) (v16 : Bool), f62_r1 m v16 = some o → KQ 12 ⟨(dI a0) :: (dI a1) :: u2 ((dB false) :: (dI a0) :: (dB v7) :: (dB v7) :: d4 :: d5 :: d6 :: (dB v15) :: (dB v15) :: d12 :: d13 :: d14 :: (dB v16) :: []), []⟩) ?_ fun J62j17 => ?_
    · intro d12 d13 d14 v15 v16 h
      unfold f62_r1 at h
      refine Ops.sg 1 13 ?_
      refine Ops.dn ?_
      refine seqQ.n ?_
      refine Wp.ret (by kernel_rfl) ?_
      exact fnQ.r' (X62 n) (fun z => (eB z)) h (RetOk.mk' (dB v16) (by kernel_rfl) (by kernel_rfl))
    refine Ops.hv (fun KQ => ∀ v10 : Bool, f62_r1 m (v10 || (decide (a0 < a1))) = some o → KQ 8 ⟨(dI a0) :: (dI a1) :: u2 ((dB false) :: (dI a0) :: (dB v7) :: (dB v7) :: d4 :: d5 :: d6 :: (dB v10) :: (dB v10) :: u4 []), []⟩) ?_ fun G62g11 => Ops.st _ (by kernel_rfl) (G62g11 v8 h)
    intro v10 h
    cases v10
    · refine Ops.sg 4 12 ?_
      exact Ops.st _ (by kernel_rfl) (J62j17 (dI a0) (dI a1) (dB (decide (a0 < a1))) false (decide (a0 < a1)) h)
    · refine Ops.sg 4 12 ?_
      exact Ops.st _ (by kernel_rfl) (J62j17 U U U true true h)
  obtain ⟨v8, ev8, h⟩ := bnd_some h
  refine Ops.hv (fun KQ => ∀ v2 : Bool, (cnd v2 (bnd (f68 m a1) fun v18 => some (!v18)) (some false)) = some v8 → KQ 3 ⟨(dI a0) :: (dI a1) :: u2 ((dB false) :: (dI a0) :: (dB v2) :: (dB v2) :: u9 []), []⟩) ?_ fun G62g3 => Ops.st _ (by kernel_rfl) (G62g3 v1 ev8)
  intro v2 ev8
  cases v2
  · have ev8 := cnd_f ev8
    refine Ops.sg 4 7 ?_
    exact Ops.st _ (by kernel_rfl) (J62j9 U U U false false (some_sub (fun v8 => f62_r2 m a0 a1 v8 = some o) ev8 h))
  · have ev8 := cnd_t ev8
    refine Ops.sg 1 4 ?_
    obtain ⟨v18, ev18, ev8⟩ := bnd_some ev8
    refine Ops.on 5 (fun h0 e0 => (call_ok (E' := E) (h := h0) (by kernel_rfl) (Args.v (vI a1) (eI a1) (by kernel_rfl) Args.nil) (ok68 m a1 v18 ev18 n (by omega)))) ?_
    refine Ops.sg 2 7 ?_
    exact Ops.st _ (by kernel_rfl) (J62j9 (dI a1) (dB v18) (dB (!v18)) true (!v18) (some_sub (fun v8 => f62_r2 m a0 a1 v8 = some o) ev8 h))
noncomputable def f63 (m : Nat) (a0 : Int) : Option Bool :=
  some (a0 != a0)
noncomputable abbrev X63 (n : Nat) : Cx := cxOf Proofs.Tryd.prog E 63 n
noncomputable def C63 : Code := bodyOf Proofs.Tryd.prog 63
theorem ok63 (m : Nat) (a0 : Int) (o : Bool) (h : f63 m a0 = some o) (n : Nat) (hn : m + 1 ≤ n) : Fn Proofs.Tryd.prog E n 63 [.v (eI a0)] (eB o) := by
  obtain ⟨n, rfl⟩ : ∃ q, n = q + 1 := ⟨n - 1, by omega⟩
  unfold f63 at h
  refine Fn.of (by kernel_rfl) (by kernel_rfl) (by kernel_rfl) ⟨(dI a0) :: u5 [], []⟩ (by kernel_rfl) ?_
  refine Wp.sq ?_
  refine Wp.rg ?_
  refine Ops.sg 1 1 ?_
  refine Ops.dn ?_
  refine seqQ.n ?_
  refine Wp.sq ?_
  refine Wp.rg ?_
  refine Ops.sg 4 4 ?_
  refine Ops.dn ?_
  refine seqQ.n ?_
  refine Wp.ret (by kernel_rfl) ?_
  exact fnQ.r' (X63 n) (fun z => (eB z)) h (RetOk.mk' (dB (a0 != a0)) (by kernel_rfl) (by kernel_rfl))
noncomputable def f54_j1 (m : Nat) (v48 : Int) (v49 : Int) (v51 : Int) (v52 : Bool) : Option (Stp (Int × Bool) (Int × Int)) :=
  some (.nxt (v48, v49))
noncomputable def f54_j2 (m : Nat) (v57 : Int) (v58 : Bool) (v59 : Int) (v60 : Int) : Option (Stp (Int × Bool) (Int × Int)) :=
  f54_j1 m v59 v60 v57 v58
noncomputable def f54_B3 (m : Nat) (a0 : (List Int)) (a1 : Int) (v37 : Int) (v38 : Int) : Option (Stp (Int × Bool) (Int × Int)) :=
  cnd (decide (v37 < v38))
  (bnd (idx a0 (w64 (Int.fdiv (IntKind.u64.wrap (w64 (v37 + v38))) (2 ^ (min (1 : Int).toNat IntKind.u64.bits))))) fun v57 =>
  bnd (f62 m v57 a1) fun v58 =>
  cnd v58
  (f54_j2 m v57 v58 (w64 (w64 (Int.fdiv (IntKind.u64.wrap (w64 (v37 + v38))) (2 ^ (min (1 : Int).toNat IntKind.u64.bits))) + 1)) v38)
  (f54_j2 m v57 v58 v37 (w64 (Int.fdiv (IntKind.u64.wrap (w64 (v37 + v38))) (2 ^ (min (1 : Int).toNat IntKind.u64.bits))))))
  (some (.brk (v37, v38)))
noncomputable def f54_r4 (m : Nat) (y66 : Int × Int) (v88 : Bool) : Option (Int × Bool) :=
  some ((y66.1, v88))
noncomputable def f54 (m : Nat) (a0 : (List Int)) (a1 : Int) : Option (Int × Bool) :=
  brk (iter (fun (y : Int × Int) => f54_B3 m a0 a1 y.1 y.2) m (0, (a0.length : Int))) some fun y66 =>
  bnd (cnd (decide (y66.1 < (a0.length : Int)))
  (bnd (idx a0 y66.1) fun v90 =>
  cnd (v90 == a1)
  (some true)
  (bnd (idx a0 y66.1) fun v93 =>
  bnd (f63 m v93) fun v94 =>
  cnd v94
  (bnd (f63 m a1) fun v97 =>
  some v97)
  (some false)))
  (some false)) fun v88 =>
  f54_r4 m y66 v88
noncomputable abbrev X54 (n : Nat) : Cx := cxOf Proofs.Tryd.prog E 54 n
noncomputable def C54 : Code := bodyOf Proofs.Tryd.prog 54
noncomputable abbrev p54_0 : Code := cR (cR (cR (cR C54)))
noncomputable abbrev k54_0 : List Nat := [0, 1, 4, 5, 6, 7, 8]
theorem ok54 (m : Nat) (a0 : (List Int)) (a1 : Int) (o : (Int × Bool)) (h : f54 m a0 a1 = some o) (n : Nat) (hn : m + 3 ≤ n) : Fn Proofs.Tryd.prog E n 54 [.v ((eL eI) a0), .v (eI a1)] (.tuple [eI o.1, eB o.2]) := by
  obtain ⟨n, rfl⟩ : ∃ q, n = q + 1 := ⟨n - 1, by omega⟩
  unfold f54 at h
  refine Fn.of (by kernel_rfl) (by kernel_rfl) (by kernel_rfl) ⟨(dP eI a0) :: (dI a1) :: u40 (u12 []), []⟩ (by kernel_rfl) ?_
  refine Wp.sq ?_
  refine Wp.rg ?_
  refine Ops.sg 2 2 ?_
  refine Ops.dn ?_
  refine seqQ.n ?_
  refine Wp.sq ?_
  refine Wp.rg ?_
  refine Ops.sg 1 1 ?_
  refine Ops.on 2 (fun h0 e0 => (len_r (T := T) h0 22 3 .plain eI a0 (by kernel_rfl))) ?_
  refine Ops.sg 1 3 ?_
  refine Ops.dn ?_
  refine seqQ.n ?_
  refine Wp.sq ?_
  refine Wp.rg ?_
  refine Ops.sg 3 3 ?_
  refine Ops.dn ?_
  refine seqQ.n ?_
  refine Wp.sq ?_
  refine Wp.block' 0 [0, 1, 4, 5, 6, 7] 0 (by kernel_rfl) ?_
  have hLx65 : ∀ (kx40 : Nat) (v37 : Int) (v38 : Int)  (ox39 : (Int × Bool) ⊕ (Int × Int)), iter (fun (y : Int × Int) => f54_B3 m a0 a1 y.1 y.2) kx40 (v37, v38) = some ox39 → ∀ nx41, kx40 ≤ nx41 → (∀ r, ox39 = .inl r → ∀ σ, RetOk (X54 n) (resOf Proofs.Tryd.prog 54) (.tuple [eI r.1, eB r.2]) σ → (seqQ (X54 n) p54_0 (fnQ (X54 n).E.T (resOf Proofs.Tryd.prog 54) (.tuple [eI o.1, eB o.2]))) .ret σ) → (∀ (y : Int × Int) , ox39 = .inr y → (seqQ (X54 n) p54_0 (fnQ (X54 n).E.T (resOf Proofs.Tryd.prog 54) (.tuple [eI o.1, eB o.2]))) .normal ⟨(dP eI a0) :: (dI a1) :: q2 ((dI 0) :: (dB false) :: (dI (a0.length : Int)) :: (dI y.1) :: (dI y.2) :: q40 (q5 [])), []⟩) → Lp (X54 n) k54_0 0 (cL (cL (cL (cR (cR (cR C54)))))) nx41 ⟨(dP eI a0) :: (dI a1) :: q2 ((dI 0) :: (dB false) :: (dI (a0.length : Int)) :: (dI v37) :: (dI v38) :: q40 (q5 [])), []⟩ (blkQ (X54 n) 0 [0, 1, 4, 5, 6, 7] 0 (seqQ (X54 n) p54_0 (fnQ (X54 n).E.T (resOf Proofs.Tryd.prog 54) (.tuple [eI o.1, eB o.2])))) := by
    intro kx40
    induction kx40 with
    | zero => intro v37 v38  ox39 h; exact (iter_zero h).elim
    | succ kx40 ihx42 =>
      intro v37 v38  ox39 h nx41 hnx45 hrx43 hxx44
      obtain ⟨nx41, rfl⟩ : ∃ q, nx41 = q + 1 := ⟨nx41 - 1, by omega⟩
      obtain ⟨sx46, h, hsx47⟩ := iter_some h
      have h : f54_B3 m a0 a1 v37 v38 = some sx46 := h
      unfold f54_B3 at h
      refine Lp.succ ?_
      refine Wp.sq ?_
      refine Wp.sq ?_
      refine Wp.rg ?_
      refine Ops.sg 3 3 ?_
      refine Ops.dn ?_
      refine seqQ.n ?_
      refine Wp.cnd h k54_0 0 (by kernel_rfl) (fun h => ?_) (fun h => ?_)
      · refine Wp.sk ?_
        refine sqQ.n' ?_
        refine seqQ.n ?_
        have J54j56 : ∀ (v48 : Int) (v49 : Int) (v51 : Int) (v52 : Bool) (d50 : D) (d53 : D) (d54 : D) (d55 : D), f54_j1 m v48 v49 v51 v52 = some sx46 → (lpQ (X54 n) k54_0 0 (cL (cL (cL (cR (cR (cR C54)))))) nx41 (blkQ (X54 n) 0 [0, 1, 4, 5, 6, 7] 0 (seqQ (X54 n) p54_0 (fnQ (X54 n).E.T (resOf Proofs.Tryd.prog 54) (.tuple [eI o.1, eB o.2]))))) .normal ⟨(dP eI a0) :: (dI a1) :: q2 ((dI 0) :: (dB false) :: (dI (a0.length : Int)) :: (dI v48) :: (dI v49) :: (dI (w64 (Int.fdiv (IntKind.u64.wrap (w64 (v37 + v38))) (2 ^ (min (1 : Int).toNat IntKind.u64.bits))))) :: q3 ((dI v37) :: (dI v38) :: (dB (decide (v37 < v38))) :: (dI v37) :: (dI v38) :: (dI (w64 (v37 + v38))) :: (.v (.int .u64 (IntKind.u64.wrap (w64 (v37 + v38))))) :: (.v (.int .u64 (Int.fdiv (IntKind.u64.wrap (w64 (v37 + v38))) (2 ^ (min (1 : Int).toNat IntKind.u64.bits))))) :: (dI (w64 (Int.fdiv (IntKind.u64.wrap (w64 (v37 + v38))) (2 ^ (min (1 : Int).toNat IntKind.u64.bits))))) :: (dP eI a0) :: (dI (w64 (Int.fdiv (IntKind.u64.wrap (w64 (v37 + v38))) (2 ^ (min (1 : Int).toNat IntKind.u64.bits))))) :: d50 :: (dI v51) :: (dI a1) :: (dB v52) :: d53 :: d54 :: d55 :: q23 [])), []⟩ := by
          intro v48 v49 v51 v52 d50 d53 d54 d55 h
          unfold f54_j1 at h
          refine lpQ.n ⟨(dP eI a0) :: (dI a1) :: q2 ((dI 0) :: (dB false) :: (dI (a0.length : Int)) :: (dI v48) :: (dI v49) :: q40 (q5 [])), []⟩ (by kernel_rfl) ?_
          cases h
          exact ihx42 v48 v49  _ hsx47 _ (by omega) hrx43 hxx44
        refine Wp.block' 1 k54_0 0 (by kernel_rfl) ?_
        refine Wp.sq ?_
        refine Wp.rg ?_
        refine Ops.sg 7 7 ?_
        refine Ops.dn ?_
        refine seqQ.n ?_
        refine Wp.sq ?_
        refine Wp.rg ?_
        refine Ops.sg 2 2 ?_
        obtain ⟨v57, ev57, h⟩ := bnd_some h
        refine Ops.on 3 (fun h0 e0 => (ix_r (T := T) h0 22 3 1 .plain eI a0 (w64 (Int.fdiv (IntKind.u64.wrap (w64 (v37 + v38))) (2 ^ (min (1 : Int).toNat IntKind.u64.bits)))) v57 ev57 (by kernel_rfl) (by kernel_rfl) (fun _ => rfl))) ?_
        refine Ops.sg 2 5 ?_
        obtain ⟨v58, ev58, h⟩ := bnd_some h
        refine Ops.on 6 (fun h0 e0 => (call_ok (E' := E) (h := h0) (by kernel_rfl) (Args.v (vI v57) (eI v57) (by kernel_rfl) (Args.v (vI a1) (eI a1) (by kernel_rfl) Args.nil)) (ok62 m v57 a1 v58 ev58 n (by omega)))) ?_
        refine Ops.dn ?_
        refine seqQ.n ?_
        have J54j64 : ∀ (v59 : Int) (v60 : Int) (d61 : D) (d62 : D) (d63 : D), f54_j2 m v57 v58 v59 v60 = some sx46 → (blkQ (X54 n) 1 k54_0 0 (lpQ (X54 n) k54_0 0 (cL (cL (cL (cR (cR (cR C54)))))) nx41 (blkQ (X54 n) 0 [0, 1, 4, 5, 6, 7] 0 (seqQ (X54 n) p54_0 (fnQ (X54 n).E.T (resOf Proofs.Tryd.prog 54) (.tuple [eI o.1, eB o.2])))))) .normal ⟨(dP eI a0) :: (dI a1) :: q2 ((dI 0) :: (dB false) :: (dI (a0.length : Int)) :: (dI v59) :: (dI v60) :: (dI (w64 (Int.fdiv (IntKind.u64.wrap (w64 (v37 + v38))) (2 ^ (min (1 : Int).toNat IntKind.u64.bits))))) :: q3 ((dI v37) :: (dI v38) :: (dB (decide (v37 < v38))) :: (dI v37) :: (dI v38) :: (dI (w64 (v37 + v38))) :: (.v (.int .u64 (IntKind.u64.wrap (w64 (v37 + v38))))) :: (.v (.int .u64 (Int.fdiv (IntKind.u64.wrap (w64 (v37 + v38))) (2 ^ (min (1 : Int).toNat IntKind.u64.bits))))) :: (dI (w64 (Int.fdiv (IntKind.u64.wrap (w64 (v37 + v38))) (2 ^ (min (1 : Int).toNat IntKind.u64.bits))))) :: (dP eI a0) :: (dI (w64 (Int.fdiv (IntKind.u64.wrap (w64 (v37 + v38))) (2 ^ (min (1 : Int).toNat IntKind.u64.bits))))) :: (.vptr [(vI v57)]) :: (dI v57) :: (dI a1) :: (dB v58) :: d61 :: d62 :: d63 :: q23 [])), []⟩ := by
          intro v59 v60 d61 d62 d63 h
          unfold f54_j2 at h
          refine blkQ.n ⟨(dP eI a0) :: (dI a1) :: q2 ((dI 0) :: (dB false) :: (dI (a0.length : Int)) :: (dI v59) :: (dI v60) :: (dI (w64 (Int.fdiv (IntKind.u64.wrap (w64 (v37 + v38))) (2 ^ (min (1 : Int).toNat IntKind.u64.bits))))) :: q3 ((dI v37) :: (dI v38) :: (dB (decide (v37 < v38))) :: (dI v37) :: (dI v38) :: (dI (w64 (v37 + v38))) :: (.v (.int .u64 (IntKind.u64.wrap (w64 (v37 + v38))))) :: (.v (.int .u64 (Int.fdiv (IntKind.u64.wrap (w64 (v37 + v38))) (2 ^ (min (1 : Int).toNat IntKind.u64.bits))))) :: (dI (w64 (Int.fdiv (IntKind.u64.wrap (w64 (v37 + v38))) (2 ^ (min (1 : Int).toNat IntKind.u64.bits))))) :: (dP eI a0) :: (dI (w64 (Int.fdiv (IntKind.u64.wrap (w64 (v37 + v38))) (2 ^ (min (1 : Int).toNat IntKind.u64.bits))))) :: (.vptr [(vI v57)]) :: (dI v57) :: (dI a1) :: (dB v58) :: d61 :: d62 :: d63 :: q23 [])), []⟩ (by kernel_rfl) ?_
          exact J54j56 v59 v60 v57 v58 _ _ _ _ h
        refine Wp.cnd h k54_0 0 (by kernel_rfl) (fun h => ?_) (fun h => ?_)
        · refine Wp.rg ?_
          refine Ops.sg 3 3 ?_
          refine Ops.dn ?_
          refine sqQ.n ⟨(dP eI a0) :: (dI a1) :: q2 ((dI 0) :: (dB false) :: (dI (a0.length : Int)) :: (dI (w64 (w64 (Int.fdiv (IntKind.u64.wrap (w64 (v37 + v38))) (2 ^ (min (1 : Int).toNat IntKind.u64.bits))) + 1))) :: (dI v38) :: (dI (w64 (Int.fdiv (IntKind.u64.wrap (w64 (v37 + v38))) (2 ^ (min (1 : Int).toNat IntKind.u64.bits))))) :: q3 ((dI v37) :: (dI v38) :: (dB (decide (v37 < v38))) :: (dI v37) :: (dI v38) :: (dI (w64 (v37 + v38))) :: (.v (.int .u64 (IntKind.u64.wrap (w64 (v37 + v38))))) :: (.v (.int .u64 (Int.fdiv (IntKind.u64.wrap (w64 (v37 + v38))) (2 ^ (min (1 : Int).toNat IntKind.u64.bits))))) :: (dI (w64 (Int.fdiv (IntKind.u64.wrap (w64 (v37 + v38))) (2 ^ (min (1 : Int).toNat IntKind.u64.bits))))) :: (dP eI a0) :: (dI (w64 (Int.fdiv (IntKind.u64.wrap (w64 (v37 + v38))) (2 ^ (min (1 : Int).toNat IntKind.u64.bits))))) :: (.vptr [(vI v57)]) :: (dI v57) :: (dI a1) :: (dB v58) :: (dI (w64 (Int.fdiv (IntKind.u64.wrap (w64 (v37 + v38))) (2 ^ (min (1 : Int).toNat IntKind.u64.bits))))) :: (dI (w64 (w64 (Int.fdiv (IntKind.u64.wrap (w64 (v37 + v38))) (2 ^ (min (1 : Int).toNat IntKind.u64.bits))) + 1))) :: q24 [])), []⟩ (by kernel_rfl) ?_
          exact J54j64 (w64 (w64 (Int.fdiv (IntKind.u64.wrap (w64 (v37 + v38))) (2 ^ (min (1 : Int).toNat IntKind.u64.bits))) + 1)) v38 _ _ _ h
        · refine Wp.rg ?_
          refine Ops.sg 2 2 ?_
          refine Ops.dn ?_
          refine sqQ.n ⟨(dP eI a0) :: (dI a1) :: q2 ((dI 0) :: (dB false) :: (dI (a0.length : Int)) :: (dI v37) :: (dI (w64 (Int.fdiv (IntKind.u64.wrap (w64 (v37 + v38))) (2 ^ (min (1 : Int).toNat IntKind.u64.bits))))) :: (dI (w64 (Int.fdiv (IntKind.u64.wrap (w64 (v37 + v38))) (2 ^ (min (1 : Int).toNat IntKind.u64.bits))))) :: q3 ((dI v37) :: (dI v38) :: (dB (decide (v37 < v38))) :: (dI v37) :: (dI v38) :: (dI (w64 (v37 + v38))) :: (.v (.int .u64 (IntKind.u64.wrap (w64 (v37 + v38))))) :: (.v (.int .u64 (Int.fdiv (IntKind.u64.wrap (w64 (v37 + v38))) (2 ^ (min (1 : Int).toNat IntKind.u64.bits))))) :: (dI (w64 (Int.fdiv (IntKind.u64.wrap (w64 (v37 + v38))) (2 ^ (min (1 : Int).toNat IntKind.u64.bits))))) :: (dP eI a0) :: (dI (w64 (Int.fdiv (IntKind.u64.wrap (w64 (v37 + v38))) (2 ^ (min (1 : Int).toNat IntKind.u64.bits))))) :: (.vptr [(vI v57)]) :: (dI v57) :: (dI a1) :: (dB v58) :: q2 ((dI (w64 (Int.fdiv (IntKind.u64.wrap (w64 (v37 + v38))) (2 ^ (min (1 : Int).toNat IntKind.u64.bits))))) :: q23 []))), []⟩ (by kernel_rfl) ?_
          exact J54j64 v37 (w64 (Int.fdiv (IntKind.u64.wrap (w64 (v37 + v38))) (2 ^ (min (1 : Int).toNat IntKind.u64.bits)))) _ _ _ h
      · refine Wp.exit (id := 0) (by kernel_rfl) ?_
        refine sqQ.x ?_
        refine seqQ.x ?_
        cases h
        refine lpQ.x ?_
        refine blkQ.x ⟨(dP eI a0) :: (dI a1) :: q2 ((dI 0) :: (dB false) :: (dI (a0.length : Int)) :: (dI v37) :: (dI v38) :: q40 (q5 [])), []⟩ (by kernel_rfl) ?_
        exact hxx44 (v37, v38)  hsx47
  refine Wp.loop' k54_0 0 (by kernel_rfl) ⟨(dP eI a0) :: (dI a1) :: q2 ((dI 0) :: (dB false) :: (dI (a0.length : Int)) :: (dI 0) :: (dI (a0.length : Int)) :: q40 (q5 [])), []⟩ (by kernel_rfl) ?_
  rcases brk_some h with ⟨r67, er67, h⟩ | ⟨y66, ey66, h⟩
  · refine hLx65 _ 0 (a0.length : Int)  _ er67 n (by omega) (fun r er σ hσ => ?_) (fun y  ey => by cases ey)
    cases er
    refine seqQ.r ?_
    exact fnQ.r' (X54 n) (fun z => (.tuple [eI z.1, eB z.2])) h hσ
  · refine hLx65 _ 0 (a0.length : Int)  _ ey66 n (by omega) (fun r er => by cases er) (fun y  ey => ?_)
    cases ey
    refine seqQ.n ?_
    refine Wp.sq ?_
    refine Wp.rg ?_
    refine Ops.sg 5 5 ?_
    refine Ops.hv (fun KQ => ∀ (d70 d71 d72 d73 d74 d75 d76 d77 d78 d79 d80 d81 d82 d83 d84 d85 d86 : D) (v87 : Bool) (v88 : Bool), f54_r4 m y66 v88 = some o → KQ 23 ⟨(dP eI a0) :: (dI a1) :: q2 ((dI 0) :: (dB false) :: (dI (a0.length : Int)) :: (dI y66.1) :: (dI y66.2) :: q22 ((dI y66.1) :: (dI y66.1) :: (dI (a0.length : Int)) :: (dB v87) :: (dB v87) :: d70 :: d71 :: d72 :: d73 :: d74 :: d75 :: d76 :: d77 :: d78 :: d79 :: d80 :: d81 :: d82 :: d83 :: d84 :: d85 :: d86 :: (dB v88) :: [])), []⟩) ?_ fun J54j89 => ?_
    · intro d70 d71 d72 d73 d74 d75 d76 d77 d78 d79 d80 d81 d82 d83 d84 d85 d86 v87 v88 h
      unfold f54_r4 at h
      refine Ops.sg 2 25 ?_
      refine Ops.dn ?_
      refine seqQ.n ?_
      refine Wp.ret (by kernel_rfl) ?_
      exact fnQ.r' (X54 n) (fun z => (.tuple [eI z.1, eB z.2])) h (RetOk.mk' (.v (.tuple [(vI y66.1), (vB v88)])) (by kernel_rfl) (by kernel_rfl))
    obtain ⟨v88, ev88, h⟩ := bnd_some h
    refine Ops.hv (fun KQ => ∀ v68 : Bool, (cnd v68 (bnd (idx a0 y66.1) fun v90 => cnd (v90 == a1) (some true) (bnd (idx a0 y66.1) fun v93 => bnd (f63 m v93) fun v94 => cnd v94 (bnd (f63 m a1) fun v97 => some v97) (some false))) (some false)) = some v88 → KQ 5 ⟨(dP eI a0) :: (dI a1) :: q2 ((dI 0) :: (dB false) :: (dI (a0.length : Int)) :: (dI y66.1) :: (dI y66.2) :: q22 ((dI y66.1) :: (dI y66.1) :: (dI (a0.length : Int)) :: (dB v68) :: (dB v68) :: q18 [])), []⟩) ?_ fun G54g69 => Ops.st _ (by kernel_rfl) (G54g69 (decide (y66.1 < (a0.length : Int))) ev88)
    intro v68 ev88
    cases v68
    · have ev88 := cnd_f ev88
      refine Ops.sg 18 23 ?_
      exact Ops.st _ (by kernel_rfl) (J54j89 U U U U U U U U U U U U U U U U U false false (some_sub (fun v88 => f54_r4 m y66 v88 = some o) ev88 h))
    · have ev88 := cnd_t ev88
      refine Ops.sg 2 7 ?_
      obtain ⟨v90, ev90, ev88⟩ := bnd_some ev88
      refine Ops.on 8 (fun h0 e0 => (ix_r (T := T) h0 22 3 1 .plain eI a0 y66.1 v90 ev90 (by kernel_rfl) (by kernel_rfl) (fun _ => rfl))) ?_
      refine Ops.sg 4 12 ?_
      refine Ops.hv (fun KQ => ∀ v91 : Bool, (cnd v91 (some true) (bnd (idx a0 y66.1) fun v93 => bnd (f63 m v93) fun v94 => cnd v94 (bnd (f63 m a1) fun v97 => some v97) (some false))) = some v88 → KQ 12 ⟨(dP eI a0) :: (dI a1) :: q2 ((dI 0) :: (dB false) :: (dI (a0.length : Int)) :: (dI y66.1) :: (dI y66.2) :: q22 ((dI y66.1) :: (dI y66.1) :: (dI (a0.length : Int)) :: (dB true) :: (dB true) :: (dP eI a0) :: (dI y66.1) :: (.vptr [(vI v90)]) :: (dI v90) :: (dI a1) :: (dB v91) :: (dB v91) :: q11 [])), []⟩) ?_ fun G54g92 => Ops.st _ (by kernel_rfl) (G54g92 (v90 == a1) ev88)
      intro v91 ev88
      cases v91
      · have ev88 := cnd_f ev88
        refine Ops.sg 2 14 ?_
        obtain ⟨v93, ev93, ev88⟩ := bnd_some ev88
        refine Ops.on 15 (fun h0 e0 => (ix_r (T := T) h0 22 3 1 .plain eI a0 y66.1 v93 ev93 (by kernel_rfl) (by kernel_rfl) (fun _ => rfl))) ?_
        refine Ops.sg 1 16 ?_
        obtain ⟨v94, ev94, ev88⟩ := bnd_some ev88
        refine Ops.on 17 (fun h0 e0 => (call_ok (E' := E) (h := h0) (by kernel_rfl) (Args.v (vI v93) (eI v93) (by kernel_rfl) Args.nil) (ok63 m v93 v94 ev94 n (by omega)))) ?_
        refine Ops.sg 1 18 ?_
        refine Ops.hv (fun KQ => ∀ v95 : Bool, (cnd v95 (bnd (f63 m a1) fun v97 => some v97) (some false)) = some v88 → KQ 18 ⟨(dP eI a0) :: (dI a1) :: q2 ((dI 0) :: (dB false) :: (dI (a0.length : Int)) :: (dI y66.1) :: (dI y66.2) :: q22 ((dI y66.1) :: (dI y66.1) :: (dI (a0.length : Int)) :: (dB true) :: (dB true) :: (dP eI a0) :: (dI y66.1) :: (.vptr [(vI v90)]) :: (dI v90) :: (dI a1) :: (dB false) :: (dB false) :: (dP eI a0) :: (dI y66.1) :: (.vptr [(vI v93)]) :: (dI v93) :: (dB v95) :: (dB v95) :: q5 [])), []⟩) ?_ fun G54g96 => Ops.st _ (by kernel_rfl) (G54g96 v94 ev88)
        intro v95 ev88
        cases v95
        · have ev88 := cnd_f ev88
          refine Ops.sg 5 23 ?_
          exact Ops.st _ (by kernel_rfl) (J54j89 (dP eI a0) (dI y66.1) (.vptr [(vI v90)]) (dI v90) (dI a1) (dB false) (dB false) (dP eI a0) (dI y66.1) (.vptr [(vI v93)]) (dI v93) (dB false) (dB false) U U (dB false) (dB false) true false (some_sub (fun v88 => f54_r4 m y66 v88 = some o) ev88 h))
        · have ev88 := cnd_t ev88
          refine Ops.sg 1 19 ?_
          obtain ⟨v97, ev97, ev88⟩ := bnd_some ev88
          refine Ops.on 20 (fun h0 e0 => (call_ok (E' := E) (h := h0) (by kernel_rfl) (Args.v (vI a1) (eI a1) (by kernel_rfl) Args.nil) (ok63 m a1 v97 ev97 n (by omega)))) ?_
          refine Ops.sg 3 23 ?_
          exact Ops.st _ (by kernel_rfl) (J54j89 (dP eI a0) (dI y66.1) (.vptr [(vI v90)]) (dI v90) (dI a1) (dB false) (dB false) (dP eI a0) (dI y66.1) (.vptr [(vI v93)]) (dI v93) (dB true) (dB true) (dI a1) (dB v97) (dB v97) (dB v97) true v97 (some_sub (fun v88 => f54_r4 m y66 v88 = some o) ev88 h))
      · have ev88 := cnd_t ev88
        refine Ops.sg 11 23 ?_
        exact Ops.st _ (by kernel_rfl) (J54j89 (dP eI a0) (dI y66.1) (.vptr [(vI v90)]) (dI v90) (dI a1) (dB true) (dB true) U U U U U U U U U (dB true) true true (some_sub (fun v88 => f54_r4 m y66 v88 = some o) ev88 h))
end Go.Abs
