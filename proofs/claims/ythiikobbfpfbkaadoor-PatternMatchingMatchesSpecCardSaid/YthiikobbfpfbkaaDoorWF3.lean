import Derived.Test.YthiikobbfpfbkaaDoorWF2
namespace Go.Abs
set_option linter.unusedVariables false
set_option maxRecDepth 100000
noncomputable def f7_r1 (m : Nat) (v96 : Int) (v125 : Bool) : Option (Stp Bool (Bool × Int)) :=
  some (.nxt (v125, w64 (v96 + 1)))
noncomputable def f7_r2 (m : Nat) (v95 : Bool) (v96 : Int) (v107 : (Bool × S27)) (v109 : (Bool × S27)) (v116 : Bool) : Option (Stp Bool (Bool × Int)) :=
  cnd v116
  (some (.ret false))
  (f7_r1 m v96 (v95 || (v107.1 && v109.1)))
noncomputable def f7_B3 (m : Nat) (a0 : S24) (a1 : S24) (a2 : (List Int)) (v95 : Bool) (v96 : Int) : Option (Stp Bool (Bool × Int)) :=
  cnd (decide (v96 ≤ (a2.length : Int)))
  (bnd (sub a2 0 v96) fun v106 =>
  bnd (f16 m a0 v106) fun v107 =>
  bnd (sub a2 v96 (a2.length : Int)) fun v108 =>
  bnd (f16 m a1 v108) fun v109 =>
  f7_r2 m v95 v96 v107 v109 ((!((v107.2.fCode == 0) && ((v107.2.fIndex == 0) && true))) || (!((v109.2.fCode == 0) && ((v109.2.fIndex == 0) && true)))))
  (some (.brk (v95, v96)))
noncomputable def f7_r4 (m : Nat) (v167 : Bool) : Option Bool :=
  some v167
noncomputable def f7_r5 (m : Nat) (v11 : (Bool × S27)) (y130 : Bool × Int) (v159 : Bool) : Option Bool :=
  f7_r4 m (v159 && (v11.1 == y130.1))
noncomputable def f7_r6 (m : Nat) (v3 : (Bool × S27)) (v9 : (Bool × S27)) (v11 : (Bool × S27)) (y130 : Bool × Int) (v135 : Bool) (v147 : Bool) : Option Bool :=
  f7_r5 m v11 y130 (v147 && (bif v135 then v9.1 == (!v3.1) else v9.1 == false))
noncomputable def f7_r7 (m : Nat) (v3 : (Bool × S27)) (v5 : (Bool × S27)) (v7 : (Bool × S27)) (v9 : (Bool × S27)) (v11 : (Bool × S27)) (y130 : Bool × Int) (v135 : Bool) (v136 : Bool) : Option Bool :=
  f7_r6 m v3 v9 v11 y130 v135 ((v5.1 == v136) && (bif v135 then v7.1 == v3.1 else v7.1 == false))
noncomputable def f7_r8 (m : Nat) (a0 : S24) (a1 : S24) (a2 : (List Int)) (v2 : (Bool × S27)) (v3 : (Bool × S27)) (v5 : (Bool × S27)) (v7 : (Bool × S27)) (v9 : (Bool × S27)) (v11 : (Bool × S27)) (v50 : Bool) : Option Bool :=
  cnd v50
  (some true)
  (brk (iter (fun (y : Bool × Int) => f7_B3 m a0 a1 a2 y.1 y.2) m (false, 0)) some fun y130 =>
  f7_r7 m v3 v5 v7 v9 v11 y130 v2.1 (v2.1 || v3.1))
noncomputable def f7_r9 (m : Nat) (a0 : S24) (a1 : S24) (a2 : (List Int)) (v2 : (Bool × S27)) (v3 : (Bool × S27)) (v5 : (Bool × S27)) (v7 : (Bool × S27)) (v9 : (Bool × S27)) (v11 : (Bool × S27)) (v42 : Bool) : Option Bool :=
  f7_r8 m a0 a1 a2 v2 v3 v5 v7 v9 v11 (v42 || (!((v11.2.fCode == 0) && ((v11.2.fIndex == 0) && true))))
noncomputable def f7_r10 (m : Nat) (a0 : S24) (a1 : S24) (a2 : (List Int)) (v2 : (Bool × S27)) (v3 : (Bool × S27)) (v5 : (Bool × S27)) (v7 : (Bool × S27)) (v9 : (Bool × S27)) (v11 : (Bool × S27)) (v34 : Bool) : Option Bool :=
  f7_r9 m a0 a1 a2 v2 v3 v5 v7 v9 v11 (v34 || (!((v9.2.fCode == 0) && ((v9.2.fIndex == 0) && true))))
noncomputable def f7_r11 (m : Nat) (a0 : S24) (a1 : S24) (a2 : (List Int)) (v2 : (Bool × S27)) (v3 : (Bool × S27)) (v5 : (Bool × S27)) (v7 : (Bool × S27)) (v9 : (Bool × S27)) (v11 : (Bool × S27)) (v26 : Bool) : Option Bool :=
  f7_r10 m a0 a1 a2 v2 v3 v5 v7 v9 v11 (v26 || (!((v7.2.fCode == 0) && ((v7.2.fIndex == 0) && true))))
noncomputable def f7_r12 (m : Nat) (a0 : S24) (a1 : S24) (a2 : (List Int)) (v2 : (Bool × S27)) (v3 : (Bool × S27)) (v5 : (Bool × S27)) (v7 : (Bool × S27)) (v9 : (Bool × S27)) (v11 : (Bool × S27)) (v18 : Bool) : Option Bool :=
  f7_r11 m a0 a1 a2 v2 v3 v5 v7 v9 v11 (v18 || (!((v5.2.fCode == 0) && ((v5.2.fIndex == 0) && true))))
noncomputable def f7 (m : Nat) (a0 : S24) (a1 : S24) (a2 : (List Int)) : Option Bool :=
  bnd (f8 m ) fun v1 =>
  cnd (!v1)
  (some false)
  (bnd (f16 m a0 a2) fun v2 =>
  bnd (f16 m a1 a2) fun v3 =>
  bnd (f20 m 4 a0 a1) fun v4 =>
  bnd (f16 m v4 a2) fun v5 =>
  bnd (f20 m 6 a0 a1) fun v6 =>
  bnd (f16 m v6 a2) fun v7 =>
  bnd (f20 m 7 a0 a1) fun v8 =>
  bnd (f16 m v8 a2) fun v9 =>
  bnd (f20 m 3 a0 a1) fun v10 =>
  bnd (f16 m v10 a2) fun v11 =>
  f7_r12 m a0 a1 a2 v2 v3 v5 v7 v9 v11 ((!((v2.2.fCode == 0) && ((v2.2.fIndex == 0) && true))) || (!((v3.2.fCode == 0) && ((v3.2.fIndex == 0) && true)))))
noncomputable abbrev X7 (n : Nat) : Cx := cxOf Proofs.Tryd.prog EG 7 n
noncomputable def C7 : Code := bodyOf Proofs.Tryd.prog 7
noncomputable abbrev p7_0 : Code := cR (cR (cR (cR (cR (cR (cR (cR (cR (cR (cR C7))))))))))
noncomputable abbrev b7_0 (w0 : S24) : AObj := .cells [(dI w0.fKind), (dP eI w0.fLabels), (dP ep24 w0.fSubs), (dI w0.fLeast), (dI w0.fMost)]
noncomputable abbrev b7_1 (w0 : (Bool × S27)) : AObj := .cells [(dI w0.2.fCode), (dI w0.2.fIndex)]
noncomputable abbrev k7_0 : List Nat := [2, 3, 4, 6, 7, 9, 11, 13, 15, 17, 19, 20]
theorem f7_hLx129 (m : Nat) (a0 : S24) (a1 : S24) (a2 : (List Int)) (o : Bool) (n : Nat) (hn : 2 * m + 5 ≤ n + 1) (v2 : (Bool × S27)) (v3 : (Bool × S27)) (v5 : (Bool × S27)) (v7 : (Bool × S27)) (v9 : (Bool × S27)) (v11 : (Bool × S27)) : ∀ (kx98 : Nat) (v95 : Bool) (v96 : Int)  (ox97 : Bool ⊕ (Bool × Int)), iter (fun (y : Bool × Int) => f7_B3 m a0 a1 a2 y.1 y.2) kx98 (v95, v96) = some ox97 → ∀ nx99, kx98 ≤ nx99 → (∀ r, ox97 = .inl r → ∀ σ, RetOk (X7 n) (resOf Proofs.Tryd.prog 7) (eB r) σ → (seqQ (X7 n) p7_0 (fnQ (X7 n).E.T (resOf Proofs.Tryd.prog 7) (eB o))) .ret σ) → (∀ (y : Bool × Int) , ox97 = .inr y → (seqQ (X7 n) p7_0 (fnQ (X7 n).E.T (resOf Proofs.Tryd.prog 7) (eB o))) .normal ⟨q2 ((dP eI a2) :: (.ptr 0 0) :: (.ptr 1 0) :: q1 ((dB false) :: (dB v2.1) :: q1 ((dB v3.1) :: q1 ((dB v5.1) :: q1 ((dB v7.1) :: q1 ((dB v9.1) :: q1 ((dB v11.1) :: q1 ((dB y.1) :: (dI y.2) :: q40 (q40 (q40 (q23 []))))))))))), [(b7_0 a0), (b7_0 a1), (b7_1 v2), (b7_1 v3), (b7_1 v5), (b7_1 v7), (b7_1 v9), (b7_1 v11)]⟩) → Lp (X7 n) k7_0 8 (cL (cL (cR (cL (cR (cR (cR (cR (cR (cR (cR (cR (cR (cR C7)))))))))))))) nx99 ⟨q2 ((dP eI a2) :: (.ptr 0 0) :: (.ptr 1 0) :: q1 ((dB false) :: (dB v2.1) :: q1 ((dB v3.1) :: q1 ((dB v5.1) :: q1 ((dB v7.1) :: q1 ((dB v9.1) :: q1 ((dB v11.1) :: q1 ((dB v95) :: (dI v96) :: q40 (q40 (q40 (q23 []))))))))))), [(b7_0 a0), (b7_0 a1), (b7_1 v2), (b7_1 v3), (b7_1 v5), (b7_1 v7), (b7_1 v9), (b7_1 v11)]⟩ (blkQ (X7 n) 0 [6, 7, 9, 11, 13, 15, 17, 19] 8 (seqQ (X7 n) p7_0 (fnQ (X7 n).E.T (resOf Proofs.Tryd.prog 7) (eB o)))) := by
  intro kx98
  induction kx98 with
  | zero => intro v95 v96  ox97 h; exact (iter_zero h).elim
  | succ kx98 ihx100 =>
    intro v95 v96  ox97 h nx99 hnx103 hrx101 hxx102
    obtain ⟨nx99, rfl⟩ : ∃ q, nx99 = q + 1 := ⟨nx99 - 1, by omega⟩
    obtain ⟨sx104, h, hsx105⟩ := iter_some h
    have h : f7_B3 m a0 a1 a2 v95 v96 = some sx104 := h
    unfold f7_B3 at h
    refine Lp.succ ?_
    refine Wp.sq ?_
    refine Wp.sq ?_
    refine Wp.rg ?_
    refine Ops.sg 2 2 ?_
    refine Ops.on 3 (fun h0 e0 => (len_r (T := T) h0 22 3 .plain eI a2 (by kernel_rfl))) ?_
    refine Ops.sg 1 4 ?_
    refine Ops.dn ?_
    refine seqQ.n ?_
    refine Wp.cnd h k7_0 8 (by kernel_rfl) (fun h => ?_) (fun h => ?_)
    · refine Wp.sk ?_
      refine sqQ.n' ?_
      refine seqQ.n ?_
      refine Wp.sq ?_
      refine Wp.block' 1 k7_0 8 (by kernel_rfl) ?_
      refine Wp.sq ?_
      refine Wp.rg ?_
      refine Ops.sg 3 3 ?_
      obtain ⟨v106, ev106, h⟩ := bnd_some h
      refine Ops.on 4 (fun h0 e0 => (sub_r (T := T) h0 22 3 1 .plain eI a2 v106 none (some v96) rfl ev106 (by kernel_rfl) (by kernel_rfl) (fun _ => rfl))) ?_
      obtain ⟨v107, ev107, h⟩ := bnd_some h
      refine Ops.on 5 (fun h0 e0 => (call_ok (E' := EG) (h := h0) (by kernel_rfl) (Args.v (.agg [(vI a0.fKind), (vP eI a0.fLabels), (vP ep24 a0.fSubs), (vI a0.fLeast), (vI a0.fMost)]) (e24 a0) (by kernel_rfl) (Args.v (vP eI v106) ((eL eI) v106) (by kernel_rfl) Args.nil)) (ok16 m a0 v106 v107 ev107 n (by omega)))) ?_
      refine Ops.sg 6 11 ?_
      refine Ops.dn ?_
      refine seqQ.n ?_
      refine Wp.sq ?_
      refine Wp.rg ?_
      refine Ops.sg 3 3 ?_
      obtain ⟨v108, ev108, h⟩ := bnd_some h
      refine Ops.on 4 (fun h0 e0 => (sub_r (T := T) h0 22 3 1 .plain eI a2 v108 (some v96) none rfl ev108 (by kernel_rfl) (by kernel_rfl) (fun _ => rfl))) ?_
      obtain ⟨v109, ev109, h⟩ := bnd_some h
      refine Ops.on 5 (fun h0 e0 => (call_ok (E' := EG) (h := h0) (by kernel_rfl) (Args.v (.agg [(vI a1.fKind), (vP eI a1.fLabels), (vP ep24 a1.fSubs), (vI a1.fLeast), (vI a1.fMost)]) (e24 a1) (by kernel_rfl) (Args.v (vP eI v108) ((eL eI) v108) (by kernel_rfl) Args.nil)) (ok16 m a1 v108 v109 ev109 n (by omega)))) ?_
      refine Ops.sg 6 11 ?_
      refine Ops.dn ?_
      refine seqQ.n ?_
      refine Wp.sq ?_
      refine Wp.sq ?_
      refine Wp.rg ?_
      refine Ops.sg 4 4 ?_
      refine Ops.hv (fun KQ => ∀ (d112 d113 d114 : D) (v115 : Bool) (v116 : Bool), f7_r2 m v95 v96 v107 v109 v116 = some sx104 → KQ 8 ⟨q2 ((dP eI a2) :: (.ptr 0 0) :: (.ptr 1 0) :: q1 ((dB false) :: (dB v2.1) :: q1 ((dB v3.1) :: q1 ((dB v5.1) :: q1 ((dB v7.1) :: q1 ((dB v9.1) :: q1 ((dB v11.1) :: q1 ((dB v95) :: (dI v96) :: (dB v107.1) :: (.ptr 8 0) :: (dB v109.1) :: (.ptr 9 0) :: q40 (q34 ((dI v96) :: (dP eI a2) :: (dI (a2.length : Int)) :: (dB (decide (v96 ≤ (a2.length : Int)))) :: q2 ((.v (.tuple [(vB v107.1), (.agg [(vI v107.2.fCode), (vI v107.2.fIndex)])])) :: (.v (.agg [(vI a0.fKind), (vP eI a0.fLabels), (vP ep24 a0.fSubs), (vI a0.fLeast), (vI a0.fMost)])) :: (dP eI a2) :: (dI v96) :: (dP eI v106) :: (.v (.tuple [(vB v107.1), (.agg [(vI v107.2.fCode), (vI v107.2.fIndex)])])) :: (dB v107.1) :: (.v (.agg [(vI v107.2.fCode), (vI v107.2.fIndex)])) :: (.v (.tuple [(vB v109.1), (.agg [(vI v109.2.fCode), (vI v109.2.fIndex)])])) :: (.v (.agg [(vI a1.fKind), (vP eI a1.fLabels), (vP ep24 a1.fSubs), (vI a1.fLeast), (vI a1.fMost)])) :: (dP eI a2) :: (dI v96) :: (dP eI v108) :: (.v (.tuple [(vB v109.1), (.agg [(vI v109.2.fCode), (vI v109.2.fIndex)])])) :: (dB v109.1) :: (.v (.agg [(vI v109.2.fCode), (vI v109.2.fIndex)])) :: (.v (.agg [(vI v107.2.fCode), (vI v107.2.fIndex)])) :: (.v (.agg [(vI 0), (vI 0)])) :: (dB v115) :: (dB v115) :: d112 :: d113 :: d114 :: (dB v116) :: q35 []))))))))))), [(b7_0 a0), (b7_0 a1), (b7_1 v2), (b7_1 v3), (b7_1 v5), (b7_1 v7), (b7_1 v9), (b7_1 v11), (b7_1 v107), (b7_1 v109)]⟩) ?_ fun J7j117 => ?_
      · intro d112 d113 d114 v115 v116 h
        unfold f7_r2 at h
        refine Ops.dn ?_
        refine seqQ.n ?_
        refine Wp.cnd h [2, 3, 4, 6, 7, 9, 11, 13, 15, 17, 19, 20, 21, 23] 10 (by kernel_rfl) (fun h => ?_) (fun h => ?_)
        · refine Wp.sq ?_
          refine Wp.rg ?_
          refine Ops.sg 1 1 ?_
          refine Ops.dn ?_
          refine seqQ.n ?_
          refine Wp.ret (by kernel_rfl) ?_
          refine sqQ.r ?_
          refine seqQ.r ?_
          refine blkQ.r ?_
          refine seqQ.r ?_
          cases h
          refine lpQ.r ?_
          refine blkQ.r ?_
          exact hrx101 _ hsx105 _ (RetOk.forget k7_0 (by kernel_rfl) (RetOk.mk' (dB false) (by kernel_rfl) (by kernel_rfl)))
        · refine Wp.sk ?_
          refine sqQ.n' ?_
          refine seqQ.n ?_
          refine Wp.rg ?_
          refine Ops.sg 2 2 ?_
          refine Ops.hv (fun KQ => ∀ (d120 d121 d122 d123 : D) (v124 : Bool) (v125 : Bool), f7_r1 m v96 v125 = some sx104 → KQ 7 ⟨q2 ((dP eI a2) :: (.ptr 0 0) :: (.ptr 1 0) :: q1 ((dB false) :: (dB v2.1) :: q1 ((dB v3.1) :: q1 ((dB v5.1) :: q1 ((dB v7.1) :: q1 ((dB v9.1) :: q1 ((dB v11.1) :: q1 ((dB v124) :: (dI v96) :: (dB v107.1) :: (.ptr 8 0) :: (dB v109.1) :: (.ptr 9 0) :: q40 (q34 ((dI v96) :: (dP eI a2) :: (dI (a2.length : Int)) :: (dB (decide (v96 ≤ (a2.length : Int)))) :: q2 ((.v (.tuple [(vB v107.1), (.agg [(vI v107.2.fCode), (vI v107.2.fIndex)])])) :: (.v (.agg [(vI a0.fKind), (vP eI a0.fLabels), (vP ep24 a0.fSubs), (vI a0.fLeast), (vI a0.fMost)])) :: (dP eI a2) :: (dI v96) :: (dP eI v106) :: (.v (.tuple [(vB v107.1), (.agg [(vI v107.2.fCode), (vI v107.2.fIndex)])])) :: (dB v107.1) :: (.v (.agg [(vI v107.2.fCode), (vI v107.2.fIndex)])) :: (.v (.tuple [(vB v109.1), (.agg [(vI v109.2.fCode), (vI v109.2.fIndex)])])) :: (.v (.agg [(vI a1.fKind), (vP eI a1.fLabels), (vP ep24 a1.fSubs), (vI a1.fLeast), (vI a1.fMost)])) :: (dP eI a2) :: (dI v96) :: (dP eI v108) :: (.v (.tuple [(vB v109.1), (.agg [(vI v109.2.fCode), (vI v109.2.fIndex)])])) :: (dB v109.1) :: (.v (.agg [(vI v109.2.fCode), (vI v109.2.fIndex)])) :: (.v (.agg [(vI v107.2.fCode), (vI v107.2.fIndex)])) :: (.v (.agg [(vI 0), (vI 0)])) :: (dB v115) :: (dB v115) :: d112 :: d113 :: d114 :: (dB v116) :: (dB v124) :: (dB v124) :: d120 :: d121 :: d122 :: d123 :: (dB v125) :: q28 []))))))))))), [(b7_0 a0), (b7_0 a1), (b7_1 v2), (b7_1 v3), (b7_1 v5), (b7_1 v7), (b7_1 v9), (b7_1 v11), (b7_1 v107), (b7_1 v109)]⟩) ?_ fun J7j126 => ?_
          · intro d120 d121 d122 d123 v124 v125 h
            unfold f7_r1 at h
            refine Ops.sg 1 8 ?_
            refine Ops.dn ?_
            refine blkQ.n' ?_
            refine seqQ.n ?_
            refine Wp.rg ?_
            refine Ops.sg 3 3 ?_
            refine Ops.dn ?_
            refine lpQ.n ⟨q2 ((dP eI a2) :: (.ptr 0 0) :: (.ptr 1 0) :: q1 ((dB false) :: (dB v2.1) :: q1 ((dB v3.1) :: q1 ((dB v5.1) :: q1 ((dB v7.1) :: q1 ((dB v9.1) :: q1 ((dB v11.1) :: q1 ((dB v125) :: (dI (w64 (v96 + 1))) :: q40 (q40 (q40 (q23 []))))))))))), [(b7_0 a0), (b7_0 a1), (b7_1 v2), (b7_1 v3), (b7_1 v5), (b7_1 v7), (b7_1 v9), (b7_1 v11)]⟩ (by kernel_rfl) ?_
            cases h
            exact ihx100 v125 (w64 (v96 + 1))  _ hsx105 _ (by omega) hrx101 hxx102
          refine Ops.hv (fun KQ => ∀ v118 : Bool, f7_r1 m v96 (v118 || (v107.1 && v109.1)) = some sx104 → KQ 2 ⟨q2 ((dP eI a2) :: (.ptr 0 0) :: (.ptr 1 0) :: q1 ((dB false) :: (dB v2.1) :: q1 ((dB v3.1) :: q1 ((dB v5.1) :: q1 ((dB v7.1) :: q1 ((dB v9.1) :: q1 ((dB v11.1) :: q1 ((dB v118) :: (dI v96) :: (dB v107.1) :: (.ptr 8 0) :: (dB v109.1) :: (.ptr 9 0) :: q40 (q34 ((dI v96) :: (dP eI a2) :: (dI (a2.length : Int)) :: (dB (decide (v96 ≤ (a2.length : Int)))) :: q2 ((.v (.tuple [(vB v107.1), (.agg [(vI v107.2.fCode), (vI v107.2.fIndex)])])) :: (.v (.agg [(vI a0.fKind), (vP eI a0.fLabels), (vP ep24 a0.fSubs), (vI a0.fLeast), (vI a0.fMost)])) :: (dP eI a2) :: (dI v96) :: (dP eI v106) :: (.v (.tuple [(vB v107.1), (.agg [(vI v107.2.fCode), (vI v107.2.fIndex)])])) :: (dB v107.1) :: (.v (.agg [(vI v107.2.fCode), (vI v107.2.fIndex)])) :: (.v (.tuple [(vB v109.1), (.agg [(vI v109.2.fCode), (vI v109.2.fIndex)])])) :: (.v (.agg [(vI a1.fKind), (vP eI a1.fLabels), (vP ep24 a1.fSubs), (vI a1.fLeast), (vI a1.fMost)])) :: (dP eI a2) :: (dI v96) :: (dP eI v108) :: (.v (.tuple [(vB v109.1), (.agg [(vI v109.2.fCode), (vI v109.2.fIndex)])])) :: (dB v109.1) :: (.v (.agg [(vI v109.2.fCode), (vI v109.2.fIndex)])) :: (.v (.agg [(vI v107.2.fCode), (vI v107.2.fIndex)])) :: (.v (.agg [(vI 0), (vI 0)])) :: (dB v115) :: (dB v115) :: d112 :: d113 :: d114 :: (dB v116) :: (dB v118) :: (dB v118) :: q33 []))))))))))), [(b7_0 a0), (b7_0 a1), (b7_1 v2), (b7_1 v3), (b7_1 v5), (b7_1 v7), (b7_1 v9), (b7_1 v11), (b7_1 v107), (b7_1 v109)]⟩) ?_ fun G7g119 => Ops.st _ (by kernel_rfl) (G7g119 v95 h)
          intro v118 h
          cases v118
          · refine Ops.sg 2 4 ?_
            refine Ops.hv (fun KQ => ∀ v127 : Bool, (f7_r1 m v96 (false || (v127 && v109.1))) = some sx104 → KQ 4 ⟨q2 ((dP eI a2) :: (.ptr 0 0) :: (.ptr 1 0) :: q1 ((dB false) :: (dB v2.1) :: q1 ((dB v3.1) :: q1 ((dB v5.1) :: q1 ((dB v7.1) :: q1 ((dB v9.1) :: q1 ((dB v11.1) :: q1 ((dB false) :: (dI v96) :: (dB v107.1) :: (.ptr 8 0) :: (dB v109.1) :: (.ptr 9 0) :: q40 (q34 ((dI v96) :: (dP eI a2) :: (dI (a2.length : Int)) :: (dB (decide (v96 ≤ (a2.length : Int)))) :: q2 ((.v (.tuple [(vB v107.1), (.agg [(vI v107.2.fCode), (vI v107.2.fIndex)])])) :: (.v (.agg [(vI a0.fKind), (vP eI a0.fLabels), (vP ep24 a0.fSubs), (vI a0.fLeast), (vI a0.fMost)])) :: (dP eI a2) :: (dI v96) :: (dP eI v106) :: (.v (.tuple [(vB v107.1), (.agg [(vI v107.2.fCode), (vI v107.2.fIndex)])])) :: (dB v107.1) :: (.v (.agg [(vI v107.2.fCode), (vI v107.2.fIndex)])) :: (.v (.tuple [(vB v109.1), (.agg [(vI v109.2.fCode), (vI v109.2.fIndex)])])) :: (.v (.agg [(vI a1.fKind), (vP eI a1.fLabels), (vP ep24 a1.fSubs), (vI a1.fLeast), (vI a1.fMost)])) :: (dP eI a2) :: (dI v96) :: (dP eI v108) :: (.v (.tuple [(vB v109.1), (.agg [(vI v109.2.fCode), (vI v109.2.fIndex)])])) :: (dB v109.1) :: (.v (.agg [(vI v109.2.fCode), (vI v109.2.fIndex)])) :: (.v (.agg [(vI v107.2.fCode), (vI v107.2.fIndex)])) :: (.v (.agg [(vI 0), (vI 0)])) :: (dB v115) :: (dB v115) :: d112 :: d113 :: d114 :: (dB v116) :: (dB false) :: (dB false) :: (dB v127) :: (dB v127) :: q31 []))))))))))), [(b7_0 a0), (b7_0 a1), (b7_1 v2), (b7_1 v3), (b7_1 v5), (b7_1 v7), (b7_1 v9), (b7_1 v11), (b7_1 v107), (b7_1 v109)]⟩) ?_ fun G7g128 => Ops.st _ (by kernel_rfl) (G7g128 v107.1 h)
            intro v127 h
            cases v127
            · refine Ops.sg 3 7 ?_
              exact Ops.st _ (by kernel_rfl) (J7j126 (dB false) (dB false) U (dB false) false false h)
            · refine Ops.sg 3 7 ?_
              exact Ops.st _ (by kernel_rfl) (J7j126 (dB true) (dB true) (dB v109.1) (dB v109.1) false v109.1 h)
          · refine Ops.sg 5 7 ?_
            exact Ops.st _ (by kernel_rfl) (J7j126 U U U U true true h)
      refine Ops.hv (fun KQ => ∀ v110 : Bool, f7_r2 m v95 v96 v107 v109 (v110 || (!((v109.2.fCode == 0) && ((v109.2.fIndex == 0) && true)))) = some sx104 → KQ 4 ⟨q2 ((dP eI a2) :: (.ptr 0 0) :: (.ptr 1 0) :: q1 ((dB false) :: (dB v2.1) :: q1 ((dB v3.1) :: q1 ((dB v5.1) :: q1 ((dB v7.1) :: q1 ((dB v9.1) :: q1 ((dB v11.1) :: q1 ((dB v95) :: (dI v96) :: (dB v107.1) :: (.ptr 8 0) :: (dB v109.1) :: (.ptr 9 0) :: q40 (q34 ((dI v96) :: (dP eI a2) :: (dI (a2.length : Int)) :: (dB (decide (v96 ≤ (a2.length : Int)))) :: q2 ((.v (.tuple [(vB v107.1), (.agg [(vI v107.2.fCode), (vI v107.2.fIndex)])])) :: (.v (.agg [(vI a0.fKind), (vP eI a0.fLabels), (vP ep24 a0.fSubs), (vI a0.fLeast), (vI a0.fMost)])) :: (dP eI a2) :: (dI v96) :: (dP eI v106) :: (.v (.tuple [(vB v107.1), (.agg [(vI v107.2.fCode), (vI v107.2.fIndex)])])) :: (dB v107.1) :: (.v (.agg [(vI v107.2.fCode), (vI v107.2.fIndex)])) :: (.v (.tuple [(vB v109.1), (.agg [(vI v109.2.fCode), (vI v109.2.fIndex)])])) :: (.v (.agg [(vI a1.fKind), (vP eI a1.fLabels), (vP ep24 a1.fSubs), (vI a1.fLeast), (vI a1.fMost)])) :: (dP eI a2) :: (dI v96) :: (dP eI v108) :: (.v (.tuple [(vB v109.1), (.agg [(vI v109.2.fCode), (vI v109.2.fIndex)])])) :: (dB v109.1) :: (.v (.agg [(vI v109.2.fCode), (vI v109.2.fIndex)])) :: (.v (.agg [(vI v107.2.fCode), (vI v107.2.fIndex)])) :: (.v (.agg [(vI 0), (vI 0)])) :: (dB v110) :: (dB v110) :: q39 []))))))))))), [(b7_0 a0), (b7_0 a1), (b7_1 v2), (b7_1 v3), (b7_1 v5), (b7_1 v7), (b7_1 v9), (b7_1 v11), (b7_1 v107), (b7_1 v109)]⟩) ?_ fun G7g111 => Ops.st _ (by kernel_rfl) (G7g111 (!((v107.2.fCode == 0) && ((v107.2.fIndex == 0) && true))) h)
      intro v110 h
      cases v110
      · refine Ops.sg 4 8 ?_
        exact Ops.st _ (by kernel_rfl) (J7j117 ((.v (.agg [(vI v109.2.fCode), (vI v109.2.fIndex)]))) ((.v (.agg [(vI 0), (vI 0)]))) (dB (!((v109.2.fCode == 0) && ((v109.2.fIndex == 0) && true)))) false (!((v109.2.fCode == 0) && ((v109.2.fIndex == 0) && true))) h)
      · refine Ops.sg 4 8 ?_
        exact Ops.st _ (by kernel_rfl) (J7j117 U U U true true h)
    · refine Wp.exit (id := 0) (by kernel_rfl) ?_
      refine sqQ.x ?_
      refine seqQ.x ?_
      cases h
      refine lpQ.x ?_
      refine blkQ.x ⟨q2 ((dP eI a2) :: (.ptr 0 0) :: (.ptr 1 0) :: q1 ((dB false) :: (dB v2.1) :: q1 ((dB v3.1) :: q1 ((dB v5.1) :: q1 ((dB v7.1) :: q1 ((dB v9.1) :: q1 ((dB v11.1) :: q1 ((dB v95) :: (dI v96) :: q40 (q40 (q40 (q23 []))))))))))), [(b7_0 a0), (b7_0 a1), (b7_1 v2), (b7_1 v3), (b7_1 v5), (b7_1 v7), (b7_1 v9), (b7_1 v11)]⟩ (by kernel_rfl) ?_
      exact hxx102 (v95, v96)  hsx105
theorem ok7 (m : Nat) (a0 : S24) (a1 : S24) (a2 : (List Int)) (o : Bool) (h : f7 m a0 a1 a2 = some o) (n : Nat) (hn : 2 * m + 5 ≤ n) : Fn Proofs.Tryd.prog EG n 7 [.v (e24 a0), .v (e24 a1), .v ((eL eI) a2)] (eB o) := by
  obtain ⟨n, rfl⟩ : ∃ q, n = q + 1 := ⟨n - 1, by omega⟩
  unfold f7 at h
  refine Fn.of (by kernel_rfl) (by kernel_rfl) (by kernel_rfl) ⟨(.v (.agg [(vI a0.fKind), (vP eI a0.fLabels), (vP ep24 a0.fSubs), (vI a0.fLeast), (vI a0.fMost)])) :: (.v (.agg [(vI a1.fKind), (vP eI a1.fLabels), (vP ep24 a1.fSubs), (vI a1.fLeast), (vI a1.fMost)])) :: (dP eI a2) :: u40 (u40 (u40 (u40 (u1 [])))), []⟩ (by kernel_rfl) ?_
  refine Wp.sq ?_
  refine Wp.rg ?_
  refine Ops.sg 3 3 ?_
  refine Ops.dn ?_
  refine seqQ.n ?_
  refine Wp.sq ?_
  refine Wp.sq ?_
  refine Wp.rg ?_
  obtain ⟨v1, ev1, h⟩ := bnd_some h
  refine Ops.on 1 (fun h0 e0 => (call_ok (E' := EG) (h := h0) (by kernel_rfl) Args.nil (ok8 m  v1 ev1 n (by omega)))) ?_
  refine Ops.sg 1 2 ?_
  refine Ops.dn ?_
  refine seqQ.n ?_
  refine Wp.cnd h [2, 3, 4, 6] 2 (by kernel_rfl) (fun h => ?_) (fun h => ?_)
  · refine Wp.sq ?_
    refine Wp.rg ?_
    refine Ops.sg 1 1 ?_
    refine Ops.dn ?_
    refine seqQ.n ?_
    refine Wp.ret (by kernel_rfl) ?_
    refine sqQ.r ?_
    refine seqQ.r ?_
    exact fnQ.r' (X7 n) (fun z => (eB z)) h (RetOk.mk' (dB false) (by kernel_rfl) (by kernel_rfl))
  · refine Wp.sk ?_
    refine sqQ.n' ?_
    refine seqQ.n ?_
    refine Wp.sq ?_
    refine Wp.rg ?_
    refine Ops.sg 2 2 ?_
    obtain ⟨v2, ev2, h⟩ := bnd_some h
    refine Ops.on 3 (fun h0 e0 => (call_ok (E' := EG) (h := h0) (by kernel_rfl) (Args.v (.agg [(vI a0.fKind), (vP eI a0.fLabels), (vP ep24 a0.fSubs), (vI a0.fLeast), (vI a0.fMost)]) (e24 a0) (by kernel_rfl) (Args.v (vP eI a2) ((eL eI) a2) (by kernel_rfl) Args.nil)) (ok16 m a0 a2 v2 ev2 n (by omega)))) ?_
    refine Ops.sg 6 9 ?_
    refine Ops.dn ?_
    refine seqQ.n ?_
    refine Wp.sq ?_
    refine Wp.rg ?_
    refine Ops.sg 2 2 ?_
    obtain ⟨v3, ev3, h⟩ := bnd_some h
    refine Ops.on 3 (fun h0 e0 => (call_ok (E' := EG) (h := h0) (by kernel_rfl) (Args.v (.agg [(vI a1.fKind), (vP eI a1.fLabels), (vP ep24 a1.fSubs), (vI a1.fLeast), (vI a1.fMost)]) (e24 a1) (by kernel_rfl) (Args.v (vP eI a2) ((eL eI) a2) (by kernel_rfl) Args.nil)) (ok16 m a1 a2 v3 ev3 n (by omega)))) ?_
    refine Ops.sg 6 9 ?_
    refine Ops.dn ?_
    refine seqQ.n ?_
    refine Wp.sq ?_
    refine Wp.rg ?_
    refine Ops.sg 2 2 ?_
    obtain ⟨v4, ev4, h⟩ := bnd_some h
    refine Ops.on 3 (fun h0 e0 => (call_ok (E' := EG) (h := h0) (by kernel_rfl) (Args.v (vI 4) (eI 4) (by kernel_rfl) (Args.v (.agg [(vI a0.fKind), (vP eI a0.fLabels), (vP ep24 a0.fSubs), (vI a0.fLeast), (vI a0.fMost)]) (e24 a0) (by kernel_rfl) (Args.v (.agg [(vI a1.fKind), (vP eI a1.fLabels), (vP ep24 a1.fSubs), (vI a1.fLeast), (vI a1.fMost)]) (e24 a1) (by kernel_rfl) Args.nil))) (ok20 m 4 a0 a1 v4 ev4 n (by omega)))) ?_
    refine Ops.sg 1 4 ?_
    obtain ⟨v5, ev5, h⟩ := bnd_some h
    refine Ops.on 5 (fun h0 e0 => (call_ok (E' := EG) (h := h0) (by kernel_rfl) (Args.v (.agg [(vI v4.fKind), (vP eI v4.fLabels), (vP ep24 v4.fSubs), (vI v4.fLeast), (vI v4.fMost)]) (e24 v4) (by kernel_rfl) (Args.v (vP eI a2) ((eL eI) a2) (by kernel_rfl) Args.nil)) (ok16 m v4 a2 v5 ev5 n (by omega)))) ?_
    refine Ops.seg 6 11 (by kernel_rfl) ⟨(.v (.agg [(vI a0.fKind), (vP eI a0.fLabels), (vP ep24 a0.fSubs), (vI a0.fLeast), (vI a0.fMost)])) :: (.v (.agg [(vI a1.fKind), (vP eI a1.fLabels), (vP ep24 a1.fSubs), (vI a1.fLeast), (vI a1.fMost)])) :: (dP eI a2) :: (.ptr 0 0) :: (.ptr 1 0) :: u1 ((dB false) :: (dB v2.1) :: (.ptr 2 0) :: (dB v3.1) :: (.ptr 3 0) :: (dB v5.1) :: (.ptr 4 0) :: u12 ((dB v1) :: (dB (!v1)) :: (.v (.tuple [(vB v2.1), (.agg [(vI v2.2.fCode), (vI v2.2.fIndex)])])) :: (.v (.agg [(vI a0.fKind), (vP eI a0.fLabels), (vP ep24 a0.fSubs), (vI a0.fLeast), (vI a0.fMost)])) :: (dP eI a2) :: (.v (.tuple [(vB v2.1), (.agg [(vI v2.2.fCode), (vI v2.2.fIndex)])])) :: (dB v2.1) :: (.v (.agg [(vI v2.2.fCode), (vI v2.2.fIndex)])) :: (.v (.tuple [(vB v3.1), (.agg [(vI v3.2.fCode), (vI v3.2.fIndex)])])) :: (.v (.agg [(vI a1.fKind), (vP eI a1.fLabels), (vP ep24 a1.fSubs), (vI a1.fLeast), (vI a1.fMost)])) :: (dP eI a2) :: (.v (.tuple [(vB v3.1), (.agg [(vI v3.2.fCode), (vI v3.2.fIndex)])])) :: (dB v3.1) :: (.v (.agg [(vI v3.2.fCode), (vI v3.2.fIndex)])) :: (.v (.tuple [(vB v5.1), (.agg [(vI v5.2.fCode), (vI v5.2.fIndex)])])) :: (.v (.agg [(vI a0.fKind), (vP eI a0.fLabels), (vP ep24 a0.fSubs), (vI a0.fLeast), (vI a0.fMost)])) :: (.v (.agg [(vI a1.fKind), (vP eI a1.fLabels), (vP ep24 a1.fSubs), (vI a1.fLeast), (vI a1.fMost)])) :: (.v (.agg [(vI v4.fKind), (vP eI v4.fLabels), (vP ep24 v4.fSubs), (vI v4.fLeast), (vI v4.fMost)])) :: (dP eI a2) :: (.v (.tuple [(vB v5.1), (.agg [(vI v5.2.fCode), (vI v5.2.fIndex)])])) :: (dB v5.1) :: (.v (.agg [(vI v5.2.fCode), (vI v5.2.fIndex)])) :: u40 (u40 (u37 [])))), [(b7_0 a0), (b7_0 a1), (b7_1 v2), (b7_1 v3), (b7_1 v5)]⟩ (by kernel_rfl) ?_
    refine Ops.dn ?_
    refine seqQ.n ?_
    refine Wp.sq ?_
    refine Wp.rg ?_
    refine Ops.sg 2 2 ?_
    obtain ⟨v6, ev6, h⟩ := bnd_some h
    refine Ops.on 3 (fun h0 e0 => (call_ok (E' := EG) (h := h0) (by kernel_rfl) (Args.v (vI 6) (eI 6) (by kernel_rfl) (Args.v (.agg [(vI a0.fKind), (vP eI a0.fLabels), (vP ep24 a0.fSubs), (vI a0.fLeast), (vI a0.fMost)]) (e24 a0) (by kernel_rfl) (Args.v (.agg [(vI a1.fKind), (vP eI a1.fLabels), (vP ep24 a1.fSubs), (vI a1.fLeast), (vI a1.fMost)]) (e24 a1) (by kernel_rfl) Args.nil))) (ok20 m 6 a0 a1 v6 ev6 n (by omega)))) ?_
    refine Ops.sg 1 4 ?_
    obtain ⟨v7, ev7, h⟩ := bnd_some h
    refine Ops.on 5 (fun h0 e0 => (call_ok (E' := EG) (h := h0) (by kernel_rfl) (Args.v (.agg [(vI v6.fKind), (vP eI v6.fLabels), (vP ep24 v6.fSubs), (vI v6.fLeast), (vI v6.fMost)]) (e24 v6) (by kernel_rfl) (Args.v (vP eI a2) ((eL eI) a2) (by kernel_rfl) Args.nil)) (ok16 m v6 a2 v7 ev7 n (by omega)))) ?_
    refine Ops.sg 6 11 ?_
    refine Ops.dn ?_
    refine seqQ.n ?_
    refine Wp.sq ?_
    refine Wp.rg ?_
    refine Ops.sg 2 2 ?_
    obtain ⟨v8, ev8, h⟩ := bnd_some h
    refine Ops.on 3 (fun h0 e0 => (call_ok (E' := EG) (h := h0) (by kernel_rfl) (Args.v (vI 7) (eI 7) (by kernel_rfl) (Args.v (.agg [(vI a0.fKind), (vP eI a0.fLabels), (vP ep24 a0.fSubs), (vI a0.fLeast), (vI a0.fMost)]) (e24 a0) (by kernel_rfl) (Args.v (.agg [(vI a1.fKind), (vP eI a1.fLabels), (vP ep24 a1.fSubs), (vI a1.fLeast), (vI a1.fMost)]) (e24 a1) (by kernel_rfl) Args.nil))) (ok20 m 7 a0 a1 v8 ev8 n (by omega)))) ?_
    refine Ops.sg 1 4 ?_
    obtain ⟨v9, ev9, h⟩ := bnd_some h
    refine Ops.on 5 (fun h0 e0 => (call_ok (E' := EG) (h := h0) (by kernel_rfl) (Args.v (.agg [(vI v8.fKind), (vP eI v8.fLabels), (vP ep24 v8.fSubs), (vI v8.fLeast), (vI v8.fMost)]) (e24 v8) (by kernel_rfl) (Args.v (vP eI a2) ((eL eI) a2) (by kernel_rfl) Args.nil)) (ok16 m v8 a2 v9 ev9 n (by omega)))) ?_
    refine Ops.sg 6 11 ?_
    refine Ops.dn ?_
    refine seqQ.n ?_
    refine Wp.sq ?_
    refine Wp.rg ?_
    refine Ops.sg 2 2 ?_
    obtain ⟨v10, ev10, h⟩ := bnd_some h
    refine Ops.on 3 (fun h0 e0 => (call_ok (E' := EG) (h := h0) (by kernel_rfl) (Args.v (vI 3) (eI 3) (by kernel_rfl) (Args.v (.agg [(vI a0.fKind), (vP eI a0.fLabels), (vP ep24 a0.fSubs), (vI a0.fLeast), (vI a0.fMost)]) (e24 a0) (by kernel_rfl) (Args.v (.agg [(vI a1.fKind), (vP eI a1.fLabels), (vP ep24 a1.fSubs), (vI a1.fLeast), (vI a1.fMost)]) (e24 a1) (by kernel_rfl) Args.nil))) (ok20 m 3 a0 a1 v10 ev10 n (by omega)))) ?_
    refine Ops.sg 1 4 ?_
    obtain ⟨v11, ev11, h⟩ := bnd_some h
    refine Ops.on 5 (fun h0 e0 => (call_ok (E' := EG) (h := h0) (by kernel_rfl) (Args.v (.agg [(vI v10.fKind), (vP eI v10.fLabels), (vP ep24 v10.fSubs), (vI v10.fLeast), (vI v10.fMost)]) (e24 v10) (by kernel_rfl) (Args.v (vP eI a2) ((eL eI) a2) (by kernel_rfl) Args.nil)) (ok16 m v10 a2 v11 ev11 n (by omega)))) ?_
    refine Ops.sg 6 11 ?_
    refine Ops.dn ?_
    refine seqQ.n ?_
    refine Wp.sq ?_
    refine Wp.sq ?_
    refine Wp.rg ?_
    refine Ops.seg 4 4 (by kernel_rfl) ⟨(.v (.agg [(vI a0.fKind), (vP eI a0.fLabels), (vP ep24 a0.fSubs), (vI a0.fLeast), (vI a0.fMost)])) :: (.v (.agg [(vI a1.fKind), (vP eI a1.fLabels), (vP ep24 a1.fSubs), (vI a1.fLeast), (vI a1.fMost)])) :: (dP eI a2) :: (.ptr 0 0) :: (.ptr 1 0) :: u1 ((dB false) :: (dB v2.1) :: (.ptr 2 0) :: (dB v3.1) :: (.ptr 3 0) :: (dB v5.1) :: (.ptr 4 0) :: (dB v7.1) :: (.ptr 5 0) :: (dB v9.1) :: (.ptr 6 0) :: (dB v11.1) :: (.ptr 7 0) :: u6 ((dB v1) :: (dB (!v1)) :: (.v (.tuple [(vB v2.1), (.agg [(vI v2.2.fCode), (vI v2.2.fIndex)])])) :: (.v (.agg [(vI a0.fKind), (vP eI a0.fLabels), (vP ep24 a0.fSubs), (vI a0.fLeast), (vI a0.fMost)])) :: (dP eI a2) :: (.v (.tuple [(vB v2.1), (.agg [(vI v2.2.fCode), (vI v2.2.fIndex)])])) :: (dB v2.1) :: (.v (.agg [(vI v2.2.fCode), (vI v2.2.fIndex)])) :: (.v (.tuple [(vB v3.1), (.agg [(vI v3.2.fCode), (vI v3.2.fIndex)])])) :: (.v (.agg [(vI a1.fKind), (vP eI a1.fLabels), (vP ep24 a1.fSubs), (vI a1.fLeast), (vI a1.fMost)])) :: (dP eI a2) :: (.v (.tuple [(vB v3.1), (.agg [(vI v3.2.fCode), (vI v3.2.fIndex)])])) :: (dB v3.1) :: (.v (.agg [(vI v3.2.fCode), (vI v3.2.fIndex)])) :: (.v (.tuple [(vB v5.1), (.agg [(vI v5.2.fCode), (vI v5.2.fIndex)])])) :: (.v (.agg [(vI a0.fKind), (vP eI a0.fLabels), (vP ep24 a0.fSubs), (vI a0.fLeast), (vI a0.fMost)])) :: (.v (.agg [(vI a1.fKind), (vP eI a1.fLabels), (vP ep24 a1.fSubs), (vI a1.fLeast), (vI a1.fMost)])) :: (.v (.agg [(vI v4.fKind), (vP eI v4.fLabels), (vP ep24 v4.fSubs), (vI v4.fLeast), (vI v4.fMost)])) :: (dP eI a2) :: (.v (.tuple [(vB v5.1), (.agg [(vI v5.2.fCode), (vI v5.2.fIndex)])])) :: (dB v5.1) :: (.v (.agg [(vI v5.2.fCode), (vI v5.2.fIndex)])) :: (.v (.tuple [(vB v7.1), (.agg [(vI v7.2.fCode), (vI v7.2.fIndex)])])) :: (.v (.agg [(vI a0.fKind), (vP eI a0.fLabels), (vP ep24 a0.fSubs), (vI a0.fLeast), (vI a0.fMost)])) :: (.v (.agg [(vI a1.fKind), (vP eI a1.fLabels), (vP ep24 a1.fSubs), (vI a1.fLeast), (vI a1.fMost)])) :: (.v (.agg [(vI v6.fKind), (vP eI v6.fLabels), (vP ep24 v6.fSubs), (vI v6.fLeast), (vI v6.fMost)])) :: (dP eI a2) :: (.v (.tuple [(vB v7.1), (.agg [(vI v7.2.fCode), (vI v7.2.fIndex)])])) :: (dB v7.1) :: (.v (.agg [(vI v7.2.fCode), (vI v7.2.fIndex)])) :: (.v (.tuple [(vB v9.1), (.agg [(vI v9.2.fCode), (vI v9.2.fIndex)])])) :: (.v (.agg [(vI a0.fKind), (vP eI a0.fLabels), (vP ep24 a0.fSubs), (vI a0.fLeast), (vI a0.fMost)])) :: (.v (.agg [(vI a1.fKind), (vP eI a1.fLabels), (vP ep24 a1.fSubs), (vI a1.fLeast), (vI a1.fMost)])) :: (.v (.agg [(vI v8.fKind), (vP eI v8.fLabels), (vP ep24 v8.fSubs), (vI v8.fLeast), (vI v8.fMost)])) :: (dP eI a2) :: (.v (.tuple [(vB v9.1), (.agg [(vI v9.2.fCode), (vI v9.2.fIndex)])])) :: (dB v9.1) :: (.v (.agg [(vI v9.2.fCode), (vI v9.2.fIndex)])) :: (.v (.tuple [(vB v11.1), (.agg [(vI v11.2.fCode), (vI v11.2.fIndex)])])) :: (.v (.agg [(vI a0.fKind), (vP eI a0.fLabels), (vP ep24 a0.fSubs), (vI a0.fLeast), (vI a0.fMost)])) :: (.v (.agg [(vI a1.fKind), (vP eI a1.fLabels), (vP ep24 a1.fSubs), (vI a1.fLeast), (vI a1.fMost)])) :: (.v (.agg [(vI v10.fKind), (vP eI v10.fLabels), (vP ep24 v10.fSubs), (vI v10.fLeast), (vI v10.fMost)])) :: (dP eI a2) :: (.v (.tuple [(vB v11.1), (.agg [(vI v11.2.fCode), (vI v11.2.fIndex)])])) :: (dB v11.1) :: (.v (.agg [(vI v11.2.fCode), (vI v11.2.fIndex)])) :: (.v (.agg [(vI v2.2.fCode), (vI v2.2.fIndex)])) :: (.v (.agg [(vI 0), (vI 0)])) :: (dB (!((v2.2.fCode == 0) && ((v2.2.fIndex == 0) && true)))) :: (dB (!((v2.2.fCode == 0) && ((v2.2.fIndex == 0) && true)))) :: u40 (u40 (u9 [])))), [(b7_0 a0), (b7_0 a1), (b7_1 v2), (b7_1 v3), (b7_1 v5), (b7_1 v7), (b7_1 v9), (b7_1 v11)]⟩ (by kernel_rfl) ?_
    refine Ops.hv (fun KQ => ∀ (d14 d15 d16 : D) (v17 : Bool) (v18 : Bool), f7_r12 m a0 a1 a2 v2 v3 v5 v7 v9 v11 v18 = some o → KQ 8 ⟨(.v (.agg [(vI a0.fKind), (vP eI a0.fLabels), (vP ep24 a0.fSubs), (vI a0.fLeast), (vI a0.fMost)])) :: (.v (.agg [(vI a1.fKind), (vP eI a1.fLabels), (vP ep24 a1.fSubs), (vI a1.fLeast), (vI a1.fMost)])) :: (dP eI a2) :: (.ptr 0 0) :: (.ptr 1 0) :: u1 ((dB false) :: (dB v2.1) :: (.ptr 2 0) :: (dB v3.1) :: (.ptr 3 0) :: (dB v5.1) :: (.ptr 4 0) :: (dB v7.1) :: (.ptr 5 0) :: (dB v9.1) :: (.ptr 6 0) :: (dB v11.1) :: (.ptr 7 0) :: u6 ((dB v1) :: (dB (!v1)) :: (.v (.tuple [(vB v2.1), (.agg [(vI v2.2.fCode), (vI v2.2.fIndex)])])) :: (.v (.agg [(vI a0.fKind), (vP eI a0.fLabels), (vP ep24 a0.fSubs), (vI a0.fLeast), (vI a0.fMost)])) :: (dP eI a2) :: (.v (.tuple [(vB v2.1), (.agg [(vI v2.2.fCode), (vI v2.2.fIndex)])])) :: (dB v2.1) :: (.v (.agg [(vI v2.2.fCode), (vI v2.2.fIndex)])) :: (.v (.tuple [(vB v3.1), (.agg [(vI v3.2.fCode), (vI v3.2.fIndex)])])) :: (.v (.agg [(vI a1.fKind), (vP eI a1.fLabels), (vP ep24 a1.fSubs), (vI a1.fLeast), (vI a1.fMost)])) :: (dP eI a2) :: (.v (.tuple [(vB v3.1), (.agg [(vI v3.2.fCode), (vI v3.2.fIndex)])])) :: (dB v3.1) :: (.v (.agg [(vI v3.2.fCode), (vI v3.2.fIndex)])) :: (.v (.tuple [(vB v5.1), (.agg [(vI v5.2.fCode), (vI v5.2.fIndex)])])) :: (.v (.agg [(vI a0.fKind), (vP eI a0.fLabels), (vP ep24 a0.fSubs), (vI a0.fLeast), (vI a0.fMost)])) :: (.v (.agg [(vI a1.fKind), (vP eI a1.fLabels), (vP ep24 a1.fSubs), (vI a1.fLeast), (vI a1.fMost)])) :: (.v (.agg [(vI v4.fKind), (vP eI v4.fLabels), (vP ep24 v4.fSubs), (vI v4.fLeast), (vI v4.fMost)])) :: (dP eI a2) :: (.v (.tuple [(vB v5.1), (.agg [(vI v5.2.fCode), (vI v5.2.fIndex)])])) :: (dB v5.1) :: (.v (.agg [(vI v5.2.fCode), (vI v5.2.fIndex)])) :: (.v (.tuple [(vB v7.1), (.agg [(vI v7.2.fCode), (vI v7.2.fIndex)])])) :: (.v (.agg [(vI a0.fKind), (vP eI a0.fLabels), (vP ep24 a0.fSubs), (vI a0.fLeast), (vI a0.fMost)])) :: (.v (.agg [(vI a1.fKind), (vP eI a1.fLabels), (vP ep24 a1.fSubs), (vI a1.fLeast), (vI a1.fMost)])) :: (.v (.agg [(vI v6.fKind), (vP eI v6.fLabels), (vP ep24 v6.fSubs), (vI v6.fLeast), (vI v6.fMost)])) :: (dP eI a2) :: (.v (.tuple [(vB v7.1), (.agg [(vI v7.2.fCode), (vI v7.2.fIndex)])])) :: (dB v7.1) :: (.v (.agg [(vI v7.2.fCode), (vI v7.2.fIndex)])) :: (.v (.tuple [(vB v9.1), (.agg [(vI v9.2.fCode), (vI v9.2.fIndex)])])) :: (.v (.agg [(vI a0.fKind), (vP eI a0.fLabels), (vP ep24 a0.fSubs), (vI a0.fLeast), (vI a0.fMost)])) :: (.v (.agg [(vI a1.fKind), (vP eI a1.fLabels), (vP ep24 a1.fSubs), (vI a1.fLeast), (vI a1.fMost)])) :: (.v (.agg [(vI v8.fKind), (vP eI v8.fLabels), (vP ep24 v8.fSubs), (vI v8.fLeast), (vI v8.fMost)])) :: (dP eI a2) :: (.v (.tuple [(vB v9.1), (.agg [(vI v9.2.fCode), (vI v9.2.fIndex)])])) :: (dB v9.1) :: (.v (.agg [(vI v9.2.fCode), (vI v9.2.fIndex)])) :: (.v (.tuple [(vB v11.1), (.agg [(vI v11.2.fCode), (vI v11.2.fIndex)])])) :: (.v (.agg [(vI a0.fKind), (vP eI a0.fLabels), (vP ep24 a0.fSubs), (vI a0.fLeast), (vI a0.fMost)])) :: (.v (.agg [(vI a1.fKind), (vP eI a1.fLabels), (vP ep24 a1.fSubs), (vI a1.fLeast), (vI a1.fMost)])) :: (.v (.agg [(vI v10.fKind), (vP eI v10.fLabels), (vP ep24 v10.fSubs), (vI v10.fLeast), (vI v10.fMost)])) :: (dP eI a2) :: (.v (.tuple [(vB v11.1), (.agg [(vI v11.2.fCode), (vI v11.2.fIndex)])])) :: (dB v11.1) :: (.v (.agg [(vI v11.2.fCode), (vI v11.2.fIndex)])) :: (.v (.agg [(vI v2.2.fCode), (vI v2.2.fIndex)])) :: (.v (.agg [(vI 0), (vI 0)])) :: (dB v17) :: (dB v17) :: d14 :: d15 :: d16 :: (dB v18) :: u40 (u40 (u5 [])))), [(b7_0 a0), (b7_0 a1), (b7_1 v2), (b7_1 v3), (b7_1 v5), (b7_1 v7), (b7_1 v9), (b7_1 v11)]⟩) ?_ fun J7j19 => ?_
    · intro d14 d15 d16 v17 v18 h
      unfold f7_r12 at h
      refine Ops.sg 1 9 ?_
      refine Ops.hv (fun KQ => ∀ (d22 d23 d24 : D) (v25 : Bool) (v26 : Bool), f7_r11 m a0 a1 a2 v2 v3 v5 v7 v9 v11 v26 = some o → KQ 13 ⟨(.v (.agg [(vI a0.fKind), (vP eI a0.fLabels), (vP ep24 a0.fSubs), (vI a0.fLeast), (vI a0.fMost)])) :: (.v (.agg [(vI a1.fKind), (vP eI a1.fLabels), (vP ep24 a1.fSubs), (vI a1.fLeast), (vI a1.fMost)])) :: (dP eI a2) :: (.ptr 0 0) :: (.ptr 1 0) :: u1 ((dB false) :: (dB v2.1) :: (.ptr 2 0) :: (dB v3.1) :: (.ptr 3 0) :: (dB v5.1) :: (.ptr 4 0) :: (dB v7.1) :: (.ptr 5 0) :: (dB v9.1) :: (.ptr 6 0) :: (dB v11.1) :: (.ptr 7 0) :: u6 ((dB v1) :: (dB (!v1)) :: (.v (.tuple [(vB v2.1), (.agg [(vI v2.2.fCode), (vI v2.2.fIndex)])])) :: (.v (.agg [(vI a0.fKind), (vP eI a0.fLabels), (vP ep24 a0.fSubs), (vI a0.fLeast), (vI a0.fMost)])) :: (dP eI a2) :: (.v (.tuple [(vB v2.1), (.agg [(vI v2.2.fCode), (vI v2.2.fIndex)])])) :: (dB v2.1) :: (.v (.agg [(vI v2.2.fCode), (vI v2.2.fIndex)])) :: (.v (.tuple [(vB v3.1), (.agg [(vI v3.2.fCode), (vI v3.2.fIndex)])])) :: (.v (.agg [(vI a1.fKind), (vP eI a1.fLabels), (vP ep24 a1.fSubs), (vI a1.fLeast), (vI a1.fMost)])) :: (dP eI a2) :: (.v (.tuple [(vB v3.1), (.agg [(vI v3.2.fCode), (vI v3.2.fIndex)])])) :: (dB v3.1) :: (.v (.agg [(vI v3.2.fCode), (vI v3.2.fIndex)])) :: (.v (.tuple [(vB v5.1), (.agg [(vI v5.2.fCode), (vI v5.2.fIndex)])])) :: (.v (.agg [(vI a0.fKind), (vP eI a0.fLabels), (vP ep24 a0.fSubs), (vI a0.fLeast), (vI a0.fMost)])) :: (.v (.agg [(vI a1.fKind), (vP eI a1.fLabels), (vP ep24 a1.fSubs), (vI a1.fLeast), (vI a1.fMost)])) :: (.v (.agg [(vI v4.fKind), (vP eI v4.fLabels), (vP ep24 v4.fSubs), (vI v4.fLeast), (vI v4.fMost)])) :: (dP eI a2) :: (.v (.tuple [(vB v5.1), (.agg [(vI v5.2.fCode), (vI v5.2.fIndex)])])) :: (dB v5.1) :: (.v (.agg [(vI v5.2.fCode), (vI v5.2.fIndex)])) :: (.v (.tuple [(vB v7.1), (.agg [(vI v7.2.fCode), (vI v7.2.fIndex)])])) :: (.v (.agg [(vI a0.fKind), (vP eI a0.fLabels), (vP ep24 a0.fSubs), (vI a0.fLeast), (vI a0.fMost)])) :: (.v (.agg [(vI a1.fKind), (vP eI a1.fLabels), (vP ep24 a1.fSubs), (vI a1.fLeast), (vI a1.fMost)])) :: (.v (.agg [(vI v6.fKind), (vP eI v6.fLabels), (vP ep24 v6.fSubs), (vI v6.fLeast), (vI v6.fMost)])) :: (dP eI a2) :: (.v (.tuple [(vB v7.1), (.agg [(vI v7.2.fCode), (vI v7.2.fIndex)])])) :: (dB v7.1) :: (.v (.agg [(vI v7.2.fCode), (vI v7.2.fIndex)])) :: (.v (.tuple [(vB v9.1), (.agg [(vI v9.2.fCode), (vI v9.2.fIndex)])])) :: (.v (.agg [(vI a0.fKind), (vP eI a0.fLabels), (vP ep24 a0.fSubs), (vI a0.fLeast), (vI a0.fMost)])) :: (.v (.agg [(vI a1.fKind), (vP eI a1.fLabels), (vP ep24 a1.fSubs), (vI a1.fLeast), (vI a1.fMost)])) :: (.v (.agg [(vI v8.fKind), (vP eI v8.fLabels), (vP ep24 v8.fSubs), (vI v8.fLeast), (vI v8.fMost)])) :: (dP eI a2) :: (.v (.tuple [(vB v9.1), (.agg [(vI v9.2.fCode), (vI v9.2.fIndex)])])) :: (dB v9.1) :: (.v (.agg [(vI v9.2.fCode), (vI v9.2.fIndex)])) :: (.v (.tuple [(vB v11.1), (.agg [(vI v11.2.fCode), (vI v11.2.fIndex)])])) :: (.v (.agg [(vI a0.fKind), (vP eI a0.fLabels), (vP ep24 a0.fSubs), (vI a0.fLeast), (vI a0.fMost)])) :: (.v (.agg [(vI a1.fKind), (vP eI a1.fLabels), (vP ep24 a1.fSubs), (vI a1.fLeast), (vI a1.fMost)])) :: (.v (.agg [(vI v10.fKind), (vP eI v10.fLabels), (vP ep24 v10.fSubs), (vI v10.fLeast), (vI v10.fMost)])) :: (dP eI a2) :: (.v (.tuple [(vB v11.1), (.agg [(vI v11.2.fCode), (vI v11.2.fIndex)])])) :: (dB v11.1) :: (.v (.agg [(vI v11.2.fCode), (vI v11.2.fIndex)])) :: (.v (.agg [(vI v2.2.fCode), (vI v2.2.fIndex)])) :: (.v (.agg [(vI 0), (vI 0)])) :: (dB v17) :: (dB v17) :: d14 :: d15 :: d16 :: (dB v25) :: (dB v25) :: d22 :: d23 :: d24 :: (dB v26) :: u40 (u40 []))), [(b7_0 a0), (b7_0 a1), (b7_1 v2), (b7_1 v3), (b7_1 v5), (b7_1 v7), (b7_1 v9), (b7_1 v11)]⟩) ?_ fun J7j27 => ?_
      · intro d22 d23 d24 v25 v26 h
        unfold f7_r11 at h
        refine Ops.sg 1 14 ?_
        refine Ops.hv (fun KQ => ∀ (d30 d31 d32 : D) (v33 : Bool) (v34 : Bool), f7_r10 m a0 a1 a2 v2 v3 v5 v7 v9 v11 v34 = some o → KQ 18 ⟨(.v (.agg [(vI a0.fKind), (vP eI a0.fLabels), (vP ep24 a0.fSubs), (vI a0.fLeast), (vI a0.fMost)])) :: (.v (.agg [(vI a1.fKind), (vP eI a1.fLabels), (vP ep24 a1.fSubs), (vI a1.fLeast), (vI a1.fMost)])) :: (dP eI a2) :: (.ptr 0 0) :: (.ptr 1 0) :: u1 ((dB false) :: (dB v2.1) :: (.ptr 2 0) :: (dB v3.1) :: (.ptr 3 0) :: (dB v5.1) :: (.ptr 4 0) :: (dB v7.1) :: (.ptr 5 0) :: (dB v9.1) :: (.ptr 6 0) :: (dB v11.1) :: (.ptr 7 0) :: u6 ((dB v1) :: (dB (!v1)) :: (.v (.tuple [(vB v2.1), (.agg [(vI v2.2.fCode), (vI v2.2.fIndex)])])) :: (.v (.agg [(vI a0.fKind), (vP eI a0.fLabels), (vP ep24 a0.fSubs), (vI a0.fLeast), (vI a0.fMost)])) :: (dP eI a2) :: (.v (.tuple [(vB v2.1), (.agg [(vI v2.2.fCode), (vI v2.2.fIndex)])])) :: (dB v2.1) :: (.v (.agg [(vI v2.2.fCode), (vI v2.2.fIndex)])) :: (.v (.tuple [(vB v3.1), (.agg [(vI v3.2.fCode), (vI v3.2.fIndex)])])) :: (.v (.agg [(vI a1.fKind), (vP eI a1.fLabels), (vP ep24 a1.fSubs), (vI a1.fLeast), (vI a1.fMost)])) :: (dP eI a2) :: (.v (.tuple [(vB v3.1), (.agg [(vI v3.2.fCode), (vI v3.2.fIndex)])])) :: (dB v3.1) :: (.v (.agg [(vI v3.2.fCode), (vI v3.2.fIndex)])) :: (.v (.tuple [(vB v5.1), (.agg [(vI v5.2.fCode), (vI v5.2.fIndex)])])) :: (.v (.agg [(vI a0.fKind), (vP eI a0.fLabels), (vP ep24 a0.fSubs), (vI a0.fLeast), (vI a0.fMost)])) :: (.v (.agg [(vI a1.fKind), (vP eI a1.fLabels), (vP ep24 a1.fSubs), (vI a1.fLeast), (vI a1.fMost)])) :: (.v (.agg [(vI v4.fKind), (vP eI v4.fLabels), (vP ep24 v4.fSubs), (vI v4.fLeast), (vI v4.fMost)])) :: (dP eI a2) :: (.v (.tuple [(vB v5.1), (.agg [(vI v5.2.fCode), (vI v5.2.fIndex)])])) :: (dB v5.1) :: (.v (.agg [(vI v5.2.fCode), (vI v5.2.fIndex)])) :: (.v (.tuple [(vB v7.1), (.agg [(vI v7.2.fCode), (vI v7.2.fIndex)])])) :: (.v (.agg [(vI a0.fKind), (vP eI a0.fLabels), (vP ep24 a0.fSubs), (vI a0.fLeast), (vI a0.fMost)])) :: (.v (.agg [(vI a1.fKind), (vP eI a1.fLabels), (vP ep24 a1.fSubs), (vI a1.fLeast), (vI a1.fMost)])) :: (.v (.agg [(vI v6.fKind), (vP eI v6.fLabels), (vP ep24 v6.fSubs), (vI v6.fLeast), (vI v6.fMost)])) :: (dP eI a2) :: (.v (.tuple [(vB v7.1), (.agg [(vI v7.2.fCode), (vI v7.2.fIndex)])])) :: (dB v7.1) :: (.v (.agg [(vI v7.2.fCode), (vI v7.2.fIndex)])) :: (.v (.tuple [(vB v9.1), (.agg [(vI v9.2.fCode), (vI v9.2.fIndex)])])) :: (.v (.agg [(vI a0.fKind), (vP eI a0.fLabels), (vP ep24 a0.fSubs), (vI a0.fLeast), (vI a0.fMost)])) :: (.v (.agg [(vI a1.fKind), (vP eI a1.fLabels), (vP ep24 a1.fSubs), (vI a1.fLeast), (vI a1.fMost)])) :: (.v (.agg [(vI v8.fKind), (vP eI v8.fLabels), (vP ep24 v8.fSubs), (vI v8.fLeast), (vI v8.fMost)])) :: (dP eI a2) :: (.v (.tuple [(vB v9.1), (.agg [(vI v9.2.fCode), (vI v9.2.fIndex)])])) :: (dB v9.1) :: (.v (.agg [(vI v9.2.fCode), (vI v9.2.fIndex)])) :: (.v (.tuple [(vB v11.1), (.agg [(vI v11.2.fCode), (vI v11.2.fIndex)])])) :: (.v (.agg [(vI a0.fKind), (vP eI a0.fLabels), (vP ep24 a0.fSubs), (vI a0.fLeast), (vI a0.fMost)])) :: (.v (.agg [(vI a1.fKind), (vP eI a1.fLabels), (vP ep24 a1.fSubs), (vI a1.fLeast), (vI a1.fMost)])) :: (.v (.agg [(vI v10.fKind), (vP eI v10.fLabels), (vP ep24 v10.fSubs), (vI v10.fLeast), (vI v10.fMost)])) :: (dP eI a2) :: (.v (.tuple [(vB v11.1), (.agg [(vI v11.2.fCode), (vI v11.2.fIndex)])])) :: (dB v11.1) :: (.v (.agg [(vI v11.2.fCode), (vI v11.2.fIndex)])) :: (.v (.agg [(vI v2.2.fCode), (vI v2.2.fIndex)])) :: (.v (.agg [(vI 0), (vI 0)])) :: (dB v17) :: (dB v17) :: d14 :: d15 :: d16 :: (dB v25) :: (dB v25) :: d22 :: d23 :: d24 :: (dB v33) :: (dB v33) :: d30 :: d31 :: d32 :: (dB v34) :: u40 (u35 []))), [(b7_0 a0), (b7_0 a1), (b7_1 v2), (b7_1 v3), (b7_1 v5), (b7_1 v7), (b7_1 v9), (b7_1 v11)]⟩) ?_ fun J7j35 => ?_
        · intro d30 d31 d32 v33 v34 h
          unfold f7_r10 at h
          refine Ops.sg 1 19 ?_
          refine Ops.hv (fun KQ => ∀ (d38 d39 d40 : D) (v41 : Bool) (v42 : Bool), f7_r9 m a0 a1 a2 v2 v3 v5 v7 v9 v11 v42 = some o → KQ 23 ⟨(.v (.agg [(vI a0.fKind), (vP eI a0.fLabels), (vP ep24 a0.fSubs), (vI a0.fLeast), (vI a0.fMost)])) :: (.v (.agg [(vI a1.fKind), (vP eI a1.fLabels), (vP ep24 a1.fSubs), (vI a1.fLeast), (vI a1.fMost)])) :: (dP eI a2) :: (.ptr 0 0) :: (.ptr 1 0) :: u1 ((dB false) :: (dB v2.1) :: (.ptr 2 0) :: (dB v3.1) :: (.ptr 3 0) :: (dB v5.1) :: (.ptr 4 0) :: (dB v7.1) :: (.ptr 5 0) :: (dB v9.1) :: (.ptr 6 0) :: (dB v11.1) :: (.ptr 7 0) :: u6 ((dB v1) :: (dB (!v1)) :: (.v (.tuple [(vB v2.1), (.agg [(vI v2.2.fCode), (vI v2.2.fIndex)])])) :: (.v (.agg [(vI a0.fKind), (vP eI a0.fLabels), (vP ep24 a0.fSubs), (vI a0.fLeast), (vI a0.fMost)])) :: (dP eI a2) :: (.v (.tuple [(vB v2.1), (.agg [(vI v2.2.fCode), (vI v2.2.fIndex)])])) :: (dB v2.1) :: (.v (.agg [(vI v2.2.fCode), (vI v2.2.fIndex)])) :: (.v (.tuple [(vB v3.1), (.agg [(vI v3.2.fCode), (vI v3.2.fIndex)])])) :: (.v (.agg [(vI a1.fKind), (vP eI a1.fLabels), (vP ep24 a1.fSubs), (vI a1.fLeast), (vI a1.fMost)])) :: (dP eI a2) :: (.v (.tuple [(vB v3.1), (.agg [(vI v3.2.fCode), (vI v3.2.fIndex)])])) :: (dB v3.1) :: (.v (.agg [(vI v3.2.fCode), (vI v3.2.fIndex)])) :: (.v (.tuple [(vB v5.1), (.agg [(vI v5.2.fCode), (vI v5.2.fIndex)])])) :: (.v (.agg [(vI a0.fKind), (vP eI a0.fLabels), (vP ep24 a0.fSubs), (vI a0.fLeast), (vI a0.fMost)])) :: (.v (.agg [(vI a1.fKind), (vP eI a1.fLabels), (vP ep24 a1.fSubs), (vI a1.fLeast), (vI a1.fMost)])) :: (.v (.agg [(vI v4.fKind), (vP eI v4.fLabels), (vP ep24 v4.fSubs), (vI v4.fLeast), (vI v4.fMost)])) :: (dP eI a2) :: (.v (.tuple [(vB v5.1), (.agg [(vI v5.2.fCode), (vI v5.2.fIndex)])])) :: (dB v5.1) :: (.v (.agg [(vI v5.2.fCode), (vI v5.2.fIndex)])) :: (.v (.tuple [(vB v7.1), (.agg [(vI v7.2.fCode), (vI v7.2.fIndex)])])) :: (.v (.agg [(vI a0.fKind), (vP eI a0.fLabels), (vP ep24 a0.fSubs), (vI a0.fLeast), (vI a0.fMost)])) :: (.v (.agg [(vI a1.fKind), (vP eI a1.fLabels), (vP ep24 a1.fSubs), (vI a1.fLeast), (vI a1.fMost)])) :: (.v (.agg [(vI v6.fKind), (vP eI v6.fLabels), (vP ep24 v6.fSubs), (vI v6.fLeast), (vI v6.fMost)])) :: (dP eI a2) :: (.v (.tuple [(vB v7.1), (.agg [(vI v7.2.fCode), (vI v7.2.fIndex)])])) :: (dB v7.1) :: (.v (.agg [(vI v7.2.fCode), (vI v7.2.fIndex)])) :: (.v (.tuple [(vB v9.1), (.agg [(vI v9.2.fCode), (vI v9.2.fIndex)])])) :: (.v (.agg [(vI a0.fKind), (vP eI a0.fLabels), (vP ep24 a0.fSubs), (vI a0.fLeast), (vI a0.fMost)])) :: (.v (.agg [(vI a1.fKind), (vP eI a1.fLabels), (vP ep24 a1.fSubs), (vI a1.fLeast), (vI a1.fMost)])) :: (.v (.agg [(vI v8.fKind), (vP eI v8.fLabels), (vP ep24 v8.fSubs), (vI v8.fLeast), (vI v8.fMost)])) :: (dP eI a2) :: (.v (.tuple [(vB v9.1), (.agg [(vI v9.2.fCode), (vI v9.2.fIndex)])])) :: (dB v9.1) :: (.v (.agg [(vI v9.2.fCode), (vI v9.2.fIndex)])) :: (.v (.tuple [(vB v11.1), (.agg [(vI v11.2.fCode), (vI v11.2.fIndex)])])) :: (.v (.agg [(vI a0.fKind), (vP eI a0.fLabels), (vP ep24 a0.fSubs), (vI a0.fLeast), (vI a0.fMost)])) :: (.v (.agg [(vI a1.fKind), (vP eI a1.fLabels), (vP ep24 a1.fSubs), (vI a1.fLeast), (vI a1.fMost)])) :: (.v (.agg [(vI v10.fKind), (vP eI v10.fLabels), (vP ep24 v10.fSubs), (vI v10.fLeast), (vI v10.fMost)])) :: (dP eI a2) :: (.v (.tuple [(vB v11.1), (.agg [(vI v11.2.fCode), (vI v11.2.fIndex)])])) :: (dB v11.1) :: (.v (.agg [(vI v11.2.fCode), (vI v11.2.fIndex)])) :: (.v (.agg [(vI v2.2.fCode), (vI v2.2.fIndex)])) :: (.v (.agg [(vI 0), (vI 0)])) :: (dB v17) :: (dB v17) :: d14 :: d15 :: d16 :: (dB v25) :: (dB v25) :: d22 :: d23 :: d24 :: (dB v33) :: (dB v33) :: d30 :: d31 :: d32 :: (dB v41) :: (dB v41) :: d38 :: d39 :: d40 :: (dB v42) :: u40 (u30 []))), [(b7_0 a0), (b7_0 a1), (b7_1 v2), (b7_1 v3), (b7_1 v5), (b7_1 v7), (b7_1 v9), (b7_1 v11)]⟩) ?_ fun J7j43 => ?_
          · intro d38 d39 d40 v41 v42 h
            unfold f7_r9 at h
            refine Ops.sg 1 24 ?_
            refine Ops.hv (fun KQ => ∀ (d46 d47 d48 : D) (v49 : Bool) (v50 : Bool), f7_r8 m a0 a1 a2 v2 v3 v5 v7 v9 v11 v50 = some o → KQ 28 ⟨(.v (.agg [(vI a0.fKind), (vP eI a0.fLabels), (vP ep24 a0.fSubs), (vI a0.fLeast), (vI a0.fMost)])) :: (.v (.agg [(vI a1.fKind), (vP eI a1.fLabels), (vP ep24 a1.fSubs), (vI a1.fLeast), (vI a1.fMost)])) :: (dP eI a2) :: (.ptr 0 0) :: (.ptr 1 0) :: u1 ((dB false) :: (dB v2.1) :: (.ptr 2 0) :: (dB v3.1) :: (.ptr 3 0) :: (dB v5.1) :: (.ptr 4 0) :: (dB v7.1) :: (.ptr 5 0) :: (dB v9.1) :: (.ptr 6 0) :: (dB v11.1) :: (.ptr 7 0) :: u6 ((dB v1) :: (dB (!v1)) :: (.v (.tuple [(vB v2.1), (.agg [(vI v2.2.fCode), (vI v2.2.fIndex)])])) :: (.v (.agg [(vI a0.fKind), (vP eI a0.fLabels), (vP ep24 a0.fSubs), (vI a0.fLeast), (vI a0.fMost)])) :: (dP eI a2) :: (.v (.tuple [(vB v2.1), (.agg [(vI v2.2.fCode), (vI v2.2.fIndex)])])) :: (dB v2.1) :: (.v (.agg [(vI v2.2.fCode), (vI v2.2.fIndex)])) :: (.v (.tuple [(vB v3.1), (.agg [(vI v3.2.fCode), (vI v3.2.fIndex)])])) :: (.v (.agg [(vI a1.fKind), (vP eI a1.fLabels), (vP ep24 a1.fSubs), (vI a1.fLeast), (vI a1.fMost)])) :: (dP eI a2) :: (.v (.tuple [(vB v3.1), (.agg [(vI v3.2.fCode), (vI v3.2.fIndex)])])) :: (dB v3.1) :: (.v (.agg [(vI v3.2.fCode), (vI v3.2.fIndex)])) :: (.v (.tuple [(vB v5.1), (.agg [(vI v5.2.fCode), (vI v5.2.fIndex)])])) :: (.v (.agg [(vI a0.fKind), (vP eI a0.fLabels), (vP ep24 a0.fSubs), (vI a0.fLeast), (vI a0.fMost)])) :: (.v (.agg [(vI a1.fKind), (vP eI a1.fLabels), (vP ep24 a1.fSubs), (vI a1.fLeast), (vI a1.fMost)])) :: (.v (.agg [(vI v4.fKind), (vP eI v4.fLabels), (vP ep24 v4.fSubs), (vI v4.fLeast), (vI v4.fMost)])) :: (dP eI a2) :: (.v (.tuple [(vB v5.1), (.agg [(vI v5.2.fCode), (vI v5.2.fIndex)])])) :: (dB v5.1) :: (.v (.agg [(vI v5.2.fCode), (vI v5.2.fIndex)])) :: (.v (.tuple [(vB v7.1), (.agg [(vI v7.2.fCode), (vI v7.2.fIndex)])])) :: (.v (.agg [(vI a0.fKind), (vP eI a0.fLabels), (vP ep24 a0.fSubs), (vI a0.fLeast), (vI a0.fMost)])) :: (.v (.agg [(vI a1.fKind), (vP eI a1.fLabels), (vP ep24 a1.fSubs), (vI a1.fLeast), (vI a1.fMost)])) :: (.v (.agg [(vI v6.fKind), (vP eI v6.fLabels), (vP ep24 v6.fSubs), (vI v6.fLeast), (vI v6.fMost)])) :: (dP eI a2) :: (.v (.tuple [(vB v7.1), (.agg [(vI v7.2.fCode), (vI v7.2.fIndex)])])) :: (dB v7.1) :: (.v (.agg [(vI v7.2.fCode), (vI v7.2.fIndex)])) :: (.v (.tuple [(vB v9.1), (.agg [(vI v9.2.fCode), (vI v9.2.fIndex)])])) :: (.v (.agg [(vI a0.fKind), (vP eI a0.fLabels), (vP ep24 a0.fSubs), (vI a0.fLeast), (vI a0.fMost)])) :: (.v (.agg [(vI a1.fKind), (vP eI a1.fLabels), (vP ep24 a1.fSubs), (vI a1.fLeast), (vI a1.fMost)])) :: (.v (.agg [(vI v8.fKind), (vP eI v8.fLabels), (vP ep24 v8.fSubs), (vI v8.fLeast), (vI v8.fMost)])) :: (dP eI a2) :: (.v (.tuple [(vB v9.1), (.agg [(vI v9.2.fCode), (vI v9.2.fIndex)])])) :: (dB v9.1) :: (.v (.agg [(vI v9.2.fCode), (vI v9.2.fIndex)])) :: (.v (.tuple [(vB v11.1), (.agg [(vI v11.2.fCode), (vI v11.2.fIndex)])])) :: (.v (.agg [(vI a0.fKind), (vP eI a0.fLabels), (vP ep24 a0.fSubs), (vI a0.fLeast), (vI a0.fMost)])) :: (.v (.agg [(vI a1.fKind), (vP eI a1.fLabels), (vP ep24 a1.fSubs), (vI a1.fLeast), (vI a1.fMost)])) :: (.v (.agg [(vI v10.fKind), (vP eI v10.fLabels), (vP ep24 v10.fSubs), (vI v10.fLeast), (vI v10.fMost)])) :: (dP eI a2) :: (.v (.tuple [(vB v11.1), (.agg [(vI v11.2.fCode), (vI v11.2.fIndex)])])) :: (dB v11.1) :: (.v (.agg [(vI v11.2.fCode), (vI v11.2.fIndex)])) :: (.v (.agg [(vI v2.2.fCode), (vI v2.2.fIndex)])) :: (.v (.agg [(vI 0), (vI 0)])) :: (dB v17) :: (dB v17) :: d14 :: d15 :: d16 :: (dB v25) :: (dB v25) :: d22 :: d23 :: d24 :: (dB v33) :: (dB v33) :: d30 :: d31 :: d32 :: (dB v41) :: (dB v41) :: d38 :: d39 :: d40 :: (dB v49) :: (dB v49) :: d46 :: d47 :: d48 :: (dB v50) :: u40 (u25 []))), [(b7_0 a0), (b7_0 a1), (b7_1 v2), (b7_1 v3), (b7_1 v5), (b7_1 v7), (b7_1 v9), (b7_1 v11)]⟩) ?_ fun J7j51 => ?_
            · intro d46 d47 d48 v49 v50 h
              unfold f7_r8 at h
              refine Ops.dn ?_
              refine seqQ.n ?_
              refine Wp.cnd h [2, 3, 4, 6, 7, 9, 11, 13, 15, 17] 8 (by kernel_rfl) (fun h => ?_) (fun h => ?_)
              · refine Wp.sq ?_
                refine Wp.rg ?_
                refine Ops.sg 1 1 ?_
                refine Ops.dn ?_
                refine seqQ.n ?_
                refine Wp.ret (by kernel_rfl) ?_
                refine sqQ.r ?_
                refine seqQ.r ?_
                exact fnQ.r' (X7 n) (fun z => (eB z)) h (RetOk.mk' (dB true) (by kernel_rfl) (by kernel_rfl))
              · refine Wp.sk ?_
                refine sqQ.n' ?_
                refine seqQ.n ?_
                refine Wp.sq ?_
                refine Wp.rg ?_
                refine Ops.sg 1 1 ?_
                refine Ops.dn ?_
                refine seqQ.n ?_
                refine Wp.sq ?_
                refine Wp.sq ?_
                refine Wp.rg ?_
                refine Ops.sg 1 1 ?_
                refine Ops.dn ?_
                refine seqQ.n ?_
                refine Wp.block' 0 [6, 7, 9, 11, 13, 15, 17, 19] 8 (by kernel_rfl) ?_
                have hLx129 := f7_hLx129 m a0 a1 a2 o n hn v2 v3 v5 v7 v9 v11
                refine Wp.loop' k7_0 8 (by kernel_rfl) ⟨q2 ((dP eI a2) :: (.ptr 0 0) :: (.ptr 1 0) :: q1 ((dB false) :: (dB v2.1) :: q1 ((dB v3.1) :: q1 ((dB v5.1) :: q1 ((dB v7.1) :: q1 ((dB v9.1) :: q1 ((dB v11.1) :: q1 ((dB false) :: (dI 0) :: q40 (q40 (q40 (q23 []))))))))))), [(b7_0 a0), (b7_0 a1), (b7_1 v2), (b7_1 v3), (b7_1 v5), (b7_1 v7), (b7_1 v9), (b7_1 v11)]⟩ (by kernel_rfl) ?_
                rcases brk_some h with ⟨r131, er131, h⟩ | ⟨y130, ey130, h⟩
                · refine hLx129 _ false 0  _ er131 n (by omega) (fun r er σ hσ => ?_) (fun y  ey => by cases ey)
                  cases er
                  refine seqQ.r ?_
                  exact fnQ.r' (X7 n) (fun z => (eB z)) h hσ
                · refine hLx129 _ false 0  _ ey130 n (by omega) (fun r er => by cases er) (fun y  ey => ?_)
                  cases ey
                  refine seqQ.n ?_
                  refine Wp.sq ?_
                  refine Wp.rg ?_
                  refine Ops.sg 3 3 ?_
                  refine Ops.hv (fun KQ => ∀ (d134 : D) (v135 : Bool) (v136 : Bool), f7_r7 m v3 v5 v7 v9 v11 y130 v135 v136 = some o → KQ 5 ⟨q2 ((dP eI a2) :: (.ptr 0 0) :: (.ptr 1 0) :: q1 ((dB false) :: (dB v135) :: q1 ((dB v3.1) :: q1 ((dB v5.1) :: q1 ((dB v7.1) :: q1 ((dB v9.1) :: q1 ((dB v11.1) :: q1 ((dB y130.1) :: (dI y130.2) :: q40 (q40 (q35 ((dB v5.1) :: (dB v135) :: (dB v135) :: d134 :: (dB v136) :: q23 []))))))))))), [(b7_0 a0), (b7_0 a1), (b7_1 v2), (b7_1 v3), (b7_1 v5), (b7_1 v7), (b7_1 v9), (b7_1 v11)]⟩) ?_ fun J7j137 => ?_
                  · intro d134 v135 v136 h
                    unfold f7_r7 at h
                    refine Ops.sg 2 7 ?_
                    refine Ops.hv (fun KQ => ∀ (d140 d141 d142 d143 d144 d145 : D) (v146 : Bool) (v147 : Bool), f7_r6 m v3 v9 v11 y130 v135 v147 = some o → KQ 14 ⟨q2 ((dP eI a2) :: (.ptr 0 0) :: (.ptr 1 0) :: q1 ((dB false) :: (dB v135) :: q1 ((dB v3.1) :: q1 ((dB v5.1) :: q1 ((dB v7.1) :: q1 ((dB v9.1) :: q1 ((dB v11.1) :: q1 ((dB y130.1) :: (dI y130.2) :: q40 (q40 (q35 ((dB v5.1) :: (dB v135) :: (dB v135) :: d134 :: (dB v136) :: (dB v146) :: (dB v146) :: d140 :: d141 :: d142 :: d143 :: d144 :: d145 :: (dB v147) :: q14 []))))))))))), [(b7_0 a0), (b7_0 a1), (b7_1 v2), (b7_1 v3), (b7_1 v5), (b7_1 v7), (b7_1 v9), (b7_1 v11)]⟩) ?_ fun J7j148 => ?_
                    · intro d140 d141 d142 d143 d144 d145 v146 v147 h
                      unfold f7_r6 at h
                      refine Ops.sg 1 15 ?_
                      refine Ops.hv (fun KQ => ∀ (d151 d152 d153 d154 d155 d156 d157 : D) (v158 : Bool) (v159 : Bool), f7_r5 m v11 y130 v159 = some o → KQ 23 ⟨q2 ((dP eI a2) :: (.ptr 0 0) :: (.ptr 1 0) :: q1 ((dB false) :: (dB v135) :: q1 ((dB v3.1) :: q1 ((dB v5.1) :: q1 ((dB v7.1) :: q1 ((dB v9.1) :: q1 ((dB v11.1) :: q1 ((dB y130.1) :: (dI y130.2) :: q40 (q40 (q35 ((dB v5.1) :: (dB v135) :: (dB v135) :: d134 :: (dB v136) :: (dB v146) :: (dB v146) :: d140 :: d141 :: d142 :: d143 :: d144 :: d145 :: (dB v158) :: (dB v158) :: d151 :: d152 :: d153 :: d154 :: d155 :: d156 :: d157 :: (dB v159) :: q5 []))))))))))), [(b7_0 a0), (b7_0 a1), (b7_1 v2), (b7_1 v3), (b7_1 v5), (b7_1 v7), (b7_1 v9), (b7_1 v11)]⟩) ?_ fun J7j160 => ?_
                      · intro d151 d152 d153 d154 d155 d156 d157 v158 v159 h
                        unfold f7_r5 at h
                        refine Ops.sg 1 24 ?_
                        refine Ops.hv (fun KQ => ∀ (d163 d164 d165 : D) (v166 : Bool) (v167 : Bool), f7_r4 m v167 = some o → KQ 28 ⟨q2 ((dP eI a2) :: (.ptr 0 0) :: (.ptr 1 0) :: q1 ((dB false) :: (dB v135) :: q1 ((dB v3.1) :: q1 ((dB v5.1) :: q1 ((dB v7.1) :: q1 ((dB v9.1) :: q1 ((dB v11.1) :: q1 ((dB y130.1) :: (dI y130.2) :: q40 (q40 (q35 ((dB v5.1) :: (dB v135) :: (dB v135) :: d134 :: (dB v136) :: (dB v146) :: (dB v146) :: d140 :: d141 :: d142 :: d143 :: d144 :: d145 :: (dB v158) :: (dB v158) :: d151 :: d152 :: d153 :: d154 :: d155 :: d156 :: d157 :: (dB v166) :: (dB v166) :: d163 :: d164 :: d165 :: (dB v167) :: []))))))))))), [(b7_0 a0), (b7_0 a1), (b7_1 v2), (b7_1 v3), (b7_1 v5), (b7_1 v7), (b7_1 v9), (b7_1 v11)]⟩) ?_ fun J7j168 => ?_
                        · intro d163 d164 d165 v166 v167 h
                          unfold f7_r4 at h
                          refine Ops.sg 1 29 ?_
                          refine Ops.dn ?_
                          refine seqQ.n ?_
                          refine Wp.ret (by kernel_rfl) ?_
                          exact fnQ.r' (X7 n) (fun z => (eB z)) h (RetOk.mk' (dB v167) (by kernel_rfl) (by kernel_rfl))
                        refine Ops.hv (fun KQ => ∀ v161 : Bool, f7_r4 m (v161 && (v11.1 == y130.1)) = some o → KQ 24 ⟨q2 ((dP eI a2) :: (.ptr 0 0) :: (.ptr 1 0) :: q1 ((dB false) :: (dB v135) :: q1 ((dB v3.1) :: q1 ((dB v5.1) :: q1 ((dB v7.1) :: q1 ((dB v9.1) :: q1 ((dB v11.1) :: q1 ((dB y130.1) :: (dI y130.2) :: q40 (q40 (q35 ((dB v5.1) :: (dB v135) :: (dB v135) :: d134 :: (dB v136) :: (dB v146) :: (dB v146) :: d140 :: d141 :: d142 :: d143 :: d144 :: d145 :: (dB v158) :: (dB v158) :: d151 :: d152 :: d153 :: d154 :: d155 :: d156 :: d157 :: (dB v161) :: (dB v161) :: q4 []))))))))))), [(b7_0 a0), (b7_0 a1), (b7_1 v2), (b7_1 v3), (b7_1 v5), (b7_1 v7), (b7_1 v9), (b7_1 v11)]⟩) ?_ fun G7g162 => Ops.st _ (by kernel_rfl) (G7g162 v159 h)
                        intro v161 h
                        cases v161
                        · refine Ops.sg 4 28 ?_
                          exact Ops.st _ (by kernel_rfl) (J7j168 U U U false false h)
                        · refine Ops.sg 4 28 ?_
                          exact Ops.st _ (by kernel_rfl) (J7j168 (dB v11.1) (dB y130.1) (dB (v11.1 == y130.1)) true (v11.1 == y130.1) h)
                      refine Ops.hv (fun KQ => ∀ v149 : Bool, f7_r5 m v11 y130 (v149 && (bif v135 then v9.1 == (!v3.1) else v9.1 == false)) = some o → KQ 15 ⟨q2 ((dP eI a2) :: (.ptr 0 0) :: (.ptr 1 0) :: q1 ((dB false) :: (dB v135) :: q1 ((dB v3.1) :: q1 ((dB v5.1) :: q1 ((dB v7.1) :: q1 ((dB v9.1) :: q1 ((dB v11.1) :: q1 ((dB y130.1) :: (dI y130.2) :: q40 (q40 (q35 ((dB v5.1) :: (dB v135) :: (dB v135) :: d134 :: (dB v136) :: (dB v146) :: (dB v146) :: d140 :: d141 :: d142 :: d143 :: d144 :: d145 :: (dB v149) :: (dB v149) :: q13 []))))))))))), [(b7_0 a0), (b7_0 a1), (b7_1 v2), (b7_1 v3), (b7_1 v5), (b7_1 v7), (b7_1 v9), (b7_1 v11)]⟩) ?_ fun G7g150 => Ops.st _ (by kernel_rfl) (G7g150 v147 h)
                      intro v149 h
                      cases v149
                      · refine Ops.sg 8 23 ?_
                        exact Ops.st _ (by kernel_rfl) (J7j160 U U U U U U U false false h)
                      · refine Ops.sg 3 18 ?_
                        refine Ops.hv (fun KQ => ∀ v169 : Bool, (f7_r5 m v11 y130 (true && (bif v169 then v9.1 == (!v3.1) else v9.1 == false))) = some o → KQ 18 ⟨q2 ((dP eI a2) :: (.ptr 0 0) :: (.ptr 1 0) :: q1 ((dB false) :: (dB v135) :: q1 ((dB v3.1) :: q1 ((dB v5.1) :: q1 ((dB v7.1) :: q1 ((dB v9.1) :: q1 ((dB v11.1) :: q1 ((dB y130.1) :: (dI y130.2) :: q40 (q40 (q35 ((dB v5.1) :: (dB v135) :: (dB v135) :: d134 :: (dB v136) :: (dB v146) :: (dB v146) :: d140 :: d141 :: d142 :: d143 :: d144 :: d145 :: (dB true) :: (dB true) :: (dB v9.1) :: (dB v169) :: (dB v169) :: q10 []))))))))))), [(b7_0 a0), (b7_0 a1), (b7_1 v2), (b7_1 v3), (b7_1 v5), (b7_1 v7), (b7_1 v9), (b7_1 v11)]⟩) ?_ fun G7g170 => Ops.st _ (by kernel_rfl) (G7g170 v135 h)
                        intro v169 h
                        cases v169
                        · refine Ops.sg 5 23 ?_
                          exact Ops.st _ (by kernel_rfl) (J7j160 (dB v9.1) (dB false) (dB false) U U (dB false) (dB (v9.1 == false)) true (v9.1 == false) h)
                        · refine Ops.sg 5 23 ?_
                          exact Ops.st _ (by kernel_rfl) (J7j160 (dB v9.1) (dB true) (dB true) (dB v3.1) (dB (!v3.1)) (dB (!v3.1)) (dB (v9.1 == (!v3.1))) true (v9.1 == (!v3.1)) h)
                    refine Ops.hv (fun KQ => ∀ v138 : Bool, f7_r6 m v3 v9 v11 y130 v135 (v138 && (bif v135 then v7.1 == v3.1 else v7.1 == false)) = some o → KQ 7 ⟨q2 ((dP eI a2) :: (.ptr 0 0) :: (.ptr 1 0) :: q1 ((dB false) :: (dB v135) :: q1 ((dB v3.1) :: q1 ((dB v5.1) :: q1 ((dB v7.1) :: q1 ((dB v9.1) :: q1 ((dB v11.1) :: q1 ((dB y130.1) :: (dI y130.2) :: q40 (q40 (q35 ((dB v5.1) :: (dB v135) :: (dB v135) :: d134 :: (dB v136) :: (dB v138) :: (dB v138) :: q21 []))))))))))), [(b7_0 a0), (b7_0 a1), (b7_1 v2), (b7_1 v3), (b7_1 v5), (b7_1 v7), (b7_1 v9), (b7_1 v11)]⟩) ?_ fun G7g139 => Ops.st _ (by kernel_rfl) (G7g139 (v5.1 == v136) h)
                    intro v138 h
                    cases v138
                    · refine Ops.sg 7 14 ?_
                      exact Ops.st _ (by kernel_rfl) (J7j148 U U U U U U false false h)
                    · refine Ops.sg 3 10 ?_
                      refine Ops.hv (fun KQ => ∀ v171 : Bool, (f7_r6 m v3 v9 v11 y130 v135 (true && (bif v171 then v7.1 == v3.1 else v7.1 == false))) = some o → KQ 10 ⟨q2 ((dP eI a2) :: (.ptr 0 0) :: (.ptr 1 0) :: q1 ((dB false) :: (dB v135) :: q1 ((dB v3.1) :: q1 ((dB v5.1) :: q1 ((dB v7.1) :: q1 ((dB v9.1) :: q1 ((dB v11.1) :: q1 ((dB y130.1) :: (dI y130.2) :: q40 (q40 (q35 ((dB v5.1) :: (dB v135) :: (dB v135) :: d134 :: (dB v136) :: (dB true) :: (dB true) :: (dB v7.1) :: (dB v171) :: (dB v171) :: q18 []))))))))))), [(b7_0 a0), (b7_0 a1), (b7_1 v2), (b7_1 v3), (b7_1 v5), (b7_1 v7), (b7_1 v9), (b7_1 v11)]⟩) ?_ fun G7g172 => Ops.st _ (by kernel_rfl) (G7g172 v135 h)
                      intro v171 h
                      cases v171
                      · refine Ops.sg 4 14 ?_
                        exact Ops.st _ (by kernel_rfl) (J7j148 (dB v7.1) (dB false) (dB false) U (dB false) (dB (v7.1 == false)) true (v7.1 == false) h)
                      · refine Ops.sg 4 14 ?_
                        exact Ops.st _ (by kernel_rfl) (J7j148 (dB v7.1) (dB true) (dB true) (dB v3.1) (dB v3.1) (dB (v7.1 == v3.1)) true (v7.1 == v3.1) h)
                  refine Ops.hv (fun KQ => ∀ v132 : Bool, f7_r7 m v3 v5 v7 v9 v11 y130 v132 (v132 || v3.1) = some o → KQ 3 ⟨q2 ((dP eI a2) :: (.ptr 0 0) :: (.ptr 1 0) :: q1 ((dB false) :: (dB v132) :: q1 ((dB v3.1) :: q1 ((dB v5.1) :: q1 ((dB v7.1) :: q1 ((dB v9.1) :: q1 ((dB v11.1) :: q1 ((dB y130.1) :: (dI y130.2) :: q40 (q40 (q35 ((dB v5.1) :: (dB v132) :: (dB v132) :: q25 []))))))))))), [(b7_0 a0), (b7_0 a1), (b7_1 v2), (b7_1 v3), (b7_1 v5), (b7_1 v7), (b7_1 v9), (b7_1 v11)]⟩) ?_ fun G7g133 => Ops.st _ (by kernel_rfl) (G7g133 v2.1 h)
                  intro v132 h
                  cases v132
                  · refine Ops.sg 2 5 ?_
                    exact Ops.st _ (by kernel_rfl) (J7j137 (dB v3.1) false v3.1 h)
                  · refine Ops.sg 2 5 ?_
                    exact Ops.st _ (by kernel_rfl) (J7j137 U true true h)
            refine Ops.hv (fun KQ => ∀ v44 : Bool, f7_r8 m a0 a1 a2 v2 v3 v5 v7 v9 v11 (v44 || (!((v11.2.fCode == 0) && ((v11.2.fIndex == 0) && true)))) = some o → KQ 24 ⟨(.v (.agg [(vI a0.fKind), (vP eI a0.fLabels), (vP ep24 a0.fSubs), (vI a0.fLeast), (vI a0.fMost)])) :: (.v (.agg [(vI a1.fKind), (vP eI a1.fLabels), (vP ep24 a1.fSubs), (vI a1.fLeast), (vI a1.fMost)])) :: (dP eI a2) :: (.ptr 0 0) :: (.ptr 1 0) :: u1 ((dB false) :: (dB v2.1) :: (.ptr 2 0) :: (dB v3.1) :: (.ptr 3 0) :: (dB v5.1) :: (.ptr 4 0) :: (dB v7.1) :: (.ptr 5 0) :: (dB v9.1) :: (.ptr 6 0) :: (dB v11.1) :: (.ptr 7 0) :: u6 ((dB v1) :: (dB (!v1)) :: (.v (.tuple [(vB v2.1), (.agg [(vI v2.2.fCode), (vI v2.2.fIndex)])])) :: (.v (.agg [(vI a0.fKind), (vP eI a0.fLabels), (vP ep24 a0.fSubs), (vI a0.fLeast), (vI a0.fMost)])) :: (dP eI a2) :: (.v (.tuple [(vB v2.1), (.agg [(vI v2.2.fCode), (vI v2.2.fIndex)])])) :: (dB v2.1) :: (.v (.agg [(vI v2.2.fCode), (vI v2.2.fIndex)])) :: (.v (.tuple [(vB v3.1), (.agg [(vI v3.2.fCode), (vI v3.2.fIndex)])])) :: (.v (.agg [(vI a1.fKind), (vP eI a1.fLabels), (vP ep24 a1.fSubs), (vI a1.fLeast), (vI a1.fMost)])) :: (dP eI a2) :: (.v (.tuple [(vB v3.1), (.agg [(vI v3.2.fCode), (vI v3.2.fIndex)])])) :: (dB v3.1) :: (.v (.agg [(vI v3.2.fCode), (vI v3.2.fIndex)])) :: (.v (.tuple [(vB v5.1), (.agg [(vI v5.2.fCode), (vI v5.2.fIndex)])])) :: (.v (.agg [(vI a0.fKind), (vP eI a0.fLabels), (vP ep24 a0.fSubs), (vI a0.fLeast), (vI a0.fMost)])) :: (.v (.agg [(vI a1.fKind), (vP eI a1.fLabels), (vP ep24 a1.fSubs), (vI a1.fLeast), (vI a1.fMost)])) :: (.v (.agg [(vI v4.fKind), (vP eI v4.fLabels), (vP ep24 v4.fSubs), (vI v4.fLeast), (vI v4.fMost)])) :: (dP eI a2) :: (.v (.tuple [(vB v5.1), (.agg [(vI v5.2.fCode), (vI v5.2.fIndex)])])) :: (dB v5.1) :: (.v (.agg [(vI v5.2.fCode), (vI v5.2.fIndex)])) :: (.v (.tuple [(vB v7.1), (.agg [(vI v7.2.fCode), (vI v7.2.fIndex)])])) :: (.v (.agg [(vI a0.fKind), (vP eI a0.fLabels), (vP ep24 a0.fSubs), (vI a0.fLeast), (vI a0.fMost)])) :: (.v (.agg [(vI a1.fKind), (vP eI a1.fLabels), (vP ep24 a1.fSubs), (vI a1.fLeast), (vI a1.fMost)])) :: (.v (.agg [(vI v6.fKind), (vP eI v6.fLabels), (vP ep24 v6.fSubs), (vI v6.fLeast), (vI v6.fMost)])) :: (dP eI a2) :: (.v (.tuple [(vB v7.1), (.agg [(vI v7.2.fCode), (vI v7.2.fIndex)])])) :: (dB v7.1) :: (.v (.agg [(vI v7.2.fCode), (vI v7.2.fIndex)])) :: (.v (.tuple [(vB v9.1), (.agg [(vI v9.2.fCode), (vI v9.2.fIndex)])])) :: (.v (.agg [(vI a0.fKind), (vP eI a0.fLabels), (vP ep24 a0.fSubs), (vI a0.fLeast), (vI a0.fMost)])) :: (.v (.agg [(vI a1.fKind), (vP eI a1.fLabels), (vP ep24 a1.fSubs), (vI a1.fLeast), (vI a1.fMost)])) :: (.v (.agg [(vI v8.fKind), (vP eI v8.fLabels), (vP ep24 v8.fSubs), (vI v8.fLeast), (vI v8.fMost)])) :: (dP eI a2) :: (.v (.tuple [(vB v9.1), (.agg [(vI v9.2.fCode), (vI v9.2.fIndex)])])) :: (dB v9.1) :: (.v (.agg [(vI v9.2.fCode), (vI v9.2.fIndex)])) :: (.v (.tuple [(vB v11.1), (.agg [(vI v11.2.fCode), (vI v11.2.fIndex)])])) :: (.v (.agg [(vI a0.fKind), (vP eI a0.fLabels), (vP ep24 a0.fSubs), (vI a0.fLeast), (vI a0.fMost)])) :: (.v (.agg [(vI a1.fKind), (vP eI a1.fLabels), (vP ep24 a1.fSubs), (vI a1.fLeast), (vI a1.fMost)])) :: (.v (.agg [(vI v10.fKind), (vP eI v10.fLabels), (vP ep24 v10.fSubs), (vI v10.fLeast), (vI v10.fMost)])) :: (dP eI a2) :: (.v (.tuple [(vB v11.1), (.agg [(vI v11.2.fCode), (vI v11.2.fIndex)])])) :: (dB v11.1) :: (.v (.agg [(vI v11.2.fCode), (vI v11.2.fIndex)])) :: (.v (.agg [(vI v2.2.fCode), (vI v2.2.fIndex)])) :: (.v (.agg [(vI 0), (vI 0)])) :: (dB v17) :: (dB v17) :: d14 :: d15 :: d16 :: (dB v25) :: (dB v25) :: d22 :: d23 :: d24 :: (dB v33) :: (dB v33) :: d30 :: d31 :: d32 :: (dB v41) :: (dB v41) :: d38 :: d39 :: d40 :: (dB v44) :: (dB v44) :: u40 (u29 []))), [(b7_0 a0), (b7_0 a1), (b7_1 v2), (b7_1 v3), (b7_1 v5), (b7_1 v7), (b7_1 v9), (b7_1 v11)]⟩) ?_ fun G7g45 => Ops.st _ (by kernel_rfl) (G7g45 v42 h)
            intro v44 h
            cases v44
            · refine Ops.sg 4 28 ?_
              exact Ops.st _ (by kernel_rfl) (J7j51 ((.v (.agg [(vI v11.2.fCode), (vI v11.2.fIndex)]))) ((.v (.agg [(vI 0), (vI 0)]))) (dB (!((v11.2.fCode == 0) && ((v11.2.fIndex == 0) && true)))) false (!((v11.2.fCode == 0) && ((v11.2.fIndex == 0) && true))) h)
            · refine Ops.sg 4 28 ?_
              exact Ops.st _ (by kernel_rfl) (J7j51 U U U true true h)
          refine Ops.hv (fun KQ => ∀ v36 : Bool, f7_r9 m a0 a1 a2 v2 v3 v5 v7 v9 v11 (v36 || (!((v9.2.fCode == 0) && ((v9.2.fIndex == 0) && true)))) = some o → KQ 19 ⟨(.v (.agg [(vI a0.fKind), (vP eI a0.fLabels), (vP ep24 a0.fSubs), (vI a0.fLeast), (vI a0.fMost)])) :: (.v (.agg [(vI a1.fKind), (vP eI a1.fLabels), (vP ep24 a1.fSubs), (vI a1.fLeast), (vI a1.fMost)])) :: (dP eI a2) :: (.ptr 0 0) :: (.ptr 1 0) :: u1 ((dB false) :: (dB v2.1) :: (.ptr 2 0) :: (dB v3.1) :: (.ptr 3 0) :: (dB v5.1) :: (.ptr 4 0) :: (dB v7.1) :: (.ptr 5 0) :: (dB v9.1) :: (.ptr 6 0) :: (dB v11.1) :: (.ptr 7 0) :: u6 ((dB v1) :: (dB (!v1)) :: (.v (.tuple [(vB v2.1), (.agg [(vI v2.2.fCode), (vI v2.2.fIndex)])])) :: (.v (.agg [(vI a0.fKind), (vP eI a0.fLabels), (vP ep24 a0.fSubs), (vI a0.fLeast), (vI a0.fMost)])) :: (dP eI a2) :: (.v (.tuple [(vB v2.1), (.agg [(vI v2.2.fCode), (vI v2.2.fIndex)])])) :: (dB v2.1) :: (.v (.agg [(vI v2.2.fCode), (vI v2.2.fIndex)])) :: (.v (.tuple [(vB v3.1), (.agg [(vI v3.2.fCode), (vI v3.2.fIndex)])])) :: (.v (.agg [(vI a1.fKind), (vP eI a1.fLabels), (vP ep24 a1.fSubs), (vI a1.fLeast), (vI a1.fMost)])) :: (dP eI a2) :: (.v (.tuple [(vB v3.1), (.agg [(vI v3.2.fCode), (vI v3.2.fIndex)])])) :: (dB v3.1) :: (.v (.agg [(vI v3.2.fCode), (vI v3.2.fIndex)])) :: (.v (.tuple [(vB v5.1), (.agg [(vI v5.2.fCode), (vI v5.2.fIndex)])])) :: (.v (.agg [(vI a0.fKind), (vP eI a0.fLabels), (vP ep24 a0.fSubs), (vI a0.fLeast), (vI a0.fMost)])) :: (.v (.agg [(vI a1.fKind), (vP eI a1.fLabels), (vP ep24 a1.fSubs), (vI a1.fLeast), (vI a1.fMost)])) :: (.v (.agg [(vI v4.fKind), (vP eI v4.fLabels), (vP ep24 v4.fSubs), (vI v4.fLeast), (vI v4.fMost)])) :: (dP eI a2) :: (.v (.tuple [(vB v5.1), (.agg [(vI v5.2.fCode), (vI v5.2.fIndex)])])) :: (dB v5.1) :: (.v (.agg [(vI v5.2.fCode), (vI v5.2.fIndex)])) :: (.v (.tuple [(vB v7.1), (.agg [(vI v7.2.fCode), (vI v7.2.fIndex)])])) :: (.v (.agg [(vI a0.fKind), (vP eI a0.fLabels), (vP ep24 a0.fSubs), (vI a0.fLeast), (vI a0.fMost)])) :: (.v (.agg [(vI a1.fKind), (vP eI a1.fLabels), (vP ep24 a1.fSubs), (vI a1.fLeast), (vI a1.fMost)])) :: (.v (.agg [(vI v6.fKind), (vP eI v6.fLabels), (vP ep24 v6.fSubs), (vI v6.fLeast), (vI v6.fMost)])) :: (dP eI a2) :: (.v (.tuple [(vB v7.1), (.agg [(vI v7.2.fCode), (vI v7.2.fIndex)])])) :: (dB v7.1) :: (.v (.agg [(vI v7.2.fCode), (vI v7.2.fIndex)])) :: (.v (.tuple [(vB v9.1), (.agg [(vI v9.2.fCode), (vI v9.2.fIndex)])])) :: (.v (.agg [(vI a0.fKind), (vP eI a0.fLabels), (vP ep24 a0.fSubs), (vI a0.fLeast), (vI a0.fMost)])) :: (.v (.agg [(vI a1.fKind), (vP eI a1.fLabels), (vP ep24 a1.fSubs), (vI a1.fLeast), (vI a1.fMost)])) :: (.v (.agg [(vI v8.fKind), (vP eI v8.fLabels), (vP ep24 v8.fSubs), (vI v8.fLeast), (vI v8.fMost)])) :: (dP eI a2) :: (.v (.tuple [(vB v9.1), (.agg [(vI v9.2.fCode), (vI v9.2.fIndex)])])) :: (dB v9.1) :: (.v (.agg [(vI v9.2.fCode), (vI v9.2.fIndex)])) :: (.v (.tuple [(vB v11.1), (.agg [(vI v11.2.fCode), (vI v11.2.fIndex)])])) :: (.v (.agg [(vI a0.fKind), (vP eI a0.fLabels), (vP ep24 a0.fSubs), (vI a0.fLeast), (vI a0.fMost)])) :: (.v (.agg [(vI a1.fKind), (vP eI a1.fLabels), (vP ep24 a1.fSubs), (vI a1.fLeast), (vI a1.fMost)])) :: (.v (.agg [(vI v10.fKind), (vP eI v10.fLabels), (vP ep24 v10.fSubs), (vI v10.fLeast), (vI v10.fMost)])) :: (dP eI a2) :: (.v (.tuple [(vB v11.1), (.agg [(vI v11.2.fCode), (vI v11.2.fIndex)])])) :: (dB v11.1) :: (.v (.agg [(vI v11.2.fCode), (vI v11.2.fIndex)])) :: (.v (.agg [(vI v2.2.fCode), (vI v2.2.fIndex)])) :: (.v (.agg [(vI 0), (vI 0)])) :: (dB v17) :: (dB v17) :: d14 :: d15 :: d16 :: (dB v25) :: (dB v25) :: d22 :: d23 :: d24 :: (dB v33) :: (dB v33) :: d30 :: d31 :: d32 :: (dB v36) :: (dB v36) :: u40 (u34 []))), [(b7_0 a0), (b7_0 a1), (b7_1 v2), (b7_1 v3), (b7_1 v5), (b7_1 v7), (b7_1 v9), (b7_1 v11)]⟩) ?_ fun G7g37 => Ops.st _ (by kernel_rfl) (G7g37 v34 h)
          intro v36 h
          cases v36
          · refine Ops.sg 4 23 ?_
            exact Ops.st _ (by kernel_rfl) (J7j43 ((.v (.agg [(vI v9.2.fCode), (vI v9.2.fIndex)]))) ((.v (.agg [(vI 0), (vI 0)]))) (dB (!((v9.2.fCode == 0) && ((v9.2.fIndex == 0) && true)))) false (!((v9.2.fCode == 0) && ((v9.2.fIndex == 0) && true))) h)
          · refine Ops.sg 4 23 ?_
            exact Ops.st _ (by kernel_rfl) (J7j43 U U U true true h)
        refine Ops.hv (fun KQ => ∀ v28 : Bool, f7_r10 m a0 a1 a2 v2 v3 v5 v7 v9 v11 (v28 || (!((v7.2.fCode == 0) && ((v7.2.fIndex == 0) && true)))) = some o → KQ 14 ⟨(.v (.agg [(vI a0.fKind), (vP eI a0.fLabels), (vP ep24 a0.fSubs), (vI a0.fLeast), (vI a0.fMost)])) :: (.v (.agg [(vI a1.fKind), (vP eI a1.fLabels), (vP ep24 a1.fSubs), (vI a1.fLeast), (vI a1.fMost)])) :: (dP eI a2) :: (.ptr 0 0) :: (.ptr 1 0) :: u1 ((dB false) :: (dB v2.1) :: (.ptr 2 0) :: (dB v3.1) :: (.ptr 3 0) :: (dB v5.1) :: (.ptr 4 0) :: (dB v7.1) :: (.ptr 5 0) :: (dB v9.1) :: (.ptr 6 0) :: (dB v11.1) :: (.ptr 7 0) :: u6 ((dB v1) :: (dB (!v1)) :: (.v (.tuple [(vB v2.1), (.agg [(vI v2.2.fCode), (vI v2.2.fIndex)])])) :: (.v (.agg [(vI a0.fKind), (vP eI a0.fLabels), (vP ep24 a0.fSubs), (vI a0.fLeast), (vI a0.fMost)])) :: (dP eI a2) :: (.v (.tuple [(vB v2.1), (.agg [(vI v2.2.fCode), (vI v2.2.fIndex)])])) :: (dB v2.1) :: (.v (.agg [(vI v2.2.fCode), (vI v2.2.fIndex)])) :: (.v (.tuple [(vB v3.1), (.agg [(vI v3.2.fCode), (vI v3.2.fIndex)])])) :: (.v (.agg [(vI a1.fKind), (vP eI a1.fLabels), (vP ep24 a1.fSubs), (vI a1.fLeast), (vI a1.fMost)])) :: (dP eI a2) :: (.v (.tuple [(vB v3.1), (.agg [(vI v3.2.fCode), (vI v3.2.fIndex)])])) :: (dB v3.1) :: (.v (.agg [(vI v3.2.fCode), (vI v3.2.fIndex)])) :: (.v (.tuple [(vB v5.1), (.agg [(vI v5.2.fCode), (vI v5.2.fIndex)])])) :: (.v (.agg [(vI a0.fKind), (vP eI a0.fLabels), (vP ep24 a0.fSubs), (vI a0.fLeast), (vI a0.fMost)])) :: (.v (.agg [(vI a1.fKind), (vP eI a1.fLabels), (vP ep24 a1.fSubs), (vI a1.fLeast), (vI a1.fMost)])) :: (.v (.agg [(vI v4.fKind), (vP eI v4.fLabels), (vP ep24 v4.fSubs), (vI v4.fLeast), (vI v4.fMost)])) :: (dP eI a2) :: (.v (.tuple [(vB v5.1), (.agg [(vI v5.2.fCode), (vI v5.2.fIndex)])])) :: (dB v5.1) :: (.v (.agg [(vI v5.2.fCode), (vI v5.2.fIndex)])) :: (.v (.tuple [(vB v7.1), (.agg [(vI v7.2.fCode), (vI v7.2.fIndex)])])) :: (.v (.agg [(vI a0.fKind), (vP eI a0.fLabels), (vP ep24 a0.fSubs), (vI a0.fLeast), (vI a0.fMost)])) :: (.v (.agg [(vI a1.fKind), (vP eI a1.fLabels), (vP ep24 a1.fSubs), (vI a1.fLeast), (vI a1.fMost)])) :: (.v (.agg [(vI v6.fKind), (vP eI v6.fLabels), (vP ep24 v6.fSubs), (vI v6.fLeast), (vI v6.fMost)])) :: (dP eI a2) :: (.v (.tuple [(vB v7.1), (.agg [(vI v7.2.fCode), (vI v7.2.fIndex)])])) :: (dB v7.1) :: (.v (.agg [(vI v7.2.fCode), (vI v7.2.fIndex)])) :: (.v (.tuple [(vB v9.1), (.agg [(vI v9.2.fCode), (vI v9.2.fIndex)])])) :: (.v (.agg [(vI a0.fKind), (vP eI a0.fLabels), (vP ep24 a0.fSubs), (vI a0.fLeast), (vI a0.fMost)])) :: (.v (.agg [(vI a1.fKind), (vP eI a1.fLabels), (vP ep24 a1.fSubs), (vI a1.fLeast), (vI a1.fMost)])) :: (.v (.agg [(vI v8.fKind), (vP eI v8.fLabels), (vP ep24 v8.fSubs), (vI v8.fLeast), (vI v8.fMost)])) :: (dP eI a2) :: (.v (.tuple [(vB v9.1), (.agg [(vI v9.2.fCode), (vI v9.2.fIndex)])])) :: (dB v9.1) :: (.v (.agg [(vI v9.2.fCode), (vI v9.2.fIndex)])) :: (.v (.tuple [(vB v11.1), (.agg [(vI v11.2.fCode), (vI v11.2.fIndex)])])) :: (.v (.agg [(vI a0.fKind), (vP eI a0.fLabels), (vP ep24 a0.fSubs), (vI a0.fLeast), (vI a0.fMost)])) :: (.v (.agg [(vI a1.fKind), (vP eI a1.fLabels), (vP ep24 a1.fSubs), (vI a1.fLeast), (vI a1.fMost)])) :: (.v (.agg [(vI v10.fKind), (vP eI v10.fLabels), (vP ep24 v10.fSubs), (vI v10.fLeast), (vI v10.fMost)])) :: (dP eI a2) :: (.v (.tuple [(vB v11.1), (.agg [(vI v11.2.fCode), (vI v11.2.fIndex)])])) :: (dB v11.1) :: (.v (.agg [(vI v11.2.fCode), (vI v11.2.fIndex)])) :: (.v (.agg [(vI v2.2.fCode), (vI v2.2.fIndex)])) :: (.v (.agg [(vI 0), (vI 0)])) :: (dB v17) :: (dB v17) :: d14 :: d15 :: d16 :: (dB v25) :: (dB v25) :: d22 :: d23 :: d24 :: (dB v28) :: (dB v28) :: u40 (u39 []))), [(b7_0 a0), (b7_0 a1), (b7_1 v2), (b7_1 v3), (b7_1 v5), (b7_1 v7), (b7_1 v9), (b7_1 v11)]⟩) ?_ fun G7g29 => Ops.st _ (by kernel_rfl) (G7g29 v26 h)
        intro v28 h
        cases v28
        · refine Ops.sg 4 18 ?_
          exact Ops.st _ (by kernel_rfl) (J7j35 ((.v (.agg [(vI v7.2.fCode), (vI v7.2.fIndex)]))) ((.v (.agg [(vI 0), (vI 0)]))) (dB (!((v7.2.fCode == 0) && ((v7.2.fIndex == 0) && true)))) false (!((v7.2.fCode == 0) && ((v7.2.fIndex == 0) && true))) h)
        · refine Ops.sg 4 18 ?_
          exact Ops.st _ (by kernel_rfl) (J7j35 U U U true true h)
      refine Ops.hv (fun KQ => ∀ v20 : Bool, f7_r11 m a0 a1 a2 v2 v3 v5 v7 v9 v11 (v20 || (!((v5.2.fCode == 0) && ((v5.2.fIndex == 0) && true)))) = some o → KQ 9 ⟨(.v (.agg [(vI a0.fKind), (vP eI a0.fLabels), (vP ep24 a0.fSubs), (vI a0.fLeast), (vI a0.fMost)])) :: (.v (.agg [(vI a1.fKind), (vP eI a1.fLabels), (vP ep24 a1.fSubs), (vI a1.fLeast), (vI a1.fMost)])) :: (dP eI a2) :: (.ptr 0 0) :: (.ptr 1 0) :: u1 ((dB false) :: (dB v2.1) :: (.ptr 2 0) :: (dB v3.1) :: (.ptr 3 0) :: (dB v5.1) :: (.ptr 4 0) :: (dB v7.1) :: (.ptr 5 0) :: (dB v9.1) :: (.ptr 6 0) :: (dB v11.1) :: (.ptr 7 0) :: u6 ((dB v1) :: (dB (!v1)) :: (.v (.tuple [(vB v2.1), (.agg [(vI v2.2.fCode), (vI v2.2.fIndex)])])) :: (.v (.agg [(vI a0.fKind), (vP eI a0.fLabels), (vP ep24 a0.fSubs), (vI a0.fLeast), (vI a0.fMost)])) :: (dP eI a2) :: (.v (.tuple [(vB v2.1), (.agg [(vI v2.2.fCode), (vI v2.2.fIndex)])])) :: (dB v2.1) :: (.v (.agg [(vI v2.2.fCode), (vI v2.2.fIndex)])) :: (.v (.tuple [(vB v3.1), (.agg [(vI v3.2.fCode), (vI v3.2.fIndex)])])) :: (.v (.agg [(vI a1.fKind), (vP eI a1.fLabels), (vP ep24 a1.fSubs), (vI a1.fLeast), (vI a1.fMost)])) :: (dP eI a2) :: (.v (.tuple [(vB v3.1), (.agg [(vI v3.2.fCode), (vI v3.2.fIndex)])])) :: (dB v3.1) :: (.v (.agg [(vI v3.2.fCode), (vI v3.2.fIndex)])) :: (.v (.tuple [(vB v5.1), (.agg [(vI v5.2.fCode), (vI v5.2.fIndex)])])) :: (.v (.agg [(vI a0.fKind), (vP eI a0.fLabels), (vP ep24 a0.fSubs), (vI a0.fLeast), (vI a0.fMost)])) :: (.v (.agg [(vI a1.fKind), (vP eI a1.fLabels), (vP ep24 a1.fSubs), (vI a1.fLeast), (vI a1.fMost)])) :: (.v (.agg [(vI v4.fKind), (vP eI v4.fLabels), (vP ep24 v4.fSubs), (vI v4.fLeast), (vI v4.fMost)])) :: (dP eI a2) :: (.v (.tuple [(vB v5.1), (.agg [(vI v5.2.fCode), (vI v5.2.fIndex)])])) :: (dB v5.1) :: (.v (.agg [(vI v5.2.fCode), (vI v5.2.fIndex)])) :: (.v (.tuple [(vB v7.1), (.agg [(vI v7.2.fCode), (vI v7.2.fIndex)])])) :: (.v (.agg [(vI a0.fKind), (vP eI a0.fLabels), (vP ep24 a0.fSubs), (vI a0.fLeast), (vI a0.fMost)])) :: (.v (.agg [(vI a1.fKind), (vP eI a1.fLabels), (vP ep24 a1.fSubs), (vI a1.fLeast), (vI a1.fMost)])) :: (.v (.agg [(vI v6.fKind), (vP eI v6.fLabels), (vP ep24 v6.fSubs), (vI v6.fLeast), (vI v6.fMost)])) :: (dP eI a2) :: (.v (.tuple [(vB v7.1), (.agg [(vI v7.2.fCode), (vI v7.2.fIndex)])])) :: (dB v7.1) :: (.v (.agg [(vI v7.2.fCode), (vI v7.2.fIndex)])) :: (.v (.tuple [(vB v9.1), (.agg [(vI v9.2.fCode), (vI v9.2.fIndex)])])) :: (.v (.agg [(vI a0.fKind), (vP eI a0.fLabels), (vP ep24 a0.fSubs), (vI a0.fLeast), (vI a0.fMost)])) :: (.v (.agg [(vI a1.fKind), (vP eI a1.fLabels), (vP ep24 a1.fSubs), (vI a1.fLeast), (vI a1.fMost)])) :: (.v (.agg [(vI v8.fKind), (vP eI v8.fLabels), (vP ep24 v8.fSubs), (vI v8.fLeast), (vI v8.fMost)])) :: (dP eI a2) :: (.v (.tuple [(vB v9.1), (.agg [(vI v9.2.fCode), (vI v9.2.fIndex)])])) :: (dB v9.1) :: (.v (.agg [(vI v9.2.fCode), (vI v9.2.fIndex)])) :: (.v (.tuple [(vB v11.1), (.agg [(vI v11.2.fCode), (vI v11.2.fIndex)])])) :: (.v (.agg [(vI a0.fKind), (vP eI a0.fLabels), (vP ep24 a0.fSubs), (vI a0.fLeast), (vI a0.fMost)])) :: (.v (.agg [(vI a1.fKind), (vP eI a1.fLabels), (vP ep24 a1.fSubs), (vI a1.fLeast), (vI a1.fMost)])) :: (.v (.agg [(vI v10.fKind), (vP eI v10.fLabels), (vP ep24 v10.fSubs), (vI v10.fLeast), (vI v10.fMost)])) :: (dP eI a2) :: (.v (.tuple [(vB v11.1), (.agg [(vI v11.2.fCode), (vI v11.2.fIndex)])])) :: (dB v11.1) :: (.v (.agg [(vI v11.2.fCode), (vI v11.2.fIndex)])) :: (.v (.agg [(vI v2.2.fCode), (vI v2.2.fIndex)])) :: (.v (.agg [(vI 0), (vI 0)])) :: (dB v17) :: (dB v17) :: d14 :: d15 :: d16 :: (dB v20) :: (dB v20) :: u40 (u40 (u4 [])))), [(b7_0 a0), (b7_0 a1), (b7_1 v2), (b7_1 v3), (b7_1 v5), (b7_1 v7), (b7_1 v9), (b7_1 v11)]⟩) ?_ fun G7g21 => Ops.st _ (by kernel_rfl) (G7g21 v18 h)
      intro v20 h
      cases v20
      · refine Ops.sg 4 13 ?_
        exact Ops.st _ (by kernel_rfl) (J7j27 ((.v (.agg [(vI v5.2.fCode), (vI v5.2.fIndex)]))) ((.v (.agg [(vI 0), (vI 0)]))) (dB (!((v5.2.fCode == 0) && ((v5.2.fIndex == 0) && true)))) false (!((v5.2.fCode == 0) && ((v5.2.fIndex == 0) && true))) h)
      · refine Ops.sg 4 13 ?_
        exact Ops.st _ (by kernel_rfl) (J7j27 U U U true true h)
    refine Ops.hv (fun KQ => ∀ v12 : Bool, f7_r12 m a0 a1 a2 v2 v3 v5 v7 v9 v11 (v12 || (!((v3.2.fCode == 0) && ((v3.2.fIndex == 0) && true)))) = some o → KQ 4 ⟨(.v (.agg [(vI a0.fKind), (vP eI a0.fLabels), (vP ep24 a0.fSubs), (vI a0.fLeast), (vI a0.fMost)])) :: (.v (.agg [(vI a1.fKind), (vP eI a1.fLabels), (vP ep24 a1.fSubs), (vI a1.fLeast), (vI a1.fMost)])) :: (dP eI a2) :: (.ptr 0 0) :: (.ptr 1 0) :: u1 ((dB false) :: (dB v2.1) :: (.ptr 2 0) :: (dB v3.1) :: (.ptr 3 0) :: (dB v5.1) :: (.ptr 4 0) :: (dB v7.1) :: (.ptr 5 0) :: (dB v9.1) :: (.ptr 6 0) :: (dB v11.1) :: (.ptr 7 0) :: u6 ((dB v1) :: (dB (!v1)) :: (.v (.tuple [(vB v2.1), (.agg [(vI v2.2.fCode), (vI v2.2.fIndex)])])) :: (.v (.agg [(vI a0.fKind), (vP eI a0.fLabels), (vP ep24 a0.fSubs), (vI a0.fLeast), (vI a0.fMost)])) :: (dP eI a2) :: (.v (.tuple [(vB v2.1), (.agg [(vI v2.2.fCode), (vI v2.2.fIndex)])])) :: (dB v2.1) :: (.v (.agg [(vI v2.2.fCode), (vI v2.2.fIndex)])) :: (.v (.tuple [(vB v3.1), (.agg [(vI v3.2.fCode), (vI v3.2.fIndex)])])) :: (.v (.agg [(vI a1.fKind), (vP eI a1.fLabels), (vP ep24 a1.fSubs), (vI a1.fLeast), (vI a1.fMost)])) :: (dP eI a2) :: (.v (.tuple [(vB v3.1), (.agg [(vI v3.2.fCode), (vI v3.2.fIndex)])])) :: (dB v3.1) :: (.v (.agg [(vI v3.2.fCode), (vI v3.2.fIndex)])) :: (.v (.tuple [(vB v5.1), (.agg [(vI v5.2.fCode), (vI v5.2.fIndex)])])) :: (.v (.agg [(vI a0.fKind), (vP eI a0.fLabels), (vP ep24 a0.fSubs), (vI a0.fLeast), (vI a0.fMost)])) :: (.v (.agg [(vI a1.fKind), (vP eI a1.fLabels), (vP ep24 a1.fSubs), (vI a1.fLeast), (vI a1.fMost)])) :: (.v (.agg [(vI v4.fKind), (vP eI v4.fLabels), (vP ep24 v4.fSubs), (vI v4.fLeast), (vI v4.fMost)])) :: (dP eI a2) :: (.v (.tuple [(vB v5.1), (.agg [(vI v5.2.fCode), (vI v5.2.fIndex)])])) :: (dB v5.1) :: (.v (.agg [(vI v5.2.fCode), (vI v5.2.fIndex)])) :: (.v (.tuple [(vB v7.1), (.agg [(vI v7.2.fCode), (vI v7.2.fIndex)])])) :: (.v (.agg [(vI a0.fKind), (vP eI a0.fLabels), (vP ep24 a0.fSubs), (vI a0.fLeast), (vI a0.fMost)])) :: (.v (.agg [(vI a1.fKind), (vP eI a1.fLabels), (vP ep24 a1.fSubs), (vI a1.fLeast), (vI a1.fMost)])) :: (.v (.agg [(vI v6.fKind), (vP eI v6.fLabels), (vP ep24 v6.fSubs), (vI v6.fLeast), (vI v6.fMost)])) :: (dP eI a2) :: (.v (.tuple [(vB v7.1), (.agg [(vI v7.2.fCode), (vI v7.2.fIndex)])])) :: (dB v7.1) :: (.v (.agg [(vI v7.2.fCode), (vI v7.2.fIndex)])) :: (.v (.tuple [(vB v9.1), (.agg [(vI v9.2.fCode), (vI v9.2.fIndex)])])) :: (.v (.agg [(vI a0.fKind), (vP eI a0.fLabels), (vP ep24 a0.fSubs), (vI a0.fLeast), (vI a0.fMost)])) :: (.v (.agg [(vI a1.fKind), (vP eI a1.fLabels), (vP ep24 a1.fSubs), (vI a1.fLeast), (vI a1.fMost)])) :: (.v (.agg [(vI v8.fKind), (vP eI v8.fLabels), (vP ep24 v8.fSubs), (vI v8.fLeast), (vI v8.fMost)])) :: (dP eI a2) :: (.v (.tuple [(vB v9.1), (.agg [(vI v9.2.fCode), (vI v9.2.fIndex)])])) :: (dB v9.1) :: (.v (.agg [(vI v9.2.fCode), (vI v9.2.fIndex)])) :: (.v (.tuple [(vB v11.1), (.agg [(vI v11.2.fCode), (vI v11.2.fIndex)])])) :: (.v (.agg [(vI a0.fKind), (vP eI a0.fLabels), (vP ep24 a0.fSubs), (vI a0.fLeast), (vI a0.fMost)])) :: (.v (.agg [(vI a1.fKind), (vP eI a1.fLabels), (vP ep24 a1.fSubs), (vI a1.fLeast), (vI a1.fMost)])) :: (.v (.agg [(vI v10.fKind), (vP eI v10.fLabels), (vP ep24 v10.fSubs), (vI v10.fLeast), (vI v10.fMost)])) :: (dP eI a2) :: (.v (.tuple [(vB v11.1), (.agg [(vI v11.2.fCode), (vI v11.2.fIndex)])])) :: (dB v11.1) :: (.v (.agg [(vI v11.2.fCode), (vI v11.2.fIndex)])) :: (.v (.agg [(vI v2.2.fCode), (vI v2.2.fIndex)])) :: (.v (.agg [(vI 0), (vI 0)])) :: (dB v12) :: (dB v12) :: u40 (u40 (u9 [])))), [(b7_0 a0), (b7_0 a1), (b7_1 v2), (b7_1 v3), (b7_1 v5), (b7_1 v7), (b7_1 v9), (b7_1 v11)]⟩) ?_ fun G7g13 => Ops.st _ (by kernel_rfl) (G7g13 (!((v2.2.fCode == 0) && ((v2.2.fIndex == 0) && true))) h)
    intro v12 h
    cases v12
    · refine Ops.sg 4 8 ?_
      exact Ops.st _ (by kernel_rfl) (J7j19 ((.v (.agg [(vI v3.2.fCode), (vI v3.2.fIndex)]))) ((.v (.agg [(vI 0), (vI 0)]))) (dB (!((v3.2.fCode == 0) && ((v3.2.fIndex == 0) && true)))) false (!((v3.2.fCode == 0) && ((v3.2.fIndex == 0) && true))) h)
    · refine Ops.sg 4 8 ?_
      exact Ops.st _ (by kernel_rfl) (J7j19 U U U true true h)
end Go.Abs
