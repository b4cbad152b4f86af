import Derived.Test.YtipdmkcbneglpaaDoorWF1
namespace Go.Abs
set_option linter.unusedVariables false
set_option maxRecDepth 100000

/-! ### a group of functions: (*glosswright/pattern.reader).either (*glosswright/pattern.reader).both (*glosswright/pattern.reader).seq (*glosswright/pattern.reader).factor (*glosswright/pattern.reader).atom -/
structure Rec28 where
  r28 : S58 → Int → Option ((S24 × Bool) × S58)
  r45 : S58 → Int → Option ((S24 × Bool) × S58)
  r61 : S58 → Int → Option ((S24 × Bool) × S58)
  r67 : S58 → Int → Option ((S24 × Bool) × S58)
  r74 : S58 → Int → Option ((S24 × Bool) × S58)
structure OkRec28 (m : Nat) (K : Rec28) (nn : Nat) : Prop where
  ok28 : ∀ (a0 : S58) (a1 : Int) (o : ((S24 × Bool) × S58)), K.r28 a0 a1 = some o → ∀ n, nn ≤ n → FnP Proofs.Tryd.prog E n 28 (c58 a0) [.v (eI a1)] (.tuple [e24 o.1.1, eB o.1.2]) (c58 o.2)
  ok45 : ∀ (a0 : S58) (a1 : Int) (o : ((S24 × Bool) × S58)), K.r45 a0 a1 = some o → ∀ n, nn ≤ n → FnP Proofs.Tryd.prog E n 45 (c58 a0) [.v (eI a1)] (.tuple [e24 o.1.1, eB o.1.2]) (c58 o.2)
  ok61 : ∀ (a0 : S58) (a1 : Int) (o : ((S24 × Bool) × S58)), K.r61 a0 a1 = some o → ∀ n, nn ≤ n → FnP Proofs.Tryd.prog E n 61 (c58 a0) [.v (eI a1)] (.tuple [e24 o.1.1, eB o.1.2]) (c58 o.2)
  ok67 : ∀ (a0 : S58) (a1 : Int) (o : ((S24 × Bool) × S58)), K.r67 a0 a1 = some o → ∀ n, nn ≤ n → FnP Proofs.Tryd.prog E n 67 (c58 a0) [.v (eI a1)] (.tuple [e24 o.1.1, eB o.1.2]) (c58 o.2)
  ok74 : ∀ (a0 : S58) (a1 : Int) (o : ((S24 × Bool) × S58)), K.r74 a0 a1 = some o → ∀ n, nn ≤ n → FnP Proofs.Tryd.prog E n 74 (c58 a0) [.v (eI a1)] (.tuple [e24 o.1.1, eB o.1.2]) (c58 o.2)
/-! ### 28 (*glosswright/pattern.reader).either -/
noncomputable def f28_B1 (m : Nat) (K : Rec28) (a1 : Int) (v10 : (List P24)) (v11 : (List Int)) (v12 : Int) : Option (Stp ((S24 × Bool) × S58) ((List P24) × (List Int) × Int)) :=
  bnd (K.r45 ((⟨v11, v12⟩ : S58)) a1) fun v22 =>
  cnd (!v22.1.2)
  (some (.ret (((v22.1.1, false), v22.2))))
  (bnd (app 72 v10 ([(P24.con v22.1.1)])) fun v23 =>
  bnd (f46 m v22.2 124) fun v24 =>
  cnd (!v24)
  (some (.brk (v23, v22.2.fL, v22.2.fAt)))
  (some (.nxt (v23, v22.2.fL, w64 (v22.2.fAt + 1)))))
noncomputable def b28 (m : Nat) (K : Rec28) (a0 : S58) (a1 : Int) : Option ((S24 × Bool) × S58) :=
  brk (iter (fun (y : (List P24) × (List Int) × Int) => f28_B1 m K a1 y.1 y.2.1 y.2.2) m ([], a0.fL, a0.fAt)) some fun y26 =>
  cnd ((y26.1.length : Int) == 1)
  (bnd (idx y26.1 0) fun v28 =>
  some (((v28.vw, true), (⟨y26.2.1, y26.2.2⟩ : S58))))
  (some ((((⟨4, [], y26.1, 0, 0⟩ : S24), true), (⟨y26.2.1, y26.2.2⟩ : S58))))
noncomputable abbrev X28 (n : Nat) : Cx := cxOf Proofs.Tryd.prog E 28 n
noncomputable def C28 : Code := bodyOf Proofs.Tryd.prog 28
noncomputable abbrev b28_0 : AObj := .cells [(dI 0), (.v (.sl .nil (List.map eI []))), (.v (.sl .nil (List.map ep24 []))), (dI 0), (dI 0)]
theorem okb28 (m : Nat) (K : Rec28) (nn : Nat) (hK : OkRec28 m K nn) (a0 : S58) (a1 : Int) (o : ((S24 × Bool) × S58)) (h : b28 m K a0 a1 = some o) (n : Nat) (hn : m + 2 ≤ n) (hk : nn + 1 ≤ n) : FnP Proofs.Tryd.prog E n 28 (c58 a0) [.v (eI a1)] (.tuple [e24 o.1.1, eB o.1.2]) (c58 o.2) := by
  obtain ⟨n, rfl⟩ : ∃ q, n = q + 1 := ⟨n - 1, by omega⟩
  unfold b28 at h
  refine FnP.of (by kernel_rfl) (by kernel_rfl) (by kernel_rfl) ⟨(.ptr 0 0) :: (dI a1) :: u38 [], [(.cells [(dP eI a0.fL), (dI a0.fAt)])]⟩ (by kernel_rfl) ?_
  refine Wp.sq ?_
  refine Wp.rg ?_
  refine Ops.sg 2 2 ?_
  refine Ops.dn ?_
  refine seqQ.n ?_
  refine Wp.sq ?_
  refine Wp.rg ?_
  refine Ops.sg 1 1 ?_
  refine Ops.dn ?_
  refine seqQ.n ?_
  refine Wp.sq ?_
  refine Wp.block' 0 [4, 5, 6] 2 (by kernel_rfl) ?_
  have hLx25 : ∀ (kx14 : Nat) (v10 : (List P24)) (v11 : (List Int)) (v12 : Int)  (ox13 : ((S24 × Bool) × S58) ⊕ ((List P24) × (List Int) × Int)), iter (fun (y : (List P24) × (List Int) × Int) => f28_B1 m K a1 y.1 y.2.1 y.2.2) kx14 (v10, v11, v12) = some ox13 → ∀ nx15, kx14 ≤ nx15 → (∀ r, ox13 = .inl r → ∀ σ, RetOkP (X28 n) (resOf Proofs.Tryd.prog 28) (.tuple [e24 r.1.1, eB r.1.2]) (c58 r.2) σ → (seqQ (X28 n) (cR (cR (cR C28))) (fnQP (X28 n).E.T (resOf Proofs.Tryd.prog 28) (.tuple [e24 o.1.1, eB o.1.2]) (c58 o.2))) .ret σ) → (∀ (y : (List P24) × (List Int) × Int) , ox13 = .inr y → (seqQ (X28 n) (cR (cR (cR C28))) (fnQP (X28 n).E.T (resOf Proofs.Tryd.prog 28) (.tuple [e24 o.1.1, eB o.1.2]) (c58 o.2))) .normal ⟨q4 ((.ptr 1 0) :: (dB false) :: (appD 2 (List.map ep24 y.1)) :: q33 []), [(.cells [(dP eI y.2.1), (dI y.2.2)]), b28_0, (appO 5 (List.map ep24 y.1))]⟩) → Lp (X28 n) [0, 1, 4, 5, 6] 2 (cL (cL (cL (cR (cR C28))))) nx15 ⟨(.ptr 0 0) :: (dI a1) :: q2 ((.ptr 1 0) :: (dB false) :: (appD 2 (List.map ep24 v10)) :: q33 []), [(.cells [(dP eI v11), (dI v12)]), b28_0, (appO 5 (List.map ep24 v10))]⟩ (blkQ (X28 n) 0 [4, 5, 6] 2 (seqQ (X28 n) (cR (cR (cR C28))) (fnQP (X28 n).E.T (resOf Proofs.Tryd.prog 28) (.tuple [e24 o.1.1, eB o.1.2]) (c58 o.2)))) := by
    intro kx14
    induction kx14 with
    | zero => intro v10 v11 v12  ox13 h; exact (iter_zero h).elim
    | succ kx14 ihx16 =>
      intro v10 v11 v12  ox13 h nx15 hnx19 hrx17 hxx18
      obtain ⟨nx15, rfl⟩ : ∃ q, nx15 = q + 1 := ⟨nx15 - 1, by omega⟩
      obtain ⟨sx20, h, hsx21⟩ := iter_some h
      have h : f28_B1 m K a1 v10 v11 v12 = some sx20 := h
      unfold f28_B1 at h
      refine Lp.succ ?_
      refine Wp.block' 1 [0, 1, 4, 5, 6] 3 (by kernel_rfl) ?_
      refine Wp.sq ?_
      refine Wp.rg ?_
      refine Ops.sg 2 2 ?_
      obtain ⟨v22, ev22, h⟩ := bnd_some h
      refine Ops.on 3 (fun h0 e0 => (call_ptr (E' := E) (h := h0) (q := 0) (cs := c58 ((⟨v11, v12⟩ : S58))) (by kernel_rfl) (by kernel_rfl) (by kernel_rfl) (hq_of e0 (by kernel_rfl)) (by kernel_rfl) (Args.v (vI a1) (eI a1) (by kernel_rfl) Args.nil) (hK.ok45 ((⟨v11, v12⟩ : S58)) a1 v22 ev22 n (by omega)))) ?_
      refine Ops.sg 6 9 ?_
      refine Ops.dn ?_
      refine seqQ.n ?_
      refine Wp.sq ?_
      refine Wp.sq ?_
      refine Wp.rg ?_
      refine Ops.sg 2 2 ?_
      refine Ops.dn ?_
      refine seqQ.n ?_
      refine Wp.cnd h [0, 1, 4, 5, 6, 7] 4 (by kernel_rfl) (fun h => ?_) (fun h => ?_)
      · refine Wp.sq ?_
        refine Wp.rg ?_
        refine Ops.sg 3 3 ?_
        refine Ops.dn ?_
        refine seqQ.n ?_
        refine Wp.ret (by kernel_rfl) ?_
        refine sqQ.r ?_
        refine seqQ.r ?_
        refine blkQ.r ?_
        cases h
        refine lpQ.r ?_
        refine blkQ.r ?_
        exact hrx17 _ hsx21 _ (RetOkP.forget [0, 1, 4, 5, 6] (by kernel_rfl) (RetOkP.mk' (.v (.tuple [(.agg [(vI v22.1.1.fKind), (vP eI v22.1.1.fLabels), (vP ep24 v22.1.1.fSubs), (vI v22.1.1.fLeast), (vI v22.1.1.fMost)]), (vB false)])) (by kernel_rfl) (by kernel_rfl) (by kernel_rfl) (by kernel_rfl)))
      · refine Wp.sk ?_
        refine sqQ.n ⟨(.ptr 0 0) :: (dI a1) :: q2 ((.ptr 1 0) :: (dB false) :: (appD 4 (List.map ep24 v10)) :: (.ptr 3 0) :: q32 []), [(.cells [(dP eI v22.2.fL), (dI v22.2.fAt)]), b28_0, .dead, (.cells [(dI v22.1.1.fKind), (dP eI v22.1.1.fLabels), (dP ep24 v22.1.1.fSubs), (dI v22.1.1.fLeast), (dI v22.1.1.fMost)]), (appO 5 (List.map ep24 v10))]⟩ (by generalize v10 = z0; cases z0 <;> kernel_rfl) ?_
        refine seqQ.n ?_
        refine Wp.sq ?_
        refine Wp.rg ?_
        refine Ops.sg 3 3 ?_
        obtain ⟨v23, ev23, h⟩ := bnd_some h
        refine Ops.on 4 (fun h0 e0 => (app_r (T := T) (g := .nil) h0 23 25 4 5 ti25 .nonfull ep24 v10 ([(P24.con v22.1.1)]) v23 ev23 (by kernel_rfl) (by kernel_rfl) (by kernel_rfl) (by kernel_rfl) ep24_len (hq_of e0 (by kernel_rfl)))) ?_
        refine Ops.sg 1 5 ?_
        refine Ops.dn ?_
        refine seqQ.n ?_
        refine Wp.sq ?_
        refine Wp.sq ?_
        refine Wp.rg ?_
        refine Ops.sg 1 1 ?_
        obtain ⟨v24, ev24, h⟩ := bnd_some h
        refine Ops.on 2 (fun h0 e0 => (call_ptr (E' := E) (h := h0) (q := 0) (cs := c58 v22.2) (by kernel_rfl) (by kernel_rfl) (by kernel_rfl) (hq_of e0 (by kernel_rfl)) (by kernel_rfl) (Args.v (vI 124) (eI 124) (by kernel_rfl) Args.nil) (ok46 m v22.2 124 v24 ev24 n (by omega)))) ?_
        refine Ops.sg 1 3 ?_
        refine Ops.dn ?_
        refine seqQ.n ?_
        refine Wp.cnd h [0, 1, 4, 5, 6] 6 (by kernel_rfl) (fun h => ?_) (fun h => ?_)
        · refine Wp.exit (id := 0) (by kernel_rfl) ?_
          refine sqQ.x ?_
          refine seqQ.x ?_
          refine blkQ.y (by kernel_rfl) ?_
          cases h
          refine lpQ.x ?_
          refine blkQ.x ⟨q4 ((.ptr 1 0) :: (dB false) :: (appD 2 (List.map ep24 v23)) :: q33 []), [(.cells [(dP eI v22.2.fL), (dI v22.2.fAt)]), b28_0, (appO 5 (List.map ep24 v23))]⟩ (by generalize v23 = z0; cases z0 <;> kernel_rfl) ?_
          exact hxx18 (v23, v22.2.fL, v22.2.fAt)  hsx21
        · refine Wp.sk ?_
          refine sqQ.n ⟨(.ptr 0 0) :: (dI a1) :: q2 ((.ptr 1 0) :: (dB false) :: (appD 6 (List.map ep24 v23)) :: q33 []), [(.cells [(dP eI v22.2.fL), (dI v22.2.fAt)]), b28_0, .dead, (.cells [(dI v22.1.1.fKind), (dP eI v22.1.1.fLabels), (dP ep24 v22.1.1.fSubs), (dI v22.1.1.fLeast), (dI v22.1.1.fMost)]), .dead, .dead, (appO 5 (List.map ep24 v23))]⟩ (by generalize v23 = z0; cases z0 <;> kernel_rfl) ?_
          refine seqQ.n ?_
          refine Wp.rg ?_
          refine Ops.sg 8 8 ?_
          refine Ops.dn ?_
          refine blkQ.n ⟨(.ptr 0 0) :: (dI a1) :: q2 ((.ptr 1 0) :: (dB false) :: (appD 3 (List.map ep24 v23)) :: q33 []), [(.cells [(dP eI v22.2.fL), (dI (w64 (v22.2.fAt + 1)))]), b28_0, .dead, (appO 5 (List.map ep24 v23))]⟩ (by generalize v23 = z0; cases z0 <;> kernel_rfl) ?_
          refine lpQ.n ⟨(.ptr 0 0) :: (dI a1) :: q2 ((.ptr 1 0) :: (dB false) :: (appD 2 (List.map ep24 v23)) :: q33 []), [(.cells [(dP eI v22.2.fL), (dI (w64 (v22.2.fAt + 1)))]), b28_0, (appO 5 (List.map ep24 v23))]⟩ (by generalize v23 = z0; cases z0 <;> kernel_rfl) ?_
          cases h
          exact ihx16 v23 v22.2.fL (w64 (v22.2.fAt + 1))  _ hsx21 _ (by omega) hrx17 hxx18
  refine Wp.loop' [0, 1, 4, 5, 6] 2 (by kernel_rfl) ⟨(.ptr 0 0) :: (dI a1) :: q2 ((.ptr 1 0) :: (dB false) :: (appD 2 (List.map ep24 [])) :: q33 []), [(.cells [(dP eI a0.fL), (dI a0.fAt)]), b28_0, .dead]⟩ (by kernel_rfl) ?_
  rcases brk_some h with ⟨r27, er27, h⟩ | ⟨y26, ey26, h⟩
  · refine hLx25 _ [] a0.fL a0.fAt  _ er27 n (by omega) (fun r er σ hσ => ?_) (fun y  ey => by cases ey)
    cases er
    refine seqQ.r ?_
    exact fnQP.r' (X28 n) (fun z => (.tuple [e24 z.1, eB z.2])) c58 h hσ
  · refine hLx25 _ [] a0.fL a0.fAt  _ ey26 n (by omega) (fun r er => by cases er) (fun y  ey => ?_)
    cases ey
    refine seqQ.n ?_
    refine Wp.sq ?_
    refine Wp.sq ?_
    refine Wp.rg ?_
    refine Ops.sg 1 1 ?_
    refine Ops.on 2 (fun h0 e0 => (len_a (T := T) (g := .nil) h0 23 25 2 ep24 y26.1 (by kernel_rfl))) ?_
    refine Ops.sg 1 3 ?_
    refine Ops.dn ?_
    refine seqQ.n ?_
    refine Wp.cnd h [4, 5, 6] 3 (by kernel_rfl) (fun h => ?_) (fun h => ?_)
    · refine Wp.sq ?_
      refine Wp.rg ?_
      refine Ops.sg 1 1 ?_
      obtain ⟨v28, ev28, h⟩ := bnd_some h
      refine Ops.on 2 (fun h0 e0 => (ixb24 (ix_a (T := T) (g := .nil) h0 23 25 5 2 ep24 y26.1 0 v28 ev28 (by kernel_rfl) (by kernel_rfl) ep24_len))) ?_
      refine Ops.sg 3 5 ?_
      refine Ops.dn ?_
      refine seqQ.n ?_
      refine Wp.ret (by kernel_rfl) ?_
      refine sqQ.r ?_
      refine seqQ.r ?_
      exact fnQP.r' (X28 n) (fun z => (.tuple [e24 z.1, eB z.2])) c58 h (RetOkP.mk' (.v (.tuple [(.agg [(vI v28.vw.fKind), (vP eI v28.vw.fLabels), (vP ep24 v28.vw.fSubs), (vI v28.vw.fLeast), (vI v28.vw.fMost)]), (vB true)])) (by kernel_rfl) (by kernel_rfl) (by kernel_rfl) (by kernel_rfl))
    · refine Wp.sk ?_
      refine sqQ.n ⟨q4 ((.ptr 1 0) :: (dB false) :: (appD 3 (List.map ep24 y26.1)) :: q33 []), [(.cells [(dP eI y26.2.1), (dI y26.2.2)]), b28_0, .dead, (appO 5 (List.map ep24 y26.1))]⟩ (by generalize y26.1 = z0; cases z0 <;> kernel_rfl) ?_
      refine seqQ.n ?_
      refine Wp.sq ?_
      refine Wp.rg ?_
      refine Ops.sg 1 1 ?_
      refine Ops.seg 1 2 (by kernel_rfl) ⟨q4 ((.ptr 1 0) :: (dB false) :: (appD 3 (List.map ep24 y26.1)) :: q31 ((appD 3 (List.map ep24 y26.1)) :: (.v (.agg [(vI 4), (.sl .nil (List.map eI [])), (.sl (dfl (appD 3 (List.map ep24 y26.1))) (List.map ep24 y26.1)), (vI 0), (vI 0)])) :: [])), [(.cells [(dP eI y26.2.1), (dI y26.2.2)]), b28_0, .dead, (appO 5 (List.map ep24 y26.1))]⟩ (by generalize y26.1 = z0; cases z0 <;> kernel_rfl) ?_
      refine Ops.sg 2 4 ?_
      refine Ops.dn ?_
      refine seqQ.n ?_
      refine Wp.ret (by kernel_rfl) ?_
      exact fnQP.r' (X28 n) (fun z => (.tuple [e24 z.1, eB z.2])) c58 h (RetOkP.mk' (.v (.tuple [(.agg [(vI 4), (.sl .nil (List.map eI [])), (.sl (dfl (appD 3 (List.map ep24 y26.1))) (List.map ep24 y26.1)), (vI 0), (vI 0)]), (vB true)])) (by kernel_rfl) (by kernel_rfl) (by kernel_rfl) (by kernel_rfl))
/-! ### 45 (*glosswright/pattern.reader).both -/
noncomputable def f45_j1 (m : Nat) (K : Rec28) (a1 : Int) (v63 : (List Int)) (v64 : Int) (v65 : Int) (v66 : (List Int)) (v68 : (List P24)) (v70 : Int) (v71 : Int) (v93 : Int) : Option (Stp ((S24 × Bool) × S58) (Bool × (List Int) × Int × Int × (List Int) × (List P24) × Int × Int)) :=
  bnd (K.r61 ((⟨v63, w64 (v64 + 1)⟩ : S58)) a1) fun v101 =>
  some (.nxt (v101.1.2, v101.2.fL, v101.2.fAt, v93, [], [(P24.con ((⟨v65, v66, v68, v70, v71⟩ : S24))), (P24.con v101.1.1)], 0, 0))
noncomputable def f45_r2 (m : Nat) (K : Rec28) (a1 : Int) (v63 : (List Int)) (v64 : Int) (v65 : Int) (v66 : (List Int)) (v68 : (List P24)) (v70 : Int) (v71 : Int) (v89 : Bool) (v90 : Bool) : Option (Stp ((S24 × Bool) × S58) (Bool × (List Int) × Int × Int × (List Int) × (List P24) × Int × Int)) :=
  cnd v90
  (bnd (f46 m ((⟨v63, v64⟩ : S58)) 45) fun v92 =>
  cnd v92
  (f45_j1 m K a1 v63 v64 v65 v66 v68 v70 v71 7)
  (f45_j1 m K a1 v63 v64 v65 v66 v68 v70 v71 6))
  (some (.brk (v89, v63, v64, v65, v66, v68, v70, v71)))
noncomputable def f45_B3 (m : Nat) (K : Rec28) (a1 : Int) (v62 : Bool) (v63 : (List Int)) (v64 : Int) (v65 : Int) (v66 : (List Int)) (v68 : (List P24)) (v70 : Int) (v71 : Int) : Option (Stp ((S24 × Bool) × S58) (Bool × (List Int) × Int × Int × (List Int) × (List P24) × Int × Int)) :=
  bnd (cnd v62
  (bnd (f46 m ((⟨v63, v64⟩ : S58)) 38) fun v102 =>
  cnd v102
  (some true)
  (bnd (f46 m ((⟨v63, v64⟩ : S58)) 45) fun v105 =>
  some v105))
  (some false)) fun v90 =>
  f45_r2 m K a1 v63 v64 v65 v66 v68 v70 v71 v62 v90
noncomputable def b45 (m : Nat) (K : Rec28) (a0 : S58) (a1 : Int) : Option ((S24 × Bool) × S58) :=
  bnd (K.r61 a0 a1) fun v1 =>
  brk (iter (fun (y : Bool × (List Int) × Int × Int × (List Int) × (List P24) × Int × Int) => f45_B3 m K a1 y.1 y.2.1 y.2.2.1 y.2.2.2.1 y.2.2.2.2.1 y.2.2.2.2.2.1 y.2.2.2.2.2.2.1 y.2.2.2.2.2.2.2) m (v1.1.2, v1.2.fL, v1.2.fAt, v1.1.1.fKind, v1.1.1.fLabels, v1.1.1.fSubs, v1.1.1.fLeast, v1.1.1.fMost)) some fun y107 =>
  some ((((⟨y107.2.2.2.1, y107.2.2.2.2.1, y107.2.2.2.2.2.1, y107.2.2.2.2.2.2.1, y107.2.2.2.2.2.2.2⟩ : S24), y107.1), (⟨y107.2.1, y107.2.2.1⟩ : S58)))
noncomputable abbrev X45 (n : Nat) : Cx := cxOf Proofs.Tryd.prog E 45 n
noncomputable def C45 : Code := bodyOf Proofs.Tryd.prog 45
noncomputable abbrev b45_0 : AObj := .cells [(dI 0), (.v (.sl .nil (List.map eI []))), (.v (.sl .nil (List.map ep24 []))), (dI 0), (dI 0)]
noncomputable abbrev b45_1 (w0 : (List Int)) (w1 : Int) : AObj := .cells [(dP eI w0), (dI w1)]
theorem okb45 (m : Nat) (K : Rec28) (nn : Nat) (hK : OkRec28 m K nn) (a0 : S58) (a1 : Int) (o : ((S24 × Bool) × S58)) (h : b45 m K a0 a1 = some o) (n : Nat) (hn : m + 2 ≤ n) (hk : nn + 1 ≤ n) : FnP Proofs.Tryd.prog E n 45 (c58 a0) [.v (eI a1)] (.tuple [e24 o.1.1, eB o.1.2]) (c58 o.2) := by
  obtain ⟨n, rfl⟩ : ∃ q, n = q + 1 := ⟨n - 1, by omega⟩
  unfold b45 at h
  refine FnP.of (by kernel_rfl) (by kernel_rfl) (by kernel_rfl) ⟨(.ptr 0 0) :: (dI a1) :: u40 (u5 []), [(.cells [(dP eI a0.fL), (dI a0.fAt)])]⟩ (by kernel_rfl) ?_
  refine Wp.sq ?_
  refine Wp.rg ?_
  refine Ops.sg 2 2 ?_
  refine Ops.dn ?_
  refine seqQ.n ?_
  refine Wp.sq ?_
  refine Wp.rg ?_
  refine Ops.sg 2 2 ?_
  obtain ⟨v1, ev1, h⟩ := bnd_some h
  refine Ops.on 3 (fun h0 e0 => (call_ptr (E' := E) (h := h0) (q := 0) (cs := c58 a0) (by kernel_rfl) (by kernel_rfl) (by kernel_rfl) (hq_of e0 (by kernel_rfl)) (by kernel_rfl) (Args.v (vI a1) (eI a1) (by kernel_rfl) Args.nil) (hK.ok61 a0 a1 v1 ev1 n (by omega)))) ?_
  refine Ops.sg 6 9 ?_
  refine Ops.dn ?_
  refine seqQ.n ?_
  refine Wp.sq ?_
  refine Wp.block' 0 [4, 5, 6, 7] 3 (by kernel_rfl) ?_
  have hLx106 : ∀ (kx73 : Nat) (v62 : Bool) (v63 : (List Int)) (v64 : Int) (v65 : Int) (v66 : (List Int)) (v68 : (List P24)) (v70 : Int) (v71 : Int) (fl67 : SFlag) (fl69 : SFlag) (ox72 : ((S24 × Bool) × S58) ⊕ (Bool × (List Int) × Int × Int × (List Int) × (List P24) × Int × Int)), iter (fun (y : Bool × (List Int) × Int × Int × (List Int) × (List P24) × Int × Int) => f45_B3 m K a1 y.1 y.2.1 y.2.2.1 y.2.2.2.1 y.2.2.2.2.1 y.2.2.2.2.2.1 y.2.2.2.2.2.2.1 y.2.2.2.2.2.2.2) kx73 (v62, v63, v64, v65, v66, v68, v70, v71) = some ox72 → ∀ nx74, kx73 ≤ nx74 → (∀ r, ox72 = .inl r → ∀ σ, RetOkP (X45 n) (resOf Proofs.Tryd.prog 45) (.tuple [e24 r.1.1, eB r.1.2]) (c58 r.2) σ → (seqQ (X45 n) (cR (cR (cR C45))) (fnQP (X45 n).E.T (resOf Proofs.Tryd.prog 45) (.tuple [e24 o.1.1, eB o.1.2]) (c58 o.2))) .ret σ) → (∀ (y : Bool × (List Int) × Int × Int × (List Int) × (List P24) × Int × Int) (fl67 : SFlag) (fl69 : SFlag), ox72 = .inr y → (seqQ (X45 n) (cR (cR (cR C45))) (fnQP (X45 n).E.T (resOf Proofs.Tryd.prog 45) (.tuple [e24 o.1.1, eB o.1.2]) (c58 o.2))) .normal ⟨(.ptr 0 0) :: (dI a1) :: q2 ((.ptr 1 0) :: (dB false) :: (.ptr 2 0) :: (dB y.1) :: q39 []), [(.cells [(dP eI y.2.1), (dI y.2.2.1)]), b45_0, (.cells [(dI y.2.2.2.1), (.v (.sl fl67 (List.map eI y.2.2.2.2.1))), (.v (.sl fl69 (List.map ep24 y.2.2.2.2.2.1))), (dI y.2.2.2.2.2.2.1), (dI y.2.2.2.2.2.2.2)])]⟩) → Lp (X45 n) [0, 1, 4, 5, 6, 7] 3 (cL (cL (cL (cR (cR C45))))) nx74 ⟨(.ptr 0 0) :: (dI a1) :: q2 ((.ptr 1 0) :: (dB false) :: (.ptr 2 0) :: (dB v62) :: q39 []), [(b45_1 v63 v64), b45_0, (.cells [(dI v65), (.v (.sl fl67 (List.map eI v66))), (.v (.sl fl69 (List.map ep24 v68))), (dI v70), (dI v71)])]⟩ (blkQ (X45 n) 0 [4, 5, 6, 7] 3 (seqQ (X45 n) (cR (cR (cR C45))) (fnQP (X45 n).E.T (resOf Proofs.Tryd.prog 45) (.tuple [e24 o.1.1, eB o.1.2]) (c58 o.2)))) := by
    intro kx73
    induction kx73 with
    | zero => intro v62 v63 v64 v65 v66 v68 v70 v71 fl67 fl69 ox72 h; exact (iter_zero h).elim
    | succ kx73 ihx75 =>
      intro v62 v63 v64 v65 v66 v68 v70 v71 fl67 fl69 ox72 h nx74 hnx78 hrx76 hxx77
      obtain ⟨nx74, rfl⟩ : ∃ q, nx74 = q + 1 := ⟨nx74 - 1, by omega⟩
      obtain ⟨sx79, h, hsx80⟩ := iter_some h
      have h : f45_B3 m K a1 v62 v63 v64 v65 v66 v68 v70 v71 = some sx79 := h
      unfold f45_B3 at h
      refine Lp.succ ?_
      refine Wp.sq ?_
      refine Wp.sq ?_
      refine Wp.rg ?_
      refine Ops.sg 2 2 ?_
      refine Ops.hv (fun KQ => ∀ (d83 d84 d85 d86 d87 d88 : D) (v89 : Bool) (v90 : Bool), f45_r2 m K a1 v63 v64 v65 v66 v68 v70 v71 v89 v90 = some sx79 → KQ 9 ⟨(.ptr 0 0) :: (dI a1) :: q2 ((.ptr 1 0) :: (dB false) :: (.ptr 2 0) :: (dB v89) :: q8 ((dB v89) :: (dB v89) :: d83 :: d84 :: d85 :: d86 :: d87 :: d88 :: (dB v90) :: q22 [])), [(b45_1 v63 v64), b45_0, (.cells [(dI v65), (.v (.sl fl67 (List.map eI v66))), (.v (.sl fl69 (List.map ep24 v68))), (dI v70), (dI v71)])]⟩) ?_ fun J45j91 => ?_
      · intro d83 d84 d85 d86 d87 d88 v89 v90 h
        unfold f45_r2 at h
        refine Ops.dn ?_
        refine seqQ.n ?_
        refine Wp.cnd h [0, 1, 4, 5, 6] 3 (by kernel_rfl) (fun h => ?_) (fun h => ?_)
        · refine Wp.sk ?_
          refine sqQ.n' ?_
          refine seqQ.n ?_
          refine Wp.block' 1 [0, 1, 4, 5, 6, 7] 3 (by kernel_rfl) ?_
          refine Wp.sq ?_
          refine Wp.rg ?_
          refine Ops.sg 1 1 ?_
          refine Ops.dn ?_
          refine seqQ.n ?_
          refine Wp.sq ?_
          refine Wp.sq ?_
          refine Wp.rg ?_
          refine Ops.sg 1 1 ?_
          obtain ⟨v92, ev92, h⟩ := bnd_some h
          refine Ops.on 2 (fun h0 e0 => (call_ptr (E' := E) (h := h0) (q := 0) (cs := c58 ((⟨v63, v64⟩ : S58))) (by kernel_rfl) (by kernel_rfl) (by kernel_rfl) (hq_of e0 (by kernel_rfl)) (by kernel_rfl) (Args.v (vI 45) (eI 45) (by kernel_rfl) Args.nil) (ok46 m ((⟨v63, v64⟩ : S58)) 45 v92 ev92 n (by omega)))) ?_
          refine Ops.dn ?_
          refine seqQ.n ?_
          have J45j100 : ∀ (v93 : Int) (d94 : D) (d95 : D) (d96 : D) (d97 : D) (d98 : D) (d99 : D), f45_j1 m K a1 v63 v64 v65 v66 v68 v70 v71 v93 = some sx79 → (seqQ (X45 n) (cR (cR (cL (cR (cL (cL (cL (cR (cR C45))))))))) (blkQ (X45 n) 1 [0, 1, 4, 5, 6, 7] 3 (lpQ (X45 n) [0, 1, 4, 5, 6, 7] 3 (cL (cL (cL (cR (cR C45))))) nx74 (blkQ (X45 n) 0 [4, 5, 6, 7] 3 (seqQ (X45 n) (cR (cR (cR C45))) (fnQP (X45 n).E.T (resOf Proofs.Tryd.prog 45) (.tuple [e24 o.1.1, eB o.1.2]) (c58 o.2))))))) .normal ⟨(.ptr 0 0) :: (dI a1) :: q2 ((.ptr 1 0) :: (dB false) :: (.ptr 2 0) :: (dB v89) :: (dI v93) :: q7 ((dB v89) :: (dB v89) :: d94 :: d95 :: d96 :: d97 :: d98 :: d99 :: (dB v90) :: (.ptr 0 0) :: (dB v92) :: q20 [])), [(b45_1 v63 v64), b45_0, (.cells [(dI v65), (.v (.sl fl67 (List.map eI v66))), (.v (.sl fl69 (List.map ep24 v68))), (dI v70), (dI v71)])]⟩ := by
            intro v93 d94 d95 d96 d97 d98 d99 h
            unfold f45_j1 at h
            refine seqQ.n ?_
            refine Wp.sq ?_
            refine Wp.rg ?_
            refine Ops.sg 8 8 ?_
            refine Ops.dn ?_
            refine seqQ.n ?_
            refine Wp.sq ?_
            refine Wp.rg ?_
            refine Ops.sg 1 1 ?_
            refine Ops.dn ?_
            refine seqQ.n ?_
            refine Wp.sq ?_
            refine Wp.rg ?_
            refine Ops.sg 2 2 ?_
            obtain ⟨v101, ev101, h⟩ := bnd_some h
            refine Ops.on 3 (fun h0 e0 => (call_ptr (E' := E) (h := h0) (q := 0) (cs := c58 ((⟨v63, w64 (v64 + 1)⟩ : S58))) (by kernel_rfl) (by kernel_rfl) (by kernel_rfl) (hq_of e0 (by kernel_rfl)) (by kernel_rfl) (Args.v (vI a1) (eI a1) (by kernel_rfl) Args.nil) (hK.ok61 ((⟨v63, w64 (v64 + 1)⟩ : S58)) a1 v101 ev101 n (by omega)))) ?_
            refine Ops.sg 5 8 ?_
            refine Ops.dn ?_
            refine seqQ.n ?_
            refine Wp.rg ?_
            refine Ops.sg 6 6 ?_
            refine Ops.dn ?_
            refine blkQ.n' ?_
            refine lpQ.n ⟨(.ptr 0 0) :: (dI a1) :: q2 ((.ptr 1 0) :: (dB false) :: (.ptr 2 0) :: (dB v101.1.2) :: q39 []), [(.cells [(dP eI v101.2.fL), (dI v101.2.fAt)]), b45_0, (.cells [(dI v93), (.v (.sl .nil (List.map eI []))), (.v (.sl .nonfull (List.map ep24 ([(P24.con ((⟨v65, v66, v68, v70, v71⟩ : S24))), (P24.con v101.1.1)])))), (dI 0), (dI 0)])]⟩ (by kernel_rfl) ?_
            cases h
            exact ihx75 v101.1.2 v101.2.fL v101.2.fAt v93 [] ([(P24.con ((⟨v65, v66, v68, v70, v71⟩ : S24))), (P24.con v101.1.1)]) 0 0 _ _ _ hsx80 _ (by omega) hrx76 hxx77
          refine Wp.cnd h [0, 1, 4, 5, 6, 8] 3 (by kernel_rfl) (fun h => ?_) (fun h => ?_)
          · refine Wp.rg ?_
            refine Ops.sg 1 1 ?_
            refine Ops.dn ?_
            refine sqQ.n ⟨(.ptr 0 0) :: (dI a1) :: q2 ((.ptr 1 0) :: (dB false) :: (.ptr 2 0) :: (dB v89) :: (dI 7) :: q7 ((dB v89) :: (dB v89) :: d83 :: d84 :: d85 :: d86 :: d87 :: d88 :: (dB v90) :: (.ptr 0 0) :: (dB v92) :: q20 [])), [(b45_1 v63 v64), b45_0, (.cells [(dI v65), (.v (.sl fl67 (List.map eI v66))), (.v (.sl fl69 (List.map ep24 v68))), (dI v70), (dI v71)])]⟩ (by kernel_rfl) ?_
            exact J45j100 7 _ _ _ _ _ _ h
          · refine Wp.sk ?_
            refine sqQ.n ⟨(.ptr 0 0) :: (dI a1) :: q2 ((.ptr 1 0) :: (dB false) :: (.ptr 2 0) :: (dB v89) :: (dI 6) :: q7 ((dB v89) :: (dB v89) :: d83 :: d84 :: d85 :: d86 :: d87 :: d88 :: (dB v90) :: (.ptr 0 0) :: (dB v92) :: q20 [])), [(b45_1 v63 v64), b45_0, (.cells [(dI v65), (.v (.sl fl67 (List.map eI v66))), (.v (.sl fl69 (List.map ep24 v68))), (dI v70), (dI v71)])]⟩ (by kernel_rfl) ?_
            exact J45j100 6 _ _ _ _ _ _ h
        · refine Wp.exit (id := 0) (by kernel_rfl) ?_
          refine sqQ.x ?_
          refine seqQ.x ?_
          cases h
          refine lpQ.x ?_
          refine blkQ.x ⟨(.ptr 0 0) :: (dI a1) :: q2 ((.ptr 1 0) :: (dB false) :: (.ptr 2 0) :: (dB v89) :: q39 []), [(b45_1 v63 v64), b45_0, (.cells [(dI v65), (.v (.sl fl67 (List.map eI v66))), (.v (.sl fl69 (List.map ep24 v68))), (dI v70), (dI v71)])]⟩ (by kernel_rfl) ?_
          exact hxx77 (v89, v63, v64, v65, v66, v68, v70, v71) _ _ hsx80
      obtain ⟨v90, ev90, h⟩ := bnd_some h
      refine Ops.hv (fun KQ => ∀ v81 : Bool, (cnd v81 (bnd (f46 m ((⟨v63, v64⟩ : S58)) 38) fun v102 => cnd v102 (some true) (bnd (f46 m ((⟨v63, v64⟩ : S58)) 45) fun v105 => some v105)) (some false)) = some v90 → f45_r2 m K a1 v63 v64 v65 v66 v68 v70 v71 v81 v90 = some sx79 → KQ 2 ⟨(.ptr 0 0) :: (dI a1) :: q2 ((.ptr 1 0) :: (dB false) :: (.ptr 2 0) :: (dB v81) :: q8 ((dB v81) :: (dB v81) :: q29 [])), [(b45_1 v63 v64), b45_0, (.cells [(dI v65), (.v (.sl fl67 (List.map eI v66))), (.v (.sl fl69 (List.map ep24 v68))), (dI v70), (dI v71)])]⟩) ?_ fun G45g82 => Ops.st _ (by kernel_rfl) (G45g82 v62 ev90 h)
      intro v81 ev90 h
      cases v81
      · have ev90 := cnd_f ev90
        refine Ops.sg 7 9 ?_
        exact Ops.st _ (by kernel_rfl) (J45j91 U U U U U U false false (some_sub (fun v90 => f45_r2 m K a1 v63 v64 v65 v66 v68 v70 v71 false v90 = some sx79) ev90 h))
      · have ev90 := cnd_t ev90
        refine Ops.sg 1 3 ?_
        obtain ⟨v102, ev102, ev90⟩ := bnd_some ev90
        refine Ops.on 4 (fun h0 e0 => (call_ptr (E' := E) (h := h0) (q := 0) (cs := c58 ((⟨v63, v64⟩ : S58))) (by kernel_rfl) (by kernel_rfl) (by kernel_rfl) (hq_of e0 (by kernel_rfl)) (by kernel_rfl) (Args.v (vI 38) (eI 38) (by kernel_rfl) Args.nil) (ok46 m ((⟨v63, v64⟩ : S58)) 38 v102 ev102 n (by omega)))) ?_
        refine Ops.sg 1 5 ?_
        refine Ops.hv (fun KQ => ∀ v103 : Bool, (cnd v103 (some true) (bnd (f46 m ((⟨v63, v64⟩ : S58)) 45) fun v105 => some v105)) = some v90 → KQ 5 ⟨(.ptr 0 0) :: (dI a1) :: q2 ((.ptr 1 0) :: (dB false) :: (.ptr 2 0) :: (dB true) :: q8 ((dB true) :: (dB true) :: (.ptr 0 0) :: (dB v103) :: (dB v103) :: q26 [])), [(b45_1 v63 v64), b45_0, (.cells [(dI v65), (.v (.sl fl67 (List.map eI v66))), (.v (.sl fl69 (List.map ep24 v68))), (dI v70), (dI v71)])]⟩) ?_ fun G45g104 => Ops.st _ (by kernel_rfl) (G45g104 v102 ev90)
        intro v103 ev90
        cases v103
        · have ev90 := cnd_f ev90
          refine Ops.sg 1 6 ?_
          obtain ⟨v105, ev105, ev90⟩ := bnd_some ev90
          refine Ops.on 7 (fun h0 e0 => (call_ptr (E' := E) (h := h0) (q := 0) (cs := c58 ((⟨v63, v64⟩ : S58))) (by kernel_rfl) (by kernel_rfl) (by kernel_rfl) (hq_of e0 (by kernel_rfl)) (by kernel_rfl) (Args.v (vI 45) (eI 45) (by kernel_rfl) Args.nil) (ok46 m ((⟨v63, v64⟩ : S58)) 45 v105 ev105 n (by omega)))) ?_
          refine Ops.sg 2 9 ?_
          exact Ops.st _ (by kernel_rfl) (J45j91 (.ptr 0 0) (dB false) (dB false) (.ptr 0 0) (dB v105) (dB v105) true v105 (some_sub (fun v90 => f45_r2 m K a1 v63 v64 v65 v66 v68 v70 v71 true v90 = some sx79) ev90 h))
        · have ev90 := cnd_t ev90
          refine Ops.sg 4 9 ?_
          exact Ops.st _ (by kernel_rfl) (J45j91 (.ptr 0 0) (dB true) (dB true) U U (dB true) true true (some_sub (fun v90 => f45_r2 m K a1 v63 v64 v65 v66 v68 v70 v71 true v90 = some sx79) ev90 h))
  refine Wp.loop' [0, 1, 4, 5, 6, 7] 3 (by kernel_rfl) ⟨(.ptr 0 0) :: (dI a1) :: q2 ((.ptr 1 0) :: (dB false) :: (.ptr 2 0) :: (dB v1.1.2) :: q39 []), [(.cells [(dP eI v1.2.fL), (dI v1.2.fAt)]), b45_0, (.cells [(dI v1.1.1.fKind), (dP eI v1.1.1.fLabels), (dP ep24 v1.1.1.fSubs), (dI v1.1.1.fLeast), (dI v1.1.1.fMost)])]⟩ (by kernel_rfl) ?_
  rcases brk_some h with ⟨r108, er108, h⟩ | ⟨y107, ey107, h⟩
  · refine hLx106 _ v1.1.2 v1.2.fL v1.2.fAt v1.1.1.fKind v1.1.1.fLabels v1.1.1.fSubs v1.1.1.fLeast v1.1.1.fMost _ _ _ er108 n (by omega) (fun r er σ hσ => ?_) (fun y fl67 fl69 ey => by cases ey)
    cases er
    refine seqQ.r ?_
    exact fnQP.r' (X45 n) (fun z => (.tuple [e24 z.1, eB z.2])) c58 h hσ
  · refine hLx106 _ v1.1.2 v1.2.fL v1.2.fAt v1.1.1.fKind v1.1.1.fLabels v1.1.1.fSubs v1.1.1.fLeast v1.1.1.fMost _ _ _ ey107 n (by omega) (fun r er => by cases er) (fun y fl67 fl69 ey => ?_)
    cases ey
    refine seqQ.n ?_
    refine Wp.sq ?_
    refine Wp.rg ?_
    refine Ops.sg 4 4 ?_
    refine Ops.dn ?_
    refine seqQ.n ?_
    refine Wp.ret (by kernel_rfl) ?_
    exact fnQP.r' (X45 n) (fun z => (.tuple [e24 z.1, eB z.2])) c58 h (RetOkP.mk' (.v (.tuple [(.agg [(vI y107.2.2.2.1), (.sl fl67 (List.map eI y107.2.2.2.2.1)), (.sl fl69 (List.map ep24 y107.2.2.2.2.2.1)), (vI y107.2.2.2.2.2.2.1), (vI y107.2.2.2.2.2.2.2)]), (vB y107.1)])) (by kernel_rfl) (by kernel_rfl) (by kernel_rfl) (by kernel_rfl))
/-! ### 61 (*glosswright/pattern.reader).seq -/
noncomputable def f61_r1 (m : Nat) (K : Rec28) (a1 : Int) (v82 : (List P24)) (v83 : (List Int)) (v84 : Int) (v124 : Bool) : Option (Stp ((S24 × Bool) × S58) ((List P24) × (List Int) × Int)) :=
  cnd v124
  (bnd (K.r67 ((⟨v83, v84⟩ : S58)) a1) fun v126 =>
  cnd (!v126.1.2)
  (some (.ret (((v126.1.1, false), v126.2))))
  (bnd (app 72 v82 ([(P24.con v126.1.1)])) fun v127 =>
  some (.nxt (v127, v126.2.fL, v126.2.fAt))))
  (some (.brk (v82, v83, v84)))
noncomputable def f61_B2 (m : Nat) (K : Rec28) (a1 : Int) (v82 : (List P24)) (v83 : (List Int)) (v84 : Int) : Option (Stp ((S24 × Bool) × S58) ((List P24) × (List Int) × Int)) :=
  bnd (cnd (decide (v84 < (v83.length : Int)))
  (bnd (idx v83 v84) fun v128 =>
  cnd (decide (v128 < 128))
  (bnd (idx v83 v84) fun v131 =>
  bnd (f56 m ((⟨#[41, 93, 124, 38, 45, 42, 43, 63, 123, 125, 44]⟩ : ByteArray)) (IntKind.u8.wrap v131)) fun v132 =>
  some (!(decide (v132 ≥ 0))))
  (some (!false)))
  (some false)) fun v124 =>
  f61_r1 m K a1 v82 v83 v84 v124
noncomputable def b61 (m : Nat) (K : Rec28) (a0 : S58) (a1 : Int) : Option ((S24 × Bool) × S58) :=
  brk (iter (fun (y : (List P24) × (List Int) × Int) => f61_B2 m K a1 y.1 y.2.1 y.2.2) m ([], a0.fL, a0.fAt)) some fun y134 =>
  cnd ((y134.1.length : Int) == 0)
  (some ((((⟨0, [], [], 0, 0⟩ : S24), false), (⟨y134.2.1, y134.2.2⟩ : S58))))
  (cnd ((y134.1.length : Int) == 1)
  (bnd (idx y134.1 0) fun v136 =>
  some (((v136.vw, true), (⟨y134.2.1, y134.2.2⟩ : S58))))
  (some ((((⟨3, [], y134.1, 0, 0⟩ : S24), true), (⟨y134.2.1, y134.2.2⟩ : S58)))))
noncomputable abbrev X61 (n : Nat) : Cx := cxOf Proofs.Tryd.prog E 61 n
noncomputable def C61 : Code := bodyOf Proofs.Tryd.prog 61
noncomputable abbrev b61_0 : AObj := .cells [(dI 0), (.v (.sl .nil (List.map eI []))), (.v (.sl .nil (List.map ep24 []))), (dI 0), (dI 0)]
theorem okb61 (m : Nat) (K : Rec28) (nn : Nat) (hK : OkRec28 m K nn) (a0 : S58) (a1 : Int) (o : ((S24 × Bool) × S58)) (h : b61 m K a0 a1 = some o) (n : Nat) (hn : m + 2 ≤ n) (hk : nn + 1 ≤ n) : FnP Proofs.Tryd.prog E n 61 (c58 a0) [.v (eI a1)] (.tuple [e24 o.1.1, eB o.1.2]) (c58 o.2) := by
  obtain ⟨n, rfl⟩ : ∃ q, n = q + 1 := ⟨n - 1, by omega⟩
  unfold b61 at h
  refine FnP.of (by kernel_rfl) (by kernel_rfl) (by kernel_rfl) ⟨(.ptr 0 0) :: (dI a1) :: u40 (u31 []), [(.cells [(dP eI a0.fL), (dI a0.fAt)])]⟩ (by kernel_rfl) ?_
  refine Wp.sq ?_
  refine Wp.rg ?_
  refine Ops.sg 2 2 ?_
  refine Ops.dn ?_
  refine seqQ.n ?_
  refine Wp.sq ?_
  refine Wp.rg ?_
  refine Ops.sg 1 1 ?_
  refine Ops.dn ?_
  refine seqQ.n ?_
  refine Wp.sq ?_
  refine Wp.block' 0 [4, 5, 6] 2 (by kernel_rfl) ?_
  have hLx133 : ∀ (kx86 : Nat) (v82 : (List P24)) (v83 : (List Int)) (v84 : Int)  (ox85 : ((S24 × Bool) × S58) ⊕ ((List P24) × (List Int) × Int)), iter (fun (y : (List P24) × (List Int) × Int) => f61_B2 m K a1 y.1 y.2.1 y.2.2) kx86 (v82, v83, v84) = some ox85 → ∀ nx87, kx86 ≤ nx87 → (∀ r, ox85 = .inl r → ∀ σ, RetOkP (X61 n) (resOf Proofs.Tryd.prog 61) (.tuple [e24 r.1.1, eB r.1.2]) (c58 r.2) σ → (seqQ (X61 n) (cR (cR (cR C61))) (fnQP (X61 n).E.T (resOf Proofs.Tryd.prog 61) (.tuple [e24 o.1.1, eB o.1.2]) (c58 o.2))) .ret σ) → (∀ (y : (List P24) × (List Int) × Int) , ox85 = .inr y → (seqQ (X61 n) (cR (cR (cR C61))) (fnQP (X61 n).E.T (resOf Proofs.Tryd.prog 61) (.tuple [e24 o.1.1, eB o.1.2]) (c58 o.2))) .normal ⟨q4 ((.ptr 1 0) :: (dB false) :: (appD 2 (List.map ep24 y.1)) :: q40 (q26 [])), [(.cells [(dP eI y.2.1), (dI y.2.2)]), b61_0, (appO 5 (List.map ep24 y.1))]⟩) → Lp (X61 n) [0, 1, 4, 5, 6] 2 (cL (cL (cL (cR (cR C61))))) nx87 ⟨(.ptr 0 0) :: (dI a1) :: q2 ((.ptr 1 0) :: (dB false) :: (appD 2 (List.map ep24 v82)) :: q40 (q26 [])), [(.cells [(dP eI v83), (dI v84)]), b61_0, (appO 5 (List.map ep24 v82))]⟩ (blkQ (X61 n) 0 [4, 5, 6] 2 (seqQ (X61 n) (cR (cR (cR C61))) (fnQP (X61 n).E.T (resOf Proofs.Tryd.prog 61) (.tuple [e24 o.1.1, eB o.1.2]) (c58 o.2)))) := by
    intro kx86
    induction kx86 with
    | zero => intro v82 v83 v84  ox85 h; exact (iter_zero h).elim
    | succ kx86 ihx88 =>
      intro v82 v83 v84  ox85 h nx87 hnx91 hrx89 hxx90
      obtain ⟨nx87, rfl⟩ : ∃ q, nx87 = q + 1 := ⟨nx87 - 1, by omega⟩
      obtain ⟨sx92, h, hsx93⟩ := iter_some h
      have h : f61_B2 m K a1 v82 v83 v84 = some sx92 := h
      unfold f61_B2 at h
      refine Lp.succ ?_
      refine Wp.sq ?_
      refine Wp.sq ?_
      refine Wp.rg ?_
      refine Ops.sg 8 8 ?_
      refine Ops.on 9 (fun h0 e0 => (len_r (T := T) h0 22 3 .plain eI v83 (by kernel_rfl))) ?_
      refine Ops.sg 2 11 ?_
      refine Ops.hv (fun KQ => ∀ (d96 d97 d98 d99 d100 d101 d102 d103 d104 d105 d106 d107 d108 d109 d110 d111 d112 d113 d114 d115 d116 d117 d118 d119 d120 d121 d122 : D) (v123 : Bool) (v124 : Bool), f61_r1 m K a1 v82 v83 v84 v124 = some sx92 → KQ 39 ⟨(.ptr 0 0) :: (dI a1) :: q2 ((.ptr 1 0) :: (dB false) :: (appD 2 (List.map ep24 v82)) :: q2 ((.ptr 0 0) :: (.ptr 0 0) :: (.ptr 0 1) :: (dI v84) :: (.ptr 0 0) :: (.ptr 0 0) :: (.ptr 0 0) :: (dP eI v83) :: (dI (v83.length : Int)) :: (dB v123) :: (dB v123) :: d96 :: d97 :: d98 :: d99 :: d100 :: d101 :: d102 :: d103 :: d104 :: d105 :: d106 :: d107 :: d108 :: d109 :: d110 :: d111 :: d112 :: d113 :: d114 :: d115 :: d116 :: d117 :: d118 :: d119 :: d120 :: d121 :: d122 :: (dB v124) :: q25 [])), [(.cells [(dP eI v83), (dI v84)]), b61_0, (appO 5 (List.map ep24 v82))]⟩) ?_ fun J61j125 => ?_
      · intro d96 d97 d98 d99 d100 d101 d102 d103 d104 d105 d106 d107 d108 d109 d110 d111 d112 d113 d114 d115 d116 d117 d118 d119 d120 d121 d122 v123 v124 h
        unfold f61_r1 at h
        refine Ops.dn ?_
        refine seqQ.n ?_
        refine Wp.cnd h [0, 1, 4, 5, 6] 3 (by kernel_rfl) (fun h => ?_) (fun h => ?_)
        · refine Wp.sk ?_
          refine sqQ.n ⟨(.ptr 0 0) :: (dI a1) :: q2 ((.ptr 1 0) :: (dB false) :: (appD 3 (List.map ep24 v82)) :: q40 (q26 [])), [(.cells [(dP eI v83), (dI v84)]), b61_0, .dead, (appO 5 (List.map ep24 v82))]⟩ (by generalize v82 = z0; cases z0 <;> kernel_rfl) ?_
          refine seqQ.n ?_
          refine Wp.block' 1 [0, 1, 4, 5, 6] 4 (by kernel_rfl) ?_
          refine Wp.sq ?_
          refine Wp.rg ?_
          refine Ops.sg 2 2 ?_
          obtain ⟨v126, ev126, h⟩ := bnd_some h
          refine Ops.on 3 (fun h0 e0 => (call_ptr (E' := E) (h := h0) (q := 0) (cs := c58 ((⟨v83, v84⟩ : S58))) (by kernel_rfl) (by kernel_rfl) (by kernel_rfl) (hq_of e0 (by kernel_rfl)) (by kernel_rfl) (Args.v (vI a1) (eI a1) (by kernel_rfl) Args.nil) (hK.ok67 ((⟨v83, v84⟩ : S58)) a1 v126 ev126 n (by omega)))) ?_
          refine Ops.sg 6 9 ?_
          refine Ops.dn ?_
          refine seqQ.n ?_
          refine Wp.sq ?_
          refine Wp.sq ?_
          refine Wp.rg ?_
          refine Ops.sg 2 2 ?_
          refine Ops.dn ?_
          refine seqQ.n ?_
          refine Wp.cnd h [0, 1, 4, 5, 6, 7] 5 (by kernel_rfl) (fun h => ?_) (fun h => ?_)
          · refine Wp.sq ?_
            refine Wp.rg ?_
            refine Ops.sg 3 3 ?_
            refine Ops.dn ?_
            refine seqQ.n ?_
            refine Wp.ret (by kernel_rfl) ?_
            refine sqQ.r ?_
            refine seqQ.r ?_
            refine blkQ.r ?_
            cases h
            refine lpQ.r ?_
            refine blkQ.r ?_
            exact hrx89 _ hsx93 _ (RetOkP.forget [0, 1, 4, 5, 6] (by kernel_rfl) (RetOkP.mk' (.v (.tuple [(.agg [(vI v126.1.1.fKind), (vP eI v126.1.1.fLabels), (vP ep24 v126.1.1.fSubs), (vI v126.1.1.fLeast), (vI v126.1.1.fMost)]), (vB false)])) (by kernel_rfl) (by kernel_rfl) (by kernel_rfl) (by kernel_rfl)))
          · refine Wp.sk ?_
            refine sqQ.n ⟨(.ptr 0 0) :: (dI a1) :: q2 ((.ptr 1 0) :: (dB false) :: (appD 5 (List.map ep24 v82)) :: (.ptr 4 0) :: q40 (q25 [])), [(.cells [(dP eI v126.2.fL), (dI v126.2.fAt)]), b61_0, .dead, .dead, (.cells [(dI v126.1.1.fKind), (dP eI v126.1.1.fLabels), (dP ep24 v126.1.1.fSubs), (dI v126.1.1.fLeast), (dI v126.1.1.fMost)]), (appO 5 (List.map ep24 v82))]⟩ (by generalize v82 = z0; cases z0 <;> kernel_rfl) ?_
            refine seqQ.n ?_
            refine Wp.rg ?_
            refine Ops.sg 3 3 ?_
            obtain ⟨v127, ev127, h⟩ := bnd_some h
            refine Ops.on 4 (fun h0 e0 => (app_r (T := T) (g := .nil) h0 23 25 5 5 ti25 .nonfull ep24 v82 ([(P24.con v126.1.1)]) v127 ev127 (by kernel_rfl) (by kernel_rfl) (by kernel_rfl) (by kernel_rfl) ep24_len (hq_of e0 (by kernel_rfl)))) ?_
            refine Ops.sg 1 5 ?_
            refine Ops.dn ?_
            refine blkQ.n ⟨(.ptr 0 0) :: (dI a1) :: q2 ((.ptr 1 0) :: (dB false) :: (appD 4 (List.map ep24 v127)) :: q40 (q26 [])), [(.cells [(dP eI v126.2.fL), (dI v126.2.fAt)]), b61_0, .dead, .dead, (appO 5 (List.map ep24 v127))]⟩ (by generalize v127 = z0; cases z0 <;> kernel_rfl) ?_
            refine lpQ.n ⟨(.ptr 0 0) :: (dI a1) :: q2 ((.ptr 1 0) :: (dB false) :: (appD 2 (List.map ep24 v127)) :: q40 (q26 [])), [(.cells [(dP eI v126.2.fL), (dI v126.2.fAt)]), b61_0, (appO 5 (List.map ep24 v127))]⟩ (by generalize v127 = z0; cases z0 <;> kernel_rfl) ?_
            cases h
            exact ihx88 v127 v126.2.fL v126.2.fAt  _ hsx93 _ (by omega) hrx89 hxx90
        · refine Wp.exit (id := 0) (by kernel_rfl) ?_
          refine sqQ.x ?_
          refine seqQ.x ?_
          cases h
          refine lpQ.x ?_
          refine blkQ.x ⟨q4 ((.ptr 1 0) :: (dB false) :: (appD 2 (List.map ep24 v82)) :: q40 (q26 [])), [(.cells [(dP eI v83), (dI v84)]), b61_0, (appO 5 (List.map ep24 v82))]⟩ (by generalize v82 = z0; cases z0 <;> kernel_rfl) ?_
          exact hxx90 (v82, v83, v84)  hsx93
      obtain ⟨v124, ev124, h⟩ := bnd_some h
      refine Ops.hv (fun KQ => ∀ v94 : Bool, (cnd v94 (bnd (idx v83 v84) fun v128 => cnd (decide (v128 < 128)) (bnd (idx v83 v84) fun v131 => bnd (f56 m ((⟨#[41, 93, 124, 38, 45, 42, 43, 63, 123, 125, 44]⟩ : ByteArray)) (IntKind.u8.wrap v131)) fun v132 => some (!(decide (v132 ≥ 0)))) (some (!false))) (some false)) = some v124 → KQ 11 ⟨(.ptr 0 0) :: (dI a1) :: q2 ((.ptr 1 0) :: (dB false) :: (appD 2 (List.map ep24 v82)) :: q2 ((.ptr 0 0) :: (.ptr 0 0) :: (.ptr 0 1) :: (dI v84) :: (.ptr 0 0) :: (.ptr 0 0) :: (.ptr 0 0) :: (dP eI v83) :: (dI (v83.length : Int)) :: (dB v94) :: (dB v94) :: q40 (q13 []))), [(.cells [(dP eI v83), (dI v84)]), b61_0, (appO 5 (List.map ep24 v82))]⟩) ?_ fun G61g95 => Ops.st _ (by kernel_rfl) (G61g95 (decide (v84 < (v83.length : Int))) ev124)
      intro v94 ev124
      cases v94
      · have ev124 := cnd_f ev124
        refine Ops.sg 28 39 ?_
        exact Ops.st _ (by kernel_rfl) (J61j125 U U U U U U U U U U U U U U U U U U U U U U U U U U U false false (some_sub (fun v124 => f61_r1 m K a1 v82 v83 v84 v124 = some sx92) ev124 h))
      · have ev124 := cnd_t ev124
        refine Ops.sg 8 19 ?_
        obtain ⟨v128, ev128, ev124⟩ := bnd_some ev124
        refine Ops.on 20 (fun h0 e0 => (ix_r (T := T) h0 22 3 1 .plain eI v83 v84 v128 ev128 (by kernel_rfl) (by kernel_rfl) (fun _ => rfl))) ?_
        refine Ops.sg 3 23 ?_
        refine Ops.hv (fun KQ => ∀ v129 : Bool, (cnd v129 (bnd (idx v83 v84) fun v131 => bnd (f56 m ((⟨#[41, 93, 124, 38, 45, 42, 43, 63, 123, 125, 44]⟩ : ByteArray)) (IntKind.u8.wrap v131)) fun v132 => some (!(decide (v132 ≥ 0)))) (some (!false))) = some v124 → KQ 23 ⟨(.ptr 0 0) :: (dI a1) :: q2 ((.ptr 1 0) :: (dB false) :: (appD 2 (List.map ep24 v82)) :: q2 ((.ptr 0 0) :: (.ptr 0 0) :: (.ptr 0 1) :: (dI v84) :: (.ptr 0 0) :: (.ptr 0 0) :: (.ptr 0 0) :: (dP eI v83) :: (dI (v83.length : Int)) :: (dB true) :: (dB true) :: (.ptr 0 0) :: (.ptr 0 0) :: (.ptr 0 0) :: (dP eI v83) :: (.ptr 0 0) :: (.ptr 0 0) :: (.ptr 0 1) :: (dI v84) :: (.vptr [(vI v128)]) :: (dI v128) :: (dB v129) :: (dB v129) :: q40 (q1 []))), [(.cells [(dP eI v83), (dI v84)]), b61_0, (appO 5 (List.map ep24 v82))]⟩) ?_ fun G61g130 => Ops.st _ (by kernel_rfl) (G61g130 (decide (v128 < 128)) ev124)
        intro v129 ev124
        cases v129
        · have ev124 := cnd_f ev124
          refine Ops.sg 16 39 ?_
          exact Ops.st _ (by kernel_rfl) (J61j125 (.ptr 0 0) (.ptr 0 0) (.ptr 0 0) (dP eI v83) (.ptr 0 0) (.ptr 0 0) (.ptr 0 1) (dI v84) (.vptr [(vI v128)]) (dI v128) (dB false) (dB false) U U U U U U U U U U U U U (dB false) (dB (!false)) true (!false) (some_sub (fun v124 => f61_r1 m K a1 v82 v83 v84 v124 = some sx92) ev124 h))
        · have ev124 := cnd_t ev124
          refine Ops.sg 8 31 ?_
          obtain ⟨v131, ev131, ev124⟩ := bnd_some ev124
          refine Ops.on 32 (fun h0 e0 => (ix_r (T := T) h0 22 3 1 .plain eI v83 v84 v131 ev131 (by kernel_rfl) (by kernel_rfl) (fun _ => rfl))) ?_
          refine Ops.sg 2 34 ?_
          obtain ⟨v132, ev132, ev124⟩ := bnd_some ev124
          refine Ops.on 35 (fun h0 e0 => (call_ok (E' := E) (h := h0) (by kernel_rfl) (Args.v (.str ((⟨#[41, 93, 124, 38, 45, 42, 43, 63, 123, 125, 44]⟩ : ByteArray))) (eS ((⟨#[41, 93, 124, 38, 45, 42, 43, 63, 123, 125, 44]⟩ : ByteArray))) (by kernel_rfl) (Args.v (.int .u8 (IntKind.u8.wrap v131)) ((eK .u8) (IntKind.u8.wrap v131)) (by kernel_rfl) Args.nil)) (ok56 m ((⟨#[41, 93, 124, 38, 45, 42, 43, 63, 123, 125, 44]⟩ : ByteArray)) (IntKind.u8.wrap v131) v132 ev132 n (by omega)))) ?_
          refine Ops.sg 4 39 ?_
          exact Ops.st _ (by kernel_rfl) (J61j125 (.ptr 0 0) (.ptr 0 0) (.ptr 0 0) (dP eI v83) (.ptr 0 0) (.ptr 0 0) (.ptr 0 1) (dI v84) (.vptr [(vI v128)]) (dI v128) (dB true) (dB true) (.ptr 0 0) (.ptr 0 0) (.ptr 0 0) (dP eI v83) (.ptr 0 0) (.ptr 0 0) (.ptr 0 1) (dI v84) (.vptr [(vI v131)]) (dI v131) (.v (.int .u8 (IntKind.u8.wrap v131))) (dI v132) (dB (decide (v132 ≥ 0))) (dB (decide (v132 ≥ 0))) (dB (!(decide (v132 ≥ 0)))) true (!(decide (v132 ≥ 0))) (some_sub (fun v124 => f61_r1 m K a1 v82 v83 v84 v124 = some sx92) ev124 h))
  refine Wp.loop' [0, 1, 4, 5, 6] 2 (by kernel_rfl) ⟨(.ptr 0 0) :: (dI a1) :: q2 ((.ptr 1 0) :: (dB false) :: (appD 2 (List.map ep24 [])) :: q40 (q26 [])), [(.cells [(dP eI a0.fL), (dI a0.fAt)]), b61_0, .dead]⟩ (by kernel_rfl) ?_
  rcases brk_some h with ⟨r135, er135, h⟩ | ⟨y134, ey134, h⟩
  · refine hLx133 _ [] a0.fL a0.fAt  _ er135 n (by omega) (fun r er σ hσ => ?_) (fun y  ey => by cases ey)
    cases er
    refine seqQ.r ?_
    exact fnQP.r' (X61 n) (fun z => (.tuple [e24 z.1, eB z.2])) c58 h hσ
  · refine hLx133 _ [] a0.fL a0.fAt  _ ey134 n (by omega) (fun r er => by cases er) (fun y  ey => ?_)
    cases ey
    refine seqQ.n ?_
    refine Wp.sq ?_
    refine Wp.sq ?_
    refine Wp.rg ?_
    refine Ops.sg 1 1 ?_
    refine Ops.on 2 (fun h0 e0 => (len_a (T := T) (g := .nil) h0 23 25 2 ep24 y134.1 (by kernel_rfl))) ?_
    refine Ops.dn ?_
    refine seqQ.n ?_
    refine Wp.block' 2 [4, 5, 6] 3 (by kernel_rfl) ?_
    refine Wp.sq ?_
    refine Wp.rg ?_
    refine Ops.sg 2 2 ?_
    refine Ops.dn ?_
    refine seqQ.n ?_
    refine Wp.cnd h [4, 5, 6] 3 (by kernel_rfl) (fun h => ?_) (fun h => ?_)
    · refine Wp.sq ?_
      refine Wp.rg ?_
      refine Ops.sg 3 3 ?_
      refine Ops.dn ?_
      refine seqQ.n ?_
      refine Wp.ret (by kernel_rfl) ?_
      refine sqQ.r ?_
      refine blkQ.r ?_
      refine seqQ.r ?_
      exact fnQP.r' (X61 n) (fun z => (.tuple [e24 z.1, eB z.2])) c58 h (RetOkP.mk' (.v (.tuple [(.agg [(vI 0), (.sl .nil (List.map eI [])), (.sl .nil (List.map ep24 [])), (vI 0), (vI 0)]), (vB false)])) (by kernel_rfl) (by kernel_rfl) (by kernel_rfl) (by kernel_rfl))
    · refine Wp.sq ?_
      refine Wp.rg ?_
      refine Ops.sg 2 2 ?_
      refine Ops.dn ?_
      refine seqQ.n ?_
      refine Wp.cnd h [4, 5, 6] 3 (by kernel_rfl) (fun h => ?_) (fun h => ?_)
      · refine Wp.sq ?_
        refine Wp.rg ?_
        refine Ops.sg 1 1 ?_
        obtain ⟨v136, ev136, h⟩ := bnd_some h
        refine Ops.on 2 (fun h0 e0 => (ixb24 (ix_a (T := T) (g := .nil) h0 23 25 5 2 ep24 y134.1 0 v136 ev136 (by kernel_rfl) (by kernel_rfl) ep24_len))) ?_
        refine Ops.sg 3 5 ?_
        refine Ops.dn ?_
        refine seqQ.n ?_
        refine Wp.ret (by kernel_rfl) ?_
        refine sqQ.r ?_
        refine sqQ.r ?_
        refine blkQ.r ?_
        refine seqQ.r ?_
        exact fnQP.r' (X61 n) (fun z => (.tuple [e24 z.1, eB z.2])) c58 h (RetOkP.mk' (.v (.tuple [(.agg [(vI v136.vw.fKind), (vP eI v136.vw.fLabels), (vP ep24 v136.vw.fSubs), (vI v136.vw.fLeast), (vI v136.vw.fMost)]), (vB true)])) (by kernel_rfl) (by kernel_rfl) (by kernel_rfl) (by kernel_rfl))
      · refine Wp.sk ?_
        refine sqQ.n ⟨q4 ((.ptr 1 0) :: (dB false) :: (appD 3 (List.map ep24 y134.1)) :: q40 (q26 [])), [(.cells [(dP eI y134.2.1), (dI y134.2.2)]), b61_0, .dead, (appO 5 (List.map ep24 y134.1))]⟩ (by generalize y134.1 = z0; cases z0 <;> kernel_rfl) ?_
        refine sqQ.n ⟨q4 ((.ptr 1 0) :: (dB false) :: (appD 3 (List.map ep24 y134.1)) :: q40 (q26 [])), [(.cells [(dP eI y134.2.1), (dI y134.2.2)]), b61_0, .dead, (appO 5 (List.map ep24 y134.1))]⟩ (by generalize y134.1 = z0; cases z0 <;> kernel_rfl) ?_
        refine blkQ.n ⟨q4 ((.ptr 1 0) :: (dB false) :: (appD 3 (List.map ep24 y134.1)) :: q40 (q26 [])), [(.cells [(dP eI y134.2.1), (dI y134.2.2)]), b61_0, .dead, (appO 5 (List.map ep24 y134.1))]⟩ (by generalize y134.1 = z0; cases z0 <;> kernel_rfl) ?_
        refine seqQ.n ?_
        refine Wp.sq ?_
        refine Wp.rg ?_
        refine Ops.sg 1 1 ?_
        refine Ops.seg 1 2 (by kernel_rfl) ⟨q4 ((.ptr 1 0) :: (dB false) :: (appD 3 (List.map ep24 y134.1)) :: q40 (q24 ((appD 3 (List.map ep24 y134.1)) :: (.v (.agg [(vI 3), (.sl .nil (List.map eI [])), (.sl (dfl (appD 3 (List.map ep24 y134.1))) (List.map ep24 y134.1)), (vI 0), (vI 0)])) :: []))), [(.cells [(dP eI y134.2.1), (dI y134.2.2)]), b61_0, .dead, (appO 5 (List.map ep24 y134.1))]⟩ (by generalize y134.1 = z0; cases z0 <;> kernel_rfl) ?_
        refine Ops.sg 2 4 ?_
        refine Ops.dn ?_
        refine seqQ.n ?_
        refine Wp.ret (by kernel_rfl) ?_
        exact fnQP.r' (X61 n) (fun z => (.tuple [e24 z.1, eB z.2])) c58 h (RetOkP.mk' (.v (.tuple [(.agg [(vI 3), (.sl .nil (List.map eI [])), (.sl (dfl (appD 3 (List.map ep24 y134.1))) (List.map ep24 y134.1)), (vI 0), (vI 0)]), (vB true)])) (by kernel_rfl) (by kernel_rfl) (by kernel_rfl) (by kernel_rfl))
/-! ### 67 (*glosswright/pattern.reader).factor -/
noncomputable def f67_j1 (m : Nat) (K : Rec28) (v641 : Int) (v642 : (List Int)) (v644 : (List P24)) (v646 : Int) (v647 : Int) (v677 : Bool) (v737 : (List Int)) (v738 : Int) (v739 : Int) (v740 : Int) : Option (Stp ((S24 × Bool) × S58) (Bool × (List Int) × Int × Int × (List Int) × (List P24) × Int × Int)) :=
  some (.nxt (v677, v737, v738, 5, [], [(P24.con ((⟨v641, v642, v644, v646, v647⟩ : S24)))], v739, v740))
noncomputable def f67_j2 (m : Nat) (K : Rec28) (v641 : Int) (v642 : (List Int)) (v644 : (List P24)) (v646 : Int) (v647 : Int) (v742 : Bool) (v802 : (List Int)) (v803 : Int) (v804 : Int) (v805 : Int) : Option (Stp ((S24 × Bool) × S58) (Bool × (List Int) × Int × Int × (List Int) × (List P24) × Int × Int)) :=
  f67_j1 m K v641 v642 v644 v646 v647 v742 v802 v803 v804 v805
noncomputable def f67_j3 (m : Nat) (K : Rec28) (v641 : Int) (v642 : (List Int)) (v644 : (List P24)) (v646 : Int) (v647 : Int) (v807 : Bool) (v864 : (List Int)) (v865 : Int) (v866 : Int) (v867 : Int) : Option (Stp ((S24 × Bool) × S58) (Bool × (List Int) × Int × Int × (List Int) × (List P24) × Int × Int)) :=
  f67_j2 m K v641 v642 v644 v646 v647 v807 v864 v865 v866 v867
noncomputable def f67_j4 (m : Nat) (K : Rec28) (v641 : Int) (v642 : (List Int)) (v644 : (List P24)) (v646 : Int) (v647 : Int) (v869 : Bool) (v923 : (List Int)) (v924 : Int) (v925 : Int) (v926 : Int) : Option (Stp ((S24 × Bool) × S58) (Bool × (List Int) × Int × Int × (List Int) × (List P24) × Int × Int)) :=
  f67_j3 m K v641 v642 v644 v646 v647 v869 v923 v924 v925 v926
noncomputable def f67_j5 (m : Nat) (K : Rec28) (v641 : Int) (v642 : (List Int)) (v644 : (List P24)) (v646 : Int) (v647 : Int) (v928 : ((Int × Bool) × S58)) (v931 : Bool) (v954 : (List Int)) (v955 : Int) (v956 : Int) : Option (Stp ((S24 × Bool) × S58) (Bool × (List Int) × Int × Int × (List Int) × (List P24) × Int × Int)) :=
  bnd (f46 m ((⟨v954, v955⟩ : S58)) 125) fun v958 =>
  cnd (!v958)
  (some (.ret ((((⟨v641, v642, v644, v646, v647⟩ : S24), false), (⟨v954, v955⟩ : S58)))))
  (f67_j4 m K v641 v642 v644 v646 v647 v931 v954 (w64 (v955 + 1)) v928.1.1 v956)
noncomputable def f67_r6 (m : Nat) (K : Rec28) (v639 : (List Int)) (v640 : Int) (v641 : Int) (v642 : (List Int)) (v644 : (List P24)) (v646 : Int) (v647 : Int) (v673 : Bool) (v674 : Bool) : Option (Stp ((S24 × Bool) × S58) (Bool × (List Int) × Int × Int × (List Int) × (List P24) × Int × Int)) :=
  cnd v674
  (bnd (idx v639 v640) fun v676 =>
  cnd (v676 == 43)
  (f67_j2 m K v641 v642 v644 v646 v647 v673 v639 (w64 (v640 + 1)) 1 (-1))
  (cnd (v676 == 63)
  (f67_j3 m K v641 v642 v644 v646 v647 v673 v639 (w64 (v640 + 1)) 0 1)
  (cnd (v676 == 123)
  (bnd (f75 m ((⟨v639, w64 (v640 + 1)⟩ : S58))) fun v928 =>
  cnd (!v928.1.2)
  (some (.ret ((((⟨v641, v642, v644, v646, v647⟩ : S24), false), v928.2))))
  (bnd (f46 m v928.2 44) fun v929 =>
  cnd (!v929)
  (some (.ret ((((⟨v641, v642, v644, v646, v647⟩ : S24), false), v928.2))))
  (bnd (f46 m ((⟨v928.2.fL, w64 (v928.2.fAt + 1)⟩ : S58)) 125) fun v930 =>
  cnd (!v930)
  (bnd (f75 m ((⟨v928.2.fL, w64 (v928.2.fAt + 1)⟩ : S58))) fun v959 =>
  cnd (!v959.1.2)
  (some (.ret ((((⟨v641, v642, v644, v646, v647⟩ : S24), false), v959.2))))
  (f67_j5 m K v641 v642 v644 v646 v647 v928 v959.1.2 v959.2.fL v959.2.fAt v959.1.1))
  (f67_j5 m K v641 v642 v644 v646 v647 v928 v928.1.2 v928.2.fL (w64 (v928.2.fAt + 1)) (-1)))))
  (f67_j4 m K v641 v642 v644 v646 v647 v673 v639 (w64 (v640 + 1)) 0 (-1)))))
  (some (.brk (v673, v639, v640, v641, v642, v644, v646, v647)))
noncomputable def f67_B7 (m : Nat) (K : Rec28) (v638 : Bool) (v639 : (List Int)) (v640 : Int) (v641 : Int) (v642 : (List Int)) (v644 : (List P24)) (v646 : Int) (v647 : Int) : Option (Stp ((S24 × Bool) × S58) (Bool × (List Int) × Int × Int × (List Int) × (List P24) × Int × Int)) :=
  bnd (cnd v638
  (bnd (f46 m ((⟨v639, v640⟩ : S58)) 42) fun v960 =>
  cnd v960
  (some true)
  (bnd (f46 m ((⟨v639, v640⟩ : S58)) 43) fun v963 =>
  cnd v963
  (some true)
  (bnd (f46 m ((⟨v639, v640⟩ : S58)) 63) fun v966 =>
  cnd v966
  (some true)
  (bnd (f46 m ((⟨v639, v640⟩ : S58)) 123) fun v969 =>
  some v969))))
  (some false)) fun v674 =>
  f67_r6 m K v639 v640 v641 v642 v644 v646 v647 v638 v674
noncomputable def b67 (m : Nat) (K : Rec28) (a0 : S58) (a1 : Int) : Option ((S24 × Bool) × S58) :=
  bnd (K.r74 a0 a1) fun v1 =>
  brk (iter (fun (y : Bool × (List Int) × Int × Int × (List Int) × (List P24) × Int × Int) => f67_B7 m K y.1 y.2.1 y.2.2.1 y.2.2.2.1 y.2.2.2.2.1 y.2.2.2.2.2.1 y.2.2.2.2.2.2.1 y.2.2.2.2.2.2.2) m (v1.1.2, v1.2.fL, v1.2.fAt, v1.1.1.fKind, v1.1.1.fLabels, v1.1.1.fSubs, v1.1.1.fLeast, v1.1.1.fMost)) some fun y971 =>
  some ((((⟨y971.2.2.2.1, y971.2.2.2.2.1, y971.2.2.2.2.2.1, y971.2.2.2.2.2.2.1, y971.2.2.2.2.2.2.2⟩ : S24), y971.1), (⟨y971.2.1, y971.2.2.1⟩ : S58)))
noncomputable abbrev X67 (n : Nat) : Cx := cxOf Proofs.Tryd.prog E 67 n
noncomputable def C67 : Code := bodyOf Proofs.Tryd.prog 67
noncomputable abbrev p67_0 : Code := cR (cR (cR C67))
noncomputable abbrev p67_1 : Code := cL (cL (cL (cR (cR C67))))
noncomputable abbrev p67_2 : Code := cR (cR (cR (cR (cL (cR p67_1)))))
noncomputable abbrev p67_3 : Code := cR (cR (cR (cR (cL (cR (cR (cR (cR (cR (cL (cR (cL (cR (cR (cR (cL (cR p67_1)))))))))))))))))
noncomputable abbrev b67_0 : AObj := .cells [(dI 0), (.v (.sl .nil (List.map eI []))), (.v (.sl .nil (List.map ep24 []))), (dI 0), (dI 0)]
noncomputable abbrev b67_1 (w0 : (List Int)) (w1 : Int) : AObj := .cells [(dP eI w0), (dI w1)]
noncomputable abbrev b67_2 (w0 : Int) (w1 : (List Int)) (w2 : (List P24)) (w3 : Int) (w4 : Int) (w5 : Int) (w6 : Int) : AObj := .cells [(dI 5), (.v (.sl .nil (List.map eI []))), (.v (.sl .nonfull (List.map ep24 ([(P24.con ((⟨w0, w1, w2, w3, w4⟩ : S24)))])))), (dI w5), (dI w6)]
noncomputable abbrev k67_0 : List Nat := [0, 4, 5, 6, 7]
noncomputable abbrev k67_1 : List Nat := [0, 4, 5, 6, 7, 8]
theorem f67_hLx970 (m : Nat) (K : Rec28) (nn : Nat) (hK : OkRec28 m K nn) (a0 : S58) (a1 : Int) (o : ((S24 × Bool) × S58)) (n : Nat) (hn : m + 2 ≤ n + 1) (hk : nn + 1 ≤ n + 1)  : ∀ (kx649 : Nat) (v638 : Bool) (v639 : (List Int)) (v640 : Int) (v641 : Int) (v642 : (List Int)) (v644 : (List P24)) (v646 : Int) (v647 : Int) (fl643 : SFlag) (fl645 : SFlag) (ox648 : ((S24 × Bool) × S58) ⊕ (Bool × (List Int) × Int × Int × (List Int) × (List P24) × Int × Int)), iter (fun (y : Bool × (List Int) × Int × Int × (List Int) × (List P24) × Int × Int) => f67_B7 m K y.1 y.2.1 y.2.2.1 y.2.2.2.1 y.2.2.2.2.1 y.2.2.2.2.2.1 y.2.2.2.2.2.2.1 y.2.2.2.2.2.2.2) kx649 (v638, v639, v640, v641, v642, v644, v646, v647) = some ox648 → ∀ nx650, kx649 ≤ nx650 → (∀ r, ox648 = .inl r → ∀ σ, RetOkP (X67 n) (resOf Proofs.Tryd.prog 67) (.tuple [e24 r.1.1, eB r.1.2]) (c58 r.2) σ → (seqQ (X67 n) p67_0 (fnQP (X67 n).E.T (resOf Proofs.Tryd.prog 67) (.tuple [e24 o.1.1, eB o.1.2]) (c58 o.2))) .ret σ) → (∀ (y : Bool × (List Int) × Int × Int × (List Int) × (List P24) × Int × Int) (fl643 : SFlag) (fl645 : SFlag), ox648 = .inr y → (seqQ (X67 n) p67_0 (fnQP (X67 n).E.T (resOf Proofs.Tryd.prog 67) (.tuple [e24 o.1.1, eB o.1.2]) (c58 o.2))) .normal ⟨(.ptr 0 0) :: q3 ((.ptr 1 0) :: (dB false) :: (.ptr 2 0) :: (dB y.1) :: q40 (q40 (q20 []))), [(.cells [(dP eI y.2.1), (dI y.2.2.1)]), b67_0, (.cells [(dI y.2.2.2.1), (.v (.sl fl643 (List.map eI y.2.2.2.2.1))), (.v (.sl fl645 (List.map ep24 y.2.2.2.2.2.1))), (dI y.2.2.2.2.2.2.1), (dI y.2.2.2.2.2.2.2)])]⟩) → Lp (X67 n) k67_0 3 p67_1 nx650 ⟨(.ptr 0 0) :: q3 ((.ptr 1 0) :: (dB false) :: (.ptr 2 0) :: (dB v638) :: q40 (q40 (q20 []))), [(b67_1 v639 v640), b67_0, (.cells [(dI v641), (.v (.sl fl643 (List.map eI v642))), (.v (.sl fl645 (List.map ep24 v644))), (dI v646), (dI v647)])]⟩ (blkQ (X67 n) 0 [4, 5, 6, 7] 3 (seqQ (X67 n) p67_0 (fnQP (X67 n).E.T (resOf Proofs.Tryd.prog 67) (.tuple [e24 o.1.1, eB o.1.2]) (c58 o.2)))) := by
  intro kx649
  induction kx649 with
  | zero => intro v638 v639 v640 v641 v642 v644 v646 v647 fl643 fl645 ox648 h; exact (iter_zero h).elim
  | succ kx649 ihx651 =>
    intro v638 v639 v640 v641 v642 v644 v646 v647 fl643 fl645 ox648 h nx650 hnx654 hrx652 hxx653
    obtain ⟨nx650, rfl⟩ : ∃ q, nx650 = q + 1 := ⟨nx650 - 1, by omega⟩
    obtain ⟨sx655, h, hsx656⟩ := iter_some h
    have h : f67_B7 m K v638 v639 v640 v641 v642 v644 v646 v647 = some sx655 := h
    unfold f67_B7 at h
    refine Lp.succ ?_
    refine Wp.sq ?_
    refine Wp.sq ?_
    refine Wp.rg ?_
    refine Ops.sg 2 2 ?_
    refine Ops.hv (fun KQ => ∀ (d659 d660 d661 d662 d663 d664 d665 d666 d667 d668 d669 d670 d671 d672 : D) (v673 : Bool) (v674 : Bool), f67_r6 m K v639 v640 v641 v642 v644 v646 v647 v673 v674 = some sx655 → KQ 17 ⟨(.ptr 0 0) :: q3 ((.ptr 1 0) :: (dB false) :: (.ptr 2 0) :: (dB v673) :: q8 ((dB v673) :: (dB v673) :: d659 :: d660 :: d661 :: d662 :: d663 :: d664 :: d665 :: d666 :: d667 :: d668 :: d669 :: d670 :: d671 :: d672 :: (dB v674) :: q40 (q35 []))), [(b67_1 v639 v640), b67_0, (.cells [(dI v641), (.v (.sl fl643 (List.map eI v642))), (.v (.sl fl645 (List.map ep24 v644))), (dI v646), (dI v647)])]⟩) ?_ fun J67j675 => ?_
    · intro d659 d660 d661 d662 d663 d664 d665 d666 d667 d668 d669 d670 d671 d672 v673 v674 h
      unfold f67_r6 at h
      refine Ops.dn ?_
      refine seqQ.n ?_
      refine Wp.cnd h k67_0 3 (by kernel_rfl) (fun h => ?_) (fun h => ?_)
      · refine Wp.sk ?_
        refine sqQ.n' ?_
        refine seqQ.n ?_
        refine Wp.block' 1 k67_0 3 (by kernel_rfl) ?_
        refine Wp.sq ?_
        refine Wp.rg ?_
        refine Ops.sg 5 5 ?_
        refine Ops.dn ?_
        refine seqQ.n ?_
        refine Wp.sq ?_
        refine Wp.rg ?_
        refine Ops.sg 8 8 ?_
        obtain ⟨v676, ev676, h⟩ := bnd_some h
        refine Ops.on 9 (fun h0 e0 => (ix_r (T := T) h0 22 3 1 .plain eI v639 v640 v676 ev676 (by kernel_rfl) (by kernel_rfl) (fun _ => rfl))) ?_
        refine Ops.sg 2 11 ?_
        refine Ops.dn ?_
        refine seqQ.n ?_
        refine Wp.sq ?_
        refine Wp.rg ?_
        refine Ops.sg 8 8 ?_
        refine Ops.dn ?_
        refine seqQ.n ?_
        refine Wp.sq ?_
        refine Wp.sq ?_
        refine Wp.rg ?_
        refine Ops.sg 1 1 ?_
        refine Ops.dn ?_
        refine seqQ.n ?_
        have J67j741 : ∀ (v677 : Bool) (v737 : (List Int)) (v738 : Int) (v739 : Int) (v740 : Int) (d678 : D) (d679 : D) (d680 : D) (d681 : D) (d682 : D) (d683 : D) (d684 : D) (d685 : D) (d686 : D) (d687 : D) (d688 : D) (d689 : D) (d690 : D) (d691 : D) (d692 : D) (d693 : D) (d694 : D) (d695 : D) (d696 : D) (d697 : D) (d698 : D) (d699 : D) (d700 : D) (d701 : D) (d702 : D) (d703 : D) (d704 : D) (d705 : D) (d706 : D) (d707 : D) (d708 : D) (d709 : D) (d710 : D) (d711 : D) (d712 : D) (d713 : D) (d714 : D) (d715 : D) (d716 : D) (d717 : D) (d718 : D) (d719 : D) (d720 : D) (d721 : D) (d722 : D) (d723 : D) (d724 : D) (d725 : D) (d726 : D) (d727 : D) (d728 : D) (d729 : D) (d730 : D) (d731 : D) (d732 : D) (d733 : D) (d734 : D) (d735 : D) (d736 : D), f67_j1 m K v641 v642 v644 v646 v647 v677 v737 v738 v739 v740 = some sx655 → (seqQ (X67 n) p67_2 (blkQ (X67 n) 1 k67_0 3 (lpQ (X67 n) k67_0 3 p67_1 nx650 (blkQ (X67 n) 0 [4, 5, 6, 7] 3 (seqQ (X67 n) p67_0 (fnQP (X67 n).E.T (resOf Proofs.Tryd.prog 67) (.tuple [e24 o.1.1, eB o.1.2]) (c58 o.2))))))) .normal ⟨(.ptr 0 0) :: q3 ((.ptr 1 0) :: (dB false) :: (.ptr 2 0) :: (dB v677) :: (.ptr 3 0) :: (dI v676) :: q6 ((dB v673) :: (dB v673) :: d678 :: d679 :: d680 :: d681 :: d682 :: d683 :: d684 :: d685 :: d686 :: d687 :: d688 :: d689 :: d690 :: d691 :: (dB v674) :: (.v (.agg [(vI v641), (.sl fl643 (List.map eI v642)), (.sl fl645 (List.map ep24 v644)), (vI v646), (vI v647)])) :: (.v (.sl .nonfull (List.map ep24 ([(P24.con ((⟨v641, v642, v644, v646, v647⟩ : S24)))])))) :: (.v (.agg [(vI 5), (.sl .nil (List.map eI [])), (.sl .nonfull (List.map ep24 ([(P24.con ((⟨v641, v642, v644, v646, v647⟩ : S24)))]))), (vI 0), (vI (-1))])) :: (.ptr 0 0) :: (.ptr 0 0) :: (.ptr 0 0) :: (dP eI v639) :: (.ptr 0 0) :: (.ptr 0 0) :: (.ptr 0 1) :: (dI v640) :: (.vptr [(vI v676)]) :: (dI v676) :: (.ptr 0 0) :: (.ptr 0 0) :: (.ptr 0 1) :: (dI v640) :: (dI (w64 (v640 + 1))) :: (.ptr 0 0) :: (.ptr 0 1) :: (dI v676) :: (dB (v676 == 43)) :: (dB (v676 == 43)) :: d692 :: d693 :: d694 :: d695 :: d696 :: d697 :: d698 :: d699 :: d700 :: d701 :: d702 :: d703 :: d704 :: d705 :: q1 (d706 :: d707 :: d708 :: q1 (d709 :: d710 :: d711 :: d712 :: d713 :: d714 :: d715 :: d716 :: d717 :: d718 :: d719 :: d720 :: d721 :: d722 :: d723 :: d724 :: d725 :: d726 :: q1 (d727 :: d728 :: d729 :: q1 (d730 :: d731 :: d732 :: d733 :: d734 :: d735 :: d736 :: q3 [])))))), [(b67_1 v737 v738), b67_0, (.cells [(dI v641), (.v (.sl fl643 (List.map eI v642))), (.v (.sl fl645 (List.map ep24 v644))), (dI v646), (dI v647)]), (b67_2 v641 v642 v644 v646 v647 v739 v740)]⟩ := by
          intro v677 v737 v738 v739 v740 d678 d679 d680 d681 d682 d683 d684 d685 d686 d687 d688 d689 d690 d691 d692 d693 d694 d695 d696 d697 d698 d699 d700 d701 d702 d703 d704 d705 d706 d707 d708 d709 d710 d711 d712 d713 d714 d715 d716 d717 d718 d719 d720 d721 d722 d723 d724 d725 d726 d727 d728 d729 d730 d731 d732 d733 d734 d735 d736 h
          unfold f67_j1 at h
          refine seqQ.n ?_
          refine Wp.rg ?_
          refine Ops.sg 2 2 ?_
          refine Ops.dn ?_
          refine blkQ.n' ?_
          refine lpQ.n ⟨(.ptr 0 0) :: q3 ((.ptr 1 0) :: (dB false) :: (.ptr 2 0) :: (dB v677) :: q40 (q40 (q20 []))), [(b67_1 v737 v738), b67_0, (b67_2 v641 v642 v644 v646 v647 v739 v740)]⟩ (by kernel_rfl) ?_
          cases h
          exact ihx651 v677 v737 v738 5 [] ([(P24.con ((⟨v641, v642, v644, v646, v647⟩ : S24)))]) v739 v740 _ _ _ hsx656 _ (by omega) hrx652 hxx653
        refine Wp.block' 2 k67_1 4 (by kernel_rfl) ?_
        refine Wp.sq ?_
        refine Wp.rg ?_
        refine Ops.sg 2 2 ?_
        refine Ops.dn ?_
        refine seqQ.n ?_
        have J67j806 : ∀ (v742 : Bool) (v802 : (List Int)) (v803 : Int) (v804 : Int) (v805 : Int) (d743 : D) (d744 : D) (d745 : D) (d746 : D) (d747 : D) (d748 : D) (d749 : D) (d750 : D) (d751 : D) (d752 : D) (d753 : D) (d754 : D) (d755 : D) (d756 : D) (d757 : D) (d758 : D) (d759 : D) (d760 : D) (d761 : D) (d762 : D) (d763 : D) (d764 : D) (d765 : D) (d766 : D) (d767 : D) (d768 : D) (d769 : D) (d770 : D) (d771 : D) (d772 : D) (d773 : D) (d774 : D) (d775 : D) (d776 : D) (d777 : D) (d778 : D) (d779 : D) (d780 : D) (d781 : D) (d782 : D) (d783 : D) (d784 : D) (d785 : D) (d786 : D) (d787 : D) (d788 : D) (d789 : D) (d790 : D) (d791 : D) (d792 : D) (d793 : D) (d794 : D) (d795 : D) (d796 : D) (d797 : D) (d798 : D) (d799 : D) (d800 : D) (d801 : D), f67_j2 m K v641 v642 v644 v646 v647 v742 v802 v803 v804 v805 = some sx655 → (blkQ (X67 n) 2 k67_1 4 (seqQ (X67 n) p67_2 (blkQ (X67 n) 1 k67_0 3 (lpQ (X67 n) k67_0 3 p67_1 nx650 (blkQ (X67 n) 0 [4, 5, 6, 7] 3 (seqQ (X67 n) p67_0 (fnQP (X67 n).E.T (resOf Proofs.Tryd.prog 67) (.tuple [e24 o.1.1, eB o.1.2]) (c58 o.2)))))))) .normal ⟨(.ptr 0 0) :: q3 ((.ptr 1 0) :: (dB false) :: (.ptr 2 0) :: (dB v742) :: (.ptr 3 0) :: (dI v676) :: q6 ((dB v673) :: (dB v673) :: d743 :: d744 :: d745 :: d746 :: d747 :: d748 :: d749 :: d750 :: d751 :: d752 :: d753 :: d754 :: d755 :: d756 :: (dB v674) :: (.v (.agg [(vI v641), (.sl fl643 (List.map eI v642)), (.sl fl645 (List.map ep24 v644)), (vI v646), (vI v647)])) :: (.v (.sl .nonfull (List.map ep24 ([(P24.con ((⟨v641, v642, v644, v646, v647⟩ : S24)))])))) :: (.v (.agg [(vI 5), (.sl .nil (List.map eI [])), (.sl .nonfull (List.map ep24 ([(P24.con ((⟨v641, v642, v644, v646, v647⟩ : S24)))]))), (vI 0), (vI (-1))])) :: (.ptr 0 0) :: (.ptr 0 0) :: (.ptr 0 0) :: (dP eI v639) :: (.ptr 0 0) :: (.ptr 0 0) :: (.ptr 0 1) :: (dI v640) :: (.vptr [(vI v676)]) :: (dI v676) :: (.ptr 0 0) :: (.ptr 0 0) :: (.ptr 0 1) :: (dI v640) :: (dI (w64 (v640 + 1))) :: (.ptr 0 0) :: (.ptr 0 1) :: (dI v676) :: (dB (v676 == 43)) :: (dB (v676 == 43)) :: d757 :: d758 :: d759 :: d760 :: d761 :: d762 :: d763 :: d764 :: d765 :: d766 :: d767 :: d768 :: d769 :: d770 :: q1 (d771 :: d772 :: d773 :: q1 (d774 :: d775 :: d776 :: d777 :: d778 :: d779 :: d780 :: d781 :: d782 :: d783 :: d784 :: d785 :: d786 :: d787 :: d788 :: d789 :: d790 :: d791 :: q1 (d792 :: d793 :: d794 :: q1 (d795 :: d796 :: d797 :: d798 :: d799 :: d800 :: d801 :: q3 [])))))), [(b67_1 v802 v803), b67_0, (.cells [(dI v641), (.v (.sl fl643 (List.map eI v642))), (.v (.sl fl645 (List.map ep24 v644))), (dI v646), (dI v647)]), (b67_2 v641 v642 v644 v646 v647 v804 v805)]⟩ := by
          intro v742 v802 v803 v804 v805 d743 d744 d745 d746 d747 d748 d749 d750 d751 d752 d753 d754 d755 d756 d757 d758 d759 d760 d761 d762 d763 d764 d765 d766 d767 d768 d769 d770 d771 d772 d773 d774 d775 d776 d777 d778 d779 d780 d781 d782 d783 d784 d785 d786 d787 d788 d789 d790 d791 d792 d793 d794 d795 d796 d797 d798 d799 d800 d801 h
          unfold f67_j2 at h
          refine blkQ.n ⟨(.ptr 0 0) :: q3 ((.ptr 1 0) :: (dB false) :: (.ptr 2 0) :: (dB v742) :: (.ptr 3 0) :: (dI v676) :: q6 ((dB v673) :: (dB v673) :: d743 :: d744 :: d745 :: d746 :: d747 :: d748 :: d749 :: d750 :: d751 :: d752 :: d753 :: d754 :: d755 :: d756 :: (dB v674) :: (.v (.agg [(vI v641), (.sl fl643 (List.map eI v642)), (.sl fl645 (List.map ep24 v644)), (vI v646), (vI v647)])) :: (.v (.sl .nonfull (List.map ep24 ([(P24.con ((⟨v641, v642, v644, v646, v647⟩ : S24)))])))) :: (.v (.agg [(vI 5), (.sl .nil (List.map eI [])), (.sl .nonfull (List.map ep24 ([(P24.con ((⟨v641, v642, v644, v646, v647⟩ : S24)))]))), (vI 0), (vI (-1))])) :: (.ptr 0 0) :: (.ptr 0 0) :: (.ptr 0 0) :: (dP eI v639) :: (.ptr 0 0) :: (.ptr 0 0) :: (.ptr 0 1) :: (dI v640) :: (.vptr [(vI v676)]) :: (dI v676) :: (.ptr 0 0) :: (.ptr 0 0) :: (.ptr 0 1) :: (dI v640) :: (dI (w64 (v640 + 1))) :: (.ptr 0 0) :: (.ptr 0 1) :: (dI v676) :: (dB (v676 == 43)) :: (dB (v676 == 43)) :: d757 :: d758 :: d759 :: d760 :: d761 :: d762 :: d763 :: d764 :: d765 :: d766 :: d767 :: d768 :: d769 :: d770 :: q1 (d771 :: d772 :: d773 :: q1 (d774 :: d775 :: d776 :: d777 :: d778 :: d779 :: d780 :: d781 :: d782 :: d783 :: d784 :: d785 :: d786 :: d787 :: d788 :: d789 :: d790 :: d791 :: q1 (d792 :: d793 :: d794 :: q1 (d795 :: d796 :: d797 :: d798 :: d799 :: d800 :: d801 :: q3 [])))))), [(b67_1 v802 v803), b67_0, (.cells [(dI v641), (.v (.sl fl643 (List.map eI v642))), (.v (.sl fl645 (List.map ep24 v644))), (dI v646), (dI v647)]), (b67_2 v641 v642 v644 v646 v647 v804 v805)]⟩ (by kernel_rfl) ?_
          exact J67j741 v742 v802 v803 v804 v805 _ _ _ _ _ _ _ _ _ _ _ _ _ _ _ _ _ _ _ _ _ _ _ _ _ _ _ _ _ _ _ _ _ _ _ _ _ _ _ _ _ _ _ _ _ _ _ _ _ _ _ _ _ _ _ _ _ _ _ h
        refine Wp.cnd h k67_1 4 (by kernel_rfl) (fun h => ?_) (fun h => ?_)
        · refine Wp.rg ?_
          refine Ops.sg 2 2 ?_
          refine Ops.dn ?_
          refine sqQ.n ⟨(.ptr 0 0) :: q3 ((.ptr 1 0) :: (dB false) :: (.ptr 2 0) :: (dB v673) :: (.ptr 3 0) :: (dI v676) :: q6 ((dB v673) :: (dB v673) :: d659 :: d660 :: d661 :: d662 :: d663 :: d664 :: d665 :: d666 :: d667 :: d668 :: d669 :: d670 :: d671 :: d672 :: (dB v674) :: (.v (.agg [(vI v641), (.sl fl643 (List.map eI v642)), (.sl fl645 (List.map ep24 v644)), (vI v646), (vI v647)])) :: (.v (.sl .nonfull (List.map ep24 ([(P24.con ((⟨v641, v642, v644, v646, v647⟩ : S24)))])))) :: (.v (.agg [(vI 5), (.sl .nil (List.map eI [])), (.sl .nonfull (List.map ep24 ([(P24.con ((⟨v641, v642, v644, v646, v647⟩ : S24)))]))), (vI 0), (vI (-1))])) :: (.ptr 0 0) :: (.ptr 0 0) :: (.ptr 0 0) :: (dP eI v639) :: (.ptr 0 0) :: (.ptr 0 0) :: (.ptr 0 1) :: (dI v640) :: (.vptr [(vI v676)]) :: (dI v676) :: (.ptr 0 0) :: (.ptr 0 0) :: (.ptr 0 1) :: (dI v640) :: (dI (w64 (v640 + 1))) :: (.ptr 0 0) :: (.ptr 0 1) :: (dI v676) :: (dB (v676 == 43)) :: (dB (v676 == 43)) :: (.ptr 3 3) :: q40 (q11 []))), [(.cells [(dP eI v639), (dI (w64 (v640 + 1)))]), b67_0, (.cells [(dI v641), (.v (.sl fl643 (List.map eI v642))), (.v (.sl fl645 (List.map ep24 v644))), (dI v646), (dI v647)]), (.cells [(dI 5), (.v (.sl .nil (List.map eI []))), (.v (.sl .nonfull (List.map ep24 ([(P24.con ((⟨v641, v642, v644, v646, v647⟩ : S24)))])))), (dI 1), (dI (-1))])]⟩ (by kernel_rfl) ?_
          exact J67j806 v673 v639 (w64 (v640 + 1)) 1 (-1) _ _ _ _ _ _ _ _ _ _ _ _ _ _ _ _ _ _ _ _ _ _ _ _ _ _ _ _ _ _ _ _ _ _ _ _ _ _ _ _ _ _ _ _ _ _ _ _ _ _ _ _ _ _ _ _ _ _ _ h
        · refine Wp.sq ?_
          refine Wp.rg ?_
          refine Ops.sg 2 2 ?_
          refine Ops.dn ?_
          refine seqQ.n ?_
          have J67j868 : ∀ (v807 : Bool) (v864 : (List Int)) (v865 : Int) (v866 : Int) (v867 : Int) (d808 : D) (d809 : D) (d810 : D) (d811 : D) (d812 : D) (d813 : D) (d814 : D) (d815 : D) (d816 : D) (d817 : D) (d818 : D) (d819 : D) (d820 : D) (d821 : D) (d822 : D) (d823 : D) (d824 : D) (d825 : D) (d826 : D) (d827 : D) (d828 : D) (d829 : D) (d830 : D) (d831 : D) (d832 : D) (d833 : D) (d834 : D) (d835 : D) (d836 : D) (d837 : D) (d838 : D) (d839 : D) (d840 : D) (d841 : D) (d842 : D) (d843 : D) (d844 : D) (d845 : D) (d846 : D) (d847 : D) (d848 : D) (d849 : D) (d850 : D) (d851 : D) (d852 : D) (d853 : D) (d854 : D) (d855 : D) (d856 : D) (d857 : D) (d858 : D) (d859 : D) (d860 : D) (d861 : D) (d862 : D) (d863 : D), f67_j3 m K v641 v642 v644 v646 v647 v807 v864 v865 v866 v867 = some sx655 → (sqQ (X67 n) k67_1 4 (blkQ (X67 n) 2 k67_1 4 (seqQ (X67 n) p67_2 (blkQ (X67 n) 1 k67_0 3 (lpQ (X67 n) k67_0 3 p67_1 nx650 (blkQ (X67 n) 0 [4, 5, 6, 7] 3 (seqQ (X67 n) p67_0 (fnQP (X67 n).E.T (resOf Proofs.Tryd.prog 67) (.tuple [e24 o.1.1, eB o.1.2]) (c58 o.2))))))))) .normal ⟨(.ptr 0 0) :: q3 ((.ptr 1 0) :: (dB false) :: (.ptr 2 0) :: (dB v807) :: (.ptr 3 0) :: (dI v676) :: q6 ((dB v673) :: (dB v673) :: d808 :: d809 :: d810 :: d811 :: d812 :: d813 :: d814 :: d815 :: d816 :: d817 :: d818 :: d819 :: d820 :: d821 :: (dB v674) :: (.v (.agg [(vI v641), (.sl fl643 (List.map eI v642)), (.sl fl645 (List.map ep24 v644)), (vI v646), (vI v647)])) :: (.v (.sl .nonfull (List.map ep24 ([(P24.con ((⟨v641, v642, v644, v646, v647⟩ : S24)))])))) :: (.v (.agg [(vI 5), (.sl .nil (List.map eI [])), (.sl .nonfull (List.map ep24 ([(P24.con ((⟨v641, v642, v644, v646, v647⟩ : S24)))]))), (vI 0), (vI (-1))])) :: (.ptr 0 0) :: (.ptr 0 0) :: (.ptr 0 0) :: (dP eI v639) :: (.ptr 0 0) :: (.ptr 0 0) :: (.ptr 0 1) :: (dI v640) :: (.vptr [(vI v676)]) :: (dI v676) :: (.ptr 0 0) :: (.ptr 0 0) :: (.ptr 0 1) :: (dI v640) :: (dI (w64 (v640 + 1))) :: (.ptr 0 0) :: (.ptr 0 1) :: (dI v676) :: (dB (v676 == 43)) :: (dB (v676 == 43)) :: q1 ((dB (v676 == 63)) :: (dB (v676 == 63)) :: d822 :: d823 :: d824 :: d825 :: d826 :: d827 :: d828 :: d829 :: d830 :: d831 :: d832 :: q1 (d833 :: d834 :: d835 :: q1 (d836 :: d837 :: d838 :: d839 :: d840 :: d841 :: d842 :: d843 :: d844 :: d845 :: d846 :: d847 :: d848 :: d849 :: d850 :: d851 :: d852 :: d853 :: q1 (d854 :: d855 :: d856 :: q1 (d857 :: d858 :: d859 :: d860 :: d861 :: d862 :: d863 :: q3 []))))))), [(b67_1 v864 v865), b67_0, (.cells [(dI v641), (.v (.sl fl643 (List.map eI v642))), (.v (.sl fl645 (List.map ep24 v644))), (dI v646), (dI v647)]), (b67_2 v641 v642 v644 v646 v647 v866 v867)]⟩ := by
            intro v807 v864 v865 v866 v867 d808 d809 d810 d811 d812 d813 d814 d815 d816 d817 d818 d819 d820 d821 d822 d823 d824 d825 d826 d827 d828 d829 d830 d831 d832 d833 d834 d835 d836 d837 d838 d839 d840 d841 d842 d843 d844 d845 d846 d847 d848 d849 d850 d851 d852 d853 d854 d855 d856 d857 d858 d859 d860 d861 d862 d863 h
            unfold f67_j3 at h
            refine sqQ.n ⟨(.ptr 0 0) :: q3 ((.ptr 1 0) :: (dB false) :: (.ptr 2 0) :: (dB v807) :: (.ptr 3 0) :: (dI v676) :: q6 ((dB v673) :: (dB v673) :: d808 :: d809 :: d810 :: d811 :: d812 :: d813 :: d814 :: d815 :: d816 :: d817 :: d818 :: d819 :: d820 :: d821 :: (dB v674) :: (.v (.agg [(vI v641), (.sl fl643 (List.map eI v642)), (.sl fl645 (List.map ep24 v644)), (vI v646), (vI v647)])) :: (.v (.sl .nonfull (List.map ep24 ([(P24.con ((⟨v641, v642, v644, v646, v647⟩ : S24)))])))) :: (.v (.agg [(vI 5), (.sl .nil (List.map eI [])), (.sl .nonfull (List.map ep24 ([(P24.con ((⟨v641, v642, v644, v646, v647⟩ : S24)))]))), (vI 0), (vI (-1))])) :: (.ptr 0 0) :: (.ptr 0 0) :: (.ptr 0 0) :: (dP eI v639) :: (.ptr 0 0) :: (.ptr 0 0) :: (.ptr 0 1) :: (dI v640) :: (.vptr [(vI v676)]) :: (dI v676) :: (.ptr 0 0) :: (.ptr 0 0) :: (.ptr 0 1) :: (dI v640) :: (dI (w64 (v640 + 1))) :: (.ptr 0 0) :: (.ptr 0 1) :: (dI v676) :: (dB (v676 == 43)) :: (dB (v676 == 43)) :: q1 ((dB (v676 == 63)) :: (dB (v676 == 63)) :: d822 :: d823 :: d824 :: d825 :: d826 :: d827 :: d828 :: d829 :: d830 :: d831 :: d832 :: q1 (d833 :: d834 :: d835 :: q1 (d836 :: d837 :: d838 :: d839 :: d840 :: d841 :: d842 :: d843 :: d844 :: d845 :: d846 :: d847 :: d848 :: d849 :: d850 :: d851 :: d852 :: d853 :: q1 (d854 :: d855 :: d856 :: q1 (d857 :: d858 :: d859 :: d860 :: d861 :: d862 :: d863 :: q3 []))))))), [(b67_1 v864 v865), b67_0, (.cells [(dI v641), (.v (.sl fl643 (List.map eI v642))), (.v (.sl fl645 (List.map ep24 v644))), (dI v646), (dI v647)]), (b67_2 v641 v642 v644 v646 v647 v866 v867)]⟩ (by kernel_rfl) ?_
            exact J67j806 v807 v864 v865 v866 v867 _ _ _ _ _ _ _ _ _ _ _ _ _ _ _ _ _ _ _ _ _ _ _ _ _ _ _ _ _ _ _ _ _ _ _ _ _ _ _ _ _ _ _ _ _ _ _ _ _ _ _ _ _ _ _ _ _ _ _ h
          refine Wp.cnd h k67_1 4 (by kernel_rfl) (fun h => ?_) (fun h => ?_)
          · refine Wp.rg ?_
            refine Ops.sg 2 2 ?_
            refine Ops.dn ?_
            refine sqQ.n ⟨(.ptr 0 0) :: q3 ((.ptr 1 0) :: (dB false) :: (.ptr 2 0) :: (dB v673) :: (.ptr 3 0) :: (dI v676) :: q6 ((dB v673) :: (dB v673) :: d659 :: d660 :: d661 :: d662 :: d663 :: d664 :: d665 :: d666 :: d667 :: d668 :: d669 :: d670 :: d671 :: d672 :: (dB v674) :: (.v (.agg [(vI v641), (.sl fl643 (List.map eI v642)), (.sl fl645 (List.map ep24 v644)), (vI v646), (vI v647)])) :: (.v (.sl .nonfull (List.map ep24 ([(P24.con ((⟨v641, v642, v644, v646, v647⟩ : S24)))])))) :: (.v (.agg [(vI 5), (.sl .nil (List.map eI [])), (.sl .nonfull (List.map ep24 ([(P24.con ((⟨v641, v642, v644, v646, v647⟩ : S24)))]))), (vI 0), (vI (-1))])) :: (.ptr 0 0) :: (.ptr 0 0) :: (.ptr 0 0) :: (dP eI v639) :: (.ptr 0 0) :: (.ptr 0 0) :: (.ptr 0 1) :: (dI v640) :: (.vptr [(vI v676)]) :: (dI v676) :: (.ptr 0 0) :: (.ptr 0 0) :: (.ptr 0 1) :: (dI v640) :: (dI (w64 (v640 + 1))) :: (.ptr 0 0) :: (.ptr 0 1) :: (dI v676) :: (dB (v676 == 43)) :: (dB (v676 == 43)) :: q1 ((dB (v676 == 63)) :: (dB (v676 == 63)) :: (.ptr 3 4) :: q40 (q8 [])))), [(.cells [(dP eI v639), (dI (w64 (v640 + 1)))]), b67_0, (.cells [(dI v641), (.v (.sl fl643 (List.map eI v642))), (.v (.sl fl645 (List.map ep24 v644))), (dI v646), (dI v647)]), (.cells [(dI 5), (.v (.sl .nil (List.map eI []))), (.v (.sl .nonfull (List.map ep24 ([(P24.con ((⟨v641, v642, v644, v646, v647⟩ : S24)))])))), (dI 0), (dI 1)])]⟩ (by kernel_rfl) ?_
            exact J67j868 v673 v639 (w64 (v640 + 1)) 0 1 _ _ _ _ _ _ _ _ _ _ _ _ _ _ _ _ _ _ _ _ _ _ _ _ _ _ _ _ _ _ _ _ _ _ _ _ _ _ _ _ _ _ _ _ _ _ _ _ _ _ _ _ _ _ _ _ h
          · refine Wp.sq ?_
            refine Wp.rg ?_
            refine Ops.sg 2 2 ?_
            refine Ops.dn ?_
            refine seqQ.n ?_
            have J67j927 : ∀ (v869 : Bool) (v923 : (List Int)) (v924 : Int) (v925 : Int) (v926 : Int) (d870 : D) (d871 : D) (d872 : D) (d873 : D) (d874 : D) (d875 : D) (d876 : D) (d877 : D) (d878 : D) (d879 : D) (d880 : D) (d881 : D) (d882 : D) (d883 : D) (d884 : D) (d885 : D) (d886 : D) (d887 : D) (d888 : D) (d889 : D) (d890 : D) (d891 : D) (d892 : D) (d893 : D) (d894 : D) (d895 : D) (d896 : D) (d897 : D) (d898 : D) (d899 : D) (d900 : D) (d901 : D) (d902 : D) (d903 : D) (d904 : D) (d905 : D) (d906 : D) (d907 : D) (d908 : D) (d909 : D) (d910 : D) (d911 : D) (d912 : D) (d913 : D) (d914 : D) (d915 : D) (d916 : D) (d917 : D) (d918 : D) (d919 : D) (d920 : D) (d921 : D) (d922 : D), f67_j4 m K v641 v642 v644 v646 v647 v869 v923 v924 v925 v926 = some sx655 → (sqQ (X67 n) k67_1 4 (sqQ (X67 n) k67_1 4 (blkQ (X67 n) 2 k67_1 4 (seqQ (X67 n) p67_2 (blkQ (X67 n) 1 k67_0 3 (lpQ (X67 n) k67_0 3 p67_1 nx650 (blkQ (X67 n) 0 [4, 5, 6, 7] 3 (seqQ (X67 n) p67_0 (fnQP (X67 n).E.T (resOf Proofs.Tryd.prog 67) (.tuple [e24 o.1.1, eB o.1.2]) (c58 o.2)))))))))) .normal ⟨(.ptr 0 0) :: q3 ((.ptr 1 0) :: (dB false) :: (.ptr 2 0) :: (dB v869) :: (.ptr 3 0) :: (dI v676) :: q6 ((dB v673) :: (dB v673) :: d870 :: d871 :: d872 :: d873 :: d874 :: d875 :: d876 :: d877 :: d878 :: d879 :: d880 :: d881 :: d882 :: d883 :: (dB v674) :: (.v (.agg [(vI v641), (.sl fl643 (List.map eI v642)), (.sl fl645 (List.map ep24 v644)), (vI v646), (vI v647)])) :: (.v (.sl .nonfull (List.map ep24 ([(P24.con ((⟨v641, v642, v644, v646, v647⟩ : S24)))])))) :: (.v (.agg [(vI 5), (.sl .nil (List.map eI [])), (.sl .nonfull (List.map ep24 ([(P24.con ((⟨v641, v642, v644, v646, v647⟩ : S24)))]))), (vI 0), (vI (-1))])) :: (.ptr 0 0) :: (.ptr 0 0) :: (.ptr 0 0) :: (dP eI v639) :: (.ptr 0 0) :: (.ptr 0 0) :: (.ptr 0 1) :: (dI v640) :: (.vptr [(vI v676)]) :: (dI v676) :: (.ptr 0 0) :: (.ptr 0 0) :: (.ptr 0 1) :: (dI v640) :: (dI (w64 (v640 + 1))) :: (.ptr 0 0) :: (.ptr 0 1) :: (dI v676) :: (dB (v676 == 43)) :: (dB (v676 == 43)) :: q1 ((dB (v676 == 63)) :: (dB (v676 == 63)) :: q1 ((dB (v676 == 123)) :: (dB (v676 == 123)) :: d884 :: d885 :: d886 :: d887 :: d888 :: d889 :: d890 :: d891 :: q1 (d892 :: d893 :: d894 :: q1 (d895 :: d896 :: d897 :: d898 :: d899 :: d900 :: d901 :: d902 :: d903 :: d904 :: d905 :: d906 :: d907 :: d908 :: d909 :: d910 :: d911 :: d912 :: q1 (d913 :: d914 :: d915 :: q1 (d916 :: d917 :: d918 :: d919 :: d920 :: d921 :: d922 :: q3 [])))))))), [(b67_1 v923 v924), b67_0, (.cells [(dI v641), (.v (.sl fl643 (List.map eI v642))), (.v (.sl fl645 (List.map ep24 v644))), (dI v646), (dI v647)]), (b67_2 v641 v642 v644 v646 v647 v925 v926)]⟩ := by
              intro v869 v923 v924 v925 v926 d870 d871 d872 d873 d874 d875 d876 d877 d878 d879 d880 d881 d882 d883 d884 d885 d886 d887 d888 d889 d890 d891 d892 d893 d894 d895 d896 d897 d898 d899 d900 d901 d902 d903 d904 d905 d906 d907 d908 d909 d910 d911 d912 d913 d914 d915 d916 d917 d918 d919 d920 d921 d922 h
              unfold f67_j4 at h
              refine sqQ.n ⟨(.ptr 0 0) :: q3 ((.ptr 1 0) :: (dB false) :: (.ptr 2 0) :: (dB v869) :: (.ptr 3 0) :: (dI v676) :: q6 ((dB v673) :: (dB v673) :: d870 :: d871 :: d872 :: d873 :: d874 :: d875 :: d876 :: d877 :: d878 :: d879 :: d880 :: d881 :: d882 :: d883 :: (dB v674) :: (.v (.agg [(vI v641), (.sl fl643 (List.map eI v642)), (.sl fl645 (List.map ep24 v644)), (vI v646), (vI v647)])) :: (.v (.sl .nonfull (List.map ep24 ([(P24.con ((⟨v641, v642, v644, v646, v647⟩ : S24)))])))) :: (.v (.agg [(vI 5), (.sl .nil (List.map eI [])), (.sl .nonfull (List.map ep24 ([(P24.con ((⟨v641, v642, v644, v646, v647⟩ : S24)))]))), (vI 0), (vI (-1))])) :: (.ptr 0 0) :: (.ptr 0 0) :: (.ptr 0 0) :: (dP eI v639) :: (.ptr 0 0) :: (.ptr 0 0) :: (.ptr 0 1) :: (dI v640) :: (.vptr [(vI v676)]) :: (dI v676) :: (.ptr 0 0) :: (.ptr 0 0) :: (.ptr 0 1) :: (dI v640) :: (dI (w64 (v640 + 1))) :: (.ptr 0 0) :: (.ptr 0 1) :: (dI v676) :: (dB (v676 == 43)) :: (dB (v676 == 43)) :: q1 ((dB (v676 == 63)) :: (dB (v676 == 63)) :: q1 ((dB (v676 == 123)) :: (dB (v676 == 123)) :: d884 :: d885 :: d886 :: d887 :: d888 :: d889 :: d890 :: d891 :: q1 (d892 :: d893 :: d894 :: q1 (d895 :: d896 :: d897 :: d898 :: d899 :: d900 :: d901 :: d902 :: d903 :: d904 :: d905 :: d906 :: d907 :: d908 :: d909 :: d910 :: d911 :: d912 :: q1 (d913 :: d914 :: d915 :: q1 (d916 :: d917 :: d918 :: d919 :: d920 :: d921 :: d922 :: q3 [])))))))), [(b67_1 v923 v924), b67_0, (.cells [(dI v641), (.v (.sl fl643 (List.map eI v642))), (.v (.sl fl645 (List.map ep24 v644))), (dI v646), (dI v647)]), (b67_2 v641 v642 v644 v646 v647 v925 v926)]⟩ (by kernel_rfl) ?_
              exact J67j868 v869 v923 v924 v925 v926 _ _ _ _ _ _ _ _ _ _ _ _ _ _ _ _ _ _ _ _ _ _ _ _ _ _ _ _ _ _ _ _ _ _ _ _ _ _ _ _ _ _ _ _ _ _ _ _ _ _ _ _ _ _ _ _ h
            refine Wp.cnd h k67_1 4 (by kernel_rfl) (fun h => ?_) (fun h => ?_)
            · refine Wp.sq ?_
              refine Wp.sq ?_
              refine Wp.rg ?_
              refine Ops.sg 1 1 ?_
              obtain ⟨v928, ev928, h⟩ := bnd_some h
              refine Ops.on 2 (fun h0 e0 => (call_ptr (E' := E) (h := h0) (q := 0) (cs := c58 ((⟨v639, w64 (v640 + 1)⟩ : S58))) (by kernel_rfl) (by kernel_rfl) (by kernel_rfl) (hq_of e0 (by kernel_rfl)) (by kernel_rfl) Args.nil (ok75 m ((⟨v639, w64 (v640 + 1)⟩ : S58)) v928 ev928 n (by omega)))) ?_
              refine Ops.seg 6 8 (by kernel_rfl) ⟨(.ptr 0 0) :: q3 ((.ptr 1 0) :: (dB false) :: (.ptr 2 0) :: (dB v928.1.2) :: (.ptr 3 0) :: (dI v676) :: q6 ((dB v673) :: (dB v673) :: d659 :: d660 :: d661 :: d662 :: d663 :: d664 :: d665 :: d666 :: d667 :: d668 :: d669 :: d670 :: d671 :: d672 :: (dB v674) :: (.v (.agg [(vI v641), (.sl fl643 (List.map eI v642)), (.sl fl645 (List.map ep24 v644)), (vI v646), (vI v647)])) :: (.v (.sl .nonfull (List.map ep24 ([(P24.con ((⟨v641, v642, v644, v646, v647⟩ : S24)))])))) :: (.v (.agg [(vI 5), (.sl .nil (List.map eI [])), (.sl .nonfull (List.map ep24 ([(P24.con ((⟨v641, v642, v644, v646, v647⟩ : S24)))]))), (vI 0), (vI (-1))])) :: (.ptr 0 0) :: (.ptr 0 0) :: (.ptr 0 0) :: (dP eI v639) :: (.ptr 0 0) :: (.ptr 0 0) :: (.ptr 0 1) :: (dI v640) :: (.vptr [(vI v676)]) :: (dI v676) :: (.ptr 0 0) :: (.ptr 0 0) :: (.ptr 0 1) :: (dI v640) :: (dI (w64 (v640 + 1))) :: (.ptr 0 0) :: (.ptr 0 1) :: (dI v676) :: (dB (v676 == 43)) :: (dB (v676 == 43)) :: q1 ((dB (v676 == 63)) :: (dB (v676 == 63)) :: q1 ((dB (v676 == 123)) :: (dB (v676 == 123)) :: (.v (.tuple [(vI v928.1.1), (vB v928.1.2)])) :: (.ptr 0 0) :: (.v (.tuple [(vI v928.1.1), (vB v928.1.2)])) :: (dI v928.1.1) :: (dB v928.1.2) :: (.ptr 3 3) :: q40 [])))), [(.cells [(dP eI v928.2.fL), (dI v928.2.fAt)]), b67_0, (.cells [(dI v641), (.v (.sl fl643 (List.map eI v642))), (.v (.sl fl645 (List.map ep24 v644))), (dI v646), (dI v647)]), (.cells [(dI 5), (.v (.sl .nil (List.map eI []))), (.v (.sl .nonfull (List.map ep24 ([(P24.con ((⟨v641, v642, v644, v646, v647⟩ : S24)))])))), (dI v928.1.1), (dI (-1))])]⟩ (by kernel_rfl) ?_
              refine Ops.dn ?_
              refine seqQ.n ?_
              refine Wp.sq ?_
              refine Wp.rg ?_
              refine Ops.sg 2 2 ?_
              refine Ops.dn ?_
              refine seqQ.n ?_
              refine Wp.cnd h k67_1 4 (by kernel_rfl) (fun h => ?_) (fun h => ?_)
              · refine Wp.sq ?_
                refine Wp.rg ?_
                refine Ops.sg 3 3 ?_
                refine Ops.dn ?_
                refine seqQ.n ?_
                refine Wp.ret (by kernel_rfl) ?_
                refine sqQ.r ?_
                refine seqQ.r ?_
                refine sqQ.r ?_
                refine sqQ.r ?_
                refine sqQ.r ?_
                refine blkQ.r ?_
                refine seqQ.r ?_
                refine blkQ.r ?_
                cases h
                refine lpQ.r ?_
                refine blkQ.r ?_
                exact hrx652 _ hsx656 _ (RetOkP.forget k67_0 (by kernel_rfl) (RetOkP.mk' (.v (.tuple [(.agg [(vI v641), (.sl fl643 (List.map eI v642)), (.sl fl645 (List.map ep24 v644)), (vI v646), (vI v647)]), (vB false)])) (by kernel_rfl) (by kernel_rfl) (by kernel_rfl) (by kernel_rfl)))
              · refine Wp.sk ?_
                refine sqQ.n' ?_
                refine seqQ.n ?_
                refine Wp.sq ?_
                refine Wp.sq ?_
                refine Wp.rg ?_
                refine Ops.sg 1 1 ?_
                obtain ⟨v929, ev929, h⟩ := bnd_some h
                refine Ops.on 2 (fun h0 e0 => (call_ptr (E' := E) (h := h0) (q := 0) (cs := c58 v928.2) (by kernel_rfl) (by kernel_rfl) (by kernel_rfl) (hq_of e0 (by kernel_rfl)) (by kernel_rfl) (Args.v (vI 44) (eI 44) (by kernel_rfl) Args.nil) (ok46 m v928.2 44 v929 ev929 n (by omega)))) ?_
                refine Ops.sg 1 3 ?_
                refine Ops.dn ?_
                refine seqQ.n ?_
                refine Wp.cnd h k67_1 4 (by kernel_rfl) (fun h => ?_) (fun h => ?_)
                · refine Wp.sq ?_
                  refine Wp.rg ?_
                  refine Ops.sg 3 3 ?_
                  refine Ops.dn ?_
                  refine seqQ.n ?_
                  refine Wp.ret (by kernel_rfl) ?_
                  refine sqQ.r ?_
                  refine seqQ.r ?_
                  refine sqQ.r ?_
                  refine sqQ.r ?_
                  refine sqQ.r ?_
                  refine blkQ.r ?_
                  refine seqQ.r ?_
                  refine blkQ.r ?_
                  cases h
                  refine lpQ.r ?_
                  refine blkQ.r ?_
                  exact hrx652 _ hsx656 _ (RetOkP.forget k67_0 (by kernel_rfl) (RetOkP.mk' (.v (.tuple [(.agg [(vI v641), (.sl fl643 (List.map eI v642)), (.sl fl645 (List.map ep24 v644)), (vI v646), (vI v647)]), (vB false)])) (by kernel_rfl) (by kernel_rfl) (by kernel_rfl) (by kernel_rfl)))
                · refine Wp.sk ?_
                  refine sqQ.n' ?_
                  refine seqQ.n ?_
                  refine Wp.sq ?_
                  refine Wp.rg ?_
                  refine Ops.sg 8 8 ?_
                  refine Ops.dn ?_
                  refine seqQ.n ?_
                  refine Wp.sq ?_
                  refine Wp.sq ?_
                  refine Wp.rg ?_
                  refine Ops.sg 1 1 ?_
                  obtain ⟨v930, ev930, h⟩ := bnd_some h
                  refine Ops.on 2 (fun h0 e0 => (call_ptr (E' := E) (h := h0) (q := 0) (cs := c58 ((⟨v928.2.fL, w64 (v928.2.fAt + 1)⟩ : S58))) (by kernel_rfl) (by kernel_rfl) (by kernel_rfl) (hq_of e0 (by kernel_rfl)) (by kernel_rfl) (Args.v (vI 125) (eI 125) (by kernel_rfl) Args.nil) (ok46 m ((⟨v928.2.fL, w64 (v928.2.fAt + 1)⟩ : S58)) 125 v930 ev930 n (by omega)))) ?_
                  refine Ops.sg 1 3 ?_
                  refine Ops.dn ?_
                  refine seqQ.n ?_
                  have J67j957 : ∀ (v931 : Bool) (v954 : (List Int)) (v955 : Int) (v956 : Int) (d932 : D) (d933 : D) (d934 : D) (d935 : D) (d936 : D) (d937 : D) (d938 : D) (d939 : D) (d940 : D) (d941 : D) (d942 : D) (d943 : D) (d944 : D) (d945 : D) (d946 : D) (d947 : D) (d948 : D) (d949 : D) (d950 : D) (d951 : D) (d952 : D) (d953 : D), f67_j5 m K v641 v642 v644 v646 v647 v928 v931 v954 v955 v956 = some sx655 → (seqQ (X67 n) p67_3 (sqQ (X67 n) k67_1 4 (sqQ (X67 n) k67_1 4 (sqQ (X67 n) k67_1 4 (blkQ (X67 n) 2 k67_1 4 (seqQ (X67 n) p67_2 (blkQ (X67 n) 1 k67_0 3 (lpQ (X67 n) k67_0 3 p67_1 nx650 (blkQ (X67 n) 0 [4, 5, 6, 7] 3 (seqQ (X67 n) p67_0 (fnQP (X67 n).E.T (resOf Proofs.Tryd.prog 67) (.tuple [e24 o.1.1, eB o.1.2]) (c58 o.2)))))))))))) .normal ⟨(.ptr 0 0) :: q3 ((.ptr 1 0) :: (dB false) :: (.ptr 2 0) :: (dB v931) :: (.ptr 3 0) :: (dI v676) :: q6 ((dB v673) :: (dB v673) :: d932 :: d933 :: d934 :: d935 :: d936 :: d937 :: d938 :: d939 :: d940 :: d941 :: d942 :: d943 :: d944 :: d945 :: (dB v674) :: (.v (.agg [(vI v641), (.sl fl643 (List.map eI v642)), (.sl fl645 (List.map ep24 v644)), (vI v646), (vI v647)])) :: (.v (.sl .nonfull (List.map ep24 ([(P24.con ((⟨v641, v642, v644, v646, v647⟩ : S24)))])))) :: (.v (.agg [(vI 5), (.sl .nil (List.map eI [])), (.sl .nonfull (List.map ep24 ([(P24.con ((⟨v641, v642, v644, v646, v647⟩ : S24)))]))), (vI 0), (vI (-1))])) :: (.ptr 0 0) :: (.ptr 0 0) :: (.ptr 0 0) :: (dP eI v639) :: (.ptr 0 0) :: (.ptr 0 0) :: (.ptr 0 1) :: (dI v640) :: (.vptr [(vI v676)]) :: (dI v676) :: (.ptr 0 0) :: (.ptr 0 0) :: (.ptr 0 1) :: (dI v640) :: (dI (w64 (v640 + 1))) :: (.ptr 0 0) :: (.ptr 0 1) :: (dI v676) :: (dB (v676 == 43)) :: (dB (v676 == 43)) :: q1 ((dB (v676 == 63)) :: (dB (v676 == 63)) :: q1 ((dB (v676 == 123)) :: (dB (v676 == 123)) :: (.v (.tuple [(vI v928.1.1), (vB v928.1.2)])) :: (.ptr 0 0) :: (.v (.tuple [(vI v928.1.1), (vB v928.1.2)])) :: (dI v928.1.1) :: (dB v928.1.2) :: (.ptr 3 3) :: (dB v928.1.2) :: (dB (!v928.1.2)) :: q1 ((.ptr 0 0) :: (dB v929) :: (dB (!v929)) :: q1 ((.ptr 0 0) :: (.ptr 0 0) :: (.ptr 0 1) :: (dI v928.2.fAt) :: (dI (w64 (v928.2.fAt + 1))) :: (.ptr 0 0) :: (.ptr 0 1) :: (.ptr 0 0) :: (dB v930) :: (dB (!v930)) :: d946 :: d947 :: d948 :: d949 :: d950 :: d951 :: d952 :: d953 :: q15 [])))))), [(b67_1 v954 v955), b67_0, (.cells [(dI v641), (.v (.sl fl643 (List.map eI v642))), (.v (.sl fl645 (List.map ep24 v644))), (dI v646), (dI v647)]), (.cells [(dI 5), (.v (.sl .nil (List.map eI []))), (.v (.sl .nonfull (List.map ep24 ([(P24.con ((⟨v641, v642, v644, v646, v647⟩ : S24)))])))), (dI v928.1.1), (dI v956)])]⟩ := by
                    intro v931 v954 v955 v956 d932 d933 d934 d935 d936 d937 d938 d939 d940 d941 d942 d943 d944 d945 d946 d947 d948 d949 d950 d951 d952 d953 h
                    unfold f67_j5 at h
                    refine seqQ.n ?_
                    refine Wp.sq ?_
                    refine Wp.sq ?_
                    refine Wp.rg ?_
                    refine Ops.sg 1 1 ?_
                    obtain ⟨v958, ev958, h⟩ := bnd_some h
                    refine Ops.on 2 (fun h0 e0 => (call_ptr (E' := E) (h := h0) (q := 0) (cs := c58 ((⟨v954, v955⟩ : S58))) (by kernel_rfl) (by kernel_rfl) (by kernel_rfl) (hq_of e0 (by kernel_rfl)) (by kernel_rfl) (Args.v (vI 125) (eI 125) (by kernel_rfl) Args.nil) (ok46 m ((⟨v954, v955⟩ : S58)) 125 v958 ev958 n (by omega)))) ?_
                    refine Ops.sg 1 3 ?_
                    refine Ops.dn ?_
                    refine seqQ.n ?_
                    refine Wp.cnd h k67_1 4 (by kernel_rfl) (fun h => ?_) (fun h => ?_)
                    · refine Wp.sq ?_
                      refine Wp.rg ?_
                      refine Ops.sg 3 3 ?_
                      refine Ops.dn ?_
                      refine seqQ.n ?_
                      refine Wp.ret (by kernel_rfl) ?_
                      refine sqQ.r ?_
                      refine seqQ.r ?_
                      refine sqQ.r ?_
                      refine sqQ.r ?_
                      refine sqQ.r ?_
                      refine blkQ.r ?_
                      refine seqQ.r ?_
                      refine blkQ.r ?_
                      cases h
                      refine lpQ.r ?_
                      refine blkQ.r ?_
                      exact hrx652 _ hsx656 _ (RetOkP.forget k67_0 (by kernel_rfl) (RetOkP.mk' (.v (.tuple [(.agg [(vI v641), (.sl fl643 (List.map eI v642)), (.sl fl645 (List.map ep24 v644)), (vI v646), (vI v647)]), (vB false)])) (by kernel_rfl) (by kernel_rfl) (by kernel_rfl) (by kernel_rfl)))
                    · refine Wp.sk ?_
                      refine sqQ.n' ?_
                      refine seqQ.n ?_
                      refine Wp.rg ?_
                      refine Ops.sg 8 8 ?_
                      refine Ops.dn ?_
                      refine sqQ.n ⟨(.ptr 0 0) :: q3 ((.ptr 1 0) :: (dB false) :: (.ptr 2 0) :: (dB v931) :: (.ptr 3 0) :: (dI v676) :: q6 ((dB v673) :: (dB v673) :: d932 :: d933 :: d934 :: d935 :: d936 :: d937 :: d938 :: d939 :: d940 :: d941 :: d942 :: d943 :: d944 :: d945 :: (dB v674) :: (.v (.agg [(vI v641), (.sl fl643 (List.map eI v642)), (.sl fl645 (List.map ep24 v644)), (vI v646), (vI v647)])) :: (.v (.sl .nonfull (List.map ep24 ([(P24.con ((⟨v641, v642, v644, v646, v647⟩ : S24)))])))) :: (.v (.agg [(vI 5), (.sl .nil (List.map eI [])), (.sl .nonfull (List.map ep24 ([(P24.con ((⟨v641, v642, v644, v646, v647⟩ : S24)))]))), (vI 0), (vI (-1))])) :: (.ptr 0 0) :: (.ptr 0 0) :: (.ptr 0 0) :: (dP eI v639) :: (.ptr 0 0) :: (.ptr 0 0) :: (.ptr 0 1) :: (dI v640) :: (.vptr [(vI v676)]) :: (dI v676) :: (.ptr 0 0) :: (.ptr 0 0) :: (.ptr 0 1) :: (dI v640) :: (dI (w64 (v640 + 1))) :: (.ptr 0 0) :: (.ptr 0 1) :: (dI v676) :: (dB (v676 == 43)) :: (dB (v676 == 43)) :: q1 ((dB (v676 == 63)) :: (dB (v676 == 63)) :: q1 ((dB (v676 == 123)) :: (dB (v676 == 123)) :: (.v (.tuple [(vI v928.1.1), (vB v928.1.2)])) :: (.ptr 0 0) :: (.v (.tuple [(vI v928.1.1), (vB v928.1.2)])) :: (dI v928.1.1) :: (dB v928.1.2) :: (.ptr 3 3) :: (dB v928.1.2) :: (dB (!v928.1.2)) :: q1 ((.ptr 0 0) :: (dB v929) :: (dB (!v929)) :: q1 ((.ptr 0 0) :: (.ptr 0 0) :: (.ptr 0 1) :: (dI v928.2.fAt) :: (dI (w64 (v928.2.fAt + 1))) :: (.ptr 0 0) :: (.ptr 0 1) :: (.ptr 0 0) :: (dB v930) :: (dB (!v930)) :: d946 :: d947 :: d948 :: d949 :: d950 :: d951 :: d952 :: d953 :: q1 ((.ptr 0 0) :: (dB v958) :: (dB (!v958)) :: q1 ((.ptr 0 0) :: (.ptr 0 0) :: (.ptr 0 1) :: (dI v955) :: (dI (w64 (v955 + 1))) :: (.ptr 0 0) :: (.ptr 0 1) :: q3 [])))))))), [(.cells [(dP eI v954), (dI (w64 (v955 + 1)))]), b67_0, (.cells [(dI v641), (.v (.sl fl643 (List.map eI v642))), (.v (.sl fl645 (List.map ep24 v644))), (dI v646), (dI v647)]), (.cells [(dI 5), (.v (.sl .nil (List.map eI []))), (.v (.sl .nonfull (List.map ep24 ([(P24.con ((⟨v641, v642, v644, v646, v647⟩ : S24)))])))), (dI v928.1.1), (dI v956)])]⟩ (by kernel_rfl) ?_
                      exact J67j927 v931 v954 (w64 (v955 + 1)) v928.1.1 v956 _ _ _ _ _ _ _ _ _ _ _ _ _ _ _ _ _ _ _ _ _ _ _ _ _ _ _ _ _ _ _ _ _ _ _ _ _ _ _ _ _ _ _ _ _ _ _ _ _ _ _ _ _ h
                  refine Wp.cnd h k67_1 4 (by kernel_rfl) (fun h => ?_) (fun h => ?_)
                  · refine Wp.sq ?_
                    refine Wp.rg ?_
                    refine Ops.sg 1 1 ?_
                    obtain ⟨v959, ev959, h⟩ := bnd_some h
                    refine Ops.on 2 (fun h0 e0 => (call_ptr (E' := E) (h := h0) (q := 0) (cs := c58 ((⟨v928.2.fL, w64 (v928.2.fAt + 1)⟩ : S58))) (by kernel_rfl) (by kernel_rfl) (by kernel_rfl) (hq_of e0 (by kernel_rfl)) (by kernel_rfl) Args.nil (ok75 m ((⟨v928.2.fL, w64 (v928.2.fAt + 1)⟩ : S58)) v959 ev959 n (by omega)))) ?_
                    refine Ops.sg 6 8 ?_
                    refine Ops.dn ?_
                    refine seqQ.n ?_
                    refine Wp.sq ?_
                    refine Wp.rg ?_
                    refine Ops.sg 2 2 ?_
                    refine Ops.dn ?_
                    refine seqQ.n ?_
                    refine Wp.cnd h k67_1 4 (by kernel_rfl) (fun h => ?_) (fun h => ?_)
                    · refine Wp.sq ?_
                      refine Wp.rg ?_
                      refine Ops.sg 3 3 ?_
                      refine Ops.dn ?_
                      refine seqQ.n ?_
                      refine Wp.ret (by kernel_rfl) ?_
                      refine sqQ.r ?_
                      refine sqQ.r ?_
                      refine seqQ.r ?_
                      refine sqQ.r ?_
                      refine sqQ.r ?_
                      refine sqQ.r ?_
                      refine blkQ.r ?_
                      refine seqQ.r ?_
                      refine blkQ.r ?_
                      cases h
                      refine lpQ.r ?_
                      refine blkQ.r ?_
                      exact hrx652 _ hsx656 _ (RetOkP.forget k67_0 (by kernel_rfl) (RetOkP.mk' (.v (.tuple [(.agg [(vI v641), (.sl fl643 (List.map eI v642)), (.sl fl645 (List.map ep24 v644)), (vI v646), (vI v647)]), (vB false)])) (by kernel_rfl) (by kernel_rfl) (by kernel_rfl) (by kernel_rfl)))
                    · refine Wp.sk ?_
                      refine sqQ.n' ?_
                      refine sqQ.n ⟨(.ptr 0 0) :: q3 ((.ptr 1 0) :: (dB false) :: (.ptr 2 0) :: (dB v959.1.2) :: (.ptr 3 0) :: (dI v676) :: q6 ((dB v673) :: (dB v673) :: d659 :: d660 :: d661 :: d662 :: d663 :: d664 :: d665 :: d666 :: d667 :: d668 :: d669 :: d670 :: d671 :: d672 :: (dB v674) :: (.v (.agg [(vI v641), (.sl fl643 (List.map eI v642)), (.sl fl645 (List.map ep24 v644)), (vI v646), (vI v647)])) :: (.v (.sl .nonfull (List.map ep24 ([(P24.con ((⟨v641, v642, v644, v646, v647⟩ : S24)))])))) :: (.v (.agg [(vI 5), (.sl .nil (List.map eI [])), (.sl .nonfull (List.map ep24 ([(P24.con ((⟨v641, v642, v644, v646, v647⟩ : S24)))]))), (vI 0), (vI (-1))])) :: (.ptr 0 0) :: (.ptr 0 0) :: (.ptr 0 0) :: (dP eI v639) :: (.ptr 0 0) :: (.ptr 0 0) :: (.ptr 0 1) :: (dI v640) :: (.vptr [(vI v676)]) :: (dI v676) :: (.ptr 0 0) :: (.ptr 0 0) :: (.ptr 0 1) :: (dI v640) :: (dI (w64 (v640 + 1))) :: (.ptr 0 0) :: (.ptr 0 1) :: (dI v676) :: (dB (v676 == 43)) :: (dB (v676 == 43)) :: q1 ((dB (v676 == 63)) :: (dB (v676 == 63)) :: q1 ((dB (v676 == 123)) :: (dB (v676 == 123)) :: (.v (.tuple [(vI v928.1.1), (vB v928.1.2)])) :: (.ptr 0 0) :: (.v (.tuple [(vI v928.1.1), (vB v928.1.2)])) :: (dI v928.1.1) :: (dB v928.1.2) :: (.ptr 3 3) :: (dB v928.1.2) :: (dB (!v928.1.2)) :: q1 ((.ptr 0 0) :: (dB v929) :: (dB (!v929)) :: q1 ((.ptr 0 0) :: (.ptr 0 0) :: (.ptr 0 1) :: (dI v928.2.fAt) :: (dI (w64 (v928.2.fAt + 1))) :: (.ptr 0 0) :: (.ptr 0 1) :: (.ptr 0 0) :: (dB v930) :: (dB (!v930)) :: (.v (.tuple [(vI v959.1.1), (vB v959.1.2)])) :: (.ptr 0 0) :: (.v (.tuple [(vI v959.1.1), (vB v959.1.2)])) :: (dI v959.1.1) :: (dB v959.1.2) :: (.ptr 3 4) :: (dB v959.1.2) :: (dB (!v959.1.2)) :: q15 [])))))), [(.cells [(dP eI v959.2.fL), (dI v959.2.fAt)]), b67_0, (.cells [(dI v641), (.v (.sl fl643 (List.map eI v642))), (.v (.sl fl645 (List.map ep24 v644))), (dI v646), (dI v647)]), (.cells [(dI 5), (.v (.sl .nil (List.map eI []))), (.v (.sl .nonfull (List.map ep24 ([(P24.con ((⟨v641, v642, v644, v646, v647⟩ : S24)))])))), (dI v928.1.1), (dI v959.1.1)])]⟩ (by kernel_rfl) ?_
                      exact J67j957 v959.1.2 v959.2.fL v959.2.fAt v959.1.1 _ _ _ _ _ _ _ _ _ _ _ _ _ _ _ _ _ _ _ _ _ _ h
                  · refine Wp.sk ?_
                    refine sqQ.n ⟨(.ptr 0 0) :: q3 ((.ptr 1 0) :: (dB false) :: (.ptr 2 0) :: (dB v928.1.2) :: (.ptr 3 0) :: (dI v676) :: q6 ((dB v673) :: (dB v673) :: d659 :: d660 :: d661 :: d662 :: d663 :: d664 :: d665 :: d666 :: d667 :: d668 :: d669 :: d670 :: d671 :: d672 :: (dB v674) :: (.v (.agg [(vI v641), (.sl fl643 (List.map eI v642)), (.sl fl645 (List.map ep24 v644)), (vI v646), (vI v647)])) :: (.v (.sl .nonfull (List.map ep24 ([(P24.con ((⟨v641, v642, v644, v646, v647⟩ : S24)))])))) :: (.v (.agg [(vI 5), (.sl .nil (List.map eI [])), (.sl .nonfull (List.map ep24 ([(P24.con ((⟨v641, v642, v644, v646, v647⟩ : S24)))]))), (vI 0), (vI (-1))])) :: (.ptr 0 0) :: (.ptr 0 0) :: (.ptr 0 0) :: (dP eI v639) :: (.ptr 0 0) :: (.ptr 0 0) :: (.ptr 0 1) :: (dI v640) :: (.vptr [(vI v676)]) :: (dI v676) :: (.ptr 0 0) :: (.ptr 0 0) :: (.ptr 0 1) :: (dI v640) :: (dI (w64 (v640 + 1))) :: (.ptr 0 0) :: (.ptr 0 1) :: (dI v676) :: (dB (v676 == 43)) :: (dB (v676 == 43)) :: q1 ((dB (v676 == 63)) :: (dB (v676 == 63)) :: q1 ((dB (v676 == 123)) :: (dB (v676 == 123)) :: (.v (.tuple [(vI v928.1.1), (vB v928.1.2)])) :: (.ptr 0 0) :: (.v (.tuple [(vI v928.1.1), (vB v928.1.2)])) :: (dI v928.1.1) :: (dB v928.1.2) :: (.ptr 3 3) :: (dB v928.1.2) :: (dB (!v928.1.2)) :: q1 ((.ptr 0 0) :: (dB v929) :: (dB (!v929)) :: q1 ((.ptr 0 0) :: (.ptr 0 0) :: (.ptr 0 1) :: (dI v928.2.fAt) :: (dI (w64 (v928.2.fAt + 1))) :: (.ptr 0 0) :: (.ptr 0 1) :: (.ptr 0 0) :: (dB v930) :: (dB (!v930)) :: q23 [])))))), [(.cells [(dP eI v928.2.fL), (dI (w64 (v928.2.fAt + 1)))]), b67_0, (.cells [(dI v641), (.v (.sl fl643 (List.map eI v642))), (.v (.sl fl645 (List.map ep24 v644))), (dI v646), (dI v647)]), (.cells [(dI 5), (.v (.sl .nil (List.map eI []))), (.v (.sl .nonfull (List.map ep24 ([(P24.con ((⟨v641, v642, v644, v646, v647⟩ : S24)))])))), (dI v928.1.1), (dI (-1))])]⟩ (by kernel_rfl) ?_
                    exact J67j957 v928.1.2 v928.2.fL (w64 (v928.2.fAt + 1)) (-1) _ _ _ _ _ _ _ _ _ _ _ _ _ _ _ _ _ _ _ _ _ _ h
            · refine Wp.sk ?_
              refine sqQ.n ⟨(.ptr 0 0) :: q3 ((.ptr 1 0) :: (dB false) :: (.ptr 2 0) :: (dB v673) :: (.ptr 3 0) :: (dI v676) :: q6 ((dB v673) :: (dB v673) :: d659 :: d660 :: d661 :: d662 :: d663 :: d664 :: d665 :: d666 :: d667 :: d668 :: d669 :: d670 :: d671 :: d672 :: (dB v674) :: (.v (.agg [(vI v641), (.sl fl643 (List.map eI v642)), (.sl fl645 (List.map ep24 v644)), (vI v646), (vI v647)])) :: (.v (.sl .nonfull (List.map ep24 ([(P24.con ((⟨v641, v642, v644, v646, v647⟩ : S24)))])))) :: (.v (.agg [(vI 5), (.sl .nil (List.map eI [])), (.sl .nonfull (List.map ep24 ([(P24.con ((⟨v641, v642, v644, v646, v647⟩ : S24)))]))), (vI 0), (vI (-1))])) :: (.ptr 0 0) :: (.ptr 0 0) :: (.ptr 0 0) :: (dP eI v639) :: (.ptr 0 0) :: (.ptr 0 0) :: (.ptr 0 1) :: (dI v640) :: (.vptr [(vI v676)]) :: (dI v676) :: (.ptr 0 0) :: (.ptr 0 0) :: (.ptr 0 1) :: (dI v640) :: (dI (w64 (v640 + 1))) :: (.ptr 0 0) :: (.ptr 0 1) :: (dI v676) :: (dB (v676 == 43)) :: (dB (v676 == 43)) :: q1 ((dB (v676 == 63)) :: (dB (v676 == 63)) :: q1 ((dB (v676 == 123)) :: (dB (v676 == 123)) :: q40 (q6 []))))), [(.cells [(dP eI v639), (dI (w64 (v640 + 1)))]), b67_0, (.cells [(dI v641), (.v (.sl fl643 (List.map eI v642))), (.v (.sl fl645 (List.map ep24 v644))), (dI v646), (dI v647)]), (.cells [(dI 5), (.v (.sl .nil (List.map eI []))), (.v (.sl .nonfull (List.map ep24 ([(P24.con ((⟨v641, v642, v644, v646, v647⟩ : S24)))])))), (dI 0), (dI (-1))])]⟩ (by kernel_rfl) ?_
              exact J67j927 v673 v639 (w64 (v640 + 1)) 0 (-1) _ _ _ _ _ _ _ _ _ _ _ _ _ _ _ _ _ _ _ _ _ _ _ _ _ _ _ _ _ _ _ _ _ _ _ _ _ _ _ _ _ _ _ _ _ _ _ _ _ _ _ _ _ h
      · refine Wp.exit (id := 0) (by kernel_rfl) ?_
        refine sqQ.x ?_
        refine seqQ.x ?_
        cases h
        refine lpQ.x ?_
        refine blkQ.x ⟨(.ptr 0 0) :: q3 ((.ptr 1 0) :: (dB false) :: (.ptr 2 0) :: (dB v673) :: q40 (q40 (q20 []))), [(b67_1 v639 v640), b67_0, (.cells [(dI v641), (.v (.sl fl643 (List.map eI v642))), (.v (.sl fl645 (List.map ep24 v644))), (dI v646), (dI v647)])]⟩ (by kernel_rfl) ?_
        exact hxx653 (v673, v639, v640, v641, v642, v644, v646, v647) _ _ hsx656
    obtain ⟨v674, ev674, h⟩ := bnd_some h
    refine Ops.hv (fun KQ => ∀ v657 : Bool, (cnd v657 (bnd (f46 m ((⟨v639, v640⟩ : S58)) 42) fun v960 => cnd v960 (some true) (bnd (f46 m ((⟨v639, v640⟩ : S58)) 43) fun v963 => cnd v963 (some true) (bnd (f46 m ((⟨v639, v640⟩ : S58)) 63) fun v966 => cnd v966 (some true) (bnd (f46 m ((⟨v639, v640⟩ : S58)) 123) fun v969 => some v969)))) (some false)) = some v674 → f67_r6 m K v639 v640 v641 v642 v644 v646 v647 v657 v674 = some sx655 → KQ 2 ⟨(.ptr 0 0) :: q3 ((.ptr 1 0) :: (dB false) :: (.ptr 2 0) :: (dB v657) :: q8 ((dB v657) :: (dB v657) :: q40 (q40 (q10 [])))), [(b67_1 v639 v640), b67_0, (.cells [(dI v641), (.v (.sl fl643 (List.map eI v642))), (.v (.sl fl645 (List.map ep24 v644))), (dI v646), (dI v647)])]⟩) ?_ fun G67g658 => Ops.st _ (by kernel_rfl) (G67g658 v638 ev674 h)
    intro v657 ev674 h
    cases v657
    · have ev674 := cnd_f ev674
      refine Ops.sg 15 17 ?_
      exact Ops.st _ (by kernel_rfl) (J67j675 U U U U U U U U U U U U U U false false (some_sub (fun v674 => f67_r6 m K v639 v640 v641 v642 v644 v646 v647 false v674 = some sx655) ev674 h))
    · have ev674 := cnd_t ev674
      refine Ops.sg 1 3 ?_
      obtain ⟨v960, ev960, ev674⟩ := bnd_some ev674
      refine Ops.on 4 (fun h0 e0 => (call_ptr (E' := E) (h := h0) (q := 0) (cs := c58 ((⟨v639, v640⟩ : S58))) (by kernel_rfl) (by kernel_rfl) (by kernel_rfl) (hq_of e0 (by kernel_rfl)) (by kernel_rfl) (Args.v (vI 42) (eI 42) (by kernel_rfl) Args.nil) (ok46 m ((⟨v639, v640⟩ : S58)) 42 v960 ev960 n (by omega)))) ?_
      refine Ops.sg 1 5 ?_
      refine Ops.hv (fun KQ => ∀ v961 : Bool, (cnd v961 (some true) (bnd (f46 m ((⟨v639, v640⟩ : S58)) 43) fun v963 => cnd v963 (some true) (bnd (f46 m ((⟨v639, v640⟩ : S58)) 63) fun v966 => cnd v966 (some true) (bnd (f46 m ((⟨v639, v640⟩ : S58)) 123) fun v969 => some v969)))) = some v674 → KQ 5 ⟨(.ptr 0 0) :: q3 ((.ptr 1 0) :: (dB false) :: (.ptr 2 0) :: (dB true) :: q8 ((dB true) :: (dB true) :: (.ptr 0 0) :: (dB v961) :: (dB v961) :: q40 (q40 (q7 [])))), [(b67_1 v639 v640), b67_0, (.cells [(dI v641), (.v (.sl fl643 (List.map eI v642))), (.v (.sl fl645 (List.map ep24 v644))), (dI v646), (dI v647)])]⟩) ?_ fun G67g962 => Ops.st _ (by kernel_rfl) (G67g962 v960 ev674)
      intro v961 ev674
      cases v961
      · have ev674 := cnd_f ev674
        refine Ops.sg 1 6 ?_
        obtain ⟨v963, ev963, ev674⟩ := bnd_some ev674
        refine Ops.on 7 (fun h0 e0 => (call_ptr (E' := E) (h := h0) (q := 0) (cs := c58 ((⟨v639, v640⟩ : S58))) (by kernel_rfl) (by kernel_rfl) (by kernel_rfl) (hq_of e0 (by kernel_rfl)) (by kernel_rfl) (Args.v (vI 43) (eI 43) (by kernel_rfl) Args.nil) (ok46 m ((⟨v639, v640⟩ : S58)) 43 v963 ev963 n (by omega)))) ?_
        refine Ops.sg 2 9 ?_
        refine Ops.hv (fun KQ => ∀ v964 : Bool, (cnd v964 (some true) (bnd (f46 m ((⟨v639, v640⟩ : S58)) 63) fun v966 => cnd v966 (some true) (bnd (f46 m ((⟨v639, v640⟩ : S58)) 123) fun v969 => some v969))) = some v674 → KQ 9 ⟨(.ptr 0 0) :: q3 ((.ptr 1 0) :: (dB false) :: (.ptr 2 0) :: (dB true) :: q8 ((dB true) :: (dB true) :: (.ptr 0 0) :: (dB false) :: (dB false) :: (.ptr 0 0) :: (dB v964) :: (dB v964) :: (dB v964) :: q40 (q40 (q3 [])))), [(b67_1 v639 v640), b67_0, (.cells [(dI v641), (.v (.sl fl643 (List.map eI v642))), (.v (.sl fl645 (List.map ep24 v644))), (dI v646), (dI v647)])]⟩) ?_ fun G67g965 => Ops.st _ (by kernel_rfl) (G67g965 v963 ev674)
        intro v964 ev674
        cases v964
        · have ev674 := cnd_f ev674
          refine Ops.sg 1 10 ?_
          obtain ⟨v966, ev966, ev674⟩ := bnd_some ev674
          refine Ops.on 11 (fun h0 e0 => (call_ptr (E' := E) (h := h0) (q := 0) (cs := c58 ((⟨v639, v640⟩ : S58))) (by kernel_rfl) (by kernel_rfl) (by kernel_rfl) (hq_of e0 (by kernel_rfl)) (by kernel_rfl) (Args.v (vI 63) (eI 63) (by kernel_rfl) Args.nil) (ok46 m ((⟨v639, v640⟩ : S58)) 63 v966 ev966 n (by omega)))) ?_
          refine Ops.sg 2 13 ?_
          refine Ops.hv (fun KQ => ∀ v967 : Bool, (cnd v967 (some true) (bnd (f46 m ((⟨v639, v640⟩ : S58)) 123) fun v969 => some v969)) = some v674 → KQ 13 ⟨(.ptr 0 0) :: q3 ((.ptr 1 0) :: (dB false) :: (.ptr 2 0) :: (dB true) :: q8 ((dB true) :: (dB true) :: (.ptr 0 0) :: (dB false) :: (dB false) :: (.ptr 0 0) :: (dB false) :: (dB false) :: (dB false) :: (.ptr 0 0) :: (dB v967) :: (dB v967) :: (dB v967) :: q40 (q39 []))), [(b67_1 v639 v640), b67_0, (.cells [(dI v641), (.v (.sl fl643 (List.map eI v642))), (.v (.sl fl645 (List.map ep24 v644))), (dI v646), (dI v647)])]⟩) ?_ fun G67g968 => Ops.st _ (by kernel_rfl) (G67g968 v966 ev674)
          intro v967 ev674
          cases v967
          · have ev674 := cnd_f ev674
            refine Ops.sg 1 14 ?_
            obtain ⟨v969, ev969, ev674⟩ := bnd_some ev674
            refine Ops.on 15 (fun h0 e0 => (call_ptr (E' := E) (h := h0) (q := 0) (cs := c58 ((⟨v639, v640⟩ : S58))) (by kernel_rfl) (by kernel_rfl) (by kernel_rfl) (hq_of e0 (by kernel_rfl)) (by kernel_rfl) (Args.v (vI 123) (eI 123) (by kernel_rfl) Args.nil) (ok46 m ((⟨v639, v640⟩ : S58)) 123 v969 ev969 n (by omega)))) ?_
            refine Ops.sg 2 17 ?_
            exact Ops.st _ (by kernel_rfl) (J67j675 (.ptr 0 0) (dB false) (dB false) (.ptr 0 0) (dB false) (dB false) (dB false) (.ptr 0 0) (dB false) (dB false) (dB false) (.ptr 0 0) (dB v969) (dB v969) true v969 (some_sub (fun v674 => f67_r6 m K v639 v640 v641 v642 v644 v646 v647 true v674 = some sx655) ev674 h))
          · have ev674 := cnd_t ev674
            refine Ops.sg 4 17 ?_
            exact Ops.st _ (by kernel_rfl) (J67j675 (.ptr 0 0) (dB false) (dB false) (.ptr 0 0) (dB false) (dB false) (dB false) (.ptr 0 0) (dB true) (dB true) (dB true) U U (dB true) true true (some_sub (fun v674 => f67_r6 m K v639 v640 v641 v642 v644 v646 v647 true v674 = some sx655) ev674 h))
        · have ev674 := cnd_t ev674
          refine Ops.sg 8 17 ?_
          exact Ops.st _ (by kernel_rfl) (J67j675 (.ptr 0 0) (dB false) (dB false) (.ptr 0 0) (dB true) (dB true) (dB true) U U (dB true) (dB true) U U (dB true) true true (some_sub (fun v674 => f67_r6 m K v639 v640 v641 v642 v644 v646 v647 true v674 = some sx655) ev674 h))
      · have ev674 := cnd_t ev674
        refine Ops.sg 12 17 ?_
        exact Ops.st _ (by kernel_rfl) (J67j675 (.ptr 0 0) (dB true) (dB true) U U (dB true) (dB true) U U (dB true) (dB true) U U (dB true) true true (some_sub (fun v674 => f67_r6 m K v639 v640 v641 v642 v644 v646 v647 true v674 = some sx655) ev674 h))
theorem okb67 (m : Nat) (K : Rec28) (nn : Nat) (hK : OkRec28 m K nn) (a0 : S58) (a1 : Int) (o : ((S24 × Bool) × S58)) (h : b67 m K a0 a1 = some o) (n : Nat) (hn : m + 2 ≤ n) (hk : nn + 1 ≤ n) : FnP Proofs.Tryd.prog E n 67 (c58 a0) [.v (eI a1)] (.tuple [e24 o.1.1, eB o.1.2]) (c58 o.2) := by
  obtain ⟨n, rfl⟩ : ∃ q, n = q + 1 := ⟨n - 1, by omega⟩
  unfold b67 at h
  refine FnP.of (by kernel_rfl) (by kernel_rfl) (by kernel_rfl) ⟨(.ptr 0 0) :: (dI a1) :: u40 (u40 (u26 [])), [(.cells [(dP eI a0.fL), (dI a0.fAt)])]⟩ (by kernel_rfl) ?_
  refine Wp.sq ?_
  refine Wp.rg ?_
  refine Ops.sg 2 2 ?_
  refine Ops.dn ?_
  refine seqQ.n ?_
  refine Wp.sq ?_
  refine Wp.rg ?_
  refine Ops.sg 2 2 ?_
  obtain ⟨v1, ev1, h⟩ := bnd_some h
  refine Ops.on 3 (fun h0 e0 => (call_ptr (E' := E) (h := h0) (q := 0) (cs := c58 a0) (by kernel_rfl) (by kernel_rfl) (by kernel_rfl) (hq_of e0 (by kernel_rfl)) (by kernel_rfl) (Args.v (vI a1) (eI a1) (by kernel_rfl) Args.nil) (hK.ok74 a0 a1 v1 ev1 n (by omega)))) ?_
  refine Ops.sg 6 9 ?_
  refine Ops.dn ?_
  refine seqQ.n ?_
  refine Wp.sq ?_
  refine Wp.block' 0 [4, 5, 6, 7] 3 (by kernel_rfl) ?_
  have hLx970 := f67_hLx970 m K nn hK a0 a1 o n hn hk 
  refine Wp.loop' k67_0 3 (by kernel_rfl) ⟨(.ptr 0 0) :: q3 ((.ptr 1 0) :: (dB false) :: (.ptr 2 0) :: (dB v1.1.2) :: q40 (q40 (q20 []))), [(.cells [(dP eI v1.2.fL), (dI v1.2.fAt)]), b67_0, (.cells [(dI v1.1.1.fKind), (dP eI v1.1.1.fLabels), (dP ep24 v1.1.1.fSubs), (dI v1.1.1.fLeast), (dI v1.1.1.fMost)])]⟩ (by kernel_rfl) ?_
  rcases brk_some h with ⟨r972, er972, h⟩ | ⟨y971, ey971, h⟩
  · refine hLx970 _ v1.1.2 v1.2.fL v1.2.fAt v1.1.1.fKind v1.1.1.fLabels v1.1.1.fSubs v1.1.1.fLeast v1.1.1.fMost _ _ _ er972 n (by omega) (fun r er σ hσ => ?_) (fun y fl643 fl645 ey => by cases ey)
    cases er
    refine seqQ.r ?_
    exact fnQP.r' (X67 n) (fun z => (.tuple [e24 z.1, eB z.2])) c58 h hσ
  · refine hLx970 _ v1.1.2 v1.2.fL v1.2.fAt v1.1.1.fKind v1.1.1.fLabels v1.1.1.fSubs v1.1.1.fLeast v1.1.1.fMost _ _ _ ey971 n (by omega) (fun r er => by cases er) (fun y fl643 fl645 ey => ?_)
    cases ey
    refine seqQ.n ?_
    refine Wp.sq ?_
    refine Wp.rg ?_
    refine Ops.sg 4 4 ?_
    refine Ops.dn ?_
    refine seqQ.n ?_
    refine Wp.ret (by kernel_rfl) ?_
    exact fnQP.r' (X67 n) (fun z => (.tuple [e24 z.1, eB z.2])) c58 h (RetOkP.mk' (.v (.tuple [(.agg [(vI y971.2.2.2.1), (.sl fl643 (List.map eI y971.2.2.2.2.1)), (.sl fl645 (List.map ep24 y971.2.2.2.2.2.1)), (vI y971.2.2.2.2.2.2.1), (vI y971.2.2.2.2.2.2.2)]), (vB y971.1)])) (by kernel_rfl) (by kernel_rfl) (by kernel_rfl) (by kernel_rfl))
/-! ### 74 (*glosswright/pattern.reader).atom -/
noncomputable def f74_r1 (m : Nat) (K : Rec28) (v3 : ((S24 × Bool) × S58)) (v10 : Bool) : Option ((S24 × Bool) × S58) :=
  cnd v10
  (some (((v3.1.1, false), v3.2)))
  (some (((v3.1.1, true), (⟨v3.2.fL, w64 (v3.2.fAt + 1)⟩ : S58))))
noncomputable def f74_B2 (m : Nat) (K : Rec28) (v23 : (List Int)) (v24 : (List Int)) (v25 : Int) : Option (Stp ((S24 × Bool) × S58) ((List Int) × (List Int) × Int)) :=
  bnd (f46 m ((⟨v24, v25⟩ : S58)) 93) fun v35 =>
  cnd (!v35)
  (bnd (f81 m ((⟨v24, v25⟩ : S58))) fun v36 =>
  cnd (!v36.1.2)
  (some (.ret ((((⟨0, [], [], 0, 0⟩ : S24), false), v36.2))))
  (bnd (app 8 v23 [v36.1.1]) fun v37 =>
  some (.nxt (v37, v36.2.fL, v36.2.fAt))))
  (some (.brk (v23, v24, v25)))
noncomputable def b74 (m : Nat) (K : Rec28) (a0 : S58) (a1 : Int) : Option ((S24 × Bool) × S58) :=
  bnd (f46 m a0 40) fun v1 =>
  cnd v1
  (cnd (decide (a1 > 80))
  (some ((((⟨0, [], [], 0, 0⟩ : S24), false), a0)))
  (bnd (f46 m ((⟨a0.fL, w64 (a0.fAt + 1)⟩ : S58)) 41) fun v2 =>
  cnd v2
  (some ((((⟨1, [], [], 0, 0⟩ : S24), true), (⟨a0.fL, w64 (w64 (a0.fAt + 1) + 1)⟩ : S58))))
  (bnd (K.r28 ((⟨a0.fL, w64 (a0.fAt + 1)⟩ : S58)) (w64 (a1 + 1))) fun v3 =>
  bnd (cnd (!v3.1.2)
  (some true)
  (bnd (f46 m v3.2 41) fun v12 =>
  some (!v12))) fun v10 =>
  f74_r1 m K v3 v10)))
  (bnd (f46 m a0 91) fun v13 =>
  cnd v13
  (brk (iter (fun (y : (List Int) × (List Int) × Int) => f74_B2 m K y.1 y.2.1 y.2.2) m ([], a0.fL, w64 (a0.fAt + 1))) some fun y39 =>
  cnd ((y39.1.length : Int) == 0)
  (some ((((⟨0, [], [], 0, 0⟩ : S24), false), (⟨y39.2.1, y39.2.2⟩ : S58))))
  (bnd (srtI y39.1) fun v41 =>
  some ((((⟨2, (compactI v41), [], 0, 0⟩ : S24), true), (⟨y39.2.1, w64 (y39.2.2 + 1)⟩ : S58)))))
  (bnd (f81 m a0) fun v42 =>
  some ((((⟨2, [v42.1.1], [], 0, 0⟩ : S24), v42.1.2), v42.2))))
noncomputable abbrev X74 (n : Nat) : Cx := cxOf Proofs.Tryd.prog E 74 n
noncomputable def C74 : Code := bodyOf Proofs.Tryd.prog 74
noncomputable abbrev p74_0 : Code := cR (cR (cR (cL (cR (cR (cR (cL (cL (cR C74)))))))))
noncomputable abbrev b74_0 : AObj := .cells [(dI 0), (.v (.sl .nil (List.map eI []))), (.v (.sl .nil (List.map ep24 []))), (dI 0), (dI 0)]
theorem okb74 (m : Nat) (K : Rec28) (nn : Nat) (hK : OkRec28 m K nn) (a0 : S58) (a1 : Int) (o : ((S24 × Bool) × S58)) (h : b74 m K a0 a1 = some o) (n : Nat) (hn : m + 3 ≤ n) (hk : nn + 1 ≤ n) : FnP Proofs.Tryd.prog E n 74 (c58 a0) [.v (eI a1)] (.tuple [e24 o.1.1, eB o.1.2]) (c58 o.2) := by
  obtain ⟨n, rfl⟩ : ∃ q, n = q + 1 := ⟨n - 1, by omega⟩
  unfold b74 at h
  refine FnP.of (by kernel_rfl) (by kernel_rfl) (by kernel_rfl) ⟨(.ptr 0 0) :: (dI a1) :: u40 (u40 (u27 [])), [(.cells [(dP eI a0.fL), (dI a0.fAt)])]⟩ (by kernel_rfl) ?_
  refine Wp.sq ?_
  refine Wp.rg ?_
  refine Ops.sg 2 2 ?_
  refine Ops.dn ?_
  refine seqQ.n ?_
  refine Wp.sq ?_
  refine Wp.block' 0 [0, 4, 5] 2 (by kernel_rfl) ?_
  refine Wp.sq ?_
  refine Wp.rg ?_
  refine Ops.sg 1 1 ?_
  obtain ⟨v1, ev1, h⟩ := bnd_some h
  refine Ops.on 2 (fun h0 e0 => (call_ptr (E' := E) (h := h0) (q := 0) (cs := c58 a0) (by kernel_rfl) (by kernel_rfl) (by kernel_rfl) (hq_of e0 (by kernel_rfl)) (by kernel_rfl) (Args.v (vI 40) (eI 40) (by kernel_rfl) Args.nil) (ok46 m a0 40 v1 ev1 n (by omega)))) ?_
  refine Ops.sg 1 3 ?_
  refine Ops.dn ?_
  refine seqQ.n ?_
  refine Wp.cnd h [0, 4, 5] 2 (by kernel_rfl) (fun h => ?_) (fun h => ?_)
  · refine Wp.sq ?_
    refine Wp.sq ?_
    refine Wp.rg ?_
    refine Ops.sg 2 2 ?_
    refine Ops.dn ?_
    refine seqQ.n ?_
    refine Wp.cnd h [0, 1, 4, 5] 2 (by kernel_rfl) (fun h => ?_) (fun h => ?_)
    · refine Wp.sq ?_
      refine Wp.rg ?_
      refine Ops.sg 3 3 ?_
      refine Ops.dn ?_
      refine seqQ.n ?_
      refine Wp.ret (by kernel_rfl) ?_
      refine sqQ.r ?_
      refine seqQ.r ?_
      refine sqQ.r ?_
      refine blkQ.r ?_
      refine seqQ.r ?_
      exact fnQP.r' (X74 n) (fun z => (.tuple [e24 z.1, eB z.2])) c58 h (RetOkP.mk' (.v (.tuple [(.agg [(vI 0), (.sl .nil (List.map eI [])), (.sl .nil (List.map ep24 [])), (vI 0), (vI 0)]), (vB false)])) (by kernel_rfl) (by kernel_rfl) (by kernel_rfl) (by kernel_rfl))
    · refine Wp.sk ?_
      refine sqQ.n' ?_
      refine seqQ.n ?_
      refine Wp.sq ?_
      refine Wp.rg ?_
      refine Ops.sg 8 8 ?_
      refine Ops.dn ?_
      refine seqQ.n ?_
      refine Wp.sq ?_
      refine Wp.sq ?_
      refine Wp.rg ?_
      refine Ops.sg 1 1 ?_
      obtain ⟨v2, ev2, h⟩ := bnd_some h
      refine Ops.on 2 (fun h0 e0 => (call_ptr (E' := E) (h := h0) (q := 0) (cs := c58 ((⟨a0.fL, w64 (a0.fAt + 1)⟩ : S58))) (by kernel_rfl) (by kernel_rfl) (by kernel_rfl) (hq_of e0 (by kernel_rfl)) (by kernel_rfl) (Args.v (vI 41) (eI 41) (by kernel_rfl) Args.nil) (ok46 m ((⟨a0.fL, w64 (a0.fAt + 1)⟩ : S58)) 41 v2 ev2 n (by omega)))) ?_
      refine Ops.dn ?_
      refine seqQ.n ?_
      refine Wp.cnd h [0, 1, 4, 5] 3 (by kernel_rfl) (fun h => ?_) (fun h => ?_)
      · refine Wp.sq ?_
        refine Wp.rg ?_
        refine Ops.sg 8 8 ?_
        refine Ops.dn ?_
        refine seqQ.n ?_
        refine Wp.sq ?_
        refine Wp.rg ?_
        refine Ops.sg 3 3 ?_
        refine Ops.dn ?_
        refine seqQ.n ?_
        refine Wp.ret (by kernel_rfl) ?_
        refine sqQ.r ?_
        refine seqQ.r ?_
        refine sqQ.r ?_
        refine blkQ.r ?_
        refine seqQ.r ?_
        exact fnQP.r' (X74 n) (fun z => (.tuple [e24 z.1, eB z.2])) c58 h (RetOkP.mk' (.v (.tuple [(.agg [(vI 1), (.sl .nil (List.map eI [])), (.sl .nil (List.map ep24 [])), (vI 0), (vI 0)]), (vB true)])) (by kernel_rfl) (by kernel_rfl) (by kernel_rfl) (by kernel_rfl))
      · refine Wp.sk ?_
        refine sqQ.n' ?_
        refine seqQ.n ?_
        refine Wp.sq ?_
        refine Wp.rg ?_
        refine Ops.sg 3 3 ?_
        obtain ⟨v3, ev3, h⟩ := bnd_some h
        refine Ops.on 4 (fun h0 e0 => (call_ptr (E' := E) (h := h0) (q := 0) (cs := c58 ((⟨a0.fL, w64 (a0.fAt + 1)⟩ : S58))) (by kernel_rfl) (by kernel_rfl) (by kernel_rfl) (hq_of e0 (by kernel_rfl)) (by kernel_rfl) (Args.v (vI (w64 (a1 + 1))) (eI (w64 (a1 + 1))) (by kernel_rfl) Args.nil) (hK.ok28 ((⟨a0.fL, w64 (a0.fAt + 1)⟩ : S58)) (w64 (a1 + 1)) v3 ev3 n (by omega)))) ?_
        refine Ops.sg 6 10 ?_
        refine Ops.dn ?_
        refine seqQ.n ?_
        refine Wp.sq ?_
        refine Wp.sq ?_
        refine Wp.rg ?_
        refine Ops.sg 3 3 ?_
        refine Ops.hv (fun KQ => ∀ (d6 d7 d8 : D) (v9 : Bool) (v10 : Bool), f74_r1 m K v3 v10 = some o → KQ 7 ⟨(.ptr 0 0) :: (dI a1) :: q2 ((.ptr 1 0) :: (dB false) :: (.ptr 4 0) :: (dB v3.1.2) :: q28 ((.v (.tuple [(.agg [(vI v3.1.1.fKind), (vP eI v3.1.1.fLabels), (vP ep24 v3.1.1.fSubs), (vI v3.1.1.fLeast), (vI v3.1.1.fMost)]), (vB v3.1.2)])) :: (.ptr 0 0) :: (dI a1) :: (dI (w64 (a1 + 1))) :: (.v (.tuple [(.agg [(vI v3.1.1.fKind), (vP eI v3.1.1.fLabels), (vP ep24 v3.1.1.fSubs), (vI v3.1.1.fLeast), (vI v3.1.1.fMost)]), (vB v3.1.2)])) :: (.v (.agg [(vI v3.1.1.fKind), (vP eI v3.1.1.fLabels), (vP ep24 v3.1.1.fSubs), (vI v3.1.1.fLeast), (vI v3.1.1.fMost)])) :: (dB v3.1.2) :: (dB v3.1.2) :: (dB v9) :: (dB v9) :: d6 :: d7 :: d8 :: (dB v10) :: q40 (q19 []))), [(.cells [(dP eI v3.2.fL), (dI v3.2.fAt)]), b74_0, .dead, .dead, (.cells [(dI v3.1.1.fKind), (dP eI v3.1.1.fLabels), (dP ep24 v3.1.1.fSubs), (dI v3.1.1.fLeast), (dI v3.1.1.fMost)])]⟩) ?_ fun J74j11 => ?_
        · intro d6 d7 d8 v9 v10 h
          unfold f74_r1 at h
          refine Ops.dn ?_
          refine seqQ.n ?_
          refine Wp.cnd h [0, 4, 5, 6] 5 (by kernel_rfl) (fun h => ?_) (fun h => ?_)
          · refine Wp.sq ?_
            refine Wp.rg ?_
            refine Ops.sg 3 3 ?_
            refine Ops.dn ?_
            refine seqQ.n ?_
            refine Wp.ret (by kernel_rfl) ?_
            refine sqQ.r ?_
            refine seqQ.r ?_
            refine sqQ.r ?_
            refine blkQ.r ?_
            refine seqQ.r ?_
            exact fnQP.r' (X74 n) (fun z => (.tuple [e24 z.1, eB z.2])) c58 h (RetOkP.mk' (.v (.tuple [(.agg [(vI v3.1.1.fKind), (vP eI v3.1.1.fLabels), (vP ep24 v3.1.1.fSubs), (vI v3.1.1.fLeast), (vI v3.1.1.fMost)]), (vB false)])) (by kernel_rfl) (by kernel_rfl) (by kernel_rfl) (by kernel_rfl))
          · refine Wp.sk ?_
            refine sqQ.n' ?_
            refine seqQ.n ?_
            refine Wp.sq ?_
            refine Wp.rg ?_
            refine Ops.sg 8 8 ?_
            refine Ops.dn ?_
            refine seqQ.n ?_
            refine Wp.sq ?_
            refine Wp.rg ?_
            refine Ops.sg 3 3 ?_
            refine Ops.dn ?_
            refine seqQ.n ?_
            refine Wp.ret (by kernel_rfl) ?_
            refine sqQ.r ?_
            refine blkQ.r ?_
            refine seqQ.r ?_
            exact fnQP.r' (X74 n) (fun z => (.tuple [e24 z.1, eB z.2])) c58 h (RetOkP.mk' (.v (.tuple [(.agg [(vI v3.1.1.fKind), (vP eI v3.1.1.fLabels), (vP ep24 v3.1.1.fSubs), (vI v3.1.1.fLeast), (vI v3.1.1.fMost)]), (vB true)])) (by kernel_rfl) (by kernel_rfl) (by kernel_rfl) (by kernel_rfl))
        obtain ⟨v10, ev10, h⟩ := bnd_some h
        refine Ops.hv (fun KQ => ∀ v4 : Bool, (cnd v4 (some true) (bnd (f46 m v3.2 41) fun v12 => some (!v12))) = some v10 → KQ 3 ⟨(.ptr 0 0) :: (dI a1) :: q2 ((.ptr 1 0) :: (dB false) :: (.ptr 4 0) :: (dB v3.1.2) :: q28 ((.v (.tuple [(.agg [(vI v3.1.1.fKind), (vP eI v3.1.1.fLabels), (vP ep24 v3.1.1.fSubs), (vI v3.1.1.fLeast), (vI v3.1.1.fMost)]), (vB v3.1.2)])) :: (.ptr 0 0) :: (dI a1) :: (dI (w64 (a1 + 1))) :: (.v (.tuple [(.agg [(vI v3.1.1.fKind), (vP eI v3.1.1.fLabels), (vP ep24 v3.1.1.fSubs), (vI v3.1.1.fLeast), (vI v3.1.1.fMost)]), (vB v3.1.2)])) :: (.v (.agg [(vI v3.1.1.fKind), (vP eI v3.1.1.fLabels), (vP ep24 v3.1.1.fSubs), (vI v3.1.1.fLeast), (vI v3.1.1.fMost)])) :: (dB v3.1.2) :: (dB v3.1.2) :: (dB v4) :: (dB v4) :: q40 (q23 []))), [(.cells [(dP eI v3.2.fL), (dI v3.2.fAt)]), b74_0, .dead, .dead, (.cells [(dI v3.1.1.fKind), (dP eI v3.1.1.fLabels), (dP ep24 v3.1.1.fSubs), (dI v3.1.1.fLeast), (dI v3.1.1.fMost)])]⟩) ?_ fun G74g5 => Ops.st _ (by kernel_rfl) (G74g5 (!v3.1.2) ev10)
        intro v4 ev10
        cases v4
        · have ev10 := cnd_f ev10
          refine Ops.sg 1 4 ?_
          obtain ⟨v12, ev12, ev10⟩ := bnd_some ev10
          refine Ops.on 5 (fun h0 e0 => (call_ptr (E' := E) (h := h0) (q := 0) (cs := c58 v3.2) (by kernel_rfl) (by kernel_rfl) (by kernel_rfl) (hq_of e0 (by kernel_rfl)) (by kernel_rfl) (Args.v (vI 41) (eI 41) (by kernel_rfl) Args.nil) (ok46 m v3.2 41 v12 ev12 n (by omega)))) ?_
          refine Ops.sg 2 7 ?_
          exact Ops.st _ (by kernel_rfl) (J74j11 (.ptr 0 0) (dB v12) (dB (!v12)) false (!v12) (some_sub (fun v10 => f74_r1 m K v3 v10 = some o) ev10 h))
        · have ev10 := cnd_t ev10
          refine Ops.sg 4 7 ?_
          exact Ops.st _ (by kernel_rfl) (J74j11 U U U true true (some_sub (fun v10 => f74_r1 m K v3 v10 = some o) ev10 h))
  · refine Wp.sq ?_
    refine Wp.rg ?_
    refine Ops.sg 1 1 ?_
    obtain ⟨v13, ev13, h⟩ := bnd_some h
    refine Ops.on 2 (fun h0 e0 => (call_ptr (E' := E) (h := h0) (q := 0) (cs := c58 a0) (by kernel_rfl) (by kernel_rfl) (by kernel_rfl) (hq_of e0 (by kernel_rfl)) (by kernel_rfl) (Args.v (vI 91) (eI 91) (by kernel_rfl) Args.nil) (ok46 m a0 91 v13 ev13 n (by omega)))) ?_
    refine Ops.sg 1 3 ?_
    refine Ops.dn ?_
    refine seqQ.n ?_
    refine Wp.cnd h [0, 4, 5] 2 (by kernel_rfl) (fun h => ?_) (fun h => ?_)
    · refine Wp.sq ?_
      refine Wp.rg ?_
      refine Ops.sg 8 8 ?_
      refine Ops.dn ?_
      refine seqQ.n ?_
      refine Wp.sq ?_
      refine Wp.rg ?_
      refine Ops.sg 1 1 ?_
      refine Ops.dn ?_
      refine seqQ.n ?_
      refine Wp.sq ?_
      refine Wp.block' 1 [0, 4, 5, 8] 2 (by kernel_rfl) ?_
      have hLx38 : ∀ (kx27 : Nat) (v23 : (List Int)) (v24 : (List Int)) (v25 : Int)  (ox26 : ((S24 × Bool) × S58) ⊕ ((List Int) × (List Int) × Int)), iter (fun (y : (List Int) × (List Int) × Int) => f74_B2 m K y.1 y.2.1 y.2.2) kx27 (v23, v24, v25) = some ox26 → ∀ nx28, kx27 ≤ nx28 → (∀ r, ox26 = .inl r → ∀ σ, RetOkP (X74 n) (resOf Proofs.Tryd.prog 74) (.tuple [e24 r.1.1, eB r.1.2]) (c58 r.2) σ → (seqQ (X74 n) p74_0 (sqQ (X74 n) [0, 4, 5] 2 (sqQ (X74 n) [0, 4, 5] 2 (blkQ (X74 n) 0 [0, 4, 5] 2 (seqQ (X74 n) (cR (cR C74)) (fnQP (X74 n).E.T (resOf Proofs.Tryd.prog 74) (.tuple [e24 o.1.1, eB o.1.2]) (c58 o.2))))))) .ret σ) → (∀ (y : (List Int) × (List Int) × Int) , ox26 = .inr y → (seqQ (X74 n) p74_0 (sqQ (X74 n) [0, 4, 5] 2 (sqQ (X74 n) [0, 4, 5] 2 (blkQ (X74 n) 0 [0, 4, 5] 2 (seqQ (X74 n) (cR (cR C74)) (fnQP (X74 n).E.T (resOf Proofs.Tryd.prog 74) (.tuple [e24 o.1.1, eB o.1.2]) (c58 o.2))))))) .normal ⟨(.ptr 0 0) :: q3 ((.ptr 1 0) :: (dB false) :: q2 ((rowF .nil 2 (List.map eI y.1)) :: q40 (q40 (q20 [])))), [(.cells [(dP eI y.2.1), (dI y.2.2)]), b74_0, (rowO 1 (List.map eI y.1))]⟩) → Lp (X74 n) [0, 4, 5, 8] 2 (cL (cL (cL (cR (cR (cL (cR (cR (cR (cL (cL (cR C74)))))))))))) nx28 ⟨(.ptr 0 0) :: q3 ((.ptr 1 0) :: (dB false) :: q2 ((rowF .nil 2 (List.map eI v23)) :: q40 (q40 (q20 [])))), [(.cells [(dP eI v24), (dI v25)]), b74_0, (rowO 1 (List.map eI v23))]⟩ (blkQ (X74 n) 1 [0, 4, 5, 8] 2 (seqQ (X74 n) p74_0 (sqQ (X74 n) [0, 4, 5] 2 (sqQ (X74 n) [0, 4, 5] 2 (blkQ (X74 n) 0 [0, 4, 5] 2 (seqQ (X74 n) (cR (cR C74)) (fnQP (X74 n).E.T (resOf Proofs.Tryd.prog 74) (.tuple [e24 o.1.1, eB o.1.2]) (c58 o.2)))))))) := by
        intro kx27
        induction kx27 with
        | zero => intro v23 v24 v25  ox26 h; exact (iter_zero h).elim
        | succ kx27 ihx29 =>
          intro v23 v24 v25  ox26 h nx28 hnx32 hrx30 hxx31
          obtain ⟨nx28, rfl⟩ : ∃ q, nx28 = q + 1 := ⟨nx28 - 1, by omega⟩
          obtain ⟨sx33, h, hsx34⟩ := iter_some h
          have h : f74_B2 m K v23 v24 v25 = some sx33 := h
          unfold f74_B2 at h
          refine Lp.succ ?_
          refine Wp.sq ?_
          refine Wp.sq ?_
          refine Wp.rg ?_
          refine Ops.sg 1 1 ?_
          obtain ⟨v35, ev35, h⟩ := bnd_some h
          refine Ops.on 2 (fun h0 e0 => (call_ptr (E' := E) (h := h0) (q := 0) (cs := c58 ((⟨v24, v25⟩ : S58))) (by kernel_rfl) (by kernel_rfl) (by kernel_rfl) (hq_of e0 (by kernel_rfl)) (by kernel_rfl) (Args.v (vI 93) (eI 93) (by kernel_rfl) Args.nil) (ok46 m ((⟨v24, v25⟩ : S58)) 93 v35 ev35 n (by omega)))) ?_
          refine Ops.sg 1 3 ?_
          refine Ops.dn ?_
          refine seqQ.n ?_
          refine Wp.cnd h [0, 4, 5, 8] 3 (by kernel_rfl) (fun h => ?_) (fun h => ?_)
          · refine Wp.sk ?_
            refine sqQ.n ⟨(.ptr 0 0) :: q3 ((.ptr 1 0) :: (dB false) :: q2 ((rowF .nil 3 (List.map eI v23)) :: q40 (q40 (q20 [])))), [(.cells [(dP eI v24), (dI v25)]), b74_0, .dead, (rowO 1 (List.map eI v23))]⟩ (by generalize v23 = z0; cases z0 <;> kernel_rfl) ?_
            refine seqQ.n ?_
            refine Wp.block' 2 [0, 4, 5, 8] 4 (by kernel_rfl) ?_
            refine Wp.sq ?_
            refine Wp.rg ?_
            refine Ops.sg 1 1 ?_
            obtain ⟨v36, ev36, h⟩ := bnd_some h
            refine Ops.on 2 (fun h0 e0 => (call_ptr (E' := E) (h := h0) (q := 0) (cs := c58 ((⟨v24, v25⟩ : S58))) (by kernel_rfl) (by kernel_rfl) (by kernel_rfl) (hq_of e0 (by kernel_rfl)) (by kernel_rfl) Args.nil (ok81 m ((⟨v24, v25⟩ : S58)) v36 ev36 n (by omega)))) ?_
            refine Ops.sg 5 7 ?_
            refine Ops.dn ?_
            refine seqQ.n ?_
            refine Wp.sq ?_
            refine Wp.sq ?_
            refine Wp.rg ?_
            refine Ops.sg 2 2 ?_
            refine Ops.dn ?_
            refine seqQ.n ?_
            refine Wp.cnd h [0, 4, 5, 8, 9] 4 (by kernel_rfl) (fun h => ?_) (fun h => ?_)
            · refine Wp.sq ?_
              refine Wp.rg ?_
              refine Ops.sg 3 3 ?_
              refine Ops.dn ?_
              refine seqQ.n ?_
              refine Wp.ret (by kernel_rfl) ?_
              refine sqQ.r ?_
              refine seqQ.r ?_
              refine blkQ.r ?_
              cases h
              refine lpQ.r ?_
              refine blkQ.r ?_
              exact hrx30 _ hsx34 _ (RetOkP.forget [0, 4, 5, 8] (by kernel_rfl) (RetOkP.mk' (.v (.tuple [(.agg [(vI 0), (.sl .nil (List.map eI [])), (.sl .nil (List.map ep24 [])), (vI 0), (vI 0)]), (vB false)])) (by kernel_rfl) (by kernel_rfl) (by kernel_rfl) (by kernel_rfl)))
            · refine Wp.sk ?_
              refine sqQ.n ⟨(.ptr 0 0) :: q3 ((.ptr 1 0) :: (dB false) :: q2 ((rowF .nil 4 (List.map eI v23)) :: (dI v36.1.1) :: q40 (q40 (q19 [])))), [(.cells [(dP eI v36.2.fL), (dI v36.2.fAt)]), b74_0, .dead, .dead, (rowO 1 (List.map eI v23))]⟩ (by generalize v23 = z0; cases z0 <;> kernel_rfl) ?_
              refine seqQ.n ?_
              refine Wp.rg ?_
              refine Ops.sg 3 3 ?_
              obtain ⟨v37, ev37, h⟩ := bnd_some h
              refine Ops.on 4 (fun h0 e0 => (row_app (T := T) (g := .nil) h0 22 3 4 ti3 .nonfull eI v23 [v36.1.1] v37 ev37 (by kernel_rfl) (by kernel_rfl) (by kernel_rfl) (by kernel_rfl) (fun _ => rfl) (hq_of e0 (by kernel_rfl)))) ?_
              refine Ops.sg 1 5 ?_
              refine Ops.dn ?_
              refine blkQ.n ⟨(.ptr 0 0) :: q3 ((.ptr 1 0) :: (dB false) :: q2 ((rowF .nil 4 (List.map eI v37)) :: q40 (q40 (q20 [])))), [(.cells [(dP eI v36.2.fL), (dI v36.2.fAt)]), b74_0, .dead, .dead, (rowO 1 (List.map eI v37))]⟩ (by generalize v37 = z0; cases z0 <;> kernel_rfl) ?_
              refine lpQ.n ⟨(.ptr 0 0) :: q3 ((.ptr 1 0) :: (dB false) :: q2 ((rowF .nil 2 (List.map eI v37)) :: q40 (q40 (q20 [])))), [(.cells [(dP eI v36.2.fL), (dI v36.2.fAt)]), b74_0, (rowO 1 (List.map eI v37))]⟩ (by generalize v37 = z0; cases z0 <;> kernel_rfl) ?_
              cases h
              exact ihx29 v37 v36.2.fL v36.2.fAt  _ hsx34 _ (by omega) hrx30 hxx31
          · refine Wp.exit (id := 1) (by kernel_rfl) ?_
            refine sqQ.x ?_
            refine seqQ.x ?_
            cases h
            refine lpQ.x ?_
            refine blkQ.x ⟨(.ptr 0 0) :: q3 ((.ptr 1 0) :: (dB false) :: q2 ((rowF .nil 2 (List.map eI v23)) :: q40 (q40 (q20 [])))), [(.cells [(dP eI v24), (dI v25)]), b74_0, (rowO 1 (List.map eI v23))]⟩ (by generalize v23 = z0; cases z0 <;> kernel_rfl) ?_
            exact hxx31 (v23, v24, v25)  hsx34
      refine Wp.loop' [0, 4, 5, 8] 2 (by kernel_rfl) ⟨(.ptr 0 0) :: q3 ((.ptr 1 0) :: (dB false) :: q2 ((rowF .nil 2 (List.map eI [])) :: q40 (q40 (q20 [])))), [(.cells [(dP eI a0.fL), (dI (w64 (a0.fAt + 1)))]), b74_0, (rowO 1 (List.map eI []))]⟩ (by kernel_rfl) ?_
      rcases brk_some h with ⟨r40, er40, h⟩ | ⟨y39, ey39, h⟩
      · refine hLx38 _ [] a0.fL (w64 (a0.fAt + 1))  _ er40 n (by omega) (fun r er σ hσ => ?_) (fun y  ey => by cases ey)
        cases er
        refine seqQ.r ?_
        refine sqQ.r ?_
        refine sqQ.r ?_
        refine blkQ.r ?_
        refine seqQ.r ?_
        exact fnQP.r' (X74 n) (fun z => (.tuple [e24 z.1, eB z.2])) c58 h hσ
      · refine hLx38 _ [] a0.fL (w64 (a0.fAt + 1))  _ ey39 n (by omega) (fun r er => by cases er) (fun y  ey => ?_)
        cases ey
        refine seqQ.n ?_
        refine Wp.sq ?_
        refine Wp.sq ?_
        refine Wp.rg ?_
        refine Ops.sg 1 1 ?_
        refine Ops.on 2 (fun h0 e0 => (len_w (T := T) (g := .nil) h0 22 3 2 eI y39.1 (by kernel_rfl))) ?_
        refine Ops.sg 1 3 ?_
        refine Ops.dn ?_
        refine seqQ.n ?_
        refine Wp.cnd h [0, 4, 5, 8] 3 (by kernel_rfl) (fun h => ?_) (fun h => ?_)
        · refine Wp.sq ?_
          refine Wp.rg ?_
          refine Ops.sg 3 3 ?_
          refine Ops.dn ?_
          refine seqQ.n ?_
          refine Wp.ret (by kernel_rfl) ?_
          refine sqQ.r ?_
          refine seqQ.r ?_
          refine sqQ.r ?_
          refine sqQ.r ?_
          refine blkQ.r ?_
          refine seqQ.r ?_
          exact fnQP.r' (X74 n) (fun z => (.tuple [e24 z.1, eB z.2])) c58 h (RetOkP.mk' (.v (.tuple [(.agg [(vI 0), (.sl .nil (List.map eI [])), (.sl .nil (List.map ep24 [])), (vI 0), (vI 0)]), (vB false)])) (by kernel_rfl) (by kernel_rfl) (by kernel_rfl) (by kernel_rfl))
        · refine Wp.sk ?_
          refine sqQ.n ⟨(.ptr 0 0) :: q3 ((.ptr 1 0) :: (dB false) :: q2 ((rowF .nil 3 (List.map eI y39.1)) :: q40 (q40 (q20 [])))), [(.cells [(dP eI y39.2.1), (dI y39.2.2)]), b74_0, .dead, (rowO 1 (List.map eI y39.1))]⟩ (by generalize y39.1 = z0; cases z0 <;> kernel_rfl) ?_
          refine seqQ.n ?_
          refine Wp.sq ?_
          refine Wp.rg ?_
          refine Ops.sg 8 8 ?_
          refine Ops.dn ?_
          refine seqQ.n ?_
          refine Wp.sq ?_
          refine Wp.rg ?_
          refine Ops.sg 1 1 ?_
          obtain ⟨v41, ev41, h⟩ := bnd_some h
          refine Ops.on 2 (fun h0 e0 => (callD_own (P := Proofs.Tryd.prog) (E := E) (E' := E) (n := n) (f := 82) (by kernel_rfl) (by kernel_rfl) (by kernel_rfl) (row_sortI h0 3 y39.1 v41 ev41 (hq_of e0 (by kernel_rfl))) (by omega))) ?_
          refine Ops.st ⟨(.ptr 0 0) :: q3 ((.ptr 1 0) :: (dB false) :: q2 ((rowF .nil 3 (List.map eI y39.1)) :: q40 (q39 ((.ptr 0 0) :: (.ptr 0 0) :: (.ptr 0 1) :: (dI y39.2.2) :: (dI (w64 (y39.2.2 + 1))) :: (.ptr 0 0) :: (.ptr 0 1) :: (rowF .nil 3 (List.map eI y39.1)) :: u1 (q12 []))))), [(.cells [(dP eI y39.2.1), (dI (w64 (y39.2.2 + 1)))]), b74_0, .dead, (rowO 1 (List.map eI v41))]⟩ (by kernel_rfl) ?_
          rw [srtI_row 3 ev41]
          refine Ops.dn ?_
          refine seqQ.n ?_
          refine Wp.sq ?_
          refine Wp.rg ?_
          refine Ops.sg 1 1 ?_
          refine Ops.on 2 (fun h0 e0 => (callD_own (P := Proofs.Tryd.prog) (E := E) (E' := E) (n := n) (f := 83) (by kernel_rfl) (by kernel_rfl) (by kernel_rfl) (row_compactI h0 3 v41 (hq_of e0 (by kernel_rfl))) (by omega))) ?_
          refine Ops.seg 1 3 (by kernel_rfl) ⟨(.ptr 0 0) :: q3 ((.ptr 1 0) :: (dB false) :: q2 ((rowF .nil 3 (List.map eI v41)) :: q40 (q39 ((.ptr 0 0) :: (.ptr 0 0) :: (.ptr 0 1) :: (dI y39.2.2) :: (dI (w64 (y39.2.2 + 1))) :: (.ptr 0 0) :: (.ptr 0 1) :: (rowF .nil 3 (List.map eI v41)) :: u1 ((rowF .nil 3 (List.map eI v41)) :: (rowF .nil 3 (List.map eI (compactI v41))) :: (mkAgg [(dI 2), (rowF .nil 3 (List.map eI (compactI v41))), (.v (.sl .nil (List.map ep24 []))), (dI 0), (dI 0)]) :: q9 []))))), [(.cells [(dP eI y39.2.1), (dI (w64 (y39.2.2 + 1)))]), b74_0, .dead, (rowO 1 (List.map eI (compactI v41)))]⟩ (by generalize (compactI v41) = z0; cases z0 <;> kernel_rfl) ?_
          refine Ops.on 4 (fun h0 e0 => (st_s (i := ti25) (h := h0) (r := 1) (off := 0) (cs := [(dI 0), (.v (.sl .nil (List.map eI []))), (.v (.sl .nil (List.map ep24 []))), (dI 0), (dI 0)]) (cs' := [(dI 2), (rowF .nil 3 (List.map eI (compactI v41))), (.v (.sl .nil (List.map ep24 []))), (dI 0), (dI 0)]) (ds := [(dI 2), (rowF .nil 3 (List.map eI (compactI v41))), (.v (.sl .nil (List.map ep24 []))), (dI 0), (dI 0)]) (hq_of (g := [(.cells [(dP eI y39.2.1), (dI (w64 (y39.2.2 + 1)))]), b74_0, .dead, (rowO 1 (List.map eI (compactI v41)))]) (e0.trans (by kernel_rfl)) rfl) (by kernel_rfl) (all_sc rfl (all_sc (rowF_sc _ _ _) (all_sc rfl (all_sc rfl (all_sc rfl rfl))))) (by rfl))) ?_
          refine Ops.sg 1 5 ?_
          refine Ops.dn ?_
          refine seqQ.n ?_
          refine Wp.ret (by kernel_rfl) ?_
          refine sqQ.r ?_
          refine sqQ.r ?_
          refine blkQ.r ?_
          refine seqQ.r ?_
          exact fnQP.r' (X74 n) (fun z => (.tuple [e24 z.1, eB z.2])) c58 h (RetOkP.mk' (mkTuple [(mkAgg [(dI 2), (rowF .nil 3 (List.map eI (compactI v41))), (.v (.sl .nil (List.map ep24 []))), (dI 0), (dI 0)]), (dB true)]) (by kernel_rfl) (by kernel_rfl) (by kernel_rfl) (tup_frz [(mkAgg [(dI 2), (rowF .nil 3 (List.map eI (compactI v41))), (.v (.sl .nil (List.map ep24 []))), (dI 0), (dI 0)]), (dB true)] (.d (mkAgg [(dI 2), (rowF .nil 3 (List.map eI (compactI v41))), (.v (.sl .nil (List.map ep24 []))), (dI 0), (dI 0)]) _ (mkAgg_frz (.cons (dI 2) _ (by kernel_rfl) (by kernel_rfl) (.cons (rowF .nil 3 (List.map eI (compactI v41))) _ (row_frz _ _ 3 1 _ (by kernel_rfl)) (rowF_na _ _ _) (.cons (.v (.sl .nil (List.map ep24 []))) _ (by kernel_rfl) (by kernel_rfl) (.cons (dI 0) _ (by kernel_rfl) (by kernel_rfl) (.cons (dI 0) _ (by kernel_rfl) (by kernel_rfl) .nil)))))) (mkAgg_nt _) (.v (vB true) _ (by kernel_rfl) (by kernel_rfl) .nil))))
    · refine Wp.sk ?_
      refine sqQ.n' ?_
      refine sqQ.n' ?_
      refine blkQ.n' ?_
      refine seqQ.n ?_
      refine Wp.sq ?_
      refine Wp.rg ?_
      refine Ops.sg 1 1 ?_
      obtain ⟨v42, ev42, h⟩ := bnd_some h
      refine Ops.on 2 (fun h0 e0 => (call_ptr (E' := E) (h := h0) (q := 0) (cs := c58 a0) (by kernel_rfl) (by kernel_rfl) (by kernel_rfl) (hq_of e0 (by kernel_rfl)) (by kernel_rfl) Args.nil (ok81 m a0 v42 ev42 n (by omega)))) ?_
      refine Ops.sg 5 7 ?_
      refine Ops.dn ?_
      refine seqQ.n ?_
      refine Wp.sq ?_
      refine Wp.rg ?_
      refine Ops.sg 6 6 ?_
      refine Ops.dn ?_
      refine seqQ.n ?_
      refine Wp.ret (by kernel_rfl) ?_
      exact fnQP.r' (X74 n) (fun z => (.tuple [e24 z.1, eB z.2])) c58 h (RetOkP.mk' (.v (.tuple [(.agg [(vI 2), (.sl .nonfull (List.map eI [v42.1.1])), (.sl .nil (List.map ep24 [])), (vI 0), (vI 0)]), (vB v42.1.2)])) (by kernel_rfl) (by kernel_rfl) (by kernel_rfl) (by kernel_rfl))
noncomputable def K28 (m : Nat) : Nat → Rec28
  | 0 => ⟨fun _ _ => none, fun _ _ => none, fun _ _ => none, fun _ _ => none, fun _ _ => none⟩
  | r + 1 => ⟨fun a0 a1 => b28 m (K28 m r) a0 a1, fun a0 a1 => b45 m (K28 m r) a0 a1, fun a0 a1 => b61 m (K28 m r) a0 a1, fun a0 a1 => b67 m (K28 m r) a0 a1, fun a0 a1 => b74 m (K28 m r) a0 a1⟩
theorem okK28 (m : Nat) : ∀ r, OkRec28 m (K28 m r) (m + 3 + r)
  | 0 => ⟨fun _ _ o h => (by cases h), fun _ _ o h => (by cases h), fun _ _ o h => (by cases h), fun _ _ o h => (by cases h), fun _ _ o h => (by cases h)⟩
  | r + 1 => ⟨fun a0 a1 o h n hn => okb28 m (K28 m r) (m + 3 + r) (okK28 m r) a0 a1 o h n (by omega) (by omega), fun a0 a1 o h n hn => okb45 m (K28 m r) (m + 3 + r) (okK28 m r) a0 a1 o h n (by omega) (by omega), fun a0 a1 o h n hn => okb61 m (K28 m r) (m + 3 + r) (okK28 m r) a0 a1 o h n (by omega) (by omega), fun a0 a1 o h n hn => okb67 m (K28 m r) (m + 3 + r) (okK28 m r) a0 a1 o h n (by omega) (by omega), fun a0 a1 o h n hn => okb74 m (K28 m r) (m + 3 + r) (okK28 m r) a0 a1 o h n (by omega) (by omega)⟩
noncomputable def f28 (m : Nat) (a0 : S58) (a1 : Int) : Option ((S24 × Bool) × S58) := (K28 m m).r28 a0 a1
theorem ok28 (m : Nat) (a0 : S58) (a1 : Int) (o : ((S24 × Bool) × S58)) (h : f28 m a0 a1 = some o) (n : Nat) (hn : 2 * m + 3 ≤ n) : FnP Proofs.Tryd.prog E n 28 (c58 a0) [.v (eI a1)] (.tuple [e24 o.1.1, eB o.1.2]) (c58 o.2) := (okK28 m m).ok28 a0 a1 o h n (by omega)
noncomputable def f45 (m : Nat) (a0 : S58) (a1 : Int) : Option ((S24 × Bool) × S58) := (K28 m m).r45 a0 a1
theorem ok45 (m : Nat) (a0 : S58) (a1 : Int) (o : ((S24 × Bool) × S58)) (h : f45 m a0 a1 = some o) (n : Nat) (hn : 2 * m + 3 ≤ n) : FnP Proofs.Tryd.prog E n 45 (c58 a0) [.v (eI a1)] (.tuple [e24 o.1.1, eB o.1.2]) (c58 o.2) := (okK28 m m).ok45 a0 a1 o h n (by omega)
noncomputable def f61 (m : Nat) (a0 : S58) (a1 : Int) : Option ((S24 × Bool) × S58) := (K28 m m).r61 a0 a1
theorem ok61 (m : Nat) (a0 : S58) (a1 : Int) (o : ((S24 × Bool) × S58)) (h : f61 m a0 a1 = some o) (n : Nat) (hn : 2 * m + 3 ≤ n) : FnP Proofs.Tryd.prog E n 61 (c58 a0) [.v (eI a1)] (.tuple [e24 o.1.1, eB o.1.2]) (c58 o.2) := (okK28 m m).ok61 a0 a1 o h n (by omega)
noncomputable def f67 (m : Nat) (a0 : S58) (a1 : Int) : Option ((S24 × Bool) × S58) := (K28 m m).r67 a0 a1
theorem ok67 (m : Nat) (a0 : S58) (a1 : Int) (o : ((S24 × Bool) × S58)) (h : f67 m a0 a1 = some o) (n : Nat) (hn : 2 * m + 3 ≤ n) : FnP Proofs.Tryd.prog E n 67 (c58 a0) [.v (eI a1)] (.tuple [e24 o.1.1, eB o.1.2]) (c58 o.2) := (okK28 m m).ok67 a0 a1 o h n (by omega)
noncomputable def f74 (m : Nat) (a0 : S58) (a1 : Int) : Option ((S24 × Bool) × S58) := (K28 m m).r74 a0 a1
theorem ok74 (m : Nat) (a0 : S58) (a1 : Int) (o : ((S24 × Bool) × S58)) (h : f74 m a0 a1 = some o) (n : Nat) (hn : 2 * m + 3 ≤ n) : FnP Proofs.Tryd.prog E n 74 (c58 a0) [.v (eI a1)] (.tuple [e24 o.1.1, eB o.1.2]) (c58 o.2) := (okK28 m m).ok74 a0 a1 o h n (by omega)

/-! ### 13 glosswright/pattern.Parse -/
noncomputable def f13_r1 (m : Nat) (v2 : ((S24 × Bool) × S58)) (v13 : Bool) : Option (S24 × S27) :=
  cnd v13
  (bnd (f23 m 11 v2.2.fAt) fun v15 =>
  some (((⟨0, [], [], 0, 0⟩ : S24), v15)))
  (bnd (f9 m v2.1.1) fun v16 =>
  cnd (!((v16.fCode == 0) && ((v16.fIndex == 0) && true)))
  (some (((⟨0, [], [], 0, 0⟩ : S24), v16)))
  (some ((v2.1.1, (⟨0, 0⟩ : S27)))))
noncomputable def f13 (m : Nat) (a0 : ByteArray) : Option (S24 × S27) :=
  bnd (f27 m a0) fun v1 =>
  cnd (!((v1.2.fCode == 0) && ((v1.2.fIndex == 0) && true)))
  (some (((⟨0, [], [], 0, 0⟩ : S24), v1.2)))
  (bnd (f28 m ((⟨v1.1, 0⟩ : S58)) 1) fun v2 =>
  f13_r1 m v2 ((!v2.1.2) || (decide (v2.2.fAt < (v1.1.length : Int)))))
noncomputable abbrev X13 (n : Nat) : Cx := cxOf Proofs.Tryd.prog E 13 n
noncomputable def C13 : Code := bodyOf Proofs.Tryd.prog 13
theorem ok13 (m : Nat) (a0 : ByteArray) (o : (S24 × S27)) (h : f13 m a0 = some o) (n : Nat) (hn : 2 * m + 4 ≤ n) : Fn Proofs.Tryd.prog E n 13 [.v (eS a0)] (.tuple [e24 o.1, e27 o.2]) := by
  obtain ⟨n, rfl⟩ : ∃ q, n = q + 1 := ⟨n - 1, by omega⟩
  unfold f13 at h
  refine Fn.of (by kernel_rfl) (by kernel_rfl) (by kernel_rfl) ⟨(.v (.str a0)) :: u40 (u13 []), []⟩ (by kernel_rfl) ?_
  refine Wp.sq ?_
  refine Wp.rg ?_
  refine Ops.sg 2 2 ?_
  refine Ops.dn ?_
  refine seqQ.n ?_
  refine Wp.sq ?_
  refine Wp.rg ?_
  refine Ops.sg 1 1 ?_
  obtain ⟨v1, ev1, h⟩ := bnd_some h
  refine Ops.on 2 (fun h0 e0 => (call_ok (E' := E) (h := h0) (by kernel_rfl) (Args.v (.str a0) (eS a0) (by kernel_rfl) Args.nil) (ok27 m a0 v1 ev1 n (by omega)))) ?_
  refine Ops.sg 6 8 ?_
  refine Ops.dn ?_
  refine seqQ.n ?_
  refine Wp.sq ?_
  refine Wp.sq ?_
  refine Wp.rg ?_
  refine Ops.sg 3 3 ?_
  refine Ops.dn ?_
  refine seqQ.n ?_
  refine Wp.cnd h [2, 3, 4] 3 (by kernel_rfl) (fun h => ?_) (fun h => ?_)
  · refine Wp.sq ?_
    refine Wp.regionF (by kernel_rfl) ?_
    refine Ops.sg 4 4 ?_
    refine Ops.dn ?_
    refine seqQ.n ?_
    refine Wp.ret (by kernel_rfl) ?_
    refine sqQ.r ?_
    refine seqQ.r ?_
    exact fnQ.r' (X13 n) (fun z => (.tuple [e24 z.1, e27 z.2])) h (RetOk.mk' (.v (.tuple [(.agg [(vI 0), (.sl .nil (List.map eI [])), (.sl .nil (List.map ep24 [])), (vI 0), (vI 0)]), (.agg [(vI v1.2.fCode), (vI v1.2.fIndex)])])) (by kernel_rfl) (by kernel_rfl))
  · refine Wp.sk ?_
    refine sqQ.n' ?_
    refine seqQ.n ?_
    refine Wp.sq ?_
    refine Wp.rg ?_
    refine Ops.sg 4 4 ?_
    refine Ops.dn ?_
    refine seqQ.n ?_
    refine Wp.sq ?_
    refine Wp.rg ?_
    refine Ops.sg 1 1 ?_
    obtain ⟨v2, ev2, h⟩ := bnd_some h
    refine Ops.on 2 (fun h0 e0 => (call_ptr (E' := E) (h := h0) (q := 3) (cs := c58 ((⟨v1.1, 0⟩ : S58))) (by kernel_rfl) (by kernel_rfl) (by kernel_rfl) (hq_of e0 (by kernel_rfl)) (by kernel_rfl) (Args.v (vI 1) (eI 1) (by kernel_rfl) Args.nil) (ok28 m ((⟨v1.1, 0⟩ : S58)) 1 v2 ev2 n (by omega)))) ?_
    refine Ops.sg 6 8 ?_
    refine Ops.dn ?_
    refine seqQ.n ?_
    refine Wp.sq ?_
    refine Wp.sq ?_
    refine Wp.rg ?_
    refine Ops.sg 3 3 ?_
    refine Ops.hv (fun KQ => ∀ (d5 d6 d7 d8 d9 d10 d11 : D) (v12 : Bool) (v13 : Bool), f13_r1 m v2 v13 = some o → KQ 11 ⟨(.v (.str a0)) :: u1 ((.ptr 0 0) :: (.ptr 1 0) :: (dP eI v1.1) :: (.ptr 2 0) :: (.ptr 3 0) :: (.ptr 4 0) :: (dB v2.1.2) :: u1 ((.v (.tuple [(vP eI v1.1), (.agg [(vI v1.2.fCode), (vI v1.2.fIndex)])])) :: (.v (.str a0)) :: (.v (.tuple [(vP eI v1.1), (.agg [(vI v1.2.fCode), (vI v1.2.fIndex)])])) :: (dP eI v1.1) :: (.v (.agg [(vI v1.2.fCode), (vI v1.2.fIndex)])) :: (.v (.agg [(vI v1.2.fCode), (vI v1.2.fIndex)])) :: (.v (.agg [(vI 0), (vI 0)])) :: (dB (!((v1.2.fCode == 0) && ((v1.2.fIndex == 0) && true)))) :: u2 ((dP eI v1.1) :: (.v (.agg [(vP eI v1.1), (vI 0)])) :: (.ptr 3 0) :: (.v (.tuple [(.agg [(vI v2.1.1.fKind), (vP eI v2.1.1.fLabels), (vP ep24 v2.1.1.fSubs), (vI v2.1.1.fLeast), (vI v2.1.1.fMost)]), (vB v2.1.2)])) :: (.ptr 3 0) :: (.v (.tuple [(.agg [(vI v2.1.1.fKind), (vP eI v2.1.1.fLabels), (vP ep24 v2.1.1.fSubs), (vI v2.1.1.fLeast), (vI v2.1.1.fMost)]), (vB v2.1.2)])) :: (.v (.agg [(vI v2.1.1.fKind), (vP eI v2.1.1.fLabels), (vP ep24 v2.1.1.fSubs), (vI v2.1.1.fLeast), (vI v2.1.1.fMost)])) :: (dB v2.1.2) :: (dB v2.1.2) :: (dB v12) :: (dB v12) :: d5 :: d6 :: d7 :: d8 :: d9 :: d10 :: d11 :: (dB v13) :: u15 []))), [(.cells [(dI 0), (.v (.sl .nil (List.map eI []))), (.v (.sl .nil (List.map ep24 []))), (dI 0), (dI 0)]), (.cells [(dI 0), (dI 0)]), (.cells [(dI v1.2.fCode), (dI v1.2.fIndex)]), (.cells [(dP eI v2.2.fL), (dI v2.2.fAt)]), (.cells [(dI v2.1.1.fKind), (dP eI v2.1.1.fLabels), (dP ep24 v2.1.1.fSubs), (dI v2.1.1.fLeast), (dI v2.1.1.fMost)])]⟩) ?_ fun J13j14 => ?_
    · intro d5 d6 d7 d8 d9 d10 d11 v12 v13 h
      unfold f13_r1 at h
      refine Ops.dn ?_
      refine seqQ.n ?_
      refine Wp.cnd h [2, 3, 7] 5 (by kernel_rfl) (fun h => ?_) (fun h => ?_)
      · refine Wp.sq ?_
        refine Wp.rg ?_
        refine Ops.sg 5 5 ?_
        obtain ⟨v15, ev15, h⟩ := bnd_some h
        refine Ops.on 6 (fun h0 e0 => (call_ok (E' := E) (h := h0) (by kernel_rfl) (Args.v (vI 11) (eI 11) (by kernel_rfl) (Args.v (vI v2.2.fAt) (eI v2.2.fAt) (by kernel_rfl) Args.nil)) (ok23 m 11 v2.2.fAt v15 ev15 n (by omega)))) ?_
        refine Ops.sg 2 8 ?_
        refine Ops.dn ?_
        refine seqQ.n ?_
        refine Wp.ret (by kernel_rfl) ?_
        refine sqQ.r ?_
        refine seqQ.r ?_
        exact fnQ.r' (X13 n) (fun z => (.tuple [e24 z.1, e27 z.2])) h (RetOk.mk' (.v (.tuple [(.agg [(vI 0), (.sl .nil (List.map eI [])), (.sl .nil (List.map ep24 [])), (vI 0), (vI 0)]), (.agg [(vI v15.fCode), (vI v15.fIndex)])])) (by kernel_rfl) (by kernel_rfl))
      · refine Wp.sk ?_
        refine sqQ.n' ?_
        refine seqQ.n ?_
        refine Wp.sq ?_
        refine Wp.sq ?_
        refine Wp.rg ?_
        refine Ops.sg 1 1 ?_
        obtain ⟨v16, ev16, h⟩ := bnd_some h
        refine Ops.on 2 (fun h0 e0 => (call_ok (E' := E) (h := h0) (by kernel_rfl) (Args.v (.agg [(vI v2.1.1.fKind), (vP eI v2.1.1.fLabels), (vP ep24 v2.1.1.fSubs), (vI v2.1.1.fLeast), (vI v2.1.1.fMost)]) (e24 v2.1.1) (by kernel_rfl) Args.nil) (ok9 m v2.1.1 v16 ev16 n (by omega)))) ?_
        refine Ops.sg 2 4 ?_
        refine Ops.dn ?_
        refine seqQ.n ?_
        refine Wp.sq ?_
        refine Wp.rg ?_
        refine Ops.sg 3 3 ?_
        refine Ops.dn ?_
        refine seqQ.n ?_
        refine Wp.cnd h [2, 3, 7] 6 (by kernel_rfl) (fun h => ?_) (fun h => ?_)
        · refine Wp.sq ?_
          refine Wp.regionF (by kernel_rfl) ?_
          refine Ops.sg 4 4 ?_
          refine Ops.dn ?_
          refine seqQ.n ?_
          refine Wp.ret (by kernel_rfl) ?_
          refine sqQ.r ?_
          refine seqQ.r ?_
          exact fnQ.r' (X13 n) (fun z => (.tuple [e24 z.1, e27 z.2])) h (RetOk.mk' (.v (.tuple [(.agg [(vI 0), (.sl .nil (List.map eI [])), (.sl .nil (List.map ep24 [])), (vI 0), (vI 0)]), (.agg [(vI v16.fCode), (vI v16.fIndex)])])) (by kernel_rfl) (by kernel_rfl))
        · refine Wp.sk ?_
          refine sqQ.n' ?_
          refine seqQ.n ?_
          refine Wp.sq ?_
          refine Wp.rg ?_
          refine Ops.sg 4 4 ?_
          refine Ops.dn ?_
          refine seqQ.n ?_
          refine Wp.ret (by kernel_rfl) ?_
          exact fnQ.r' (X13 n) (fun z => (.tuple [e24 z.1, e27 z.2])) h (RetOk.mk' (.v (.tuple [(.agg [(vI v2.1.1.fKind), (vP eI v2.1.1.fLabels), (vP ep24 v2.1.1.fSubs), (vI v2.1.1.fLeast), (vI v2.1.1.fMost)]), (.agg [(vI 0), (vI 0)])])) (by kernel_rfl) (by kernel_rfl))
    refine Ops.hv (fun KQ => ∀ v3 : Bool, f13_r1 m v2 (v3 || (decide (v2.2.fAt < (v1.1.length : Int)))) = some o → KQ 3 ⟨(.v (.str a0)) :: u1 ((.ptr 0 0) :: (.ptr 1 0) :: (dP eI v1.1) :: (.ptr 2 0) :: (.ptr 3 0) :: (.ptr 4 0) :: (dB v2.1.2) :: u1 ((.v (.tuple [(vP eI v1.1), (.agg [(vI v1.2.fCode), (vI v1.2.fIndex)])])) :: (.v (.str a0)) :: (.v (.tuple [(vP eI v1.1), (.agg [(vI v1.2.fCode), (vI v1.2.fIndex)])])) :: (dP eI v1.1) :: (.v (.agg [(vI v1.2.fCode), (vI v1.2.fIndex)])) :: (.v (.agg [(vI v1.2.fCode), (vI v1.2.fIndex)])) :: (.v (.agg [(vI 0), (vI 0)])) :: (dB (!((v1.2.fCode == 0) && ((v1.2.fIndex == 0) && true)))) :: u2 ((dP eI v1.1) :: (.v (.agg [(vP eI v1.1), (vI 0)])) :: (.ptr 3 0) :: (.v (.tuple [(.agg [(vI v2.1.1.fKind), (vP eI v2.1.1.fLabels), (vP ep24 v2.1.1.fSubs), (vI v2.1.1.fLeast), (vI v2.1.1.fMost)]), (vB v2.1.2)])) :: (.ptr 3 0) :: (.v (.tuple [(.agg [(vI v2.1.1.fKind), (vP eI v2.1.1.fLabels), (vP ep24 v2.1.1.fSubs), (vI v2.1.1.fLeast), (vI v2.1.1.fMost)]), (vB v2.1.2)])) :: (.v (.agg [(vI v2.1.1.fKind), (vP eI v2.1.1.fLabels), (vP ep24 v2.1.1.fSubs), (vI v2.1.1.fLeast), (vI v2.1.1.fMost)])) :: (dB v2.1.2) :: (dB v2.1.2) :: (dB v3) :: (dB v3) :: u23 []))), [(.cells [(dI 0), (.v (.sl .nil (List.map eI []))), (.v (.sl .nil (List.map ep24 []))), (dI 0), (dI 0)]), (.cells [(dI 0), (dI 0)]), (.cells [(dI v1.2.fCode), (dI v1.2.fIndex)]), (.cells [(dP eI v2.2.fL), (dI v2.2.fAt)]), (.cells [(dI v2.1.1.fKind), (dP eI v2.1.1.fLabels), (dP ep24 v2.1.1.fSubs), (dI v2.1.1.fLeast), (dI v2.1.1.fMost)])]⟩) ?_ fun G13g4 => Ops.st _ (by kernel_rfl) (G13g4 (!v2.1.2) h)
    intro v3 h
    cases v3
    · refine Ops.sg 5 8 ?_
      refine Ops.on 9 (fun h0 e0 => (len_r (T := T) h0 22 3 .plain eI v1.1 (by kernel_rfl))) ?_
      refine Ops.sg 2 11 ?_
      exact Ops.st _ (by kernel_rfl) (J13j14 (.ptr 3 0) (.ptr 3 0) (.ptr 3 1) (dI v2.2.fAt) (dP eI v1.1) (dI (v1.1.length : Int)) (dB (decide (v2.2.fAt < (v1.1.length : Int)))) false (decide (v2.2.fAt < (v1.1.length : Int))) h)
    · refine Ops.sg 8 11 ?_
      exact Ops.st _ (by kernel_rfl) (J13j14 U U U U U U U true true h)

/-! ### 32 glosswright/glosswrightequal.Numbers -/
noncomputable def f32_B1 (m : Nat) (a0 : (List Int)) (a1 : (List Int)) (v6 : Int) : Option (Stp Bool (Int)) :=
  cnd (decide (v6 < (a0.length : Int)))
  (bnd (idx a0 v6) fun v16 =>
  bnd (idx a1 v6) fun v17 =>
  cnd (v16 != v17)
  (some (.ret false))
  (some (.nxt (w64 (v6 + 1)))))
  (some (.brk v6))
noncomputable def f32 (m : Nat) (a0 : (List Int)) (a1 : (List Int)) : Option Bool :=
  cnd ((a0.length : Int) != (a1.length : Int))
  (some false)
  (brk (iter (fun (y : Int) => f32_B1 m a0 a1 y) m 0) some fun y19 =>
  some true)
noncomputable abbrev X32 (n : Nat) : Cx := cxOf Proofs.Tryd.prog E 32 n
noncomputable def C32 : Code := bodyOf Proofs.Tryd.prog 32
theorem ok32 (m : Nat) (a0 : (List Int)) (a1 : (List Int)) (o : Bool) (h : f32 m a0 a1 = some o) (n : Nat) (hn : m + 1 ≤ n) : Fn Proofs.Tryd.prog E n 32 [.v ((eL eI) a0), .v ((eL eI) a1)] (eB o) := by
  obtain ⟨n, rfl⟩ : ∃ q, n = q + 1 := ⟨n - 1, by omega⟩
  unfold f32 at h
  refine Fn.of (by kernel_rfl) (by kernel_rfl) (by kernel_rfl) ⟨(dP eI a0) :: (dP eI a1) :: u24 [], []⟩ (by kernel_rfl) ?_
  refine Wp.sq ?_
  refine Wp.rg ?_
  refine Ops.sg 1 1 ?_
  refine Ops.dn ?_
  refine seqQ.n ?_
  refine Wp.sq ?_
  refine Wp.sq ?_
  refine Wp.rg ?_
  refine Ops.sg 1 1 ?_
  refine Ops.on 2 (fun h0 e0 => (len_r (T := T) h0 22 3 .plain eI a0 (by kernel_rfl))) ?_
  refine Ops.sg 1 3 ?_
  refine Ops.on 4 (fun h0 e0 => (len_r (T := T) h0 22 3 .plain eI a1 (by kernel_rfl))) ?_
  refine Ops.sg 1 5 ?_
  refine Ops.dn ?_
  refine seqQ.n ?_
  refine Wp.cnd h [0, 1, 4] 0 (by kernel_rfl) (fun h => ?_) (fun h => ?_)
  · refine Wp.sq ?_
    refine Wp.rg ?_
    refine Ops.sg 1 1 ?_
    refine Ops.dn ?_
    refine seqQ.n ?_
    refine Wp.ret (by kernel_rfl) ?_
    refine sqQ.r ?_
    refine seqQ.r ?_
    exact fnQ.r' (X32 n) (fun z => (eB z)) h (RetOk.mk' (dB false) (by kernel_rfl) (by kernel_rfl))
  · refine Wp.sk ?_
    refine sqQ.n' ?_
    refine seqQ.n ?_
    refine Wp.sq ?_
    refine Wp.sq ?_
    refine Wp.rg ?_
    refine Ops.sg 1 1 ?_
    refine Ops.on 2 (fun h0 e0 => (len_r (T := T) h0 22 3 .plain eI a0 (by kernel_rfl))) ?_
    refine Ops.sg 1 3 ?_
    refine Ops.dn ?_
    refine seqQ.n ?_
    refine Wp.block' 0 [4] 0 (by kernel_rfl) ?_
    have hLx18 : ∀ (kx8 : Nat) (v6 : Int)  (ox7 : Bool ⊕ (Int)), iter (fun (y : Int) => f32_B1 m a0 a1 y) kx8 v6 = some ox7 → ∀ nx9, kx8 ≤ nx9 → (∀ r, ox7 = .inl r → ∀ σ, RetOk (X32 n) (resOf Proofs.Tryd.prog 32) (eB r) σ → (seqQ (X32 n) (cR (cR (cR C32))) (fnQ (X32 n).E.T (resOf Proofs.Tryd.prog 32) (eB o))) .ret σ) → (∀ (y : Int) , ox7 = .inr y → (seqQ (X32 n) (cR (cR (cR C32))) (fnQ (X32 n).E.T (resOf Proofs.Tryd.prog 32) (eB o))) .normal ⟨(dP eI a0) :: (dP eI a1) :: q2 ((dB false) :: q7 ((dI (a0.length : Int)) :: (dI y) :: q12 [])), []⟩) → Lp (X32 n) [0, 1, 4, 12, 13] 0 (cL (cL (cR (cL (cR (cR C32)))))) nx9 ⟨(dP eI a0) :: (dP eI a1) :: q2 ((dB false) :: q7 ((dI (a0.length : Int)) :: (dI v6) :: q12 [])), []⟩ (blkQ (X32 n) 0 [4] 0 (seqQ (X32 n) (cR (cR (cR C32))) (fnQ (X32 n).E.T (resOf Proofs.Tryd.prog 32) (eB o)))) := by
      intro kx8
      induction kx8 with
      | zero => intro v6  ox7 h; exact (iter_zero h).elim
      | succ kx8 ihx10 =>
        intro v6  ox7 h nx9 hnx13 hrx11 hxx12
        obtain ⟨nx9, rfl⟩ : ∃ q, nx9 = q + 1 := ⟨nx9 - 1, by omega⟩
        obtain ⟨sx14, h, hsx15⟩ := iter_some h
        have h : f32_B1 m a0 a1 v6 = some sx14 := h
        unfold f32_B1 at h
        refine Lp.succ ?_
        refine Wp.sq ?_
        refine Wp.rg ?_
        refine Ops.sg 1 1 ?_
        refine Ops.dn ?_
        refine seqQ.n ?_
        refine Wp.sq ?_
        refine Wp.cnd h [0, 1, 4, 12, 13] 0 (by kernel_rfl) (fun h => ?_) (fun h => ?_)
        · refine Wp.sk ?_
          refine sqQ.n' ?_
          refine seqQ.n ?_
          refine Wp.sq ?_
          refine Wp.block' 1 [0, 1, 4, 12, 13] 0 (by kernel_rfl) ?_
          refine Wp.sq ?_
          refine Wp.rg ?_
          refine Ops.sg 2 2 ?_
          refine Ops.dn ?_
          refine seqQ.n ?_
          refine Wp.sq ?_
          refine Wp.rg ?_
          refine Ops.sg 2 2 ?_
          obtain ⟨v16, ev16, h⟩ := bnd_some h
          refine Ops.on 3 (fun h0 e0 => (ix_r (T := T) h0 22 3 1 .plain eI a0 v6 v16 ev16 (by kernel_rfl) (by kernel_rfl) (fun _ => rfl))) ?_
          refine Ops.sg 3 6 ?_
          obtain ⟨v17, ev17, h⟩ := bnd_some h
          refine Ops.on 7 (fun h0 e0 => (ix_r (T := T) h0 22 3 1 .plain eI a1 v6 v17 ev17 (by kernel_rfl) (by kernel_rfl) (fun _ => rfl))) ?_
          refine Ops.sg 2 9 ?_
          refine Ops.dn ?_
          refine seqQ.n ?_
          refine Wp.cnd h [0, 1, 4, 12, 13] 0 (by kernel_rfl) (fun h => ?_) (fun h => ?_)
          · refine Wp.sq ?_
            refine Wp.rg ?_
            refine Ops.sg 1 1 ?_
            refine Ops.dn ?_
            refine seqQ.n ?_
            refine Wp.ret (by kernel_rfl) ?_
            refine sqQ.r ?_
            refine blkQ.r ?_
            refine seqQ.r ?_
            cases h
            refine lpQ.r ?_
            refine blkQ.r ?_
            exact hrx11 _ hsx15 _ (RetOk.forget [0, 1, 4, 12, 13] (by kernel_rfl) (RetOk.mk' (dB false) (by kernel_rfl) (by kernel_rfl)))
          · refine Wp.sk ?_
            refine sqQ.n' ?_
            refine blkQ.n' ?_
            refine seqQ.n ?_
            refine Wp.rg ?_
            refine Ops.sg 2 2 ?_
            refine Ops.dn ?_
            refine lpQ.n ⟨(dP eI a0) :: (dP eI a1) :: q2 ((dB false) :: q7 ((dI (a0.length : Int)) :: (dI (w64 (v6 + 1))) :: q12 [])), []⟩ (by kernel_rfl) ?_
            cases h
            exact ihx10 (w64 (v6 + 1))  _ hsx15 _ (by omega) hrx11 hxx12
        · refine Wp.exit (id := 0) (by kernel_rfl) ?_
          refine sqQ.x ?_
          refine seqQ.x ?_
          cases h
          refine lpQ.x ?_
          refine blkQ.x ⟨(dP eI a0) :: (dP eI a1) :: q2 ((dB false) :: q7 ((dI (a0.length : Int)) :: (dI v6) :: q12 [])), []⟩ (by kernel_rfl) ?_
          exact hxx12 v6  hsx15
    refine Wp.loop' [0, 1, 4, 12, 13] 0 (by kernel_rfl) ⟨(dP eI a0) :: (dP eI a1) :: q2 ((dB false) :: q7 ((dI (a0.length : Int)) :: (dI 0) :: q12 [])), []⟩ (by kernel_rfl) ?_
    rcases brk_some h with ⟨r20, er20, h⟩ | ⟨y19, ey19, h⟩
    · refine hLx18 _ 0  _ er20 n (by omega) (fun r er σ hσ => ?_) (fun y  ey => by cases ey)
      cases er
      refine seqQ.r ?_
      exact fnQ.r' (X32 n) (fun z => (eB z)) h hσ
    · refine hLx18 _ 0  _ ey19 n (by omega) (fun r er => by cases er) (fun y  ey => ?_)
      cases ey
      refine seqQ.n ?_
      refine Wp.sq ?_
      refine Wp.rg ?_
      refine Ops.sg 1 1 ?_
      refine Ops.dn ?_
      refine seqQ.n ?_
      refine Wp.ret (by kernel_rfl) ?_
      exact fnQ.r' (X32 n) (fun z => (eB z)) h (RetOk.mk' (dB true) (by kernel_rfl) (by kernel_rfl))

/-! ### a group of functions: glosswright/glosswrightequal.Patterns -/
structure Rec15 where
  r15 : S24 → S24 → Int → Option Bool
structure OkRec15 (m : Nat) (K : Rec15) (nn : Nat) : Prop where
  ok15 : ∀ (a0 : S24) (a1 : S24) (a2 : Int) (o : Bool), K.r15 a0 a1 a2 = some o → ∀ n, nn ≤ n → Fn Proofs.Tryd.prog E n 15 [.v (e24 a0), .v (e24 a1), .v (eI a2)] (eB o)
/-! ### 15 glosswright/glosswrightequal.Patterns -/
noncomputable def f15_B1 (m : Nat) (K : Rec15) (a0 : S24) (a1 : S24) (a2 : Int) (v61 : Int) : Option (Stp Bool (Int)) :=
  cnd (decide (v61 < (a0.fSubs.length : Int)))
  (bnd (idx a0.fSubs v61) fun v71 =>
  bnd (idx a1.fSubs v61) fun v72 =>
  bnd (K.r15 v71.vw v72.vw (w64 (a2 - 1))) fun v73 =>
  cnd (!v73)
  (some (.ret false))
  (some (.nxt (w64 (v61 + 1)))))
  (some (.brk v61))
noncomputable def f15_r2 (m : Nat) (K : Rec15) (a0 : S24) (a1 : S24) (a2 : Int) (v52 : Bool) : Option Bool :=
  cnd v52
  (some false)
  (brk (iter (fun (y : Int) => f15_B1 m K a0 a1 a2 y) m 0) some fun y75 =>
  some true)
noncomputable def f15_r3 (m : Nat) (K : Rec15) (a0 : S24) (a1 : S24) (a2 : Int) (v40 : Bool) : Option Bool :=
  f15_r2 m K a0 a1 a2 (v40 || ((a0.fSubs.length : Int) != (a1.fSubs.length : Int)))
noncomputable def f15_r4 (m : Nat) (K : Rec15) (a0 : S24) (a1 : S24) (a2 : Int) (v29 : Bool) : Option Bool :=
  bnd (cnd v29
  (some true)
  (bnd (f32 m a0.fLabels a1.fLabels) fun v77 =>
  some (!v77))) fun v40 =>
  f15_r3 m K a0 a1 a2 v40
noncomputable def f15_r5 (m : Nat) (K : Rec15) (a0 : S24) (a1 : S24) (a2 : Int) (v19 : Bool) : Option Bool :=
  f15_r4 m K a0 a1 a2 (v19 || (a0.fMost != a1.fMost))
noncomputable def f15_r6 (m : Nat) (K : Rec15) (a0 : S24) (a1 : S24) (a2 : Int) (v9 : Bool) : Option Bool :=
  f15_r5 m K a0 a1 a2 (v9 || (a0.fLeast != a1.fLeast))
noncomputable def b15 (m : Nat) (K : Rec15) (a0 : S24) (a1 : S24) (a2 : Int) : Option Bool :=
  f15_r6 m K a0 a1 a2 ((a2 == 0) || (a0.fKind != a1.fKind))
noncomputable abbrev X15 (n : Nat) : Cx := cxOf Proofs.Tryd.prog E 15 n
noncomputable def C15 : Code := bodyOf Proofs.Tryd.prog 15
noncomputable abbrev b15_0 (w0 : S24) : AObj := .cells [(dI w0.fKind), (dP eI w0.fLabels), (dP ep24 w0.fSubs), (dI w0.fLeast), (dI w0.fMost)]
noncomputable abbrev k15_0 : List Nat := [2, 3, 4, 6, 50, 51]
theorem okb15 (m : Nat) (K : Rec15) (nn : Nat) (hK : OkRec15 m K nn) (a0 : S24) (a1 : S24) (a2 : Int) (o : Bool) (h : b15 m K a0 a1 a2 = some o) (n : Nat) (hn : m + 2 ≤ n) (hk : nn + 1 ≤ n) : Fn Proofs.Tryd.prog E n 15 [.v (e24 a0), .v (e24 a1), .v (eI a2)] (eB o) := by
  obtain ⟨n, rfl⟩ : ∃ q, n = q + 1 := ⟨n - 1, by omega⟩
  unfold b15 at h
  refine Fn.of (by kernel_rfl) (by kernel_rfl) (by kernel_rfl) ⟨(.v (.agg [(vI a0.fKind), (vP eI a0.fLabels), (vP ep24 a0.fSubs), (vI a0.fLeast), (vI a0.fMost)])) :: (.v (.agg [(vI a1.fKind), (vP eI a1.fLabels), (vP ep24 a1.fSubs), (vI a1.fLeast), (vI a1.fMost)])) :: (dI a2) :: u40 (u26 []), []⟩ (by kernel_rfl) ?_
  refine Wp.sq ?_
  refine Wp.rg ?_
  refine Ops.sg 3 3 ?_
  refine Ops.dn ?_
  refine seqQ.n ?_
  refine Wp.sq ?_
  refine Wp.sq ?_
  refine Wp.rg ?_
  refine Ops.sg 3 3 ?_
  refine Ops.hv (fun KQ => ∀ (d3 d4 d5 d6 d7 : D) (v8 : Bool) (v9 : Bool), f15_r6 m K a0 a1 a2 v9 = some o → KQ 9 ⟨(.v (.agg [(vI a0.fKind), (vP eI a0.fLabels), (vP ep24 a0.fSubs), (vI a0.fLeast), (vI a0.fMost)])) :: (.v (.agg [(vI a1.fKind), (vP eI a1.fLabels), (vP ep24 a1.fSubs), (vI a1.fLeast), (vI a1.fMost)])) :: (dI a2) :: (.ptr 0 0) :: (.ptr 1 0) :: u1 ((dB false) :: u1 ((dI a2) :: (dB v8) :: (dB v8) :: d3 :: d4 :: d5 :: d6 :: d7 :: (dB v9) :: u40 (u12 []))), [(b15_0 a0), (b15_0 a1)]⟩) ?_ fun J15j10 => ?_
  · intro d3 d4 d5 d6 d7 v8 v9 h
    unfold f15_r6 at h
    refine Ops.sg 1 10 ?_
    refine Ops.hv (fun KQ => ∀ (d13 d14 d15 d16 d17 : D) (v18 : Bool) (v19 : Bool), f15_r5 m K a0 a1 a2 v19 = some o → KQ 16 ⟨(.v (.agg [(vI a0.fKind), (vP eI a0.fLabels), (vP ep24 a0.fSubs), (vI a0.fLeast), (vI a0.fMost)])) :: (.v (.agg [(vI a1.fKind), (vP eI a1.fLabels), (vP ep24 a1.fSubs), (vI a1.fLeast), (vI a1.fMost)])) :: (dI a2) :: (.ptr 0 0) :: (.ptr 1 0) :: u1 ((dB false) :: u1 ((dI a2) :: (dB v8) :: (dB v8) :: d3 :: d4 :: d5 :: d6 :: d7 :: (dB v18) :: (dB v18) :: d13 :: d14 :: d15 :: d16 :: d17 :: (dB v19) :: u40 (u5 []))), [(b15_0 a0), (b15_0 a1)]⟩) ?_ fun J15j20 => ?_
    · intro d13 d14 d15 d16 d17 v18 v19 h
      unfold f15_r5 at h
      refine Ops.sg 1 17 ?_
      refine Ops.hv (fun KQ => ∀ (d23 d24 d25 d26 d27 : D) (v28 : Bool) (v29 : Bool), f15_r4 m K a0 a1 a2 v29 = some o → KQ 23 ⟨(.v (.agg [(vI a0.fKind), (vP eI a0.fLabels), (vP ep24 a0.fSubs), (vI a0.fLeast), (vI a0.fMost)])) :: (.v (.agg [(vI a1.fKind), (vP eI a1.fLabels), (vP ep24 a1.fSubs), (vI a1.fLeast), (vI a1.fMost)])) :: (dI a2) :: (.ptr 0 0) :: (.ptr 1 0) :: u1 ((dB false) :: u1 ((dI a2) :: (dB v8) :: (dB v8) :: d3 :: d4 :: d5 :: d6 :: d7 :: (dB v18) :: (dB v18) :: d13 :: d14 :: d15 :: d16 :: d17 :: (dB v28) :: (dB v28) :: d23 :: d24 :: d25 :: d26 :: d27 :: (dB v29) :: u38 [])), [(b15_0 a0), (b15_0 a1)]⟩) ?_ fun J15j30 => ?_
      · intro d23 d24 d25 d26 d27 v28 v29 h
        unfold f15_r4 at h
        refine Ops.sg 1 24 ?_
        refine Ops.hv (fun KQ => ∀ (d33 d34 d35 d36 d37 d38 : D) (v39 : Bool) (v40 : Bool), f15_r3 m K a0 a1 a2 v40 = some o → KQ 31 ⟨(.v (.agg [(vI a0.fKind), (vP eI a0.fLabels), (vP ep24 a0.fSubs), (vI a0.fLeast), (vI a0.fMost)])) :: (.v (.agg [(vI a1.fKind), (vP eI a1.fLabels), (vP ep24 a1.fSubs), (vI a1.fLeast), (vI a1.fMost)])) :: (dI a2) :: (.ptr 0 0) :: (.ptr 1 0) :: u1 ((dB false) :: u1 ((dI a2) :: (dB v8) :: (dB v8) :: d3 :: d4 :: d5 :: d6 :: d7 :: (dB v18) :: (dB v18) :: d13 :: d14 :: d15 :: d16 :: d17 :: (dB v28) :: (dB v28) :: d23 :: d24 :: d25 :: d26 :: d27 :: (dB v39) :: (dB v39) :: d33 :: d34 :: d35 :: d36 :: d37 :: d38 :: (dB v40) :: u30 [])), [(b15_0 a0), (b15_0 a1)]⟩) ?_ fun J15j41 => ?_
        · intro d33 d34 d35 d36 d37 d38 v39 v40 h
          unfold f15_r3 at h
          refine Ops.sg 1 32 ?_
          refine Ops.hv (fun KQ => ∀ (d44 d45 d46 d47 d48 d49 d50 : D) (v51 : Bool) (v52 : Bool), f15_r2 m K a0 a1 a2 v52 = some o → KQ 40 ⟨(.v (.agg [(vI a0.fKind), (vP eI a0.fLabels), (vP ep24 a0.fSubs), (vI a0.fLeast), (vI a0.fMost)])) :: (.v (.agg [(vI a1.fKind), (vP eI a1.fLabels), (vP ep24 a1.fSubs), (vI a1.fLeast), (vI a1.fMost)])) :: (dI a2) :: (.ptr 0 0) :: (.ptr 1 0) :: u1 ((dB false) :: u1 ((dI a2) :: (dB v8) :: (dB v8) :: d3 :: d4 :: d5 :: d6 :: d7 :: (dB v18) :: (dB v18) :: d13 :: d14 :: d15 :: d16 :: d17 :: (dB v28) :: (dB v28) :: d23 :: d24 :: d25 :: d26 :: d27 :: (dB v39) :: (dB v39) :: d33 :: d34 :: d35 :: d36 :: d37 :: d38 :: (dB v51) :: (dB v51) :: d44 :: d45 :: d46 :: d47 :: d48 :: d49 :: d50 :: (dB v52) :: u21 [])), [(b15_0 a0), (b15_0 a1)]⟩) ?_ fun J15j53 => ?_
          · intro d44 d45 d46 d47 d48 d49 d50 v51 v52 h
            unfold f15_r2 at h
            refine Ops.dn ?_
            refine seqQ.n ?_
            refine Wp.cnd h [2, 3, 4, 6] 2 (by kernel_rfl) (fun h => ?_) (fun h => ?_)
            · refine Wp.sq ?_
              refine Wp.rg ?_
              refine Ops.sg 1 1 ?_
              refine Ops.dn ?_
              refine seqQ.n ?_
              refine Wp.ret (by kernel_rfl) ?_
              refine sqQ.r ?_
              refine seqQ.r ?_
              exact fnQ.r' (X15 n) (fun z => (eB z)) h (RetOk.mk' (dB false) (by kernel_rfl) (by kernel_rfl))
            · refine Wp.sk ?_
              refine sqQ.n' ?_
              refine seqQ.n ?_
              refine Wp.sq ?_
              refine Wp.sq ?_
              refine Wp.rg ?_
              refine Ops.sg 2 2 ?_
              refine Ops.on 3 (fun h0 e0 => (len_r (T := T) h0 23 25 .plain ep24 a0.fSubs (by kernel_rfl))) ?_
              refine Ops.sg 1 4 ?_
              refine Ops.dn ?_
              refine seqQ.n ?_
              refine Wp.block' 0 [6] 2 (by kernel_rfl) ?_
              have hLx74 : ∀ (kx63 : Nat) (v61 : Int)  (ox62 : Bool ⊕ (Int)), iter (fun (y : Int) => f15_B1 m K a0 a1 a2 y) kx63 v61 = some ox62 → ∀ nx64, kx63 ≤ nx64 → (∀ r, ox62 = .inl r → ∀ σ, RetOk (X15 n) (resOf Proofs.Tryd.prog 15) (eB r) σ → (seqQ (X15 n) (cR (cR (cR C15))) (fnQ (X15 n).E.T (resOf Proofs.Tryd.prog 15) (eB o))) .ret σ) → (∀ (y : Int) , ox62 = .inr y → (seqQ (X15 n) (cR (cR (cR C15))) (fnQ (X15 n).E.T (resOf Proofs.Tryd.prog 15) (eB o))) .normal ⟨q2 ((dI a2) :: (.ptr 0 0) :: (.ptr 1 0) :: q1 ((dB false) :: q40 (q3 ((dI (a0.fSubs.length : Int)) :: (dI y) :: q17 [])))), [(b15_0 a0), (b15_0 a1)]⟩) → Lp (X15 n) k15_0 2 (cL (cL (cR (cL (cR (cR C15)))))) nx64 ⟨q2 ((dI a2) :: (.ptr 0 0) :: (.ptr 1 0) :: q1 ((dB false) :: q40 (q3 ((dI (a0.fSubs.length : Int)) :: (dI v61) :: q17 [])))), [(b15_0 a0), (b15_0 a1)]⟩ (blkQ (X15 n) 0 [6] 2 (seqQ (X15 n) (cR (cR (cR C15))) (fnQ (X15 n).E.T (resOf Proofs.Tryd.prog 15) (eB o)))) := by
                intro kx63
                induction kx63 with
                | zero => intro v61  ox62 h; exact (iter_zero h).elim
                | succ kx63 ihx65 =>
                  intro v61  ox62 h nx64 hnx68 hrx66 hxx67
                  obtain ⟨nx64, rfl⟩ : ∃ q, nx64 = q + 1 := ⟨nx64 - 1, by omega⟩
                  obtain ⟨sx69, h, hsx70⟩ := iter_some h
                  have h : f15_B1 m K a0 a1 a2 v61 = some sx69 := h
                  unfold f15_B1 at h
                  refine Lp.succ ?_
                  refine Wp.sq ?_
                  refine Wp.rg ?_
                  refine Ops.sg 1 1 ?_
                  refine Ops.dn ?_
                  refine seqQ.n ?_
                  refine Wp.sq ?_
                  refine Wp.cnd h k15_0 2 (by kernel_rfl) (fun h => ?_) (fun h => ?_)
                  · refine Wp.sk ?_
                    refine sqQ.n' ?_
                    refine seqQ.n ?_
                    refine Wp.sq ?_
                    refine Wp.block' 1 k15_0 2 (by kernel_rfl) ?_
                    refine Wp.sq ?_
                    refine Wp.rg ?_
                    refine Ops.sg 2 2 ?_
                    refine Ops.dn ?_
                    refine seqQ.n ?_
                    refine Wp.sq ?_
                    refine Wp.rg ?_
                    refine Ops.sg 3 3 ?_
                    obtain ⟨v71, ev71, h⟩ := bnd_some h
                    refine Ops.on 4 (fun h0 e0 => (ixb24 (ix_r (T := T) h0 23 25 5 .plain ep24 a0.fSubs v61 v71 ev71 (by kernel_rfl) (by kernel_rfl) ep24_len))) ?_
                    refine Ops.sg 4 8 ?_
                    obtain ⟨v72, ev72, h⟩ := bnd_some h
                    refine Ops.on 9 (fun h0 e0 => (ixb24 (ix_r (T := T) h0 23 25 5 .plain ep24 a1.fSubs v61 v72 ev72 (by kernel_rfl) (by kernel_rfl) ep24_len))) ?_
                    refine Ops.sg 3 12 ?_
                    obtain ⟨v73, ev73, h⟩ := bnd_some h
                    refine Ops.on 13 (fun h0 e0 => (call_ok (E' := E) (h := h0) (by kernel_rfl) (Args.v (.agg [(vI v71.vw.fKind), (vP eI v71.vw.fLabels), (vP ep24 v71.vw.fSubs), (vI v71.vw.fLeast), (vI v71.vw.fMost)]) (e24 v71.vw) (by kernel_rfl) (Args.v (.agg [(vI v72.vw.fKind), (vP eI v72.vw.fLabels), (vP ep24 v72.vw.fSubs), (vI v72.vw.fLeast), (vI v72.vw.fMost)]) (e24 v72.vw) (by kernel_rfl) (Args.v (vI (w64 (a2 - 1))) (eI (w64 (a2 - 1))) (by kernel_rfl) Args.nil))) (hK.ok15 v71.vw v72.vw (w64 (a2 - 1)) v73 ev73 n (by omega)))) ?_
                    refine Ops.sg 1 14 ?_
                    refine Ops.dn ?_
                    refine seqQ.n ?_
                    refine Wp.cnd h k15_0 2 (by kernel_rfl) (fun h => ?_) (fun h => ?_)
                    · refine Wp.sq ?_
                      refine Wp.rg ?_
                      refine Ops.sg 1 1 ?_
                      refine Ops.dn ?_
                      refine seqQ.n ?_
                      refine Wp.ret (by kernel_rfl) ?_
                      refine sqQ.r ?_
                      refine blkQ.r ?_
                      refine seqQ.r ?_
                      cases h
                      refine lpQ.r ?_
                      refine blkQ.r ?_
                      exact hrx66 _ hsx70 _ (RetOk.forget k15_0 (by kernel_rfl) (RetOk.mk' (dB false) (by kernel_rfl) (by kernel_rfl)))
                    · refine Wp.sk ?_
                      refine sqQ.n' ?_
                      refine blkQ.n' ?_
                      refine seqQ.n ?_
                      refine Wp.rg ?_
                      refine Ops.sg 2 2 ?_
                      refine Ops.dn ?_
                      refine lpQ.n ⟨q2 ((dI a2) :: (.ptr 0 0) :: (.ptr 1 0) :: q1 ((dB false) :: q40 (q3 ((dI (a0.fSubs.length : Int)) :: (dI (w64 (v61 + 1))) :: q17 [])))), [(b15_0 a0), (b15_0 a1)]⟩ (by kernel_rfl) ?_
                      cases h
                      exact ihx65 (w64 (v61 + 1))  _ hsx70 _ (by omega) hrx66 hxx67
                  · refine Wp.exit (id := 0) (by kernel_rfl) ?_
                    refine sqQ.x ?_
                    refine seqQ.x ?_
                    cases h
                    refine lpQ.x ?_
                    refine blkQ.x ⟨q2 ((dI a2) :: (.ptr 0 0) :: (.ptr 1 0) :: q1 ((dB false) :: q40 (q3 ((dI (a0.fSubs.length : Int)) :: (dI v61) :: q17 [])))), [(b15_0 a0), (b15_0 a1)]⟩ (by kernel_rfl) ?_
                    exact hxx67 v61  hsx70
              refine Wp.loop' k15_0 2 (by kernel_rfl) ⟨q2 ((dI a2) :: (.ptr 0 0) :: (.ptr 1 0) :: q1 ((dB false) :: q40 (q3 ((dI (a0.fSubs.length : Int)) :: (dI 0) :: q17 [])))), [(b15_0 a0), (b15_0 a1)]⟩ (by kernel_rfl) ?_
              rcases brk_some h with ⟨r76, er76, h⟩ | ⟨y75, ey75, h⟩
              · refine hLx74 _ 0  _ er76 n (by omega) (fun r er σ hσ => ?_) (fun y  ey => by cases ey)
                cases er
                refine seqQ.r ?_
                exact fnQ.r' (X15 n) (fun z => (eB z)) h hσ
              · refine hLx74 _ 0  _ ey75 n (by omega) (fun r er => by cases er) (fun y  ey => ?_)
                cases ey
                refine seqQ.n ?_
                refine Wp.sq ?_
                refine Wp.rg ?_
                refine Ops.sg 1 1 ?_
                refine Ops.dn ?_
                refine seqQ.n ?_
                refine Wp.ret (by kernel_rfl) ?_
                exact fnQ.r' (X15 n) (fun z => (eB z)) h (RetOk.mk' (dB true) (by kernel_rfl) (by kernel_rfl))
          refine Ops.hv (fun KQ => ∀ v42 : Bool, f15_r2 m K a0 a1 a2 (v42 || ((a0.fSubs.length : Int) != (a1.fSubs.length : Int))) = some o → KQ 32 ⟨(.v (.agg [(vI a0.fKind), (vP eI a0.fLabels), (vP ep24 a0.fSubs), (vI a0.fLeast), (vI a0.fMost)])) :: (.v (.agg [(vI a1.fKind), (vP eI a1.fLabels), (vP ep24 a1.fSubs), (vI a1.fLeast), (vI a1.fMost)])) :: (dI a2) :: (.ptr 0 0) :: (.ptr 1 0) :: u1 ((dB false) :: u1 ((dI a2) :: (dB v8) :: (dB v8) :: d3 :: d4 :: d5 :: d6 :: d7 :: (dB v18) :: (dB v18) :: d13 :: d14 :: d15 :: d16 :: d17 :: (dB v28) :: (dB v28) :: d23 :: d24 :: d25 :: d26 :: d27 :: (dB v39) :: (dB v39) :: d33 :: d34 :: d35 :: d36 :: d37 :: d38 :: (dB v42) :: (dB v42) :: u29 [])), [(b15_0 a0), (b15_0 a1)]⟩) ?_ fun G15g43 => Ops.st _ (by kernel_rfl) (G15g43 v40 h)
          intro v42 h
          cases v42
          · refine Ops.sg 2 34 ?_
            refine Ops.on 35 (fun h0 e0 => (len_r (T := T) h0 23 25 .plain ep24 a0.fSubs (by kernel_rfl))) ?_
            refine Ops.sg 2 37 ?_
            refine Ops.on 38 (fun h0 e0 => (len_r (T := T) h0 23 25 .plain ep24 a1.fSubs (by kernel_rfl))) ?_
            refine Ops.sg 2 40 ?_
            exact Ops.st _ (by kernel_rfl) (J15j53 (.ptr 0 2) (dP ep24 a0.fSubs) (dI (a0.fSubs.length : Int)) (.ptr 1 2) (dP ep24 a1.fSubs) (dI (a1.fSubs.length : Int)) (dB ((a0.fSubs.length : Int) != (a1.fSubs.length : Int))) false ((a0.fSubs.length : Int) != (a1.fSubs.length : Int)) h)
          · refine Ops.sg 8 40 ?_
            exact Ops.st _ (by kernel_rfl) (J15j53 U U U U U U U true true h)
        obtain ⟨v40, ev40, h⟩ := bnd_some h
        refine Ops.hv (fun KQ => ∀ v31 : Bool, (cnd v31 (some true) (bnd (f32 m a0.fLabels a1.fLabels) fun v77 => some (!v77))) = some v40 → KQ 24 ⟨(.v (.agg [(vI a0.fKind), (vP eI a0.fLabels), (vP ep24 a0.fSubs), (vI a0.fLeast), (vI a0.fMost)])) :: (.v (.agg [(vI a1.fKind), (vP eI a1.fLabels), (vP ep24 a1.fSubs), (vI a1.fLeast), (vI a1.fMost)])) :: (dI a2) :: (.ptr 0 0) :: (.ptr 1 0) :: u1 ((dB false) :: u1 ((dI a2) :: (dB v8) :: (dB v8) :: d3 :: d4 :: d5 :: d6 :: d7 :: (dB v18) :: (dB v18) :: d13 :: d14 :: d15 :: d16 :: d17 :: (dB v28) :: (dB v28) :: d23 :: d24 :: d25 :: d26 :: d27 :: (dB v31) :: (dB v31) :: u37 [])), [(b15_0 a0), (b15_0 a1)]⟩) ?_ fun G15g32 => Ops.st _ (by kernel_rfl) (G15g32 v29 ev40)
        intro v31 ev40
        cases v31
        · have ev40 := cnd_f ev40
          refine Ops.sg 4 28 ?_
          obtain ⟨v77, ev77, ev40⟩ := bnd_some ev40
          refine Ops.on 29 (fun h0 e0 => (call_ok (E' := E) (h := h0) (by kernel_rfl) (Args.v (vP eI a0.fLabels) ((eL eI) a0.fLabels) (by kernel_rfl) (Args.v (vP eI a1.fLabels) ((eL eI) a1.fLabels) (by kernel_rfl) Args.nil)) (ok32 m a0.fLabels a1.fLabels v77 ev77 n (by omega)))) ?_
          refine Ops.sg 2 31 ?_
          exact Ops.st _ (by kernel_rfl) (J15j41 (.ptr 0 1) (dP eI a0.fLabels) (.ptr 1 1) (dP eI a1.fLabels) (dB v77) (dB (!v77)) false (!v77) (some_sub (fun v40 => f15_r3 m K a0 a1 a2 v40 = some o) ev40 h))
        · have ev40 := cnd_t ev40
          refine Ops.sg 7 31 ?_
          exact Ops.st _ (by kernel_rfl) (J15j41 U U U U U U true true (some_sub (fun v40 => f15_r3 m K a0 a1 a2 v40 = some o) ev40 h))
      refine Ops.hv (fun KQ => ∀ v21 : Bool, f15_r4 m K a0 a1 a2 (v21 || (a0.fMost != a1.fMost)) = some o → KQ 17 ⟨(.v (.agg [(vI a0.fKind), (vP eI a0.fLabels), (vP ep24 a0.fSubs), (vI a0.fLeast), (vI a0.fMost)])) :: (.v (.agg [(vI a1.fKind), (vP eI a1.fLabels), (vP ep24 a1.fSubs), (vI a1.fLeast), (vI a1.fMost)])) :: (dI a2) :: (.ptr 0 0) :: (.ptr 1 0) :: u1 ((dB false) :: u1 ((dI a2) :: (dB v8) :: (dB v8) :: d3 :: d4 :: d5 :: d6 :: d7 :: (dB v18) :: (dB v18) :: d13 :: d14 :: d15 :: d16 :: d17 :: (dB v21) :: (dB v21) :: u40 (u4 []))), [(b15_0 a0), (b15_0 a1)]⟩) ?_ fun G15g22 => Ops.st _ (by kernel_rfl) (G15g22 v19 h)
      intro v21 h
      cases v21
      · refine Ops.sg 6 23 ?_
        exact Ops.st _ (by kernel_rfl) (J15j30 (.ptr 0 4) (dI a0.fMost) (.ptr 1 4) (dI a1.fMost) (dB (a0.fMost != a1.fMost)) false (a0.fMost != a1.fMost) h)
      · refine Ops.sg 6 23 ?_
        exact Ops.st _ (by kernel_rfl) (J15j30 U U U U U true true h)
    refine Ops.hv (fun KQ => ∀ v11 : Bool, f15_r5 m K a0 a1 a2 (v11 || (a0.fLeast != a1.fLeast)) = some o → KQ 10 ⟨(.v (.agg [(vI a0.fKind), (vP eI a0.fLabels), (vP ep24 a0.fSubs), (vI a0.fLeast), (vI a0.fMost)])) :: (.v (.agg [(vI a1.fKind), (vP eI a1.fLabels), (vP ep24 a1.fSubs), (vI a1.fLeast), (vI a1.fMost)])) :: (dI a2) :: (.ptr 0 0) :: (.ptr 1 0) :: u1 ((dB false) :: u1 ((dI a2) :: (dB v8) :: (dB v8) :: d3 :: d4 :: d5 :: d6 :: d7 :: (dB v11) :: (dB v11) :: u40 (u11 []))), [(b15_0 a0), (b15_0 a1)]⟩) ?_ fun G15g12 => Ops.st _ (by kernel_rfl) (G15g12 v9 h)
    intro v11 h
    cases v11
    · refine Ops.sg 6 16 ?_
      exact Ops.st _ (by kernel_rfl) (J15j20 (.ptr 0 3) (dI a0.fLeast) (.ptr 1 3) (dI a1.fLeast) (dB (a0.fLeast != a1.fLeast)) false (a0.fLeast != a1.fLeast) h)
    · refine Ops.sg 6 16 ?_
      exact Ops.st _ (by kernel_rfl) (J15j20 U U U U U true true h)
  refine Ops.hv (fun KQ => ∀ v1 : Bool, f15_r6 m K a0 a1 a2 (v1 || (a0.fKind != a1.fKind)) = some o → KQ 3 ⟨(.v (.agg [(vI a0.fKind), (vP eI a0.fLabels), (vP ep24 a0.fSubs), (vI a0.fLeast), (vI a0.fMost)])) :: (.v (.agg [(vI a1.fKind), (vP eI a1.fLabels), (vP ep24 a1.fSubs), (vI a1.fLeast), (vI a1.fMost)])) :: (dI a2) :: (.ptr 0 0) :: (.ptr 1 0) :: u1 ((dB false) :: u1 ((dI a2) :: (dB v1) :: (dB v1) :: u40 (u18 []))), [(b15_0 a0), (b15_0 a1)]⟩) ?_ fun G15g2 => Ops.st _ (by kernel_rfl) (G15g2 (a2 == 0) h)
  intro v1 h
  cases v1
  · refine Ops.sg 6 9 ?_
    exact Ops.st _ (by kernel_rfl) (J15j10 (.ptr 0 0) (dI a0.fKind) (.ptr 1 0) (dI a1.fKind) (dB (a0.fKind != a1.fKind)) false (a0.fKind != a1.fKind) h)
  · refine Ops.sg 6 9 ?_
    exact Ops.st _ (by kernel_rfl) (J15j10 U U U U U true true h)
noncomputable def K15 (m : Nat) : Nat → Rec15
  | 0 => ⟨fun _ _ _ => none⟩
  | r + 1 => ⟨fun a0 a1 a2 => b15 m (K15 m r) a0 a1 a2⟩
theorem okK15 (m : Nat) : ∀ r, OkRec15 m (K15 m r) (m + 2 + r)
  | 0 => ⟨fun _ _ _ o h => (by cases h)⟩
  | r + 1 => ⟨fun a0 a1 a2 o h n hn => okb15 m (K15 m r) (m + 2 + r) (okK15 m r) a0 a1 a2 o h n (by omega) (by omega)⟩
noncomputable def f15 (m : Nat) (a0 : S24) (a1 : S24) (a2 : Int) : Option Bool := (K15 m m).r15 a0 a1 a2
theorem ok15 (m : Nat) (a0 : S24) (a1 : S24) (a2 : Int) (o : Bool) (h : f15 m a0 a1 a2 = some o) (n : Nat) (hn : 2 * m + 2 ≤ n) : Fn Proofs.Tryd.prog E n 15 [.v (e24 a0), .v (e24 a1), .v (eI a2)] (eB o) := (okK15 m m).ok15 a0 a1 a2 o h n (by omega)

/-! ### 6 glosswright/glosswrightlaw6.PatternTextsComeBack -/
noncomputable def f6_r1 (m : Nat) (v10 : Bool) : Option Bool :=
  some v10
noncomputable def f6 (m : Nat) (a0 : S24) : Option Bool :=
  bnd (f8 m ) fun v1 =>
  cnd (!v1)
  (some false)
  (bnd (f10 m a0) fun v2 =>
  cnd (!((v2.2.fCode == 0) && ((v2.2.fIndex == 0) && true)))
  (some true)
  (bnd (f13 m v2.1) fun v3 =>
  bnd (cnd ((v3.2.fCode == 0) && ((v3.2.fIndex == 0) && true))
  (bnd (f15 m a0 v3.1 100) fun v12 =>
  some v12)
  (some false)) fun v10 =>
  f6_r1 m v10))
noncomputable abbrev X6 (n : Nat) : Cx := cxOf Proofs.Tryd.prog E 6 n
noncomputable def C6 : Code := bodyOf Proofs.Tryd.prog 6
theorem ok6 (m : Nat) (a0 : S24) (o : Bool) (h : f6 m a0 = some o) (n : Nat) (hn : 2 * m + 7 ≤ n) : Fn Proofs.Tryd.prog E n 6 [.v (e24 a0)] (eB o) := by
  obtain ⟨n, rfl⟩ : ∃ q, n = q + 1 := ⟨n - 1, by omega⟩
  unfold f6 at h
  refine Fn.of (by kernel_rfl) (by kernel_rfl) (by kernel_rfl) ⟨(.v (.agg [(vI a0.fKind), (vP eI a0.fLabels), (vP ep24 a0.fSubs), (vI a0.fLeast), (vI a0.fMost)])) :: u29 [], []⟩ (by kernel_rfl) ?_
  refine Wp.sq ?_
  refine Wp.rg ?_
  refine Ops.sg 2 2 ?_
  refine Ops.dn ?_
  refine seqQ.n ?_
  refine Wp.sq ?_
  refine Wp.sq ?_
  refine Wp.rg ?_
  obtain ⟨v1, ev1, h⟩ := bnd_some h
  refine Ops.on 1 (fun h0 e0 => (call_ok (E' := E) (h := h0) (by kernel_rfl) Args.nil (ok8 m  v1 ev1 n (by omega)))) ?_
  refine Ops.sg 1 2 ?_
  refine Ops.dn ?_
  refine seqQ.n ?_
  refine Wp.cnd h [1, 2] 1 (by kernel_rfl) (fun h => ?_) (fun h => ?_)
  · refine Wp.sq ?_
    refine Wp.rg ?_
    refine Ops.sg 1 1 ?_
    refine Ops.dn ?_
    refine seqQ.n ?_
    refine Wp.ret (by kernel_rfl) ?_
    refine sqQ.r ?_
    refine seqQ.r ?_
    exact fnQ.r' (X6 n) (fun z => (eB z)) h (RetOk.mk' (dB false) (by kernel_rfl) (by kernel_rfl))
  · refine Wp.sk ?_
    refine sqQ.n' ?_
    refine seqQ.n ?_
    refine Wp.sq ?_
    refine Wp.rg ?_
    refine Ops.sg 1 1 ?_
    obtain ⟨v2, ev2, h⟩ := bnd_some h
    refine Ops.on 2 (fun h0 e0 => (call_ok (E' := E) (h := h0) (by kernel_rfl) (Args.v (.agg [(vI a0.fKind), (vP eI a0.fLabels), (vP ep24 a0.fSubs), (vI a0.fLeast), (vI a0.fMost)]) (e24 a0) (by kernel_rfl) Args.nil) (ok10 m a0 v2 ev2 n (by omega)))) ?_
    refine Ops.sg 6 8 ?_
    refine Ops.dn ?_
    refine seqQ.n ?_
    refine Wp.sq ?_
    refine Wp.sq ?_
    refine Wp.rg ?_
    refine Ops.sg 3 3 ?_
    refine Ops.dn ?_
    refine seqQ.n ?_
    refine Wp.cnd h [1, 2, 3] 2 (by kernel_rfl) (fun h => ?_) (fun h => ?_)
    · refine Wp.sq ?_
      refine Wp.rg ?_
      refine Ops.sg 1 1 ?_
      refine Ops.dn ?_
      refine seqQ.n ?_
      refine Wp.ret (by kernel_rfl) ?_
      refine sqQ.r ?_
      refine seqQ.r ?_
      exact fnQ.r' (X6 n) (fun z => (eB z)) h (RetOk.mk' (dB true) (by kernel_rfl) (by kernel_rfl))
    · refine Wp.sk ?_
      refine sqQ.n' ?_
      refine seqQ.n ?_
      refine Wp.sq ?_
      refine Wp.rg ?_
      refine Ops.sg 1 1 ?_
      obtain ⟨v3, ev3, h⟩ := bnd_some h
      refine Ops.on 2 (fun h0 e0 => (call_ok (E' := E) (h := h0) (by kernel_rfl) (Args.v (.str v2.1) (eS v2.1) (by kernel_rfl) Args.nil) (ok13 m v2.1 v3 ev3 n (by omega)))) ?_
      refine Ops.sg 7 9 ?_
      refine Ops.dn ?_
      refine seqQ.n ?_
      refine Wp.sq ?_
      refine Wp.rg ?_
      refine Ops.sg 4 4 ?_
      refine Ops.hv (fun KQ => ∀ (d6 d7 d8 : D) (v9 : Bool) (v10 : Bool), f6_r1 m v10 = some o → KQ 8 ⟨(.v (.agg [(vI a0.fKind), (vP eI a0.fLabels), (vP ep24 a0.fSubs), (vI a0.fLeast), (vI a0.fMost)])) :: (.ptr 0 0) :: (dB false) :: (.v (.str v2.1)) :: (.ptr 1 0) :: (.ptr 2 0) :: (.ptr 3 0) :: (dB v1) :: (dB (!v1)) :: (.v (.tuple [(.str v2.1), (.agg [(vI v2.2.fCode), (vI v2.2.fIndex)])])) :: (.v (.agg [(vI a0.fKind), (vP eI a0.fLabels), (vP ep24 a0.fSubs), (vI a0.fLeast), (vI a0.fMost)])) :: (.v (.tuple [(.str v2.1), (.agg [(vI v2.2.fCode), (vI v2.2.fIndex)])])) :: (.v (.str v2.1)) :: (.v (.agg [(vI v2.2.fCode), (vI v2.2.fIndex)])) :: (.v (.agg [(vI v2.2.fCode), (vI v2.2.fIndex)])) :: (.v (.agg [(vI 0), (vI 0)])) :: (dB (!((v2.2.fCode == 0) && ((v2.2.fIndex == 0) && true)))) :: (.v (.tuple [(.agg [(vI v3.1.fKind), (vP eI v3.1.fLabels), (vP ep24 v3.1.fSubs), (vI v3.1.fLeast), (vI v3.1.fMost)]), (.agg [(vI v3.2.fCode), (vI v3.2.fIndex)])])) :: (.v (.str v2.1)) :: (.v (.tuple [(.agg [(vI v3.1.fKind), (vP eI v3.1.fLabels), (vP ep24 v3.1.fSubs), (vI v3.1.fLeast), (vI v3.1.fMost)]), (.agg [(vI v3.2.fCode), (vI v3.2.fIndex)])])) :: (.v (.agg [(vI v3.1.fKind), (vP eI v3.1.fLabels), (vP ep24 v3.1.fSubs), (vI v3.1.fLeast), (vI v3.1.fMost)])) :: (.v (.agg [(vI v3.2.fCode), (vI v3.2.fIndex)])) :: (.v (.agg [(vI v3.2.fCode), (vI v3.2.fIndex)])) :: (.v (.agg [(vI 0), (vI 0)])) :: (dB v9) :: (dB v9) :: d6 :: d7 :: d8 :: (dB v10) :: [], [(.cells [(dI a0.fKind), (dP eI a0.fLabels), (dP ep24 a0.fSubs), (dI a0.fLeast), (dI a0.fMost)]), (.cells [(dI v2.2.fCode), (dI v2.2.fIndex)]), (.cells [(dI v3.1.fKind), (dP eI v3.1.fLabels), (dP ep24 v3.1.fSubs), (dI v3.1.fLeast), (dI v3.1.fMost)]), (.cells [(dI v3.2.fCode), (dI v3.2.fIndex)])]⟩) ?_ fun J6j11 => ?_
      · intro d6 d7 d8 v9 v10 h
        unfold f6_r1 at h
        refine Ops.sg 1 9 ?_
        refine Ops.dn ?_
        refine seqQ.n ?_
        refine Wp.ret (by kernel_rfl) ?_
        exact fnQ.r' (X6 n) (fun z => (eB z)) h (RetOk.mk' (dB v10) (by kernel_rfl) (by kernel_rfl))
      obtain ⟨v10, ev10, h⟩ := bnd_some h
      refine Ops.hv (fun KQ => ∀ v4 : Bool, (cnd v4 (bnd (f15 m a0 v3.1 100) fun v12 => some v12) (some false)) = some v10 → KQ 4 ⟨(.v (.agg [(vI a0.fKind), (vP eI a0.fLabels), (vP ep24 a0.fSubs), (vI a0.fLeast), (vI a0.fMost)])) :: (.ptr 0 0) :: (dB false) :: (.v (.str v2.1)) :: (.ptr 1 0) :: (.ptr 2 0) :: (.ptr 3 0) :: (dB v1) :: (dB (!v1)) :: (.v (.tuple [(.str v2.1), (.agg [(vI v2.2.fCode), (vI v2.2.fIndex)])])) :: (.v (.agg [(vI a0.fKind), (vP eI a0.fLabels), (vP ep24 a0.fSubs), (vI a0.fLeast), (vI a0.fMost)])) :: (.v (.tuple [(.str v2.1), (.agg [(vI v2.2.fCode), (vI v2.2.fIndex)])])) :: (.v (.str v2.1)) :: (.v (.agg [(vI v2.2.fCode), (vI v2.2.fIndex)])) :: (.v (.agg [(vI v2.2.fCode), (vI v2.2.fIndex)])) :: (.v (.agg [(vI 0), (vI 0)])) :: (dB (!((v2.2.fCode == 0) && ((v2.2.fIndex == 0) && true)))) :: (.v (.tuple [(.agg [(vI v3.1.fKind), (vP eI v3.1.fLabels), (vP ep24 v3.1.fSubs), (vI v3.1.fLeast), (vI v3.1.fMost)]), (.agg [(vI v3.2.fCode), (vI v3.2.fIndex)])])) :: (.v (.str v2.1)) :: (.v (.tuple [(.agg [(vI v3.1.fKind), (vP eI v3.1.fLabels), (vP ep24 v3.1.fSubs), (vI v3.1.fLeast), (vI v3.1.fMost)]), (.agg [(vI v3.2.fCode), (vI v3.2.fIndex)])])) :: (.v (.agg [(vI v3.1.fKind), (vP eI v3.1.fLabels), (vP ep24 v3.1.fSubs), (vI v3.1.fLeast), (vI v3.1.fMost)])) :: (.v (.agg [(vI v3.2.fCode), (vI v3.2.fIndex)])) :: (.v (.agg [(vI v3.2.fCode), (vI v3.2.fIndex)])) :: (.v (.agg [(vI 0), (vI 0)])) :: (dB v4) :: (dB v4) :: u4 [], [(.cells [(dI a0.fKind), (dP eI a0.fLabels), (dP ep24 a0.fSubs), (dI a0.fLeast), (dI a0.fMost)]), (.cells [(dI v2.2.fCode), (dI v2.2.fIndex)]), (.cells [(dI v3.1.fKind), (dP eI v3.1.fLabels), (dP ep24 v3.1.fSubs), (dI v3.1.fLeast), (dI v3.1.fMost)]), (.cells [(dI v3.2.fCode), (dI v3.2.fIndex)])]⟩) ?_ fun G6g5 => Ops.st _ (by kernel_rfl) (G6g5 ((v3.2.fCode == 0) && ((v3.2.fIndex == 0) && true)) ev10)
      intro v4 ev10
      cases v4
      · have ev10 := cnd_f ev10
        refine Ops.sg 4 8 ?_
        exact Ops.st _ (by kernel_rfl) (J6j11 U U U false false (some_sub (fun v10 => f6_r1 m v10 = some o) ev10 h))
      · have ev10 := cnd_t ev10
        refine Ops.sg 2 6 ?_
        obtain ⟨v12, ev12, ev10⟩ := bnd_some ev10
        refine Ops.on 7 (fun h0 e0 => (call_ok (E' := E) (h := h0) (by kernel_rfl) (Args.v (.agg [(vI a0.fKind), (vP eI a0.fLabels), (vP ep24 a0.fSubs), (vI a0.fLeast), (vI a0.fMost)]) (e24 a0) (by kernel_rfl) (Args.v (.agg [(vI v3.1.fKind), (vP eI v3.1.fLabels), (vP ep24 v3.1.fSubs), (vI v3.1.fLeast), (vI v3.1.fMost)]) (e24 v3.1) (by kernel_rfl) (Args.v (vI 100) (eI 100) (by kernel_rfl) Args.nil))) (ok15 m a0 v3.1 100 v12 ev12 n (by omega)))) ?_
        refine Ops.sg 1 8 ?_
        exact Ops.st _ (by kernel_rfl) (J6j11 ((.v (.agg [(vI a0.fKind), (vP eI a0.fLabels), (vP ep24 a0.fSubs), (vI a0.fLeast), (vI a0.fMost)]))) ((.v (.agg [(vI v3.1.fKind), (vP eI v3.1.fLabels), (vP ep24 v3.1.fSubs), (vI v3.1.fLeast), (vI v3.1.fMost)]))) (dB v12) true v12 (some_sub (fun v10 => f6_r1 m v10 = some o) ev10 h))

end Go.Abs
