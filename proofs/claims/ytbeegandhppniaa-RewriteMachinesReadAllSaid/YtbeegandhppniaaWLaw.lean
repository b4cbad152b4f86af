import Derived.Test.YtbeegandhppniaaYZ
namespace Go.Abs
set_option linter.unusedVariables false
set_option linter.unusedSimpArgs false
set_option linter.unnecessarySimpa false
set_option maxRecDepth 100000
set_option maxHeartbeats 2000000
noncomputable def f4_r1 (m : Nat) (v24 : Bool) : Option Bool :=
 some v24
noncomputable def f4_r2 (m : Nat) (v11 : (Int × Bool × S30)) (v16 : Bool) : Option Bool :=
 f4_r1 m (v16 && ((v11.2.2.fCode == 0) && ((v11.2.2.fIndex == 0) && true)))
noncomputable def f4_r3 (m : Nat) (v1 : (S28 × S30)) (v9 : Bool) : Option Bool :=
 cnd v9
 (some false)
 (bnd (f11 m v1.1 ([97, 98]) [98]) fun v11 =>
 f4_r2 m v11 ((v11.1 == 0) && v11.2.1))
noncomputable def f4 (m : Nat)  : Option Bool :=
 bnd (f5 m ((⟨[97], [], [], []⟩ : S23)) ([97, 98])) fun v1 =>
 bnd (cnd (!((v1.2.fCode == 0) && ((v1.2.fIndex == 0) && true)))
 (some true)
 (bnd (f10 m v1.1) fun v26 =>
 some (!((v26.fCode == 0) && ((v26.fIndex == 0) && true))))) fun v9 =>
 f4_r3 m v1 v9
noncomputable abbrev X4 (n : Nat) : Cx := cxOf Proofs.Try.prog EG 4 n
abbrev b4_0 (w0 : (S28 × S30)) : AObj := .cells [(dI w0.1.fStates), (dP e53 w0.1.fArcs), (dP e58 w0.1.fFinals)]
abbrev b4_1 (w0 : (S28 × S30)) : AObj := .cells [(dI w0.2.fCode), (dI w0.2.fIndex)]
theorem ok4 (m : Nat)  (o : Bool) (h : f4 m  = some o) (n : Nat) (hn : m + 3 ≤ n) : Fn Proofs.Try.prog EG n 4 [] (eB o) := by
 obtain ⟨n, rfl⟩ : ∃ q, n = q + 1 := ⟨n - 1, by omega⟩
 unfold f4 at h
 refine Fn.of (by kernel_rfl) (by kernel_rfl) (by kernel_rfl) ⟨u40 [], []⟩ (by kernel_rfl) ?_
 refine Wp.sq ?_
 refine Wp.rg ?_
 refine Ops.sg 1 1 ?_
 refine Ops.dn ?_
 refine seqQ.n ?_
 refine Wp.sq ?_
 refine Wp.rg ?_
 refine Ops.sg 3 3 ?_
 obtain ⟨v1, ev1, h⟩ := bnd_some h
 refine Ops.on 4 (fun h0 e0 => (call_ok (E' := EG) (h := h0) (by kernel_rfl) (Args.v (.agg [(.sl .nonfull (List.map eI [97])), (.sl .nil (List.map eI [])), (.sl .nil (List.map eI [])), (.sl .nil (List.map eI []))]) (e23 ((⟨[97], [], [], []⟩ : S23))) (by kernel_rfl) (Args.v (.sl .nonfull (List.map eI ([97, 98]))) ((eL eI) ([97, 98])) (by kernel_rfl) Args.nil)) (ok5 m ((⟨[97], [], [], []⟩ : S23)) ([97, 98]) v1 ev1 n (by omega)))) ?_
 refine Ops.sg 7 11 ?_
 refine Ops.dn ?_
 refine seqQ.n ?_
 refine Wp.sq ?_
 refine Wp.sq ?_
 refine Wp.rg ?_
 refine Ops.sg 4 4 ?_
 refine Ops.hv (fun KQ => ∀ (d4 d5 d6 d7 : D) (v8 : Bool) (v9 : Bool), f4_r3 m v1 v9 = some o → KQ 9 ⟨(dB false) :: (.ptr 0 0) :: (.ptr 1 0) :: u3 ((.v (.tuple [(.agg [(vI v1.1.fStates), (vP e53 v1.1.fArcs), (vP e58 v1.1.fFinals)]), (.agg [(vI v1.2.fCode), (vI v1.2.fIndex)])])) :: (.v (.sl .nonfull (List.map eI [97]))) :: (.v (.agg [(.sl .nonfull (List.map eI [97])), (.sl .nil (List.map eI [])), (.sl .nil (List.map eI [])), (.sl .nil (List.map eI []))])) :: (.v (.sl .nonfull (List.map eI ([97, 98])))) :: (.v (.tuple [(.agg [(vI v1.1.fStates), (vP e53 v1.1.fArcs), (vP e58 v1.1.fFinals)]), (.agg [(vI v1.2.fCode), (vI v1.2.fIndex)])])) :: (.v (.agg [(vI v1.1.fStates), (vP e53 v1.1.fArcs), (vP e58 v1.1.fFinals)])) :: (.v (.agg [(vI v1.2.fCode), (vI v1.2.fIndex)])) :: (.v (.agg [(vI v1.2.fCode), (vI v1.2.fIndex)])) :: (.v (.agg [(vI 0), (vI 0)])) :: (dB v8) :: (dB v8) :: d4 :: d5 :: d6 :: d7 :: (dB v9) :: u18 []), [(b4_0 v1), (b4_1 v1)]⟩) ?_ fun J4j10 => ?_
 ·intro d4 d5 d6 d7 v8 v9 h
  unfold f4_r3 at h
  refine Ops.dn ?_
  refine seqQ.n ?_
  refine Wp.cnd h [0, 1] 2 (by kernel_rfl) (fun h => ?_) (fun h => ?_)
  ·refine Wp.sq ?_
   refine Wp.rg ?_
   refine Ops.sg 1 1 ?_
   refine Ops.dn ?_
   refine seqQ.n ?_
   refine Wp.ret (by kernel_rfl) ?_
   refine sqQ.r ?_
   refine seqQ.r ?_
   exact fnQ.r' (X4 n) (fun z => (eB z)) h (RetOk.mk' (dB false) (by kernel_rfl) (by kernel_rfl))
  ·refine Wp.sk ?_
   refine sqQ.n' ?_
   refine seqQ.n ?_
   refine Wp.sq ?_
   refine Wp.rg ?_
   refine Ops.sg 3 3 ?_
   obtain ⟨v11, ev11, h⟩ := bnd_some h
   refine Ops.on 4 (fun h0 e0 => (call_ok (E' := EG) (h := h0) (by kernel_rfl) (Args.v (.agg [(vI v1.1.fStates), (vP e53 v1.1.fArcs), (vP e58 v1.1.fFinals)]) (e28 v1.1) (by kernel_rfl) (Args.v (.sl .nonfull (List.map eI ([97, 98]))) ((eL eI) ([97, 98])) (by kernel_rfl) (Args.v (.sl .nonfull (List.map eI [98])) ((eL eI) [98]) (by kernel_rfl) Args.nil))) (ok11 m v1.1 ([97, 98]) [98] v11 ev11 n (by omega)))) ?_
   refine Ops.sg 8 12 ?_
   refine Ops.dn ?_
   refine seqQ.n ?_
   refine Wp.sq ?_
   refine Wp.rg ?_
   refine Ops.sg 3 3 ?_
   refine Ops.hv (fun KQ => ∀ (d14 : D) (v15 : Bool) (v16 : Bool), f4_r2 m v11 v16 = some o → KQ 5 ⟨(dB false) :: (.ptr 0 0) :: (.ptr 1 0) :: (dI v11.1) :: (dB v11.2.1) :: (.ptr 2 0) :: (.v (.tuple [(.agg [(vI v1.1.fStates), (vP e53 v1.1.fArcs), (vP e58 v1.1.fFinals)]), (.agg [(vI v1.2.fCode), (vI v1.2.fIndex)])])) :: (.v (.sl .nonfull (List.map eI [97]))) :: (.v (.agg [(.sl .nonfull (List.map eI [97])), (.sl .nil (List.map eI [])), (.sl .nil (List.map eI [])), (.sl .nil (List.map eI []))])) :: (.v (.sl .nonfull (List.map eI ([97, 98])))) :: (.v (.tuple [(.agg [(vI v1.1.fStates), (vP e53 v1.1.fArcs), (vP e58 v1.1.fFinals)]), (.agg [(vI v1.2.fCode), (vI v1.2.fIndex)])])) :: (.v (.agg [(vI v1.1.fStates), (vP e53 v1.1.fArcs), (vP e58 v1.1.fFinals)])) :: (.v (.agg [(vI v1.2.fCode), (vI v1.2.fIndex)])) :: (.v (.agg [(vI v1.2.fCode), (vI v1.2.fIndex)])) :: (.v (.agg [(vI 0), (vI 0)])) :: (dB v8) :: (dB v8) :: d4 :: d5 :: d6 :: d7 :: (dB v9) :: (.v (.tuple [(vI v11.1), (vB v11.2.1), (.agg [(vI v11.2.2.fCode), (vI v11.2.2.fIndex)])])) :: (.v (.agg [(vI v1.1.fStates), (vP e53 v1.1.fArcs), (vP e58 v1.1.fFinals)])) :: (.v (.sl .nonfull (List.map eI ([97, 98])))) :: (.v (.sl .nonfull (List.map eI [98]))) :: (.v (.tuple [(vI v11.1), (vB v11.2.1), (.agg [(vI v11.2.2.fCode), (vI v11.2.2.fIndex)])])) :: (dI v11.1) :: (dB v11.2.1) :: (.v (.agg [(vI v11.2.2.fCode), (vI v11.2.2.fIndex)])) :: (dI v11.1) :: (dB v15) :: (dB v15) :: d14 :: (dB v16) :: u5 [], [(b4_0 v1), (b4_1 v1), (.cells [(dI v11.2.2.fCode), (dI v11.2.2.fIndex)])]⟩) ?_ fun J4j17 => ?_
   ·intro d14 v15 v16 h
    unfold f4_r2 at h
    refine Ops.sg 1 6 ?_
    refine Ops.hv (fun KQ => ∀ (d20 d21 d22 : D) (v23 : Bool) (v24 : Bool), f4_r1 m v24 = some o → KQ 10 ⟨(dB false) :: (.ptr 0 0) :: (.ptr 1 0) :: (dI v11.1) :: (dB v11.2.1) :: (.ptr 2 0) :: (.v (.tuple [(.agg [(vI v1.1.fStates), (vP e53 v1.1.fArcs), (vP e58 v1.1.fFinals)]), (.agg [(vI v1.2.fCode), (vI v1.2.fIndex)])])) :: (.v (.sl .nonfull (List.map eI [97]))) :: (.v (.agg [(.sl .nonfull (List.map eI [97])), (.sl .nil (List.map eI [])), (.sl .nil (List.map eI [])), (.sl .nil (List.map eI []))])) :: (.v (.sl .nonfull (List.map eI ([97, 98])))) :: (.v (.tuple [(.agg [(vI v1.1.fStates), (vP e53 v1.1.fArcs), (vP e58 v1.1.fFinals)]), (.agg [(vI v1.2.fCode), (vI v1.2.fIndex)])])) :: (.v (.agg [(vI v1.1.fStates), (vP e53 v1.1.fArcs), (vP e58 v1.1.fFinals)])) :: (.v (.agg [(vI v1.2.fCode), (vI v1.2.fIndex)])) :: (.v (.agg [(vI v1.2.fCode), (vI v1.2.fIndex)])) :: (.v (.agg [(vI 0), (vI 0)])) :: (dB v8) :: (dB v8) :: d4 :: d5 :: d6 :: d7 :: (dB v9) :: (.v (.tuple [(vI v11.1), (vB v11.2.1), (.agg [(vI v11.2.2.fCode), (vI v11.2.2.fIndex)])])) :: (.v (.agg [(vI v1.1.fStates), (vP e53 v1.1.fArcs), (vP e58 v1.1.fFinals)])) :: (.v (.sl .nonfull (List.map eI ([97, 98])))) :: (.v (.sl .nonfull (List.map eI [98]))) :: (.v (.tuple [(vI v11.1), (vB v11.2.1), (.agg [(vI v11.2.2.fCode), (vI v11.2.2.fIndex)])])) :: (dI v11.1) :: (dB v11.2.1) :: (.v (.agg [(vI v11.2.2.fCode), (vI v11.2.2.fIndex)])) :: (dI v11.1) :: (dB v15) :: (dB v15) :: d14 :: (dB v23) :: (dB v23) :: d20 :: d21 :: d22 :: (dB v24) :: [], [(b4_0 v1), (b4_1 v1), (.cells [(dI v11.2.2.fCode), (dI v11.2.2.fIndex)])]⟩) ?_ fun J4j25 => ?_
    ·intro d20 d21 d22 v23 v24 h
     unfold f4_r1 at h
     refine Ops.sg 1 11 ?_
     refine Ops.dn ?_
     refine seqQ.n ?_
     refine Wp.ret (by kernel_rfl) ?_
     exact fnQ.r' (X4 n) (fun z => (eB z)) h (RetOk.mk' (dB v24) (by kernel_rfl) (by kernel_rfl))
    refine Ops.hv (fun KQ => ∀ v18 : Bool, f4_r1 m (v18 && ((v11.2.2.fCode == 0) && ((v11.2.2.fIndex == 0) && true))) = some o → KQ 6 ⟨(dB false) :: (.ptr 0 0) :: (.ptr 1 0) :: (dI v11.1) :: (dB v11.2.1) :: (.ptr 2 0) :: (.v (.tuple [(.agg [(vI v1.1.fStates), (vP e53 v1.1.fArcs), (vP e58 v1.1.fFinals)]), (.agg [(vI v1.2.fCode), (vI v1.2.fIndex)])])) :: (.v (.sl .nonfull (List.map eI [97]))) :: (.v (.agg [(.sl .nonfull (List.map eI [97])), (.sl .nil (List.map eI [])), (.sl .nil (List.map eI [])), (.sl .nil (List.map eI []))])) :: (.v (.sl .nonfull (List.map eI ([97, 98])))) :: (.v (.tuple [(.agg [(vI v1.1.fStates), (vP e53 v1.1.fArcs), (vP e58 v1.1.fFinals)]), (.agg [(vI v1.2.fCode), (vI v1.2.fIndex)])])) :: (.v (.agg [(vI v1.1.fStates), (vP e53 v1.1.fArcs), (vP e58 v1.1.fFinals)])) :: (.v (.agg [(vI v1.2.fCode), (vI v1.2.fIndex)])) :: (.v (.agg [(vI v1.2.fCode), (vI v1.2.fIndex)])) :: (.v (.agg [(vI 0), (vI 0)])) :: (dB v8) :: (dB v8) :: d4 :: d5 :: d6 :: d7 :: (dB v9) :: (.v (.tuple [(vI v11.1), (vB v11.2.1), (.agg [(vI v11.2.2.fCode), (vI v11.2.2.fIndex)])])) :: (.v (.agg [(vI v1.1.fStates), (vP e53 v1.1.fArcs), (vP e58 v1.1.fFinals)])) :: (.v (.sl .nonfull (List.map eI ([97, 98])))) :: (.v (.sl .nonfull (List.map eI [98]))) :: (.v (.tuple [(vI v11.1), (vB v11.2.1), (.agg [(vI v11.2.2.fCode), (vI v11.2.2.fIndex)])])) :: (dI v11.1) :: (dB v11.2.1) :: (.v (.agg [(vI v11.2.2.fCode), (vI v11.2.2.fIndex)])) :: (dI v11.1) :: (dB v15) :: (dB v15) :: d14 :: (dB v18) :: (dB v18) :: u4 [], [(b4_0 v1), (b4_1 v1), (.cells [(dI v11.2.2.fCode), (dI v11.2.2.fIndex)])]⟩) ?_ fun G4g19 => Ops.st _ (by kernel_rfl) (G4g19 v16 h)
    intro v18 h
    cases v18
    ·refine Ops.sg 4 10 ?_
     exact Ops.st _ (by kernel_rfl) (J4j25 U U U false false h)
    ·refine Ops.sg 4 10 ?_
     exact Ops.st _ (by kernel_rfl) (J4j25 ((.v (.agg [(vI v11.2.2.fCode), (vI v11.2.2.fIndex)]))) ((.v (.agg [(vI 0), (vI 0)]))) (dB ((v11.2.2.fCode == 0) && ((v11.2.2.fIndex == 0) && true))) true ((v11.2.2.fCode == 0) && ((v11.2.2.fIndex == 0) && true)) h)
   refine Ops.hv (fun KQ => ∀ v12 : Bool, f4_r2 m v11 (v12 && v11.2.1) = some o → KQ 3 ⟨(dB false) :: (.ptr 0 0) :: (.ptr 1 0) :: (dI v11.1) :: (dB v11.2.1) :: (.ptr 2 0) :: (.v (.tuple [(.agg [(vI v1.1.fStates), (vP e53 v1.1.fArcs), (vP e58 v1.1.fFinals)]), (.agg [(vI v1.2.fCode), (vI v1.2.fIndex)])])) :: (.v (.sl .nonfull (List.map eI [97]))) :: (.v (.agg [(.sl .nonfull (List.map eI [97])), (.sl .nil (List.map eI [])), (.sl .nil (List.map eI [])), (.sl .nil (List.map eI []))])) :: (.v (.sl .nonfull (List.map eI ([97, 98])))) :: (.v (.tuple [(.agg [(vI v1.1.fStates), (vP e53 v1.1.fArcs), (vP e58 v1.1.fFinals)]), (.agg [(vI v1.2.fCode), (vI v1.2.fIndex)])])) :: (.v (.agg [(vI v1.1.fStates), (vP e53 v1.1.fArcs), (vP e58 v1.1.fFinals)])) :: (.v (.agg [(vI v1.2.fCode), (vI v1.2.fIndex)])) :: (.v (.agg [(vI v1.2.fCode), (vI v1.2.fIndex)])) :: (.v (.agg [(vI 0), (vI 0)])) :: (dB v8) :: (dB v8) :: d4 :: d5 :: d6 :: d7 :: (dB v9) :: (.v (.tuple [(vI v11.1), (vB v11.2.1), (.agg [(vI v11.2.2.fCode), (vI v11.2.2.fIndex)])])) :: (.v (.agg [(vI v1.1.fStates), (vP e53 v1.1.fArcs), (vP e58 v1.1.fFinals)])) :: (.v (.sl .nonfull (List.map eI ([97, 98])))) :: (.v (.sl .nonfull (List.map eI [98]))) :: (.v (.tuple [(vI v11.1), (vB v11.2.1), (.agg [(vI v11.2.2.fCode), (vI v11.2.2.fIndex)])])) :: (dI v11.1) :: (dB v11.2.1) :: (.v (.agg [(vI v11.2.2.fCode), (vI v11.2.2.fIndex)])) :: (dI v11.1) :: (dB v12) :: (dB v12) :: u7 [], [(b4_0 v1), (b4_1 v1), (.cells [(dI v11.2.2.fCode), (dI v11.2.2.fIndex)])]⟩) ?_ fun G4g13 => Ops.st _ (by kernel_rfl) (G4g13 (v11.1 == 0) h)
   intro v12 h
   cases v12
   ·refine Ops.sg 2 5 ?_
    exact Ops.st _ (by kernel_rfl) (J4j17 U false false h)
   ·refine Ops.sg 2 5 ?_
    exact Ops.st _ (by kernel_rfl) (J4j17 (dB v11.2.1) true v11.2.1 h)
 obtain ⟨v9, ev9, h⟩ := bnd_some h
 refine Ops.hv (fun KQ => ∀ v2 : Bool, (cnd v2 (some true) (bnd (f10 m v1.1) fun v26 => some (!((v26.fCode == 0) && ((v26.fIndex == 0) && true))))) = some v9 → KQ 4 ⟨(dB false) :: (.ptr 0 0) :: (.ptr 1 0) :: u3 ((.v (.tuple [(.agg [(vI v1.1.fStates), (vP e53 v1.1.fArcs), (vP e58 v1.1.fFinals)]), (.agg [(vI v1.2.fCode), (vI v1.2.fIndex)])])) :: (.v (.sl .nonfull (List.map eI [97]))) :: (.v (.agg [(.sl .nonfull (List.map eI [97])), (.sl .nil (List.map eI [])), (.sl .nil (List.map eI [])), (.sl .nil (List.map eI []))])) :: (.v (.sl .nonfull (List.map eI ([97, 98])))) :: (.v (.tuple [(.agg [(vI v1.1.fStates), (vP e53 v1.1.fArcs), (vP e58 v1.1.fFinals)]), (.agg [(vI v1.2.fCode), (vI v1.2.fIndex)])])) :: (.v (.agg [(vI v1.1.fStates), (vP e53 v1.1.fArcs), (vP e58 v1.1.fFinals)])) :: (.v (.agg [(vI v1.2.fCode), (vI v1.2.fIndex)])) :: (.v (.agg [(vI v1.2.fCode), (vI v1.2.fIndex)])) :: (.v (.agg [(vI 0), (vI 0)])) :: (dB v2) :: (dB v2) :: u23 []), [(b4_0 v1), (b4_1 v1)]⟩) ?_ fun G4g3 => Ops.st _ (by kernel_rfl) (G4g3 (!((v1.2.fCode == 0) && ((v1.2.fIndex == 0) && true))) ev9)
 intro v2 ev9
 cases v2
 ·have ev9 := cnd_f ev9
  refine Ops.sg 1 5 ?_
  obtain ⟨v26, ev26, ev9⟩ := bnd_some ev9
  refine Ops.on 6 (fun h0 e0 => (call_ok (E' := EG) (h := h0) (by kernel_rfl) (Args.v (.agg [(vI v1.1.fStates), (vP e53 v1.1.fArcs), (vP e58 v1.1.fFinals)]) (e28 v1.1) (by kernel_rfl) Args.nil) (ok10g m v1.1 v26 ev26 n (by omega)))) ?_
  refine Ops.sg 3 9 ?_
  exact Ops.st _ (by kernel_rfl) (J4j10 ((.v (.agg [(vI v1.1.fStates), (vP e53 v1.1.fArcs), (vP e58 v1.1.fFinals)]))) ((.v (.agg [(vI v26.fCode), (vI v26.fIndex)]))) ((.v (.agg [(vI 0), (vI 0)]))) (dB (!((v26.fCode == 0) && ((v26.fIndex == 0) && true)))) false (!((v26.fCode == 0) && ((v26.fIndex == 0) && true))) (some_sub (fun v9 => f4_r3 m v1 v9 = some o) ev9 h))
 ·have ev9 := cnd_t ev9
  refine Ops.sg 5 9 ?_
  exact Ops.st _ (by kernel_rfl) (J4j10 U U U U true true (some_sub (fun v9 => f4_r3 m v1 v9 = some o) ev9 h))
noncomputable def f3_r1 (m : Nat) (v23 : Bool) : Option Bool :=
 some v23
noncomputable def f3_r2 (m : Nat) (a1 : (List Int)) (a2 : (List Int)) (v2 : (S28 × S30)) (v10 : Bool) : Option Bool :=
 cnd v10
 (some true)
 (bnd (f7 m v2.1) fun v12 =>
 bnd (cnd ((v12.2.fCode == 0) && ((v12.2.fIndex == 0) && true))
 (bnd (f8 m v12.1 a2) fun v25 =>
 bnd (f9 m a2 a1) fun v26 =>
 some (v25 == v26))
 (some false)) fun v23 =>
 f3_r1 m v23)
noncomputable def f3 (m : Nat) (a0 : S23) (a1 : (List Int)) (a2 : (List Int)) : Option Bool :=
 bnd (f4 m ) fun v1 =>
 cnd (!v1)
 (some false)
 (bnd (f5 m a0 a1) fun v2 =>
 bnd (cnd (!((v2.2.fCode == 0) && ((v2.2.fIndex == 0) && true)))
 (some true)
 (bnd (f6 m a2 0) fun v27 =>
 some (!((v27.fCode == 0) && ((v27.fIndex == 0) && true))))) fun v10 =>
 f3_r2 m a1 a2 v2 v10)
noncomputable abbrev X3 (n : Nat) : Cx := cxOf Proofs.Try.prog EG 3 n
abbrev b3_0 (w0 : S23) : AObj := .cells [(dP eI w0.fFrom), (dP eI w0.fTo), (dP eI w0.fLeft), (dP eI w0.fRight)]
abbrev b3_1 (w0 : (S28 × S30)) : AObj := .cells [(dI w0.1.fStates), (dP e53 w0.1.fArcs), (dP e58 w0.1.fFinals)]
abbrev b3_2 (w0 : (S28 × S30)) : AObj := .cells [(dI w0.2.fCode), (dI w0.2.fIndex)]
theorem ok3 (m : Nat) (a0 : S23) (a1 : (List Int)) (a2 : (List Int)) (o : Bool) (h : f3 m a0 a1 a2 = some o) (n : Nat) (hn : m + 4 ≤ n) : Fn Proofs.Try.prog EG n 3 [.v (e23 a0), .v ((eL eI) a1), .v ((eL eI) a2)] (eB o) := by
 obtain ⟨n, rfl⟩ : ∃ q, n = q + 1 := ⟨n - 1, by omega⟩
 unfold f3 at h
 refine Fn.of (by kernel_rfl) (by kernel_rfl) (by kernel_rfl) ⟨(.v (.agg [(vP eI a0.fFrom), (vP eI a0.fTo), (vP eI a0.fLeft), (vP eI a0.fRight)])) :: (dP eI a1) :: (dP eI a2) :: u40 (u2 []), []⟩ (by kernel_rfl) ?_
 refine Wp.sq ?_
 refine Wp.rg ?_
 refine Ops.sg 2 2 ?_
 refine Ops.dn ?_
 refine seqQ.n ?_
 refine Wp.sq ?_
 refine Wp.sq ?_
 refine Wp.rg ?_
 obtain ⟨v1, ev1, h⟩ := bnd_some h
 refine Ops.on 1 (fun h0 e0 => (call_ok (E' := EG) (h := h0) (by kernel_rfl) Args.nil (ok4 m  v1 ev1 n (by omega)))) ?_
 refine Ops.sg 1 2 ?_
 refine Ops.dn ?_
 refine seqQ.n ?_
 refine Wp.cnd h [1, 2, 3, 6] 1 (by kernel_rfl) (fun h => ?_) (fun h => ?_)
 ·refine Wp.sq ?_
  refine Wp.rg ?_
  refine Ops.sg 1 1 ?_
  refine Ops.dn ?_
  refine seqQ.n ?_
  refine Wp.ret (by kernel_rfl) ?_
  refine sqQ.r ?_
  refine seqQ.r ?_
  exact fnQ.r' (X3 n) (fun z => (eB z)) h (RetOk.mk' (dB false) (by kernel_rfl) (by kernel_rfl))
 ·refine Wp.sk ?_
  refine sqQ.n' ?_
  refine seqQ.n ?_
  refine Wp.sq ?_
  refine Wp.rg ?_
  refine Ops.sg 2 2 ?_
  obtain ⟨v2, ev2, h⟩ := bnd_some h
  refine Ops.on 3 (fun h0 e0 => (call_ok (E' := EG) (h := h0) (by kernel_rfl) (Args.v (.agg [(vP eI a0.fFrom), (vP eI a0.fTo), (vP eI a0.fLeft), (vP eI a0.fRight)]) (e23 a0) (by kernel_rfl) (Args.v (vP eI a1) ((eL eI) a1) (by kernel_rfl) Args.nil)) (ok5 m a0 a1 v2 ev2 n (by omega)))) ?_
  refine Ops.sg 7 10 ?_
  refine Ops.dn ?_
  refine seqQ.n ?_
  refine Wp.sq ?_
  refine Wp.sq ?_
  refine Wp.rg ?_
  refine Ops.sg 4 4 ?_
  refine Ops.hv (fun KQ => ∀ (d5 d6 d7 d8 : D) (v9 : Bool) (v10 : Bool), f3_r2 m a1 a2 v2 v10 = some o → KQ 9 ⟨(.v (.agg [(vP eI a0.fFrom), (vP eI a0.fTo), (vP eI a0.fLeft), (vP eI a0.fRight)])) :: (dP eI a1) :: (dP eI a2) :: (.ptr 0 0) :: u2 ((dB false) :: (.ptr 1 0) :: (.ptr 2 0) :: u2 ((dB v1) :: (dB (!v1)) :: (.v (.tuple [(.agg [(vI v2.1.fStates), (vP e53 v2.1.fArcs), (vP e58 v2.1.fFinals)]), (.agg [(vI v2.2.fCode), (vI v2.2.fIndex)])])) :: (.v (.agg [(vP eI a0.fFrom), (vP eI a0.fTo), (vP eI a0.fLeft), (vP eI a0.fRight)])) :: (dP eI a1) :: (.v (.tuple [(.agg [(vI v2.1.fStates), (vP e53 v2.1.fArcs), (vP e58 v2.1.fFinals)]), (.agg [(vI v2.2.fCode), (vI v2.2.fIndex)])])) :: (.v (.agg [(vI v2.1.fStates), (vP e53 v2.1.fArcs), (vP e58 v2.1.fFinals)])) :: (.v (.agg [(vI v2.2.fCode), (vI v2.2.fIndex)])) :: (.v (.agg [(vI v2.2.fCode), (vI v2.2.fIndex)])) :: (.v (.agg [(vI 0), (vI 0)])) :: (dB v9) :: (dB v9) :: d5 :: d6 :: d7 :: d8 :: (dB v10) :: u17 [])), [(b3_0 a0), (b3_1 v2), (b3_2 v2)]⟩) ?_ fun J3j11 => ?_
  ·intro d5 d6 d7 d8 v9 v10 h
   unfold f3_r2 at h
   refine Ops.dn ?_
   refine seqQ.n ?_
   refine Wp.cnd h [1, 2, 6, 7] 3 (by kernel_rfl) (fun h => ?_) (fun h => ?_)
   ·refine Wp.sq ?_
    refine Wp.rg ?_
    refine Ops.sg 1 1 ?_
    refine Ops.dn ?_
    refine seqQ.n ?_
    refine Wp.ret (by kernel_rfl) ?_
    refine sqQ.r ?_
    refine seqQ.r ?_
    exact fnQ.r' (X3 n) (fun z => (eB z)) h (RetOk.mk' (dB true) (by kernel_rfl) (by kernel_rfl))
   ·refine Wp.sk ?_
    refine sqQ.n' ?_
    refine seqQ.n ?_
    refine Wp.sq ?_
    refine Wp.rg ?_
    refine Ops.sg 1 1 ?_
    obtain ⟨v12, ev12, h⟩ := bnd_some h
    refine Ops.on 2 (fun h0 e0 => (call_ok (E' := EG) (h := h0) (by kernel_rfl) (Args.v (.agg [(vI v2.1.fStates), (vP e53 v2.1.fArcs), (vP e58 v2.1.fFinals)]) (e28 v2.1) (by kernel_rfl) Args.nil) (ok7 m v2.1 v12 ev12 n (by omega)))) ?_
    refine Ops.sg 7 9 ?_
    refine Ops.dn ?_
    refine seqQ.n ?_
    refine Wp.sq ?_
    refine Wp.rg ?_
    refine Ops.sg 4 4 ?_
    refine Ops.hv (fun KQ => ∀ (d15 d16 d17 d18 d19 d20 d21 : D) (v22 : Bool) (v23 : Bool), f3_r1 m v23 = some o → KQ 12 ⟨(.v (.agg [(vP eI a0.fFrom), (vP eI a0.fTo), (vP eI a0.fLeft), (vP eI a0.fRight)])) :: (dP eI a1) :: (dP eI a2) :: (.ptr 0 0) :: u2 ((dB false) :: (.ptr 1 0) :: (.ptr 2 0) :: (.ptr 3 0) :: (.ptr 4 0) :: (dB v1) :: (dB (!v1)) :: (.v (.tuple [(.agg [(vI v2.1.fStates), (vP e53 v2.1.fArcs), (vP e58 v2.1.fFinals)]), (.agg [(vI v2.2.fCode), (vI v2.2.fIndex)])])) :: (.v (.agg [(vP eI a0.fFrom), (vP eI a0.fTo), (vP eI a0.fLeft), (vP eI a0.fRight)])) :: (dP eI a1) :: (.v (.tuple [(.agg [(vI v2.1.fStates), (vP e53 v2.1.fArcs), (vP e58 v2.1.fFinals)]), (.agg [(vI v2.2.fCode), (vI v2.2.fIndex)])])) :: (.v (.agg [(vI v2.1.fStates), (vP e53 v2.1.fArcs), (vP e58 v2.1.fFinals)])) :: (.v (.agg [(vI v2.2.fCode), (vI v2.2.fIndex)])) :: (.v (.agg [(vI v2.2.fCode), (vI v2.2.fIndex)])) :: (.v (.agg [(vI 0), (vI 0)])) :: (dB v9) :: (dB v9) :: d5 :: d6 :: d7 :: d8 :: (dB v10) :: (.v (.tuple [(.agg [(vI v12.1.fStates), (vP e53 v12.1.fArcs), (vP e58 v12.1.fFinals)]), (.agg [(vI v12.2.fCode), (vI v12.2.fIndex)])])) :: (.v (.agg [(vI v2.1.fStates), (vP e53 v2.1.fArcs), (vP e58 v2.1.fFinals)])) :: (.v (.tuple [(.agg [(vI v12.1.fStates), (vP e53 v12.1.fArcs), (vP e58 v12.1.fFinals)]), (.agg [(vI v12.2.fCode), (vI v12.2.fIndex)])])) :: (.v (.agg [(vI v12.1.fStates), (vP e53 v12.1.fArcs), (vP e58 v12.1.fFinals)])) :: (.v (.agg [(vI v12.2.fCode), (vI v12.2.fIndex)])) :: (.v (.agg [(vI v12.2.fCode), (vI v12.2.fIndex)])) :: (.v (.agg [(vI 0), (vI 0)])) :: (dB v22) :: (dB v22) :: d15 :: d16 :: d17 :: d18 :: d19 :: d20 :: d21 :: (dB v23) :: []), [(b3_0 a0), (b3_1 v2), (b3_2 v2), (b3_1 v12), (b3_2 v12)]⟩) ?_ fun J3j24 => ?_
    ·intro d15 d16 d17 d18 d19 d20 d21 v22 v23 h
     unfold f3_r1 at h
     refine Ops.sg 1 13 ?_
     refine Ops.dn ?_
     refine seqQ.n ?_
     refine Wp.ret (by kernel_rfl) ?_
     exact fnQ.r' (X3 n) (fun z => (eB z)) h (RetOk.mk' (dB v23) (by kernel_rfl) (by kernel_rfl))
    obtain ⟨v23, ev23, h⟩ := bnd_some h
    refine Ops.hv (fun KQ => ∀ v13 : Bool, (cnd v13 (bnd (f8 m v12.1 a2) fun v25 => bnd (f9 m a2 a1) fun v26 => some (v25 == v26)) (some false)) = some v23 → KQ 4 ⟨(.v (.agg [(vP eI a0.fFrom), (vP eI a0.fTo), (vP eI a0.fLeft), (vP eI a0.fRight)])) :: (dP eI a1) :: (dP eI a2) :: (.ptr 0 0) :: u2 ((dB false) :: (.ptr 1 0) :: (.ptr 2 0) :: (.ptr 3 0) :: (.ptr 4 0) :: (dB v1) :: (dB (!v1)) :: (.v (.tuple [(.agg [(vI v2.1.fStates), (vP e53 v2.1.fArcs), (vP e58 v2.1.fFinals)]), (.agg [(vI v2.2.fCode), (vI v2.2.fIndex)])])) :: (.v (.agg [(vP eI a0.fFrom), (vP eI a0.fTo), (vP eI a0.fLeft), (vP eI a0.fRight)])) :: (dP eI a1) :: (.v (.tuple [(.agg [(vI v2.1.fStates), (vP e53 v2.1.fArcs), (vP e58 v2.1.fFinals)]), (.agg [(vI v2.2.fCode), (vI v2.2.fIndex)])])) :: (.v (.agg [(vI v2.1.fStates), (vP e53 v2.1.fArcs), (vP e58 v2.1.fFinals)])) :: (.v (.agg [(vI v2.2.fCode), (vI v2.2.fIndex)])) :: (.v (.agg [(vI v2.2.fCode), (vI v2.2.fIndex)])) :: (.v (.agg [(vI 0), (vI 0)])) :: (dB v9) :: (dB v9) :: d5 :: d6 :: d7 :: d8 :: (dB v10) :: (.v (.tuple [(.agg [(vI v12.1.fStates), (vP e53 v12.1.fArcs), (vP e58 v12.1.fFinals)]), (.agg [(vI v12.2.fCode), (vI v12.2.fIndex)])])) :: (.v (.agg [(vI v2.1.fStates), (vP e53 v2.1.fArcs), (vP e58 v2.1.fFinals)])) :: (.v (.tuple [(.agg [(vI v12.1.fStates), (vP e53 v12.1.fArcs), (vP e58 v12.1.fFinals)]), (.agg [(vI v12.2.fCode), (vI v12.2.fIndex)])])) :: (.v (.agg [(vI v12.1.fStates), (vP e53 v12.1.fArcs), (vP e58 v12.1.fFinals)])) :: (.v (.agg [(vI v12.2.fCode), (vI v12.2.fIndex)])) :: (.v (.agg [(vI v12.2.fCode), (vI v12.2.fIndex)])) :: (.v (.agg [(vI 0), (vI 0)])) :: (dB v13) :: (dB v13) :: u8 []), [(b3_0 a0), (b3_1 v2), (b3_2 v2), (b3_1 v12), (b3_2 v12)]⟩) ?_ fun G3g14 => Ops.st _ (by kernel_rfl) (G3g14 ((v12.2.fCode == 0) && ((v12.2.fIndex == 0) && true)) ev23)
    intro v13 ev23
    cases v13
    ·have ev23 := cnd_f ev23
     refine Ops.sg 8 12 ?_
     exact Ops.st _ (by kernel_rfl) (J3j24 U U U U U U U false false (some_sub (fun v23 => f3_r1 m v23 = some o) ev23 h))
    ·have ev23 := cnd_t ev23
     refine Ops.sg 2 6 ?_
     obtain ⟨v25, ev25, ev23⟩ := bnd_some ev23
     refine Ops.on 7 (fun h0 e0 => (call_ok (E' := EG) (h := h0) (by kernel_rfl) (Args.v (.agg [(vI v12.1.fStates), (vP e53 v12.1.fArcs), (vP e58 v12.1.fFinals)]) (e28 v12.1) (by kernel_rfl) (Args.v (vP eI a2) ((eL eI) a2) (by kernel_rfl) Args.nil)) (ok8 m v12.1 a2 v25 ev25 n (by omega)))) ?_
     refine Ops.sg 2 9 ?_
     obtain ⟨v26, ev26, ev23⟩ := bnd_some ev23
     refine Ops.on 10 (fun h0 e0 => (call_ok (E' := EG) (h := h0) (by kernel_rfl) (Args.v (vP eI a2) ((eL eI) a2) (by kernel_rfl) (Args.v (vP eI a1) ((eL eI) a1) (by kernel_rfl) Args.nil)) (ok9g m a2 a1 v26 ev26 n (by omega)))) ?_
     refine Ops.sg 2 12 ?_
     exact Ops.st _ (by kernel_rfl) (J3j24 ((.v (.agg [(vI v12.1.fStates), (vP e53 v12.1.fArcs), (vP e58 v12.1.fFinals)]))) (dP eI a2) (dB v25) (dP eI a2) (dP eI a1) (dB v26) (dB (v25 == v26)) true (v25 == v26) (some_sub (fun v23 => f3_r1 m v23 = some o) ev23 h))
  obtain ⟨v10, ev10, h⟩ := bnd_some h
  refine Ops.hv (fun KQ => ∀ v3 : Bool, (cnd v3 (some true) (bnd (f6 m a2 0) fun v27 => some (!((v27.fCode == 0) && ((v27.fIndex == 0) && true))))) = some v10 → KQ 4 ⟨(.v (.agg [(vP eI a0.fFrom), (vP eI a0.fTo), (vP eI a0.fLeft), (vP eI a0.fRight)])) :: (dP eI a1) :: (dP eI a2) :: (.ptr 0 0) :: u2 ((dB false) :: (.ptr 1 0) :: (.ptr 2 0) :: u2 ((dB v1) :: (dB (!v1)) :: (.v (.tuple [(.agg [(vI v2.1.fStates), (vP e53 v2.1.fArcs), (vP e58 v2.1.fFinals)]), (.agg [(vI v2.2.fCode), (vI v2.2.fIndex)])])) :: (.v (.agg [(vP eI a0.fFrom), (vP eI a0.fTo), (vP eI a0.fLeft), (vP eI a0.fRight)])) :: (dP eI a1) :: (.v (.tuple [(.agg [(vI v2.1.fStates), (vP e53 v2.1.fArcs), (vP e58 v2.1.fFinals)]), (.agg [(vI v2.2.fCode), (vI v2.2.fIndex)])])) :: (.v (.agg [(vI v2.1.fStates), (vP e53 v2.1.fArcs), (vP e58 v2.1.fFinals)])) :: (.v (.agg [(vI v2.2.fCode), (vI v2.2.fIndex)])) :: (.v (.agg [(vI v2.2.fCode), (vI v2.2.fIndex)])) :: (.v (.agg [(vI 0), (vI 0)])) :: (dB v3) :: (dB v3) :: u22 [])), [(b3_0 a0), (b3_1 v2), (b3_2 v2)]⟩) ?_ fun G3g4 => Ops.st _ (by kernel_rfl) (G3g4 (!((v2.2.fCode == 0) && ((v2.2.fIndex == 0) && true))) ev10)
  intro v3 ev10
  cases v3
  ·have ev10 := cnd_f ev10
   refine Ops.sg 1 5 ?_
   obtain ⟨v27, ev27, ev10⟩ := bnd_some ev10
   refine Ops.on 6 (fun h0 e0 => (call_ok (E' := EG) (h := h0) (by kernel_rfl) (Args.v (vP eI a2) ((eL eI) a2) (by kernel_rfl) (Args.v (vI 0) (eI 0) (by kernel_rfl) Args.nil)) (ok6g m a2 0 v27 ev27 n (by omega)))) ?_
   refine Ops.sg 3 9 ?_
   exact Ops.st _ (by kernel_rfl) (J3j11 (dP eI a2) ((.v (.agg [(vI v27.fCode), (vI v27.fIndex)]))) ((.v (.agg [(vI 0), (vI 0)]))) (dB (!((v27.fCode == 0) && ((v27.fIndex == 0) && true)))) false (!((v27.fCode == 0) && ((v27.fIndex == 0) && true))) (some_sub (fun v10 => f3_r2 m a1 a2 v2 v10 = some o) ev10 h))
  ·have ev10 := cnd_t ev10
   refine Ops.sg 5 9 ?_
   exact Ops.st _ (by kernel_rfl) (J3j11 U U U U true true (some_sub (fun v10 => f3_r2 m a1 a2 v2 v10 = some o) ev10 h))
def WI (n : Int) : Prop := -9223372036854775808 ≤ n ∧ n ≤ 9223372036854775807
theorem wf_int {m : Int} (h : (Lit.int .i64 m).wf = true) : WI m := by
 have h : (decide (IntKind.i64.min ≤ m) && decide (m ≤ IntKind.i64.max)) = true := h
 have e1 : IntKind.i64.min = -9223372036854775808 := by decide
 have e2 : IntKind.i64.max = 9223372036854775807 := by decide
 rw [e1, e2, Bool.and_eq_true, decide_eq_true_eq, decide_eq_true_eq] at h
 exact h
def WL {α : Type} (W : α → Prop) (l : List α) : Prop := l.length ≤ maxLen ∧ ∀ a ∈ l, W a
theorem dec_slice {α : Type} {f : α → V} {W : α → Prop} {e t : Nat} (hT : (T t).map (·.kind) = some (.slice e)) (h : ∀ n x, typed T n e x → ∃ a, f a = x ∧ W a) : ∀ n x, typed T n t x → ∃ l : List α, eL f l = x ∧ WL W l := by
 intro n x hx
 obtain ⟨ti, h1, h2⟩ := Option.map_eq_some_iff.1 hT
 cases n with
 | zero => exact hx.elim
 | succ n =>
  simp only [typed, h1, h2] at hx
  obtain ⟨es, rfl, hl, he⟩ := hx
  have : ∀ es : List V, (∀ y ∈ es, typed T n e y) → ∃ l : List α, l.map f = es ∧ ∀ a ∈ l, W a := by
   intro es
   induction es with
   | nil => intro _; exact ⟨[], rfl, fun a h => by cases h⟩
   | cons y r ih =>
    intro hy
    obtain ⟨l, e1, w1⟩ := ih fun z hz => hy z (List.mem_cons_of_mem _ hz)
    obtain ⟨a, e2, w2⟩ := h n y (hy y List.mem_cons_self)
    refine ⟨a :: l, by rw [List.map_cons, e1, e2], fun b hb => ?_⟩
    rcases List.mem_cons.1 hb with rfl | hb
    ·exact w2
    ·exact w1 b hb
  obtain ⟨l, e1, w1⟩ := this es he
  subst e1
  exact ⟨l, rfl, by simpa using hl, w1⟩
theorem dec3 : ∀ n x, typed T n 3 x → ∃ a : Int, eI a = x ∧ WI a := by
 intro n x h
 cases n with
 | zero => exact h.elim
 | succ n =>
  have h : ∃ m, x = .int .i64 m ∧ (Lit.int .i64 m).wf = true := h
  obtain ⟨m, rfl, hm⟩ := h
  refine ⟨m, rfl, ?_⟩
  exact wf_int hm
theorem dec22 : ∀ n x, typed T n 22 x → ∃ a : (List Int), (eL eI) a = x ∧ (WL WI) a := dec_slice (by kernel_rfl) dec3
def W24 (x : S23) : Prop := (WL WI) x.fFrom ∧ (WL WI) x.fTo ∧ (WL WI) x.fLeft ∧ (WL WI) x.fRight
theorem dec24 : ∀ n x, typed T n 24 x → ∃ a : S23, e23 a = x ∧ W24 a := by
 intro n x h
 cases n with
 | zero => exact h.elim
 | succ n =>
  obtain ⟨xs, hx, hh⟩ : ∃ xs : List V, x = .agg (xs.flatMap V.cells) ∧ typedAll (typed T n) [(0, 22), (1, 22), (2, 22), (3, 22)] xs := h
  subst hx
  match xs, hh with
  | [x0, x1, x2, x3], ⟨h0, h1, h2, h3, _⟩ =>
   obtain ⟨a0, rfl, w0⟩ := dec22 n x0 h0
   obtain ⟨a1, rfl, w1⟩ := dec22 n x1 h1
   obtain ⟨a2, rfl, w2⟩ := dec22 n x2 h2
   obtain ⟨a3, rfl, w3⟩ := dec22 n x3 h3
   exact ⟨⟨a0, a1, a2, a3⟩, rfl, w0, w1, w2, w3⟩
def LT : List Nat := [3, 22, 24]
theorem LT_ok : LT.all (lvl E.T LT) = true := by kernel_rfl
theorem law3 (hp : ∀ (a0 : S23) (a1 : (List Int)) (a2 : (List Int)), W24 a0 → (WL WI) a1 → (WL WI) a2 → ∃ m, f3 m a0 a1 a2 = some true) : ∀ xs, TypedL E.T [24, 22, 22] xs → ∃ n, runV Proofs.Try.prog EG n 3 xs = some (.bool true) := by
 intro xs h
 match xs, h with
 | [x0, x1, x2], ⟨⟨n0, h0⟩, ⟨n1, h1⟩, ⟨n2, h2⟩, _⟩ =>
  obtain ⟨a0, rfl, w0⟩ := dec24 n0 x0 h0
  obtain ⟨a1, rfl, w1⟩ := dec22 n1 x1 h1
  obtain ⟨a2, rfl, w2⟩ := dec22 n2 x2 h2
  obtain ⟨m, hm⟩ := hp a0 a1 a2 w0 w1 w2
  exact ⟨_, law_run (xs := [e23 a0, (eL eI) a1, (eL eI) a2]) (ok3 m a0 a1 a2 true hm (m + 4) (Nat.le_refl _))⟩
end Go.Abs
