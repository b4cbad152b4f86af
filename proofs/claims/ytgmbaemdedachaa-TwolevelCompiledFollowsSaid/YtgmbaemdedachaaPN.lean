import Derived.Test.YtgmbaemdedachaaTZ
namespace Go.Abs
set_option linter.unusedVariables false
set_option linter.unusedSimpArgs false
set_option linter.unnecessarySimpa false
set_option maxRecDepth 100000
set_option maxHeartbeats 2000000
def f22 (m : Nat) (a0 : Int) : Option S57 :=
 some ((⟨a0, (⟨97, 98⟩ : S48), [(⟨[], [(⟨99, 99⟩ : S48)], false, false⟩ : S72)]⟩ : S57))
noncomputable abbrev X22 (n : Nat) : Cx := cxOf Proofs.Try.prog EG 22 n
theorem ok22 (m : Nat) (a0 : Int) (o : S57) (h : f22 m a0 = some o) (n : Nat) (hn : m + 1 ≤ n) : Fn Proofs.Try.prog EG n 22 [.v (eI a0)] (e57 o) := by
 obtain ⟨n, rfl⟩ : ∃ q, n = q + 1 := ⟨n - 1, om⟩
 unfold f22 at h
 exact Fn.of kr kr kr ⟨(dI a0)::u9 [], []⟩ kr (Sg 1 (Dn (Sg 8 (Dn (Wp.rt (fnQ.r' (X22 n) (fun z => (e57 z)) h (RetOk.mk' (.v (.agg [(vI a0), (vI 97), (vI 98), (.sl .nonfull (List.map e72 ([(⟨[], [(⟨99, 99⟩ : S48)], false, false⟩ : S72)])))])) kr kr)))))))
def f23 (m : Nat)  : Option (List S48) :=
 some ([(⟨97, 97⟩ : S48), (⟨97, 98⟩ : S48), (⟨99, 99⟩ : S48)])
noncomputable abbrev X23 (n : Nat) : Cx := cxOf Proofs.Try.prog EG 23 n
theorem ok23 (m : Nat)  (o : (List S48)) (h : f23 m  = some o) (n : Nat) (hn : m + 1 ≤ n) : Fn Proofs.Try.prog EG n 23 [] ((eL e48) o) := by
 obtain ⟨n, rfl⟩ : ∃ q, n = q + 1 := ⟨n - 1, om⟩
 unfold f23 at h
 exact Fn.of kr kr kr ⟨u5 [], []⟩ kr (Sg 1 (Dn (Sg 5 (Dn (Wp.rt (fnQ.r' (X23 n) (fun z => ((eL e48) z)) h (RetOk.mk' (.v (.sl .nonfull (List.map e48 ([(⟨97, 97⟩ : S48), (⟨97, 98⟩ : S48), (⟨99, 99⟩ : S48)])))) kr kr)))))))
def f6_r1 (m : Nat) (v17 : Bool) : Option Bool :=
 some v17
def f6 (m : Nat)  : Option Bool :=
 bnd (f22 m 1) fun v1 =>
 bnd (f23 m ) fun v2 =>
 bnd (f7 m [v1] v2) fun v3 =>
 bnd (cnd ((v3.2.fCo == 0) && ((v3.2.fIx == 0) && true))
 (bnd (f17 m v3.1 ((⟨2, [(⟨0, 0, 97, 97, 0⟩ : S52), (⟨0, 1, 97, 98, 0⟩ : S52), (⟨0, 0, 99, 99, 0⟩ : S52), (⟨1, 0, 99, 99, 0⟩ : S52)], [(⟨0, 0⟩ : S54)]⟩ : S27))) fun v19 =>
 some v19)
 (some false)) fun v17 =>
 f6_r1 m v17
noncomputable abbrev X6 (n : Nat) : Cx := cxOf Proofs.Try.prog EG 6 n
theorem ok6 (m : Nat)  (o : Bool) (h : f6 m  = some o) (n : Nat) (hn : m + 2 ≤ n) : Fn Proofs.Try.prog EG n 6 [] (eB o) := by
 obtain ⟨n, rfl⟩ : ∃ q, n = q + 1 := ⟨n - 1, om⟩
 unfold f6 at h
 refine Fn.of kr kr kr ⟨u25 [], []⟩ kr (Sg 1 (Dn (Wp.sq (Wp.rg ?_))))
 obtain ⟨v1, ev1, h⟩ := bnd_some h
 refine Ops.on 1 (fun h0 e0 => (call_ok (E' := EG) (h := h0) kr (Args.v (vI 1) (eI 1) kr Args.nil) (ok22 m 1 v1 ev1 n om))) <| Ops.sg 1 2 ?_
 obtain ⟨v2, ev2, h⟩ := bnd_some h
 refine Ops.on 3 (fun h0 e0 => (call_ok (E' := EG) (h := h0) kr Args.nil (ok23 m  v2 ev2 n om))) ?_
 obtain ⟨v3, ev3, h⟩ := bnd_some h
 refine Ops.on 4 (fun h0 e0 => (call_ok (E' := EG) (h := h0) kr (Args.v (.sl .nonfull (List.map e57 [v1])) ((eL e57) [v1]) kr (Args.v (vP e48 v2) ((eL e48) v2) kr Args.nil)) (ok7 m [v1] v2 v3 ev3 n om))) <| Ops.sg 7 11 (Dn (Sg 4 (Ops.hv (fun KQ => ∀ (d6 d7 d8 d9 d10 d11 d12 d13 d14 d15 : D) (v16 v17 : Bool), f6_r1 m v17 = some o → KQ 15 ⟨Zs12 (.v (.tuple [(.agg [(vI v3.1.fSt), (vP e52 v3.1.fAs), (vP e54 v3.1.fFn)]), (.agg [(vI v3.2.fCo), (vI v3.2.fIx)])])) (.v (.agg [(vI v1.fKn), (vI v1.fPr.fLx), (vI v1.fPr.fSf), (vP e72 v1.fCx)])) (.v (.sl .nonfull (List.map e57 [v1]))) v2 (.v (.agg [(vI v3.1.fSt), (vP e52 v3.1.fAs), (vP e54 v3.1.fFn)])) (.v (.agg [(vI v3.2.fCo), (vI v3.2.fIx)])) (.v (.agg [(vI 0), (vI 0)])) v16 (d6::d7::d8::d9::d10::d11::d12::d13::d14::d15::(dB v17)::[]), [(.cells [(dI v3.1.fSt), (dP e52 v3.1.fAs), (dP e54 v3.1.fFn)]), (.cells [(dI v3.2.fCo), (dI v3.2.fIx)])]⟩) ?_ fun J6j18 => ?_)))
 ·intro d6 d7 d8 d9 d10 d11 d12 d13 d14 d15 v16 v17 h
  unfold f6_r1 at h
  exact Ops.sg 1 16 (Dn (Wp.rt (fnQ.r' (X6 n) (fun z => (eB z)) h (RetOk.mk' (dB v17) kr kr))))
 obtain ⟨v17, ev17, h⟩ := bnd_some h
 refine Ops.hv (fun KQ => ∀ v4 : Bool, (cnd v4 (bnd (f17 m v3.1 ((⟨2, [(⟨0, 0, 97, 97, 0⟩ : S52), (⟨0, 1, 97, 98, 0⟩ : S52), (⟨0, 0, 99, 99, 0⟩ : S52), (⟨1, 0, 99, 99, 0⟩ : S52)], [(⟨0, 0⟩ : S54)]⟩ : S27))) fun v19 => some v19) (some false)) = some v17 → KQ 4 ⟨Zs12 (.v (.tuple [(.agg [(vI v3.1.fSt), (vP e52 v3.1.fAs), (vP e54 v3.1.fFn)]), (.agg [(vI v3.2.fCo), (vI v3.2.fIx)])])) (.v (.agg [(vI v1.fKn), (vI v1.fPr.fLx), (vI v1.fPr.fSf), (vP e72 v1.fCx)])) (.v (.sl .nonfull (List.map e57 [v1]))) v2 (.v (.agg [(vI v3.1.fSt), (vP e52 v3.1.fAs), (vP e54 v3.1.fFn)])) (.v (.agg [(vI v3.2.fCo), (vI v3.2.fIx)])) (.v (.agg [(vI 0), (vI 0)])) v4 (u11 []), [(.cells [(dI v3.1.fSt), (dP e52 v3.1.fAs), (dP e54 v3.1.fFn)]), (.cells [(dI v3.2.fCo), (dI v3.2.fIx)])]⟩) ?_ fun G6g5 => Ops.sx (G6g5 ((v3.2.fCo == 0) && ((v3.2.fIx == 0) && true)) ev17)
 intro v4 ev17
 cases v4
 ·have ev17 := cnd_f ev17
  exact Ops.sg 11 15 <| Ops.sx (J6j18 U U U U U U U U U U false false (some_sub (fun v17 => f6_r1 m v17 = some o) ev17 h))
 ·have ev17 := cnd_t ev17
  refine Ops.sg 9 13 ?_
  obtain ⟨v19, ev19, ev17⟩ := bnd_some ev17
  exact Ops.on 14 (fun h0 e0 => (call_ok (E' := EG) (h := h0) kr (Args.v (.agg [(vI v3.1.fSt), (vP e52 v3.1.fAs), (vP e54 v3.1.fFn)]) (e27 v3.1) kr (Args.v (.agg [(vI 2), (.sl .nonfull (List.map e52 ([(⟨0, 0, 97, 97, 0⟩ : S52), (⟨0, 1, 97, 98, 0⟩ : S52), (⟨0, 0, 99, 99, 0⟩ : S52), (⟨1, 0, 99, 99, 0⟩ : S52)]))), (.sl .nonfull (List.map e54 ([(⟨0, 0⟩ : S54)])))]) (e27 ((⟨2, [(⟨0, 0, 97, 97, 0⟩ : S52), (⟨0, 1, 97, 98, 0⟩ : S52), (⟨0, 0, 99, 99, 0⟩ : S52), (⟨1, 0, 99, 99, 0⟩ : S52)], [(⟨0, 0⟩ : S54)]⟩ : S27))) kr Args.nil)) (ok17g m v3.1 ((⟨2, [(⟨0, 0, 97, 97, 0⟩ : S52), (⟨0, 1, 97, 98, 0⟩ : S52), (⟨0, 0, 99, 99, 0⟩ : S52), (⟨1, 0, 99, 99, 0⟩ : S52)], [(⟨0, 0⟩ : S54)]⟩ : S27)) v19 ev19 n om))) <| Ops.sg 1 15 <| Ops.sx (J6j18 ((.v (.agg [(vI v3.1.fSt), (vP e52 v3.1.fAs), (vP e54 v3.1.fFn)]))) ((.v (.agg [(vI 0), (vI 0), (vI 97), (vI 97), (vI 0)]))) ((.v (.agg [(vI 0), (vI 1), (vI 97), (vI 98), (vI 0)]))) ((.v (.agg [(vI 0), (vI 0), (vI 99), (vI 99), (vI 0)]))) ((.v (.agg [(vI 1), (vI 0), (vI 99), (vI 99), (vI 0)]))) ((.v (.sl .nonfull (List.map e52 ([(⟨0, 0, 97, 97, 0⟩ : S52), (⟨0, 1, 97, 98, 0⟩ : S52), (⟨0, 0, 99, 99, 0⟩ : S52), (⟨1, 0, 99, 99, 0⟩ : S52)]))))) ((.v (.agg [(vI 0), (vI 0)]))) ((.v (.sl .nonfull (List.map e54 ([(⟨0, 0⟩ : S54)]))))) ((.v (.agg [(vI 2), (.sl .nonfull (List.map e52 ([(⟨0, 0, 97, 97, 0⟩ : S52), (⟨0, 1, 97, 98, 0⟩ : S52), (⟨0, 0, 99, 99, 0⟩ : S52), (⟨1, 0, 99, 99, 0⟩ : S52)]))), (.sl .nonfull (List.map e54 ([(⟨0, 0⟩ : S54)])))]))) (dB v19) true v19 (some_sub (fun v17 => f6_r1 m v17 = some o) ev17 h))
def f18_r1 (m : Nat) (v39 : Bool) : Option Bool :=
 some v39
def f18_r2 (m : Nat) (v3 : (Bool × Int × S29)) (v31 : Bool) : Option Bool :=
 f18_r1 m (v31 && ((v3.2.2.fCo == 0) && ((v3.2.2.fIx == 0) && true)))
def f18_r3 (m : Nat) (v3 : (Bool × Int × S29)) (v24 : Bool) : Option Bool :=
 f18_r2 m v3 (v24 && (v3.2.1 == 0))
def f18_r4 (m : Nat) (v3 : (Bool × Int × S29)) (v17 : Bool) : Option Bool :=
 f18_r3 m v3 (v17 && (!v3.1))
def f18_r5 (m : Nat) (v2 v3 : (Bool × Int × S29)) (v9 : Bool) : Option Bool :=
 f18_r4 m v3 (v9 && ((v2.2.2.fCo == 0) && ((v2.2.2.fIx == 0) && true)))
def f18 (m : Nat)  : Option Bool :=
 bnd (f22 m 1) fun v1 =>
 bnd (f19 m [v1] ([(⟨97, 98⟩ : S48), (⟨99, 99⟩ : S48)])) fun v2 =>
 bnd (f19 m [v1] ([(⟨97, 98⟩ : S48)])) fun v3 =>
 f18_r5 m v2 v3 (v2.1 && (v2.2.1 == (-1)))
noncomputable abbrev X18 (n : Nat) : Cx := cxOf Proofs.Try.prog EG 18 n
abbrev b18_0 (w0 : (Bool × Int × S29)) : AObj := .cells [(dI w0.2.2.fCo), (dI w0.2.2.fIx)]
theorem ok18 (m : Nat)  (o : Bool) (h : f18 m  = some o) (n : Nat) (hn : m + 6 ≤ n) : Fn Proofs.Try.prog EG n 18 [] (eB o) := by
 obtain ⟨n, rfl⟩ : ∃ q, n = q + 1 := ⟨n - 1, om⟩
 unfold f18 at h
 refine Fn.of kr kr kr ⟨u40 (u10 []), []⟩ kr (Sg 1 (Dn (Wp.sq (Wp.rg ?_))))
 obtain ⟨v1, ev1, h⟩ := bnd_some h
 refine Ops.on 1 (fun h0 e0 => (call_ok (E' := EG) (h := h0) kr (Args.v (vI 1) (eI 1) kr Args.nil) (ok22 m 1 v1 ev1 n om))) <| Ops.sg 2 3 (Dn (Sg 4 ?_))
 obtain ⟨v2, ev2, h⟩ := bnd_some h
 refine Ops.on 5 (fun h0 e0 => (call_ok (E' := EG) (h := h0) kr (Args.v (.sl .nonfull (List.map e57 [v1])) ((eL e57) [v1]) kr (Args.v (.sl .nonfull (List.map e48 ([(⟨97, 98⟩ : S48), (⟨99, 99⟩ : S48)]))) ((eL e48) ([(⟨97, 98⟩ : S48), (⟨99, 99⟩ : S48)])) kr Args.nil)) (ok19g m [v1] ([(⟨97, 98⟩ : S48), (⟨99, 99⟩ : S48)]) v2 ev2 n om))) <| Ops.sg 8 13 (Dn (Sg 3 ?_))
 obtain ⟨v3, ev3, h⟩ := bnd_some h
 refine Ops.on 4 (fun h0 e0 => (call_ok (E' := EG) (h := h0) kr (Args.v (.sl .nonfull (List.map e57 [v1])) ((eL e57) [v1]) kr (Args.v (.sl .nonfull (List.map e48 ([(⟨97, 98⟩ : S48)]))) ((eL e48) ([(⟨97, 98⟩ : S48)])) kr Args.nil)) (ok19g m [v1] ([(⟨97, 98⟩ : S48)]) v3 ev3 n om))) <| Ops.sg 8 12 (Dn (Sg 2 (Ops.hv (fun KQ => ∀ (d6 d7 : D) (v8 v9 : Bool), f18_r5 m v2 v3 v9 = some o → KQ 5 ⟨Zs0 (.v (.sl .nonfull (List.map e57 [v1]))) v8 v2.2.1 v3.1 v3.2.1 (.v (.agg [(vI v1.fKn), (vI v1.fPr.fLx), (vI v1.fPr.fSf), (vP e72 v1.fCx)])) (.v (.tuple [(vB v2.1), (vI v2.2.1), (.agg [(vI v2.2.2.fCo), (vI v2.2.2.fIx)])])) (.v (.agg [(vI 97), (vI 98)])) (.v (.agg [(vI 99), (vI 99)])) (.v (.sl .nonfull (List.map e48 ([(⟨97, 98⟩ : S48), (⟨99, 99⟩ : S48)])))) (.v (.agg [(vI v2.2.2.fCo), (vI v2.2.2.fIx)])) (.v (.tuple [(vB v3.1), (vI v3.2.1), (.agg [(vI v3.2.2.fCo), (vI v3.2.2.fIx)])])) (.v (.sl .nonfull (List.map e48 ([(⟨97, 98⟩ : S48)])))) (.v (.agg [(vI v3.2.2.fCo), (vI v3.2.2.fIx)])) (d6::d7::(dB v9)::u18 []), [(b18_0 v2), (b18_0 v3)]⟩) ?_ fun J18j10 => ?_)))
 ·intro d6 d7 v8 v9 h
  unfold f18_r5 at h
  refine Ops.sg 1 6 <| Ops.hv (fun KQ => ∀ (d13 d14 d15 : D) (v16 v17 : Bool), f18_r4 m v3 v17 = some o → KQ 10 ⟨Zs0 (.v (.sl .nonfull (List.map e57 [v1]))) v8 v2.2.1 v3.1 v3.2.1 (.v (.agg [(vI v1.fKn), (vI v1.fPr.fLx), (vI v1.fPr.fSf), (vP e72 v1.fCx)])) (.v (.tuple [(vB v2.1), (vI v2.2.1), (.agg [(vI v2.2.2.fCo), (vI v2.2.2.fIx)])])) (.v (.agg [(vI 97), (vI 98)])) (.v (.agg [(vI 99), (vI 99)])) (.v (.sl .nonfull (List.map e48 ([(⟨97, 98⟩ : S48), (⟨99, 99⟩ : S48)])))) (.v (.agg [(vI v2.2.2.fCo), (vI v2.2.2.fIx)])) (.v (.tuple [(vB v3.1), (vI v3.2.1), (.agg [(vI v3.2.2.fCo), (vI v3.2.2.fIx)])])) (.v (.sl .nonfull (List.map e48 ([(⟨97, 98⟩ : S48)])))) (.v (.agg [(vI v3.2.2.fCo), (vI v3.2.2.fIx)])) (d6::d7::(dB v16)::(dB v16)::d13::d14::d15::(dB v17)::u13 []), [(b18_0 v2), (b18_0 v3)]⟩) ?_ fun J18j18 => ?_
  ·intro d13 d14 d15 v16 v17 h
   unfold f18_r4 at h
   refine Ops.sg 1 11 <| Ops.hv (fun KQ => ∀ (d21 d22 : D) (v23 v24 : Bool), f18_r3 m v3 v24 = some o → KQ 14 ⟨Zs0 (.v (.sl .nonfull (List.map e57 [v1]))) v8 v2.2.1 v3.1 v3.2.1 (.v (.agg [(vI v1.fKn), (vI v1.fPr.fLx), (vI v1.fPr.fSf), (vP e72 v1.fCx)])) (.v (.tuple [(vB v2.1), (vI v2.2.1), (.agg [(vI v2.2.2.fCo), (vI v2.2.2.fIx)])])) (.v (.agg [(vI 97), (vI 98)])) (.v (.agg [(vI 99), (vI 99)])) (.v (.sl .nonfull (List.map e48 ([(⟨97, 98⟩ : S48), (⟨99, 99⟩ : S48)])))) (.v (.agg [(vI v2.2.2.fCo), (vI v2.2.2.fIx)])) (.v (.tuple [(vB v3.1), (vI v3.2.1), (.agg [(vI v3.2.2.fCo), (vI v3.2.2.fIx)])])) (.v (.sl .nonfull (List.map e48 ([(⟨97, 98⟩ : S48)])))) (.v (.agg [(vI v3.2.2.fCo), (vI v3.2.2.fIx)])) (d6::d7::(dB v16)::(dB v16)::d13::d14::d15::(dB v23)::(dB v23)::d21::d22::(dB v24)::u9 []), [(b18_0 v2), (b18_0 v3)]⟩) ?_ fun J18j25 => ?_
   ·intro d21 d22 v23 v24 h
    unfold f18_r3 at h
    refine Ops.sg 1 15 <| Ops.hv (fun KQ => ∀ (d28 d29 : D) (v30 v31 : Bool), f18_r2 m v3 v31 = some o → KQ 18 ⟨Zs0 (.v (.sl .nonfull (List.map e57 [v1]))) v8 v2.2.1 v3.1 v3.2.1 (.v (.agg [(vI v1.fKn), (vI v1.fPr.fLx), (vI v1.fPr.fSf), (vP e72 v1.fCx)])) (.v (.tuple [(vB v2.1), (vI v2.2.1), (.agg [(vI v2.2.2.fCo), (vI v2.2.2.fIx)])])) (.v (.agg [(vI 97), (vI 98)])) (.v (.agg [(vI 99), (vI 99)])) (.v (.sl .nonfull (List.map e48 ([(⟨97, 98⟩ : S48), (⟨99, 99⟩ : S48)])))) (.v (.agg [(vI v2.2.2.fCo), (vI v2.2.2.fIx)])) (.v (.tuple [(vB v3.1), (vI v3.2.1), (.agg [(vI v3.2.2.fCo), (vI v3.2.2.fIx)])])) (.v (.sl .nonfull (List.map e48 ([(⟨97, 98⟩ : S48)])))) (.v (.agg [(vI v3.2.2.fCo), (vI v3.2.2.fIx)])) (d6::d7::(dB v16)::(dB v16)::d13::d14::d15::(dB v23)::(dB v23)::d21::d22::(dB v30)::(dB v30)::d28::d29::(dB v31)::u5 []), [(b18_0 v2), (b18_0 v3)]⟩) ?_ fun J18j32 => ?_
    ·intro d28 d29 v30 v31 h
     unfold f18_r2 at h
     refine Ops.sg 1 19 <| Ops.hv (fun KQ => ∀ (d35 d36 d37 : D) (v38 v39 : Bool), f18_r1 m v39 = some o → KQ 23 ⟨Zs0 (.v (.sl .nonfull (List.map e57 [v1]))) v8 v2.2.1 v3.1 v3.2.1 (.v (.agg [(vI v1.fKn), (vI v1.fPr.fLx), (vI v1.fPr.fSf), (vP e72 v1.fCx)])) (.v (.tuple [(vB v2.1), (vI v2.2.1), (.agg [(vI v2.2.2.fCo), (vI v2.2.2.fIx)])])) (.v (.agg [(vI 97), (vI 98)])) (.v (.agg [(vI 99), (vI 99)])) (.v (.sl .nonfull (List.map e48 ([(⟨97, 98⟩ : S48), (⟨99, 99⟩ : S48)])))) (.v (.agg [(vI v2.2.2.fCo), (vI v2.2.2.fIx)])) (.v (.tuple [(vB v3.1), (vI v3.2.1), (.agg [(vI v3.2.2.fCo), (vI v3.2.2.fIx)])])) (.v (.sl .nonfull (List.map e48 ([(⟨97, 98⟩ : S48)])))) (.v (.agg [(vI v3.2.2.fCo), (vI v3.2.2.fIx)])) (d6::d7::(dB v16)::(dB v16)::d13::d14::d15::(dB v23)::(dB v23)::d21::d22::(dB v30)::(dB v30)::d28::d29::(dB v38)::(dB v38)::d35::d36::d37::(dB v39)::[]), [(b18_0 v2), (b18_0 v3)]⟩) ?_ fun J18j40 => ?_
     ·intro d35 d36 d37 v38 v39 h
      unfold f18_r1 at h
      exact Ops.sg 1 24 (Dn (Wp.rt (fnQ.r' (X18 n) (fun z => (eB z)) h (RetOk.mk' (dB v39) kr kr))))
     refine Ops.hv (fun KQ => ∀ v33 : Bool, f18_r1 m (v33 && ((v3.2.2.fCo == 0) && ((v3.2.2.fIx == 0) && true))) = some o → KQ 19 ⟨Zs0 (.v (.sl .nonfull (List.map e57 [v1]))) v8 v2.2.1 v3.1 v3.2.1 (.v (.agg [(vI v1.fKn), (vI v1.fPr.fLx), (vI v1.fPr.fSf), (vP e72 v1.fCx)])) (.v (.tuple [(vB v2.1), (vI v2.2.1), (.agg [(vI v2.2.2.fCo), (vI v2.2.2.fIx)])])) (.v (.agg [(vI 97), (vI 98)])) (.v (.agg [(vI 99), (vI 99)])) (.v (.sl .nonfull (List.map e48 ([(⟨97, 98⟩ : S48), (⟨99, 99⟩ : S48)])))) (.v (.agg [(vI v2.2.2.fCo), (vI v2.2.2.fIx)])) (.v (.tuple [(vB v3.1), (vI v3.2.1), (.agg [(vI v3.2.2.fCo), (vI v3.2.2.fIx)])])) (.v (.sl .nonfull (List.map e48 ([(⟨97, 98⟩ : S48)])))) (.v (.agg [(vI v3.2.2.fCo), (vI v3.2.2.fIx)])) (d6::d7::(dB v16)::(dB v16)::d13::d14::d15::(dB v23)::(dB v23)::d21::d22::(dB v30)::(dB v30)::d28::d29::(dB v33)::(dB v33)::u4 []), [(b18_0 v2), (b18_0 v3)]⟩) ?_ fun G18g34 => Ops.sx (G18g34 v31 h)
     intro v33 h
     cases v33
     ·exact Ops.sg 4 23 <| Ops.sx (J18j40 U U U false false h)
     ·exact Ops.sg 4 23 <| Ops.sx (J18j40 ((.v (.agg [(vI v3.2.2.fCo), (vI v3.2.2.fIx)]))) ((.v (.agg [(vI 0), (vI 0)]))) (dB ((v3.2.2.fCo == 0) && ((v3.2.2.fIx == 0) && true))) true ((v3.2.2.fCo == 0) && ((v3.2.2.fIx == 0) && true)) h)
    refine Ops.hv (fun KQ => ∀ v26 : Bool, f18_r2 m v3 (v26 && (v3.2.1 == 0)) = some o → KQ 15 ⟨Zs0 (.v (.sl .nonfull (List.map e57 [v1]))) v8 v2.2.1 v3.1 v3.2.1 (.v (.agg [(vI v1.fKn), (vI v1.fPr.fLx), (vI v1.fPr.fSf), (vP e72 v1.fCx)])) (.v (.tuple [(vB v2.1), (vI v2.2.1), (.agg [(vI v2.2.2.fCo), (vI v2.2.2.fIx)])])) (.v (.agg [(vI 97), (vI 98)])) (.v (.agg [(vI 99), (vI 99)])) (.v (.sl .nonfull (List.map e48 ([(⟨97, 98⟩ : S48), (⟨99, 99⟩ : S48)])))) (.v (.agg [(vI v2.2.2.fCo), (vI v2.2.2.fIx)])) (.v (.tuple [(vB v3.1), (vI v3.2.1), (.agg [(vI v3.2.2.fCo), (vI v3.2.2.fIx)])])) (.v (.sl .nonfull (List.map e48 ([(⟨97, 98⟩ : S48)])))) (.v (.agg [(vI v3.2.2.fCo), (vI v3.2.2.fIx)])) (d6::d7::(dB v16)::(dB v16)::d13::d14::d15::(dB v23)::(dB v23)::d21::d22::(dB v26)::(dB v26)::u8 []), [(b18_0 v2), (b18_0 v3)]⟩) ?_ fun G18g27 => Ops.sx (G18g27 v24 h)
    intro v26 h
    cases v26
    ·exact Ops.sg 3 18 <| Ops.sx (J18j32 U U false false h)
    ·exact Ops.sg 3 18 <| Ops.sx (J18j32 (dI v3.2.1) (dB (v3.2.1 == 0)) true (v3.2.1 == 0) h)
   refine Ops.hv (fun KQ => ∀ v19 : Bool, f18_r3 m v3 (v19 && (!v3.1)) = some o → KQ 11 ⟨Zs0 (.v (.sl .nonfull (List.map e57 [v1]))) v8 v2.2.1 v3.1 v3.2.1 (.v (.agg [(vI v1.fKn), (vI v1.fPr.fLx), (vI v1.fPr.fSf), (vP e72 v1.fCx)])) (.v (.tuple [(vB v2.1), (vI v2.2.1), (.agg [(vI v2.2.2.fCo), (vI v2.2.2.fIx)])])) (.v (.agg [(vI 97), (vI 98)])) (.v (.agg [(vI 99), (vI 99)])) (.v (.sl .nonfull (List.map e48 ([(⟨97, 98⟩ : S48), (⟨99, 99⟩ : S48)])))) (.v (.agg [(vI v2.2.2.fCo), (vI v2.2.2.fIx)])) (.v (.tuple [(vB v3.1), (vI v3.2.1), (.agg [(vI v3.2.2.fCo), (vI v3.2.2.fIx)])])) (.v (.sl .nonfull (List.map e48 ([(⟨97, 98⟩ : S48)])))) (.v (.agg [(vI v3.2.2.fCo), (vI v3.2.2.fIx)])) (d6::d7::(dB v16)::(dB v16)::d13::d14::d15::(dB v19)::(dB v19)::u12 []), [(b18_0 v2), (b18_0 v3)]⟩) ?_ fun G18g20 => Ops.sx (G18g20 v17 h)
   intro v19 h
   cases v19
   ·exact Ops.sg 3 14 <| Ops.sx (J18j25 U U false false h)
   ·exact Ops.sg 3 14 <| Ops.sx (J18j25 (dB v3.1) (dB (!v3.1)) true (!v3.1) h)
  refine Ops.hv (fun KQ => ∀ v11 : Bool, f18_r4 m v3 (v11 && ((v2.2.2.fCo == 0) && ((v2.2.2.fIx == 0) && true))) = some o → KQ 6 ⟨Zs0 (.v (.sl .nonfull (List.map e57 [v1]))) v8 v2.2.1 v3.1 v3.2.1 (.v (.agg [(vI v1.fKn), (vI v1.fPr.fLx), (vI v1.fPr.fSf), (vP e72 v1.fCx)])) (.v (.tuple [(vB v2.1), (vI v2.2.1), (.agg [(vI v2.2.2.fCo), (vI v2.2.2.fIx)])])) (.v (.agg [(vI 97), (vI 98)])) (.v (.agg [(vI 99), (vI 99)])) (.v (.sl .nonfull (List.map e48 ([(⟨97, 98⟩ : S48), (⟨99, 99⟩ : S48)])))) (.v (.agg [(vI v2.2.2.fCo), (vI v2.2.2.fIx)])) (.v (.tuple [(vB v3.1), (vI v3.2.1), (.agg [(vI v3.2.2.fCo), (vI v3.2.2.fIx)])])) (.v (.sl .nonfull (List.map e48 ([(⟨97, 98⟩ : S48)])))) (.v (.agg [(vI v3.2.2.fCo), (vI v3.2.2.fIx)])) (d6::d7::(dB v11)::(dB v11)::u17 []), [(b18_0 v2), (b18_0 v3)]⟩) ?_ fun G18g12 => Ops.sx (G18g12 v9 h)
  intro v11 h
  cases v11
  ·exact Ops.sg 4 10 <| Ops.sx (J18j18 U U U false false h)
  ·exact Ops.sg 4 10 <| Ops.sx (J18j18 ((.v (.agg [(vI v2.2.2.fCo), (vI v2.2.2.fIx)]))) ((.v (.agg [(vI 0), (vI 0)]))) (dB ((v2.2.2.fCo == 0) && ((v2.2.2.fIx == 0) && true))) true ((v2.2.2.fCo == 0) && ((v2.2.2.fIx == 0) && true)) h)
 refine Ops.hv (fun KQ => ∀ v4 : Bool, f18_r5 m v2 v3 (v4 && (v2.2.1 == (-1))) = some o → KQ 2 ⟨Zs0 (.v (.sl .nonfull (List.map e57 [v1]))) v4 v2.2.1 v3.1 v3.2.1 (.v (.agg [(vI v1.fKn), (vI v1.fPr.fLx), (vI v1.fPr.fSf), (vP e72 v1.fCx)])) (.v (.tuple [(vB v2.1), (vI v2.2.1), (.agg [(vI v2.2.2.fCo), (vI v2.2.2.fIx)])])) (.v (.agg [(vI 97), (vI 98)])) (.v (.agg [(vI 99), (vI 99)])) (.v (.sl .nonfull (List.map e48 ([(⟨97, 98⟩ : S48), (⟨99, 99⟩ : S48)])))) (.v (.agg [(vI v2.2.2.fCo), (vI v2.2.2.fIx)])) (.v (.tuple [(vB v3.1), (vI v3.2.1), (.agg [(vI v3.2.2.fCo), (vI v3.2.2.fIx)])])) (.v (.sl .nonfull (List.map e48 ([(⟨97, 98⟩ : S48)])))) (.v (.agg [(vI v3.2.2.fCo), (vI v3.2.2.fIx)])) (u21 []), [(b18_0 v2), (b18_0 v3)]⟩) ?_ fun G18g5 => Ops.sx (G18g5 v2.1 h)
 intro v4 h
 cases v4
 ·exact Ops.sg 3 5 <| Ops.sx (J18j10 U U false false h)
 ·exact Ops.sg 3 5 <| Ops.sx (J18j10 (dI v2.2.1) (dB (v2.2.1 == (-1))) true (v2.2.1 == (-1)) h)
def f4_r1 (m : Nat) (v130 : Int) (v147 : Bool) : Option (Stp Bool (Bool × Int)) :=
 some (.nxt (v147, w64 (v130 + 1)))
def f4_B2 (m : Nat) (a1 : (List S48)) (v116 : S48) (v129 : Bool) (v130 : Int) : Option (Stp Bool (Bool × Int)) :=
 cnd (decide (v130 < (a1.length : Int)))
 (bnd (idx a1 v130) fun v140 =>
 f4_r1 m v130 (v129 || ((v116.fLx == v140.fLx) && ((v116.fSf == v140.fSf) && true))))
 (some (.brk (v129, v130)))
def f4_r3 (m : Nat) (v106 : Int) (v156 : Bool) : Option (Stp Bool (Bool × Int)) :=
 some (.nxt (v156, w64 (v106 + 1)))
def f4_B4 (m : Nat) (a1 a2 : (List S48)) (v105 : Bool) (v106 : Int) : Option (Stp Bool (Bool × Int)) :=
 cnd (decide (v106 < (a2.length : Int)))
 (bnd (idx a2 v106) fun v116 =>
 brk (iter (fun (y : Bool × Int) => f4_B2 m a1 v116 y.1 y.2) m (false, 0)) (fun r => some (.ret r)) fun y150 =>
 f4_r3 m v106 (v105 && y150.1))
 (some (.brk (v105, v106)))
def f4_r5 (m : Nat) (a1 a2 : (List S48)) (v9 : (S27 × S29)) (v10 : (Bool × Int × S29)) (v17 : Bool) : Option Bool :=
 cnd v17
 (some true)
 (brk (iter (fun (y : Bool × Int) => f4_B4 m a1 a2 y.1 y.2) m (v10.1, 0)) some fun y159 =>
 bnd (f13 m v9.1 a2) fun v161 =>
 some (v161 == y159.1))
def f4_r6 (m : Nat) (a0 : (List S57)) (a1 a2 : (List S48)) (v7 : Bool) : Option Bool :=
 cnd v7
 (some false)
 (bnd (f7 m a0 a1) fun v9 =>
 bnd (f19 m a0 a2) fun v10 =>
 f4_r5 m a1 a2 v9 v10 ((!((v9.2.fCo == 0) && ((v9.2.fIx == 0) && true))) || (!((v10.2.2.fCo == 0) && ((v10.2.2.fIx == 0) && true)))))
def f4 (m : Nat) (a0 : (List S57)) (a1 a2 : (List S48)) : Option Bool :=
 bnd (f6 m ) fun v1 =>
 bnd (cnd (!v1)
 (some true)
 (bnd (f18 m ) fun v162 =>
 some (!v162))) fun v7 =>
 f4_r6 m a0 a1 a2 v7
noncomputable abbrev X4 (n : Nat) : Cx := cxOf Proofs.Try.prog EG 4 n
noncomputable def C4 : Code := bodyOf Proofs.Try.prog 4
noncomputable abbrev p4_0 : Code := cR (cR (cR (cR (cR (cR C4)))))
noncomputable abbrev p4_1 : Code := cL (cL (cR (cL (cR (cR (cR (cR (cR C4))))))))
noncomputable abbrev p4_2 : Code := cR (cR (cR p4_1))
noncomputable abbrev p4_3 : Code := cR (cR (cR (cL (cL (cR (cR p4_1))))))
noncomputable abbrev p4_4 : Code := cL (cL (cR (cL (cR (cR (cL (cL (cR (cR p4_1)))))))))
abbrev b4_0 (w0 : (S27 × S29)) : AObj := .cells [(dI w0.1.fSt), (dP e52 w0.1.fAs), (dP e54 w0.1.fFn)]
abbrev b4_1 (w0 : (S27 × S29)) : AObj := .cells [(dI w0.2.fCo), (dI w0.2.fIx)]
abbrev b4_2 (w0 : (Bool × Int × S29)) : AObj := .cells [(dI w0.2.2.fCo), (dI w0.2.2.fIx)]
abbrev b4_3 (w0 : S48) : AObj := .cells [(dI w0.fLx), (dI w0.fSf)]
abbrev k4_0 : List Nat := [1, 2, 6, 7, 9, 44, 45, 46]
abbrev k4_1 : List Nat := [1, 2, 6, 7, 9, 13, 14, 44, 45, 46, 50, 51, 52]
theorem ok4 (m : Nat) (a0 : (List S57)) (a1 a2 : (List S48)) (o : Bool) (h : f4 m a0 a1 a2 = some o) (n : Nat) (hn : m + 7 ≤ n) : Fn Proofs.Try.prog EG n 4 [.v ((eL e57) a0), .v ((eL e48) a1), .v ((eL e48) a2)] (eB o) := by
 obtain ⟨n, rfl⟩ : ∃ q, n = q + 1 := ⟨n - 1, om⟩
 unfold f4 at h
 refine Fn.of kr kr kr ⟨(dP e57 a0)::(dP e48 a1)::(dP e48 a2)::u40 (u30 []), []⟩ kr (Sg 1 (Dn (Wp.sq (Wp.sq (Wp.rg ?_)))))
 obtain ⟨v1, ev1, h⟩ := bnd_some h
 refine Ops.on 1 (fun h0 e0 => (call_ok (E' := EG) (h := h0) kr Args.nil (ok6 m  v1 ev1 n om))) <| Ops.sg 2 3 <| Ops.hv (fun KQ => ∀ (d4 d5 : D) (v6 v7 : Bool), f4_r6 m a0 a1 a2 v7 = some o → KQ 6 ⟨(dP e57 a0)::(dP e48 a1)::(dP e48 a2)::u3 ((dB false)::u10 ((dB v1)::(dB v6)::(dB v6)::d4::d5::(dB v7)::u40 (u10 []))), []⟩) ?_ fun J4j8 => ?_
 ·intro d4 d5 v6 v7 h
  unfold f4_r6 at h
  refine Dn <| Wp.cd h [0, 1, 2, 6] 0 (fun h => ?_) (fun h => ?_)
  ·exact Sg 1 (Dn (Wp.rt (sqQ.r (seqQ.r (fnQ.r' (X4 n) (fun z => (eB z)) h (RetOk.mk' (dB false) kr kr))))))
  ·refine Kn (Sg 2 ?_)
   obtain ⟨v9, ev9, h⟩ := bnd_some h
   refine Ops.on 3 (fun h0 e0 => (call_ok (E' := EG) (h := h0) kr (Args.v (vP e57 a0) ((eL e57) a0) kr (Args.v (vP e48 a1) ((eL e48) a1) kr Args.nil)) (ok7 m a0 a1 v9 ev9 n om))) <| Ops.sg 7 10 (Dn (Sg 2 ?_))
   obtain ⟨v10, ev10, h⟩ := bnd_some h
   refine Ops.on 3 (fun h0 e0 => (call_ok (E' := EG) (h := h0) kr (Args.v (vP e57 a0) ((eL e57) a0) kr (Args.v (vP e48 a2) ((eL e48) a2) kr Args.nil)) (ok19g m a0 a2 v10 ev10 n om))) <| Ops.sg 8 11 (Dn (Wp.sq (Sg 4 (Ops.hv (fun KQ => ∀ (d13 d14 d15 : D) (v16 v17 : Bool), f4_r5 m a1 a2 v9 v10 v17 = some o → KQ 8 ⟨Zs7 a0 a1 a2 v10.1 v10.2.1 v1 v6 d4 d5 v7 (.v (.tuple [(.agg [(vI v9.1.fSt), (vP e52 v9.1.fAs), (vP e54 v9.1.fFn)]), (.agg [(vI v9.2.fCo), (vI v9.2.fIx)])])) (.v (.agg [(vI v9.1.fSt), (vP e52 v9.1.fAs), (vP e54 v9.1.fFn)])) (.v (.agg [(vI v9.2.fCo), (vI v9.2.fIx)])) (.v (.tuple [(vB v10.1), (vI v10.2.1), (.agg [(vI v10.2.2.fCo), (vI v10.2.2.fIx)])])) (.v (.agg [(vI v10.2.2.fCo), (vI v10.2.2.fIx)])) (.v (.agg [(vI 0), (vI 0)])) v16 (d13::d14::d15::(dB v17)::u29 []), [(b4_0 v9), (b4_1 v9), (b4_2 v10)]⟩) ?_ fun J4j18 => ?_))))
   ·intro d13 d14 d15 v16 v17 h
    unfold f4_r5 at h
    refine Dn <| Wp.cd h [1, 2, 6, 7, 9] 3 (fun h => ?_) (fun h => ?_)
    ·exact Sg 1 (Dn (Wp.rt (sqQ.r (seqQ.r (fnQ.r' (X4 n) (fun z => (eB z)) h (RetOk.mk' (dB true) kr kr))))))
    ·refine Kn (Wp.sq (Sg 1 (Ops.on 2 (fun h0 e0 => (len_r (T := T) h0 23 49 .plain e48 a2 kr)) (Ops.sg 1 3 (Dn (Wp.bk 0 [2, 6, 7, 9] 3 ?_))))))
     have hLx158 : ∀ (kx108 : Nat) (v105 : Bool) (v106 : Int)  (ox107 : Bool ⊕ (Bool × Int)), iter (fun (y : Bool × Int) => f4_B4 m a1 a2 y.1 y.2) kx108 (v105, v106) = some ox107 → ∀ nx109, kx108 ≤ nx109 → (∀ r, ox107 = .inl r → ∀ σ, RetOk (X4 n) (resOf Proofs.Try.prog 4) (eB r) σ → (seqQ (X4 n) p4_0 (fnQ (X4 n).E.T (resOf Proofs.Try.prog 4) (eB o))) .ret σ) → (∀ (y : Bool × Int) , ox107 = .inr y → (seqQ (X4 n) p4_0 (fnQ (X4 n).E.T (resOf Proofs.Try.prog 4) (eB o))) .normal ⟨Zs5 a1 a2 y.1 (q34 ((dP e48 a2)::(dI (a2.length : Int))::(dI y.2)::q26 [])), [(b4_0 v9), (b4_1 v9), (b4_2 v10)]⟩) → Lp (X4 n) k4_0 3 p4_1 nx109 ⟨Zs5 a1 a2 v105 (q34 ((dP e48 a2)::(dI (a2.length : Int))::(dI v106)::q26 [])), [(b4_0 v9), (b4_1 v9), (b4_2 v10)]⟩ (blkQ (X4 n) 0 [2, 6, 7, 9] 3 (seqQ (X4 n) p4_0 (fnQ (X4 n).E.T (resOf Proofs.Try.prog 4) (eB o)))) := by
      intro kx108
      induction kx108 with
      | zero => intro v105 v106  ox107 h; exact (iter_zero h).elim
      | succ kx108 ihx110 =>
       intro v105 v106  ox107 h nx109 hnx113 hrx111 hxx112
       obtain ⟨nx109, rfl⟩ : ∃ q, nx109 = q + 1 := ⟨nx109 - 1, om⟩
       obtain ⟨sx114, h, hsx115⟩ := iter_some h
       have h : f4_B4 m a1 a2 v105 v106 = some sx114 := h
       unfold f4_B4 at h
       refine Lp.succ (Sg 1 (Dn (Wp.sq (Wp.cd h k4_0 3 (fun h => ?_) (fun h => ?_)))))
       ·refine Kn (Wp.sq (Wp.bk 1 k4_0 3 (Wp.sq (Wp.rg ?_))))
        obtain ⟨v116, ev116, h⟩ := bnd_some h
        refine Ops.on 1 (fun h0 e0 => (ix_r (T := T) h0 23 49 2 .plain e48 a2 v106 v116 ev116 kr kr (fun _ => rfl))) <| Ops.sg 3 4 (Dn (Sg 1 (Dn (Wp.sq (Sg 1 (Ops.on 2 (fun h0 e0 => (len_r (T := T) h0 23 49 .plain e48 a1 kr)) (Ops.sg 1 3 (Dn (Wp.bk 2 [1, 2, 6, 7, 9, 14, 44, 45, 46] 4 ?_)))))))))
        have hLx149 : ∀ (kx132 : Nat) (v129 : Bool) (v130 : Int)  (ox131 : Bool ⊕ (Bool × Int)), iter (fun (y : Bool × Int) => f4_B2 m a1 v116 y.1 y.2) kx132 (v129, v130) = some ox131 → ∀ nx133, kx132 ≤ nx133 → (∀ r, ox131 = .inl r → ∀ σ, RetOk (X4 n) (resOf Proofs.Try.prog 4) (eB r) σ → (seqQ (X4 n) p4_3 (blkQ (X4 n) 1 k4_0 3 (seqQ (X4 n) p4_2 (lpQ (X4 n) k4_0 3 p4_1 nx109 (blkQ (X4 n) 0 [2, 6, 7, 9] 3 (seqQ (X4 n) p4_0 (fnQ (X4 n).E.T (resOf Proofs.Try.prog 4) (eB o)))))))) .ret σ) → (∀ (y : Bool × Int) , ox131 = .inr y → (seqQ (X4 n) p4_3 (blkQ (X4 n) 1 k4_0 3 (seqQ (X4 n) p4_2 (lpQ (X4 n) k4_0 3 p4_1 nx109 (blkQ (X4 n) 0 [2, 6, 7, 9] 3 (seqQ (X4 n) p4_0 (fnQ (X4 n).E.T (resOf Proofs.Try.prog 4) (eB o)))))))) .normal ⟨Zs5 a1 a2 v105 (q3 ((.ptr 3 0)::(dB y.1)::q29 ((dP e48 a2)::(dI (a2.length : Int))::(dI v106)::q3 ((dP e48 a1)::(dI (a1.length : Int))::(dI y.2)::q20 [])))), [(b4_0 v9), (b4_1 v9), (b4_2 v10), (b4_3 v116)]⟩) → Lp (X4 n) k4_1 4 p4_4 nx133 ⟨Zs5 a1 a2 v105 (q3 ((.ptr 3 0)::(dB v129)::q29 ((dP e48 a2)::(dI (a2.length : Int))::(dI v106)::q3 ((dP e48 a1)::(dI (a1.length : Int))::(dI v130)::q20 [])))), [(b4_0 v9), (b4_1 v9), (b4_2 v10), (b4_3 v116)]⟩ (blkQ (X4 n) 2 [1, 2, 6, 7, 9, 14, 44, 45, 46] 4 (seqQ (X4 n) p4_3 (blkQ (X4 n) 1 k4_0 3 (seqQ (X4 n) p4_2 (lpQ (X4 n) k4_0 3 p4_1 nx109 (blkQ (X4 n) 0 [2, 6, 7, 9] 3 (seqQ (X4 n) p4_0 (fnQ (X4 n).E.T (resOf Proofs.Try.prog 4) (eB o))))))))) := by
         intro kx132
         induction kx132 with
         | zero => intro v129 v130  ox131 h; exact (iter_zero h).elim
         | succ kx132 ihx134 =>
          intro v129 v130  ox131 h nx133 hnx137 hrx135 hxx136
          obtain ⟨nx133, rfl⟩ : ∃ q, nx133 = q + 1 := ⟨nx133 - 1, om⟩
          obtain ⟨sx138, h, hsx139⟩ := iter_some h
          have h : f4_B2 m a1 v116 v129 v130 = some sx138 := h
          unfold f4_B2 at h
          refine Lp.succ (Sg 1 (Dn (Wp.sq (Wp.cd h k4_1 4 (fun h => ?_) (fun h => ?_)))))
          ·refine Kn (Wp.sq (Wp.bk 3 k4_1 4 (Wp.sq (Wp.rg ?_))))
           obtain ⟨v140, ev140, h⟩ := bnd_some h
           refine Ops.on 1 (fun h0 e0 => (ix_r (T := T) h0 23 49 2 .plain e48 a1 v130 v140 ev140 kr kr (fun _ => rfl))) <| Ops.sg 3 4 (Dn (Rg 2 (Ops.hv (fun KQ => ∀ (d143 d144 d145 : D) (v146 v147 : Bool), f4_r1 m v130 v147 = some sx138 → KQ 6 ⟨Zs5 a1 a2 v105 (q3 ((.ptr 3 0)::(dB v146)::q1 ((.ptr 4 0)::q27 ((dP e48 a2)::(dI (a2.length : Int))::(dI v106)::q3 ((dP e48 a1)::(dI (a1.length : Int))::(dI v130)::(dB (decide (v130 < (a1.length : Int))))::(.vptr [(vI v140.fLx), (vI v140.fSf)])::(.v (.agg [(vI v140.fLx), (vI v140.fSf)]))::(dB v146)::(dB v146)::d143::d144::d145::(dB v147)::q11 []))))), [(b4_0 v9), (b4_1 v9), (b4_2 v10), (b4_3 v116), (b4_3 v140)]⟩) ?_ fun J4j148 => ?_)))
           ·intro d143 d144 d145 v146 v147 h
            unfold f4_r1 at h
            refine Ops.sg 1 7 (Ops.dn (blkQ.n' (seqQ.n (Rg 2 (Ops.dn (lpQ.m ⟨Zs5 a1 a2 v105 (q3 ((.ptr 3 0)::(dB v147)::q29 ((dP e48 a2)::(dI (a2.length : Int))::(dI v106)::q3 ((dP e48 a1)::(dI (a1.length : Int))::(dI (w64 (v130 + 1)))::q20 [])))), [(b4_0 v9), (b4_1 v9), (b4_2 v10), (b4_3 v116)]⟩ ?_))))))
            cases h
            exact ihx134 v147 (w64 (v130 + 1))  _ hsx139 _ om hrx135 hxx136
           refine Ops.hv (fun KQ => ∀ v141 : Bool, f4_r1 m v130 (v141 || ((v116.fLx == v140.fLx) && ((v116.fSf == v140.fSf) && true))) = some sx138 → KQ 2 ⟨Zs5 a1 a2 v105 (q3 ((.ptr 3 0)::(dB v141)::q1 ((.ptr 4 0)::q27 ((dP e48 a2)::(dI (a2.length : Int))::(dI v106)::q3 ((dP e48 a1)::(dI (a1.length : Int))::(dI v130)::(dB (decide (v130 < (a1.length : Int))))::(.vptr [(vI v140.fLx), (vI v140.fSf)])::(.v (.agg [(vI v140.fLx), (vI v140.fSf)]))::(dB v141)::(dB v141)::q15 []))))), [(b4_0 v9), (b4_1 v9), (b4_2 v10), (b4_3 v116), (b4_3 v140)]⟩) ?_ fun G4g142 => Ops.sx (G4g142 v129 h)
           intro v141 h
           cases v141
           ·exact Ops.sg 4 6 <| Ops.sx (J4j148 ((.v (.agg [(vI v116.fLx), (vI v116.fSf)]))) ((.v (.agg [(vI v140.fLx), (vI v140.fSf)]))) (dB ((v116.fLx == v140.fLx) && ((v116.fSf == v140.fSf) && true))) false ((v116.fLx == v140.fLx) && ((v116.fSf == v140.fSf) && true)) h)
           ·exact Ops.sg 4 6 <| Ops.sx (J4j148 U U U true true h)
          ·refine Wp.ex 2 (sqQ.x (seqQ.x ?_))
           cases h
           exact lpQ.x (blkQ.w ⟨Zs5 a1 a2 v105 (q3 ((.ptr 3 0)::(dB v129)::q29 ((dP e48 a2)::(dI (a2.length : Int))::(dI v106)::q3 ((dP e48 a1)::(dI (a1.length : Int))::(dI v130)::q20 [])))), [(b4_0 v9), (b4_1 v9), (b4_2 v10), (b4_3 v116)]⟩ (hxx136 (v129, v130)  hsx139))
        refine Wp.loop' k4_1 4 kr ⟨Zs5 a1 a2 v105 (q3 ((.ptr 3 0)::(dB false)::q29 ((dP e48 a2)::(dI (a2.length : Int))::(dI v106)::q3 ((dP e48 a1)::(dI (a1.length : Int))::(dI 0)::q20 [])))), [(b4_0 v9), (b4_1 v9), (b4_2 v10), (b4_3 v116)]⟩ kr ?_
        rcases brk_some h with ⟨r151, er151, h⟩ | ⟨y150, ey150, h⟩
        ·refine hLx149 _ false 0  _ er151 n om (fun r er σ hσ => ?_) (fun y  ey => by cases ey)
         cases er
         refine seqQ.r (blkQ.r (seqQ.r (lpQ.r ?_)))
         cases h
         exact blkQ.r <| hrx111 _ hsx115 _ (RetOk.forget k4_0 kr hσ)
        ·refine hLx149 _ false 0  _ ey150 n om (fun r er => by cases er) (fun y  ey => ?_)
         cases ey
         refine seqQ.n (Rg 2 (Ops.hv (fun KQ => ∀ (d154 : D) (v155 v156 : Bool), f4_r3 m v106 v156 = some sx114 → KQ 4 ⟨Zs5 a1 a2 v155 (q3 ((.ptr 3 0)::(dB y150.1)::q29 ((dP e48 a2)::(dI (a2.length : Int))::(dI v106)::q3 ((dP e48 a1)::(dI (a1.length : Int))::(dI y150.2)::q10 ((dB v155)::(dB v155)::d154::(dB v156)::q6 []))))), [(b4_0 v9), (b4_1 v9), (b4_2 v10), (b4_3 v116)]⟩) ?_ fun J4j157 => ?_))
         ·intro d154 v155 v156 h
          unfold f4_r3 at h
          refine Ops.sg 1 5 (Ops.dn (blkQ.n' (seqQ.n (Rg 2 (Ops.dn (lpQ.m ⟨Zs5 a1 a2 v156 (q34 ((dP e48 a2)::(dI (a2.length : Int))::(dI (w64 (v106 + 1)))::q26 [])), [(b4_0 v9), (b4_1 v9), (b4_2 v10)]⟩ ?_))))))
          cases h
          exact ihx110 v156 (w64 (v106 + 1))  _ hsx115 _ om hrx111 hxx112
         refine Ops.hv (fun KQ => ∀ v152 : Bool, f4_r3 m v106 (v152 && y150.1) = some sx114 → KQ 2 ⟨Zs5 a1 a2 v152 (q3 ((.ptr 3 0)::(dB y150.1)::q29 ((dP e48 a2)::(dI (a2.length : Int))::(dI v106)::q3 ((dP e48 a1)::(dI (a1.length : Int))::(dI y150.2)::q10 ((dB v152)::(dB v152)::q8 []))))), [(b4_0 v9), (b4_1 v9), (b4_2 v10), (b4_3 v116)]⟩) ?_ fun G4g153 => Ops.sx (G4g153 v105 h)
         intro v152 h
         cases v152
         ·exact Ops.sg 2 4 <| Ops.sx (J4j157 U false false h)
         ·exact Ops.sg 2 4 <| Ops.sx (J4j157 (dB y150.1) true y150.1 h)
       ·refine Wp.ex 0 (sqQ.x (seqQ.x ?_))
        cases h
        exact lpQ.x (blkQ.w ⟨Zs5 a1 a2 v105 (q34 ((dP e48 a2)::(dI (a2.length : Int))::(dI v106)::q26 [])), [(b4_0 v9), (b4_1 v9), (b4_2 v10)]⟩ (hxx112 (v105, v106)  hsx115))
     refine Wp.loop' k4_0 3 kr ⟨Zs5 a1 a2 v10.1 (q34 ((dP e48 a2)::(dI (a2.length : Int))::(dI 0)::q26 [])), [(b4_0 v9), (b4_1 v9), (b4_2 v10)]⟩ kr ?_
     rcases brk_some h with ⟨r160, er160, h⟩ | ⟨y159, ey159, h⟩
     ·refine hLx158 _ v10.1 0  _ er160 n om (fun r er σ hσ => ?_) (fun y  ey => by cases ey)
      cases er
      exact seqQ.r <| fnQ.r' (X4 n) (fun z => (eB z)) h hσ
     ·refine hLx158 _ v10.1 0  _ ey159 n om (fun r er => by cases er) (fun y  ey => ?_)
      cases ey
      refine seqQ.n (Sg 2 ?_)
      obtain ⟨v161, ev161, h⟩ := bnd_some h
      exact Ops.on 3 (fun h0 e0 => (call_ok (E' := EG) (h := h0) kr (Args.v (.agg [(vI v9.1.fSt), (vP e52 v9.1.fAs), (vP e54 v9.1.fFn)]) (e27 v9.1) kr (Args.v (vP e48 a2) ((eL e48) a2) kr Args.nil)) (ok13g m v9.1 a2 v161 ev161 n om))) <| Ops.sg 3 6 (Dn (Wp.rt (fnQ.r' (X4 n) (fun z => (eB z)) h (RetOk.mk' (dB (v161 == y159.1)) kr kr))))
   refine Ops.hv (fun KQ => ∀ v11 : Bool, f4_r5 m a1 a2 v9 v10 (v11 || (!((v10.2.2.fCo == 0) && ((v10.2.2.fIx == 0) && true)))) = some o → KQ 4 ⟨Zs7 a0 a1 a2 v10.1 v10.2.1 v1 v6 d4 d5 v7 (.v (.tuple [(.agg [(vI v9.1.fSt), (vP e52 v9.1.fAs), (vP e54 v9.1.fFn)]), (.agg [(vI v9.2.fCo), (vI v9.2.fIx)])])) (.v (.agg [(vI v9.1.fSt), (vP e52 v9.1.fAs), (vP e54 v9.1.fFn)])) (.v (.agg [(vI v9.2.fCo), (vI v9.2.fIx)])) (.v (.tuple [(vB v10.1), (vI v10.2.1), (.agg [(vI v10.2.2.fCo), (vI v10.2.2.fIx)])])) (.v (.agg [(vI v10.2.2.fCo), (vI v10.2.2.fIx)])) (.v (.agg [(vI 0), (vI 0)])) v11 (u33 []), [(b4_0 v9), (b4_1 v9), (b4_2 v10)]⟩) ?_ fun G4g12 => Ops.sx (G4g12 (!((v9.2.fCo == 0) && ((v9.2.fIx == 0) && true))) h)
   intro v11 h
   cases v11
   ·exact Ops.sg 4 8 <| Ops.sx (J4j18 ((.v (.agg [(vI v10.2.2.fCo), (vI v10.2.2.fIx)]))) ((.v (.agg [(vI 0), (vI 0)]))) (dB (!((v10.2.2.fCo == 0) && ((v10.2.2.fIx == 0) && true)))) false (!((v10.2.2.fCo == 0) && ((v10.2.2.fIx == 0) && true))) h)
   ·exact Ops.sg 4 8 <| Ops.sx (J4j18 U U U true true h)
 obtain ⟨v7, ev7, h⟩ := bnd_some h
 refine Ops.hv (fun KQ => ∀ v2 : Bool, (cnd v2 (some true) (bnd (f18 m ) fun v162 => some (!v162))) = some v7 → KQ 3 ⟨(dP e57 a0)::(dP e48 a1)::(dP e48 a2)::u3 ((dB false)::u10 ((dB v1)::(dB v2)::(dB v2)::u40 (u13 []))), []⟩) ?_ fun G4g3 => Ops.sx (G4g3 (!v1) ev7)
 intro v2 ev7
 cases v2
 ·have ev7 := cnd_f ev7
  obtain ⟨v162, ev162, ev7⟩ := bnd_some ev7
  exact Ops.on 4 (fun h0 e0 => (call_ok (E' := EG) (h := h0) kr Args.nil (ok18 m  v162 ev162 n om))) <| Ops.sg 2 6 <| Ops.sx (J4j8 (dB v162) (dB (!v162)) false (!v162) (some_sub (fun v7 => f4_r6 m a0 a1 a2 v7 = some o) ev7 h))
 ·have ev7 := cnd_t ev7
  exact Ops.sg 3 6 <| Ops.sx (J4j8 U U true true (some_sub (fun v7 => f4_r6 m a0 a1 a2 v7 = some o) ev7 h))
def WI (n : Int) : Prop := -9223372036854775808 ≤ n ∧ n ≤ 9223372036854775807
theorem wf_int {m : Int} (h : (Lit.int .i64 m).wf = true) : WI m := by
 have h : (decide (IntKind.i64.min ≤ m) && decide (m ≤ IntKind.i64.max)) = true := h
 have e1 : IntKind.i64.min = -9223372036854775808 := by decide
 have e2 : IntKind.i64.max = 9223372036854775807 := by decide
 rw [e1, e2, Bool.and_eq_true, decide_eq_true_eq, decide_eq_true_eq] at h
 exact h
def WL {α : Type} (W : α → Prop) (l : List α) : Prop := l.length ≤ maxLen ∧ ∀ a ∈ l, W a
theorem dec_slice {α : Type} {f : α → V} {W : α → Prop} {e t : Nat} (hT : (T t).map (·.kind) = some (.slice e)) (h : ∀ n x, typed T n e x → ∃ a, f a = x ∧ W a) : ∀ n x, typed T n t x → ∃ l : List α, eL f l = x ∧ WL W l := by
 intro n x hx
 obtain ⟨ti, h1, h2⟩ := zB.1 hT
 cases n with
 | zero => exact hx.elim
 | succ n =>
  simp only [typed, h1, h2] at hx
  obtain ⟨es, rfl, hl, he⟩ := hx
  have : ∀ es : List V, (∀ y ∈ es, typed T n e y) → ∃ l : List α, l.map f = es ∧ ∀ a ∈ l, W a := by
   intro es
   induction es with
   | nil => intro _; exact ⟨[], rfl, fun a h => by cases h⟩
   | cons y r ih =>
    intro hy
    obtain ⟨l, e1, w1⟩ := ih fun z hz => hy z (zF _ hz)
    obtain ⟨a, e2, w2⟩ := h n y (hy y zH)
    refine ⟨a :: l, by rw [List.map_cons, e1, e2], fun b hb => ?_⟩
    rcases List.mem_cons.1 hb with rfl | hb
    ·exact w2
    ·exact w1 b hb
  obtain ⟨l, e1, w1⟩ := this es he
  subst e1
  exact ⟨l, rfl, by simpa using hl, w1⟩
theorem dec3 : ∀ n x, typed T n 3 x → ∃ a : Int, eI a = x ∧ WI a := by
 intro n x h
 cases n with
 | zero => exact h.elim
 | succ n =>
  have h : ∃ m, x = .int .i64 m ∧ (Lit.int .i64 m).wf = true := h
  obtain ⟨m, rfl, hm⟩ := h
  refine ⟨m, rfl, ?_⟩
  exact wf_int hm
def W49 (x : S48) : Prop := WI x.fLx ∧ WI x.fSf
theorem dec49 : ∀ n x, typed T n 49 x → ∃ a : S48, e48 a = x ∧ W49 a := by
 intro n x h
 cases n with
 | zero => exact h.elim
 | succ n =>
  obtain ⟨xs, hx, hh⟩ : ∃ xs : List V, x = .agg (xs.flatMap V.cells) ∧ typedAll (typed T n) [(0, 3), (1, 3)] xs := h
  subst hx
  match xs, hh with
  | [x0, x1], ⟨h0, h1, _⟩ =>
   obtain ⟨a0, rfl, w0⟩ := dec3 n x0 h0
   obtain ⟨a1, rfl, w1⟩ := dec3 n x1 h1
   exact ⟨⟨a0, a1⟩, rfl, w0, w1⟩
theorem dec23 : ∀ n x, typed T n 23 x → ∃ a : (List S48), (eL e48) a = x ∧ (WL W49) a := dec_slice kr dec49
theorem dec4 : ∀ n x, typed T n 4 x → ∃ a : Bool, eB a = x ∧ True := by
 intro n x h
 cases n with
 | zero => exact h.elim
 | succ n =>
  have h : ∃ b, x = .bool b := h
  obtain ⟨b, rfl⟩ := h
  exact ⟨b, rfl, trivial⟩
def W73 (x : S72) : Prop := (WL W49) x.fLf ∧ (WL W49) x.fRt ∧ (fun _ : Bool => True) x.fBg ∧ (fun _ : Bool => True) x.fEnd
theorem dec73 : ∀ n x, typed T n 73 x → ∃ a : S72, e72 a = x ∧ W73 a := by
 intro n x h
 cases n with
 | zero => exact h.elim
 | succ n =>
  obtain ⟨xs, hx, hh⟩ : ∃ xs : List V, x = .agg (xs.flatMap V.cells) ∧ typedAll (typed T n) [(0, 23), (1, 23), (2, 4), (3, 4)] xs := h
  subst hx
  match xs, hh with
  | [x0, x1, x2, x3], ⟨h0, h1, h2, h3, _⟩ =>
   obtain ⟨a0, rfl, w0⟩ := dec23 n x0 h0
   obtain ⟨a1, rfl, w1⟩ := dec23 n x1 h1
   obtain ⟨a2, rfl, w2⟩ := dec4 n x2 h2
   obtain ⟨a3, rfl, w3⟩ := dec4 n x3 h3
   exact ⟨⟨a0, a1, a2, a3⟩, rfl, w0, w1, w2, w3⟩
theorem dec56 : ∀ n x, typed T n 56 x → ∃ a : (List S72), (eL e72) a = x ∧ (WL W73) a := dec_slice kr dec73
def W58 (x : S57) : Prop := WI x.fKn ∧ W49 x.fPr ∧ (WL W73) x.fCx
theorem dec58 : ∀ n x, typed T n 58 x → ∃ a : S57, e57 a = x ∧ W58 a := by
 intro n x h
 cases n with
 | zero => exact h.elim
 | succ n =>
  obtain ⟨xs, hx, hh⟩ : ∃ xs : List V, x = .agg (xs.flatMap V.cells) ∧ typedAll (typed T n) [(0, 3), (1, 49), (3, 56)] xs := h
  subst hx
  match xs, hh with
  | [x0, x1, x2], ⟨h0, h1, h2, _⟩ =>
   obtain ⟨a0, rfl, w0⟩ := dec3 n x0 h0
   obtain ⟨a1, rfl, w1⟩ := dec49 n x1 h1
   obtain ⟨a2, rfl, w2⟩ := dec56 n x2 h2
   exact ⟨⟨a0, a1, a2⟩, rfl, w0, w1, w2⟩
theorem dec22 : ∀ n x, typed T n 22 x → ∃ a : (List S57), (eL e57) a = x ∧ (WL W58) a := dec_slice kr dec58
def LT : List Nat := [3, 4, 22, 23, 49, 56, 58, 73]
theorem LT_ok : LT.all (lvl E.T LT) = true := by kernel_rfl
theorem law4 (hp : ∀ (a0 : (List S57)) (a1 a2 : (List S48)), (WL W58) a0 → (WL W49) a1 → (WL W49) a2 → ∃ m, f4 m a0 a1 a2 = some true) : ∀ xs, TypedL E.T [22, 23, 23] xs → ∃ n, runV Proofs.Try.prog EG n 4 xs = some (.bool true) := by
 intro xs h
 match xs, h with
 | [x0, x1, x2], ⟨⟨n0, h0⟩, ⟨n1, h1⟩, ⟨n2, h2⟩, _⟩ =>
  obtain ⟨a0, rfl, w0⟩ := dec22 n0 x0 h0
  obtain ⟨a1, rfl, w1⟩ := dec23 n1 x1 h1
  obtain ⟨a2, rfl, w2⟩ := dec23 n2 x2 h2
  obtain ⟨m, hm⟩ := hp a0 a1 a2 w0 w1 w2
  exact ⟨_, law_run (xs := [(eL e57) a0, (eL e48) a1, (eL e48) a2]) (ok4 m a0 a1 a2 true hm (m + 7) (zL _))⟩
end Go.Abs
namespace Go.Abs.Pl
open Go.Sort Go.Proofs Go.Abs.Ta Go.Abs.Tc Go.Abs.Te Go.Abs.Tf Go.Abs.Tg Go.Abs.Th Go.Abs.Ts Go.Abs.Tw Go.Abs.Ty
set_option linter.unusedVariables false
set_option maxRecDepth 100000
theorem f18_true : f18 5000 = some true := by kernel_rfl
theorem f6_true : f6 5000 = some true := by kernel_rfl
def arcTo (here : List Bool) (p : S48) (a : S52) (t : Nat) : Prop := here[a.fFr.toNat]? = some true ∧ a.fIn = p.fLx ∧ a.fOut = p.fSf ∧ a.fTo = (t : Int)
theorem f13_arcs (m0 : Nat) {M : S27} (hM : MP M) {N : Nat} (hN : M.fSt = (N : Int)) {here : List Bool} (hl : here.length = N) (p : S48) : ∀ (m i : Nat) (nx : List Bool), i ≤ M.fAs.length → M.fAs.length < m + i → nx.length = N →
  ∃ nx', iter (fun (y : (List Bool) × Int) => f13_B5 m0 M here p y.1 y.2) m (nx, (i : Int)) = some (.inr (nx', (M.fAs.length : Int))) ∧ nx'.length = N ∧ ∀ t : Nat, nx'[t]? = some true ↔ nx[t]? = some true ∨ ∃ a ∈ M.fAs.drop i, arcTo here p a t
 | 0, i, nx, h1, h2, h3 => by omega
 | m + 1, i, nx, h1, h2, h3 => by
  have hal := hM.al
  by_cases hi : i < M.fAs.length
  ·have hx : M.fAs[i]? = some M.fAs[i] := zA hi
   have hm := hM.arc _ (List.getElem_mem hi)
   rw [zI hi]
   generalize M.fAs[i] = a at hx hm
   obtain ⟨⟨a1, a2⟩, a3, a4⟩ := hm
   have hh : here[a.fFr.toNat]? = some here[a.fFr.toNat]! := by
    have : a.fFr.toNat < here.length := by omega
    rw [zA this, getElem!_pos here _ this]
   have hix : idx here a.fFr = some here[a.fFr.toNat]! := by unfold idx; rw [if_pos a1]; exact hh
   generalize here[a.fFr.toNat]! = b at hh hix
   have hto : a.fTo.toNat < nx.length := by omega
   have hy : idx nx a.fTo = some nx[a.fTo.toNat] := by unfold idx; rw [if_pos a3]; exact zA hto
   have hu : upd nx a.fTo true = some (nx.set a.fTo.toNat true) := by unfold upd; rw [if_pos ⟨a3, hto⟩]
   have step : ∀ (c : Bool) (nx2 : List Bool), nx2.length = N → f13_B5 m0 M here p nx (i : Int) = some (.nxt (nx2, w64 ((i : Int) + 1))) → (∀ t : Nat, nx2[t]? = some true ↔ nx[t]? = some true ∨ arcTo here p a t) →
     ∃ nx', iter (fun (y : (List Bool) × Int) => f13_B5 m0 M here p y.1 y.2) (m + 1) (nx, (i : Int)) = some (.inr (nx', (M.fAs.length : Int))) ∧ nx'.length = N ∧ ∀ t : Nat, nx'[t]? = some true ↔ nx[t]? = some true ∨ ∃ a' ∈ a :: M.fAs.drop (i + 1), arcTo here p a' t := by
    intro c nx2 hl2 hB ht
    obtain ⟨nx', e, g1, g2⟩ := f13_arcs m0 hM hN hl p m (i + 1) nx2 om om hl2
    refine ⟨nx', ?_, g1, fun t => ?_⟩
    ·unfold iter
     dsimp only
     rw [hB]
     dsimp only
     rw [w64_nat om]
     exact e
    ·rw [g2, ht, or_assoc]
     constructor
     ·rintro (h | h | ⟨a', h, h'⟩)
      ·exact .inl h
      ·exact .inr ⟨a, zH .., h⟩
      ·exact .inr ⟨a', zF _ h, h'⟩
     ·rintro (h | ⟨a', h, h'⟩)
      ·exact .inl h
      ·rcases List.mem_cons.1 h with rfl | h
       ·exact .inr (.inl h')
       ·exact .inr (.inr ⟨a', h, h'⟩)
   have hB : f13_B5 m0 M here p nx (i : Int) = if (b && (a.fIn == p.fLx)) && (a.fOut == p.fSf) then some (.nxt (nx.set a.fTo.toNat true, w64 ((i : Int) + 1))) else some (.nxt (nx, w64 ((i : Int) + 1))) := by
    unfold f13_B5
    rw [show decide ((i : Int) < (M.fAs.length : Int)) = true by simp; omega, idx_get, hx]
    simp only [cnd_true, bnd_some', hix]
    unfold f13_r4 f13_r3
    cases ((b && (a.fIn == p.fLx)) && (a.fOut == p.fSf)) with
    | true =>
     rw [cnd_true, hy]
     simp only [bnd_some', hu]
     rfl
    | false => rfl
   by_cases hc : ((b && (a.fIn == p.fLx)) && (a.fOut == p.fSf)) = true
   ·rw [if_pos hc] at hB
    refine step true _ (by rw [zP]; exact h3) hB fun t => ?_
    simp only [Bool.and_eq_true, beq_iff_eq] at hc
    unfold arcTo
    rw [hh, hc.1.1]
    by_cases e : a.fTo.toNat = t
    ·subst e
     rw [zQ hto]
     simp only [true_and, true_iff]
     exact .inr ⟨hc.1.2, hc.2, om⟩
    ·rw [zO e]
     constructor
     ·exact .inl
     ·rintro (h | ⟨_, _, _, h⟩)
      ·exact h
      ·omega
   ·rw [if_neg hc] at hB
    refine step true _ h3 hB fun t => ?_
    unfold arcTo
    rw [hh]
    constructor
    ·exact .inl
    ·rintro (h | ⟨h, h', h'', _⟩)
     ·exact h
     ·exfalso
      apply hc
      rw [zC h, h', h'']
      simp
  ·refine ⟨nx, ?_, h3, fun t => ?_⟩
   ·have hB : f13_B5 m0 M here p nx (i : Int) = some (.brk (nx, (i : Int))) := by
     unfold f13_B5
     rw [show decide ((i : Int) < (M.fAs.length : Int)) = false by simp; omega]
     rfl
    unfold iter
    dsimp only
    rw [hB, show i = M.fAs.length by omega]
   ·rw [zT om]
    simp
theorem f13_str (m0 : Nat) (hm0 : 3000 ≤ m0) {M : S27} (hM : MP M) {N : Nat} (hN : M.fSt = (N : Int)) {x : List S48} (hx : x.length ≤ 1000) : ∀ (m i : Nat) (here : List Bool), i ≤ x.length → x.length < m + i → here.length = N →
  ∃ here', iter (fun (y : (List Bool) × Int) => f13_B6 m0 M x y.1 y.2) m (here, (i : Int)) = some (.inr (here', (x.length : Int))) ∧ here'.length = N ∧ ((∃ s : Nat, here'[s]? = some true ∧ pacc M [] s) ↔ ∃ s : Nat, here[s]? = some true ∧ pacc M (x.drop i) s)
 | 0, i, here, h1, h2, h3 => by omega
 | m + 1, i, here, h1, h2, h3 => by
  have hal := hM.al
  by_cases hi : i < x.length
  ·have hp : x[i]? = some x[i] := zA hi
   rw [zI hi]
   generalize x[i] = p at hp
   obtain ⟨N', hN', hN4⟩ := hM.st
   have hNN : N' = N := by omega
   subst hNN
   obtain ⟨nx, e1, g1, g2⟩ := f13_arcs m0 hM hN h3 p m0 0 (List.replicate N' false) (Nat.zero_le _) om (by simp)
   obtain ⟨here', e2, g3, g4⟩ := f13_str m0 hm0 hM hN hx m (i + 1) nx om om g1
   have hmk : mk 1 M.fSt false = some (List.replicate N' false) := by
    rw [hN]
    unfold mk
    rw [if_pos ⟨om, by rw [zN]; omega, by rw [zN]; unfold maxLen; omega⟩, zN]
   have hB : f13_B6 m0 M x here (i : Int) = some (.nxt (nx, w64 ((i : Int) + 1))) := by
    unfold f13_B6
    rw [show decide ((i : Int) < (x.length : Int)) = true by simp; omega, idx_get, hp]
    simp only [cnd_true, bnd_some', hmk]
    rw [show (0 : Int) = ((0 : Nat) : Int) from rfl, e1]
    rfl
   refine ⟨here', ?_, g3, ?_⟩
   ·unfold iter
    dsimp only
    rw [hB]
    dsimp only
    rw [w64_nat om]
    exact e2
   ·rw [g4]
    have hrep : ∀ t : Nat, ¬ (List.replicate N' false)[t]? = some true := fun t h => by
     rw [zU] at h
     split at h <;> simp at h
    rw [List.drop_zero] at g2
    constructor
    ·rintro ⟨t, t1, t2⟩
     rcases (g2 t).1 t1 with h | ⟨a, ha, h4, h5, h6, h7⟩
     ·exact absurd h (hrep t)
     ·have h8 := (hM.arc a ha).1
      exact ⟨a.fFr.toNat, h4, a, ha, om, h5, h6, by rw [h7]; exact t2⟩
    ·rintro ⟨s, s1, a, ha, h4, h5, h6, h7⟩
     have h8 := (hM.arc a ha).2
     refine ⟨a.fTo.toNat, (g2 _).2 (.inr ⟨a, ha, ?_, h5, h6, om⟩), ?_⟩
     ·rw [h4, zN]
      exact s1
     ·rw [show ((a.fTo.toNat : Nat) : Int) = a.fTo by omega]
      exact h7
  ·refine ⟨here, ?_, h3, ?_⟩
   ·have hB : f13_B6 m0 M x here (i : Int) = some (.brk (here, (i : Int))) := by
     unfold f13_B6
     rw [show decide ((i : Int) < (x.length : Int)) = false by simp; omega]
     rfl
    unfold iter
    dsimp only
    rw [hB, show i = x.length by omega]
   ·rw [zT om]
theorem f13_fin (m0 : Nat) {M : S27} (hM : MP M) {N : Nat} (hN : M.fSt = (N : Int)) {here : List Bool} (hl : here.length = N) (z : Int) : ∀ (m i : Nat), i ≤ M.fFn.length → M.fFn.length < m + i →
  ∃ b, brk (iter (fun (y : Int) => f13_B7 m0 M (here, z) y) m (i : Int)) some (fun _ => some false) = some b ∧ (b = true ↔ ∃ f ∈ M.fFn.drop i, here[f.fSe.toNat]? = some true)
 | 0, i, h1, h2 => by omega
 | m + 1, i, h1, h2 => by
  have hfl := hM.fl
  by_cases hi : i < M.fFn.length
  ·have hx : M.fFn[i]? = some M.fFn[i] := zA hi
   have hm := hM.fin _ (List.getElem_mem hi)
   rw [zI hi]
   generalize M.fFn[i] = f at hx hm
   have hlt : f.fSe.toNat < here.length := by omega
   have hh : here[f.fSe.toNat]? = some here[f.fSe.toNat] := zA hlt
   have hix : idx here f.fSe = some here[f.fSe.toNat] := by unfold idx; rw [if_pos hm.1]; exact hh
   generalize here[f.fSe.toNat] = b at hh hix
   have hB : f13_B7 m0 M (here, z) (i : Int) = if b then some (.ret true) else some (.nxt (w64 ((i : Int) + 1))) := by
    unfold f13_B7
    rw [show decide ((i : Int) < (M.fFn.length : Int)) = true by simp; omega, idx_get, hx]
    simp only [cnd_true, bnd_some', hix]
    cases b <;> rfl
   unfold iter
   rw [hB]
   cases b with
   | true => exact ⟨true, rfl, by simp [hh]⟩
   | false =>
    obtain ⟨b, e, g⟩ := f13_fin m0 hM hN hl z m (i + 1) om om
    refine ⟨b, ?_, ?_⟩
    ·simp only [Bool.false_eq_true, if_false]
     rw [w64_nat om]
     exact e
    ·rw [g]
     simp [hh]
  ·have hB : f13_B7 m0 M (here, z) (i : Int) = some (.brk (i : Int)) := by
    unfold f13_B7
    rw [show decide ((i : Int) < (M.fFn.length : Int)) = false by simp; omega]
    rfl
   unfold iter
   rw [hB]
   exact ⟨false, rfl, by rw [zT om]; simp⟩
theorem f13_to {M : S27} (hM : MP M) {x : List S48} (hx : x.length ≤ 1000) : ∃ b, f13 5000 M x = some b ∧ (b = true ↔ pacc M x 0) := by
 obtain ⟨N, hN, hN4⟩ := hM.st
 have hfl := hM.fl
 have hmk : mk 1 M.fSt false = some (List.replicate N false) := by
  rw [hN]
  unfold mk
  rw [if_pos ⟨om, by rw [zN]; omega, by rw [zN]; unfold maxLen; omega⟩, zN]
 have main : ∀ here : List Bool, here.length = N → ((∃ s : Nat, here[s]? = some true ∧ pacc M x s) ↔ pacc M x 0) → ∃ b, f13_j8 5000 M x here = some b ∧ (b = true ↔ pacc M x 0) := by
  intro here hl h0
  obtain ⟨here', e1, g1, g2⟩ := f13_str 5000 om hM hN hx 5000 0 here (Nat.zero_le _) om hl
  obtain ⟨b, e2, g3⟩ := f13_fin 5000 hM hN g1 (x.length : Int) 5000 0 (Nat.zero_le _) om
  rw [List.drop_zero] at g2 g3
  refine ⟨b, ?_, ?_⟩
  ·unfold f13_j8
   rw [show (0 : Int) = ((0 : Nat) : Int) from rfl, e1]
   exact e2
  ·rw [g3, ← h0, ← g2]
   constructor
   ·rintro ⟨f, hf, h⟩
    have := hM.fin f hf
    exact ⟨_, h, f, hf, om⟩
   ·rintro ⟨s, h, f, hf, h'⟩
    exact ⟨f, hf, by rw [h', zN]; exact h⟩
 unfold f13
 rw [hmk]
 simp only [bnd_some']
 by_cases hp : M.fSt > 0
 ·rw [decide_eq_true hp, cnd_true]
  have h0 : idx (List.replicate N false) 0 = some false := by
   unfold idx
   rw [if_pos om, zU, if_pos (by simp; omega)]
  have h1 : upd (List.replicate N false) 0 true = some ((List.replicate N false).set 0 true) := by
   unfold upd
   rw [if_pos ⟨om, by simp; omega⟩]
   rfl
  rw [h0, h1]
  simp only [bnd_some']
  refine main _ (by simp) ⟨fun ⟨s, h2, h3⟩ => ?_, fun h => ⟨0, zQ (by simp; omega), h⟩⟩
  by_cases e : 0 = s
  ·subst e
   exact h3
  ·rw [zO e, zU] at h2
   split at h2 <;> simp at h2
 ·rw [decide_eq_false hp, cnd_false]
  refine main _ (by simp) ⟨fun ⟨s, h2, h3⟩ => ?_, fun h => ?_⟩
  ·rw [zU] at h2
   split at h2 <;> simp at h2
  ·exfalso
   cases x with
   | nil =>
    obtain ⟨f, hf, _⟩ := h
    have := hM.fin f hf
    omega
   | cons p y =>
    obtain ⟨a, ha, _⟩ := h
    have := (hM.arc a ha).1
    omega
theorem f4_in (m0 : Nat) {ps : List S48} (hps : ps.length ≤ 1000) (p : S48) : ∀ (m i : Nat) (b : Bool), i ≤ ps.length → ps.length < m + i →
  iter (fun (y : Bool × Int) => f4_B2 m0 ps p y.1 y.2) m (b, (i : Int)) = some (.inr (b || (ps.drop i).any (fun q => eq48 p q), (ps.length : Int)))
 | 0, i, b, h1, h2 => by omega
 | m + 1, i, b, h1, h2 => by
  by_cases hi : i < ps.length
  ·have hx : ps[i]? = some ps[i] := zA hi
   rw [zI hi]
   generalize ps[i] = q at hx
   have hB : f4_B2 m0 ps p b (i : Int) = some (.nxt (b || eq48 p q, w64 ((i : Int) + 1))) := by
    unfold f4_B2
    rw [show decide ((i : Int) < (ps.length : Int)) = true by simp; omega, idx_get, hx]
    rfl
   unfold iter
   dsimp only
   rw [hB]
   dsimp only
   rw [w64_nat om, f4_in m0 hps p m (i + 1) _ om om, List.any_cons, Bool.or_assoc]
  ·have hB : f4_B2 m0 ps p b (i : Int) = some (.brk (b, (i : Int))) := by
    unfold f4_B2
    rw [show decide ((i : Int) < (ps.length : Int)) = false by simp; omega]
    rfl
   unfold iter
   dsimp only
   rw [hB, zT om, show i = ps.length by omega]
   simp
theorem f4_all {ps x : List S48} (hps : ps.length ≤ 1000) (hx : x.length ≤ 1000) : ∀ (m i : Nat) (b : Bool), i ≤ x.length → x.length < m + i →
  iter (fun (y : Bool × Int) => f4_B4 5000 ps x y.1 y.2) m (b, (i : Int)) = some (.inr (b && (x.drop i).all (fun p => ps.any fun q => eq48 p q), (x.length : Int)))
 | 0, i, b, h1, h2 => by omega
 | m + 1, i, b, h1, h2 => by
  by_cases hi : i < x.length
  ·have hp : x[i]? = some x[i] := zA hi
   rw [zI hi]
   generalize x[i] = p at hp
   have h5 := f4_in 5000 hps p 5000 0 false (Nat.zero_le _) om
   rw [List.drop_zero, Bool.false_or] at h5
   have hB : f4_B4 5000 ps x b (i : Int) = some (.nxt (b && (ps.any fun q => eq48 p q), w64 ((i : Int) + 1))) := by
    unfold f4_B4
    rw [show decide ((i : Int) < (x.length : Int)) = true by simp; omega, idx_get, hp]
    simp only [cnd_true, bnd_some']
    rw [show (0 : Int) = ((0 : Nat) : Int) from rfl, h5]
    rfl
   unfold iter
   dsimp only
   rw [hB]
   dsimp only
   rw [w64_nat om, f4_all hps hx m (i + 1) _ om om, List.all_cons, Bool.and_assoc]
  ·have hB : f4_B4 5000 ps x b (i : Int) = some (.brk (b, (i : Int))) := by
    unfold f4_B4
    rw [show decide ((i : Int) < (x.length : Int)) = false by simp; omega]
    rfl
   unfold iter
   dsimp only
   rw [hB, zT om, show i = x.length by omega]
   simp
theorem words_iff {ps : List S48} : ∀ x : List S48, (x.all (fun p => ps.any fun q => eq48 p q)) = true ↔ ∃ w : List Nat, w.map (fun k => ps[k]?) = x.map some
 | [] => by
  constructor
  ·intro _
   exact ⟨[], rfl⟩
  ·intro _
   rfl
 | p :: x => by
  rw [List.all_cons, Bool.and_eq_true, words_iff x, List.any_eq_true]
  have eq_iff : ∀ q : S48, eq48 p q = true ↔ p = q := fun q => by
   cases p; cases q
   simp [eq48]
  constructor
  ·rintro ⟨⟨q, hq, e⟩, w, hw⟩
   rw [eq_iff] at e
   subst e
   obtain ⟨k, hk⟩ := List.getElem?_of_mem hq
   exact ⟨k :: w, by simp only [List.map_cons, hk, hw]⟩
  ·rintro ⟨w, hw⟩
   cases w with
   | nil => simp at hw
   | cons k w =>
    simp only [List.map_cons, List.cons.injEq] at hw
    exact ⟨⟨p, zE hw.1, (eq_iff p).2 rfl⟩, w, hw.2⟩
theorem first_iff {x : List S48} : ∀ (rs : List S57) (i : Int), (∀ r ∈ rs, Pr.obeyedS x r = true) ↔ Pr.firstP (Pr.obeyedS x) i rs = none
 | [], i => by simp [Pr.firstP]
 | r :: rs, i => by
  unfold Pr.firstP
  cases h : Pr.obeyedS x r with
  | true =>
   simp only [if_true]
   rw [← first_iff rs (i + 1)]
   simp [h]
  | false => simp [h]
theorem plain4 (rules : List S57) (ps x : List S48) : f4 5000 rules ps x = some true := by
 have hf : ∀ (M : S27) (f : S29) (v : Bool × Int × S29), (okF f = false ∨ okF v.2.2 = false) → f4_r5 5000 ps x (M, f) v ((!okF f) || (!okF v.2.2)) = some true := fun M f v h => by
  have : ((!okF f) || (!okF v.2.2)) = true := by
   rcases h with h | h <;> rw [h] <;> simp
  rw [this]
  rfl
 obtain ⟨M, f, e1, h1⟩ := f7_to rules ps 10000000 (zL _)
 have e7 : f7 5000 rules ps = some (M, f) := e1
 unfold f4
 rw [f6_true, f18_true]
 simp only [bnd_some', cnd_false, Bool.not_true]
 unfold f4_r6
 rw [cnd_false, e7]
 simp only [bnd_some']
 rcases Pr.f19_eq 5000 rules x om with ⟨v, g1, g2, g3⟩ | ⟨_, v, g1, g2, g3⟩ | ⟨g1, g2, g3, g4, g5, g6⟩
 ·rw [g3]
  exact hf M f (false, 0, v) (.inr (okF_ne g1))
 ·rw [g3]
  exact hf M f (false, 0, v) (.inr (okF_ne g1))
 ·rw [g6]
  rcases h1 with h1 | ⟨rfl, h1, h2, h3⟩
  ·exact hf M f (Pr.allowedS rules x) (.inl h1)
  ·obtain ⟨b, e2, h4⟩ := f13_to h2 (x := x) om
   have hps : ps.length ≤ 300 := by
    apply Classical.byContradiction
    intro hn
    have : f7c 10000000 rules ps = some (M, ⟨0, 0⟩) := e1
    unfold f7c at this
    rw [Pr.f24_eq 1000000 rules om, g1] at this
    obtain ⟨g, eg, hg⟩ := f25_to ps
    dsimp only at this
    rw [show okF ⟨0, 0⟩ = true from rfl, if_pos rfl, eg] at this
    dsimp only at this
    rcases hg with hg | ⟨_, hg⟩
    ·rw [hg] at this
     simp only [Bool.false_eq_true, if_false, Option.some.injEq, Prod.mk.injEq] at this
     rw [this.2] at hg
     cases hg
    ·exact hn hg
   have hall : ∃ c : Bool, (Pr.allowedS rules x).1 = c ∧ (Pr.allowedS rules x).2.2 = ⟨0, 0⟩ ∧ (c = true ↔ ∀ r ∈ rules, Pr.obeyedS x r = true) := by
    rw [first_iff rules 0]
    unfold Pr.allowedS
    cases Pr.firstP (Pr.obeyedS x) 0 rules with
    | none => exact ⟨true, rfl, rfl, by simp⟩
    | some j => exact ⟨false, rfl, rfl, by simp⟩
   obtain ⟨c, c1, c2, c3⟩ := hall
   have h5 := f4_all (ps := ps) (x := x) om om 5000 0 c (Nat.zero_le _) om
   rw [List.drop_zero] at h5
   unfold f4_r5
   simp only [bnd_some']
   rw [c2]
   show cnd false _ _ = _
   rw [cnd_false, c1, show (0 : Int) = ((0 : Nat) : Int) from rfl, h5]
   simp only [brk]
   rw [e2]
   simp only [bnd_some']
   have : b = (c && x.all fun p => ps.any fun q => eq48 p q) := by
    rw [Bool.eq_iff_iff, h4, h3, Bool.and_eq_true, c3, words_iff, and_comm]
   rw [this]
   simp
end Go.Abs.Pl
