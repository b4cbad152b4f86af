import Derived.Test.YtckocapmogfhkaaDoorWF2
namespace Go.Abs
set_option linter.unusedVariables false
set_option maxRecDepth 100000
set_option maxHeartbeats 4000000
def f17_B1 (m : Nat) (a0 : ByteArray) (v12 : (List Int)) (v13 : Int) : Option (Stp ((List Int) × S29) ((List Int) × Int)) :=
 cnd (decide (v13 < (a0.size : Int)))
 (bnd (f35 m a0 v13) fun v23 =>
 cnd (decide (v23 < 0))
 (bnd (f34 m 5 v13) fun v24 =>
 some (.ret (([], v24))))
 (bnd (app 8 v12 [v23]) fun v25 =>
 bnd (f36 m v23) fun v26 =>
 some (.nxt (v25, w64 (v13 + v26)))))
 (some (.brk (v12, v13)))
def f17 (m : Nat) (a0 : ByteArray) : Option ((List Int) × S29) :=
 cnd (decide ((a0.size : Int) > 4000))
 (bnd (f34 m 1 (-1)) fun v1 =>
 some (([], v1)))
 (brk (iter (fun (y : (List Int) × Int) => f17_B1 m a0 y.1 y.2) m ([], 0)) some fun y28 =>
 some ((y28.1, (⟨0, 0⟩ : S29))))
noncomputable abbrev X17 (n : Nat) : Cx := cxOf Proofs.Tryd.prog EG 17 n
noncomputable def C17 : Code := bodyOf Proofs.Tryd.prog 17
theorem ok17 (m : Nat) (a0 : ByteArray) (o : ((List Int) × S29)) (h : f17 m a0 = some o) (n : Nat) (hn : m + 3 ≤ n) : FnK Proofs.Tryd.prog EG n 17 [.v (eS a0)] 1 (List.map eI o.1) (e29 o.2) := by
 obtain ⟨n, rfl⟩ : ∃ q, n = q + 1 := ⟨n - 1, by omega⟩
 unfold f17 at h
 refine FnK.of (by kernel_rfl) (by kernel_rfl) (by kernel_rfl) ⟨(.v (.str a0)) :: u31 [], []⟩ (by kernel_rfl) ?_
 refine Wp.sq ?_
 refine Wp.rg ?_
 refine Ops.sg 2 2 ?_
 refine Ops.dn ?_
 refine seqQ.n ?_
 refine Wp.sq ?_
 refine Wp.sq ?_
 refine Wp.rg ?_
 refine Ops.sg 3 3 ?_
 refine Ops.dn ?_
 refine seqQ.n ?_
 refine Wp.cnd h [0, 2, 3] 1 (by kernel_rfl) (fun h => ?_) (fun h => ?_)
 ·refine Wp.sq ?_
  refine Wp.rg ?_
  obtain ⟨v1, ev1, h⟩ := bnd_some h
  refine Ops.on 1 (fun h0 e0 => (call_ok (E' := EG) (h := h0) (by kernel_rfl) (Args.v (vI 1) (eI 1) (by kernel_rfl) (Args.v (vI (-1)) (eI (-1)) (by kernel_rfl) Args.nil)) (ok34 m 1 (-1) v1 ev1 n (by omega)))) ?_
  refine Ops.sg 2 3 ?_
  refine Ops.dn ?_
  refine seqQ.n ?_
  refine Wp.ret (by kernel_rfl) ?_
  refine sqQ.r ?_
  refine seqQ.r ?_
  exact fnQK.r' (X17 n) eI e29 h (RetOkK.nil (.agg [(vI v1.fCode), (vI v1.fIndex)]) (by kernel_rfl))
 ·refine Wp.sk ?_
  refine sqQ.n' ?_
  refine seqQ.n ?_
  refine Wp.sq ?_
  refine Wp.rg ?_
  refine Ops.sg 1 1 ?_
  refine Ops.dn ?_
  refine seqQ.n ?_
  refine Wp.sq ?_
  refine Wp.sq ?_
  refine Wp.rg ?_
  refine Ops.sg 1 1 ?_
  refine Ops.dn ?_
  refine seqQ.n ?_
  refine Wp.block' 0 [2, 3, 4] 2 (by kernel_rfl) ?_
  have hLx27 : ∀ (kx15 : Nat) (v12 : (List Int)) (v13 : Int)  (ox14 : ((List Int) × S29) ⊕ ((List Int) × Int)), iter (fun (y : (List Int) × Int) => f17_B1 m a0 y.1 y.2) kx15 (v12, v13) = some ox14 → ∀ nx16, kx15 ≤ nx16 → (∀ r, ox14 = .inl r → ∀ σ, RetOkK (X17 n) (resOf Proofs.Tryd.prog 17) 1 (List.map eI r.1) (e29 r.2) σ → (seqQ (X17 n) (cR (cR (cR (cR C17)))) (fnQK (X17 n).E.T (resOf Proofs.Tryd.prog 17) 1 (List.map eI o.1) (e29 o.2))) .ret σ) → (∀ (y : (List Int) × Int) , ox14 = .inr y → (seqQ (X17 n) (cR (cR (cR (cR C17)))) (fnQK (X17 n).E.T (resOf Proofs.Tryd.prog 17) 1 (List.map eI o.1) (e29 o.2))) .normal ⟨q2 ((.v (.sl .nil (List.map eI []))) :: (.ptr 0 0) :: (appD 2 (List.map eI y.1)) :: q27 []), [(.cells [(dI 0), (dI 0)]), .dead, (appO 1 (List.map eI y.1))]⟩) → Lp (X17 n) [0, 2, 3, 4, 5] 2 (cL (cL (cR (cL (cR (cR (cR C17))))))) nx16 ⟨(.v (.str a0)) :: q1 ((.v (.sl .nil (List.map eI []))) :: (.ptr 0 0) :: (appD 2 (List.map eI v12)) :: (dI v13) :: q26 []), [(.cells [(dI 0), (dI 0)]), .dead, (appO 1 (List.map eI v12))]⟩ (blkQ (X17 n) 0 [2, 3, 4] 2 (seqQ (X17 n) (cR (cR (cR (cR C17)))) (fnQK (X17 n).E.T (resOf Proofs.Tryd.prog 17) 1 (List.map eI o.1) (e29 o.2)))) := by
   intro kx15
   induction kx15 with
   | zero => intro v12 v13  ox14 h; exact (iter_zero h).elim
   | succ kx15 ihx17 =>
    intro v12 v13  ox14 h nx16 hnx20 hrx18 hxx19
    obtain ⟨nx16, rfl⟩ : ∃ q, nx16 = q + 1 := ⟨nx16 - 1, by omega⟩
    obtain ⟨sx21, h, hsx22⟩ := iter_some h
    have h : f17_B1 m a0 v12 v13 = some sx21 := h
    unfold f17_B1 at h
    refine Lp.succ ?_
    refine Wp.sq ?_
    refine Wp.sq ?_
    refine Wp.rg ?_
    refine Ops.sg 4 4 ?_
    refine Ops.dn ?_
    refine seqQ.n ?_
    refine Wp.cnd h [0, 2, 3, 4, 5] 3 (by kernel_rfl) (fun h => ?_) (fun h => ?_)
    ·refine Wp.sk ?_
     refine sqQ.n ⟨(.v (.str a0)) :: q1 ((.v (.sl .nil (List.map eI []))) :: (.ptr 0 0) :: (appD 3 (List.map eI v12)) :: (dI v13) :: q26 []), [(.cells [(dI 0), (dI 0)]), .dead, .dead, (appO 1 (List.map eI v12))]⟩ (by generalize v12 = z0; cases z0 <;> kernel_rfl) ?_
     refine seqQ.n ?_
     refine Wp.block' 1 [0, 2, 3, 4, 5] 4 (by kernel_rfl) ?_
     refine Wp.sq ?_
     refine Wp.rg ?_
     refine Ops.sg 2 2 ?_
     obtain ⟨v23, ev23, h⟩ := bnd_some h
     refine Ops.on 3 (fun h0 e0 => (call_ok (E' := EG) (h := h0) (by kernel_rfl) (Args.v (.str a0) (eS a0) (by kernel_rfl) (Args.v (vI v13) (eI v13) (by kernel_rfl) Args.nil)) (ok35 m a0 v13 v23 ev23 n (by omega)))) ?_
     refine Ops.sg 1 4 ?_
     refine Ops.dn ?_
     refine seqQ.n ?_
     refine Wp.sq ?_
     refine Wp.sq ?_
     refine Wp.rg ?_
     refine Ops.sg 2 2 ?_
     refine Ops.dn ?_
     refine seqQ.n ?_
     refine Wp.cnd h [0, 2, 3, 4, 5, 6] 4 (by kernel_rfl) (fun h => ?_) (fun h => ?_)
     ·refine Wp.sq ?_
      refine Wp.rg ?_
      refine Ops.sg 1 1 ?_
      obtain ⟨v24, ev24, h⟩ := bnd_some h
      refine Ops.on 2 (fun h0 e0 => (call_ok (E' := EG) (h := h0) (by kernel_rfl) (Args.v (vI 5) (eI 5) (by kernel_rfl) (Args.v (vI v13) (eI v13) (by kernel_rfl) Args.nil)) (ok34 m 5 v13 v24 ev24 n (by omega)))) ?_
      refine Ops.sg 2 4 ?_
      refine Ops.dn ?_
      refine seqQ.n ?_
      refine Wp.ret (by kernel_rfl) ?_
      refine sqQ.r ?_
      refine seqQ.r ?_
      refine blkQ.r ?_
      cases h
      refine lpQ.r ?_
      refine blkQ.r ?_
      exact hrx18 _ hsx22 _ (RetOkK.forget [0, 2, 3, 4, 5] (by kernel_rfl) (RetOkK.nil (.agg [(vI v24.fCode), (vI v24.fIndex)]) (by kernel_rfl)))
     ·refine Wp.sk ?_
      refine sqQ.n ⟨(.v (.str a0)) :: q1 ((.v (.sl .nil (List.map eI []))) :: (.ptr 0 0) :: (appD 4 (List.map eI v12)) :: (dI v13) :: (dI v23) :: q25 []), [(.cells [(dI 0), (dI 0)]), .dead, .dead, .dead, (appO 1 (List.map eI v12))]⟩ (by generalize v12 = z0; cases z0 <;> kernel_rfl) ?_
      refine seqQ.n ?_
      refine Wp.sq ?_
      refine Wp.rg ?_
      refine Ops.sg 3 3 ?_
      obtain ⟨v25, ev25, h⟩ := bnd_some h
      refine Ops.on 4 (fun h0 e0 => (app_r (T := T) (g := .nil) h0 47 3 4 1 ti3 .nonfull eI v12 [v23] v25 ev25 (by kernel_rfl) (by kernel_rfl) (by kernel_rfl) (by kernel_rfl) (fun _ => rfl) (hq_of e0 (by kernel_rfl)))) ?_
      refine Ops.sg 1 5 ?_
      refine Ops.dn ?_
      refine seqQ.n ?_
      refine Wp.rg ?_
      refine Ops.sg 2 2 ?_
      obtain ⟨v26, ev26, h⟩ := bnd_some h
      refine Ops.on 3 (fun h0 e0 => (call_ok (E' := EG) (h := h0) (by kernel_rfl) (Args.v (vI v23) (eI v23) (by kernel_rfl) Args.nil) (ok36 m v23 v26 ev26 n (by omega)))) ?_
      refine Ops.sg 2 5 ?_
      refine Ops.dn ?_
      refine blkQ.n ⟨(.v (.str a0)) :: q1 ((.v (.sl .nil (List.map eI []))) :: (.ptr 0 0) :: (appD 4 (List.map eI v25)) :: (dI (w64 (v13 + v26))) :: q26 []), [(.cells [(dI 0), (dI 0)]), .dead, .dead, .dead, (appO 1 (List.map eI v25))]⟩ (by generalize v25 = z0; cases z0 <;> kernel_rfl) ?_
      refine lpQ.n ⟨(.v (.str a0)) :: q1 ((.v (.sl .nil (List.map eI []))) :: (.ptr 0 0) :: (appD 2 (List.map eI v25)) :: (dI (w64 (v13 + v26))) :: q26 []), [(.cells [(dI 0), (dI 0)]), .dead, (appO 1 (List.map eI v25))]⟩ (by generalize v25 = z0; cases z0 <;> kernel_rfl) ?_
      cases h
      exact ihx17 v25 (w64 (v13 + v26))  _ hsx22 _ (by omega) hrx18 hxx19
    ·refine Wp.exit (id := 0) (by kernel_rfl) ?_
     refine sqQ.x ?_
     refine seqQ.x ?_
     cases h
     refine lpQ.x ?_
     refine blkQ.x ⟨q2 ((.v (.sl .nil (List.map eI []))) :: (.ptr 0 0) :: (appD 2 (List.map eI v12)) :: q27 []), [(.cells [(dI 0), (dI 0)]), .dead, (appO 1 (List.map eI v12))]⟩ (by generalize v12 = z0; cases z0 <;> kernel_rfl) ?_
     exact hxx19 (v12, v13)  hsx22
  refine Wp.loop' [0, 2, 3, 4, 5] 2 (by kernel_rfl) ⟨(.v (.str a0)) :: q1 ((.v (.sl .nil (List.map eI []))) :: (.ptr 0 0) :: (appD 2 (List.map eI [])) :: (dI 0) :: q26 []), [(.cells [(dI 0), (dI 0)]), .dead, .dead]⟩ (by kernel_rfl) ?_
  rcases brk_some h with ⟨r29, er29, h⟩ | ⟨y28, ey28, h⟩
  ·refine hLx27 _ [] 0  _ er29 n (by omega) (fun r er σ hσ => ?_) (fun y  ey => by cases ey)
   cases er
   refine seqQ.r ?_
   exact fnQK.r' (X17 n) eI e29 h hσ
  ·refine hLx27 _ [] 0  _ ey28 n (by omega) (fun r er => by cases er) (fun y  ey => ?_)
   cases ey
   refine seqQ.n ?_
   refine Wp.sq ?_
   refine Wp.rg ?_
   refine Ops.sg 4 4 ?_
   refine Ops.dn ?_
   refine seqQ.n ?_
   refine Wp.ret (by kernel_rfl) ?_
   exact fnQK.r' (X17 n) eI e29 h (RetOkK.app 2 (List.map eI y28.1) (.agg [(vI 0), (vI 0)]) (by kernel_rfl) (by kernel_rfl))
def f54_B1 (m : Nat) (v65 : Int) (v69 : Int) : Option (Stp Bool (Int)) :=
 cnd (decide (v69 < (([0, 9, 10, 32, 40, 41, 91, 93, 44, 59]).length : Int)))
 (bnd (idx ([0, 9, 10, 32, 40, 41, 91, 93, 44, 59]) v69) fun v79 =>
 cnd (v65 == v79)
 (some (.ret false))
 (some (.nxt (w64 (v69 + 1)))))
 (some (.brk v69))
def f54_B2 (m : Nat) (v1 : ((List Int) × S29)) (v55 : Int) : Option (Stp Bool (Int)) :=
 cnd (decide (v55 < (v1.1.length : Int)))
 (bnd (idx v1.1 v55) fun v65 =>
 brk (iter (fun (y : Int) => f54_B1 m v65 y) m 0) (fun r => some (.ret r)) fun y81 =>
 cnd (decide (v65 ≥ 983040))
 (some (.ret false))
 (some (.nxt (w64 (v55 + 1)))))
 (some (.brk v55))
def f54_r3 (m : Nat) (v1 : ((List Int) × S29)) (v16 : Bool) : Option Bool :=
 cnd v16
 (some false)
 (brk (iter (fun (y : Int) => f54_B2 m v1 y) m 0) some fun y84 =>
 some true)
def f54_r4 (m : Nat) (v1 : ((List Int) × S29)) (v8 : Bool) : Option Bool :=
 f54_r3 m v1 (v8 || (decide ((v1.1.length : Int) > 30)))
def f54 (m : Nat) (a0 : ByteArray) : Option Bool :=
 bnd (f17 m a0) fun v1 =>
 f54_r4 m v1 ((!((v1.2.fCode == 0) && ((v1.2.fIndex == 0) && true))) || ((v1.1.length : Int) == 0))
noncomputable abbrev X54 (n : Nat) : Cx := cxOf Proofs.Tryd.prog EG 54 n
noncomputable def C54 : Code := bodyOf Proofs.Tryd.prog 54
noncomputable abbrev p54_0 : Code := cR (cR (cR (cR C54)))
noncomputable abbrev p54_1 : Code := cL (cL (cR (cL (cR (cR (cR C54))))))
noncomputable abbrev p54_2 : Code := cR (cR (cR p54_1))
noncomputable abbrev p54_3 : Code := cR (cR (cL (cL (cR (cR p54_1)))))
abbrev b54_0 (w0 : ((List Int) × S29)) : AObj := .cells [(dI w0.2.fCode), (dI w0.2.fIndex)]
abbrev k54_0 : List Nat := [2, 27, 28, 29]
abbrev k54_1 : List Nat := [2, 6, 27, 28, 29, 33, 34, 35]
theorem ok54 (m : Nat) (a0 : ByteArray) (o : Bool) (h : f54 m a0 = some o) (n : Nat) (hn : m + 4 ≤ n) : Fn Proofs.Tryd.prog EG n 54 [.v (eS a0)] (eB o) := by
 obtain ⟨n, rfl⟩ : ∃ q, n = q + 1 := ⟨n - 1, by omega⟩
 unfold f54 at h
 refine Fn.of (by kernel_rfl) (by kernel_rfl) (by kernel_rfl) ⟨(.v (.str a0)) :: u40 (u5 []), []⟩ (by kernel_rfl) ?_
 refine Wp.sq ?_
 refine Wp.rg ?_
 refine Ops.sg 1 1 ?_
 refine Ops.dn ?_
 refine seqQ.n ?_
 refine Wp.sq ?_
 refine Wp.rg ?_
 refine Ops.sg 1 1 ?_
 obtain ⟨v1, ev1, h⟩ := bnd_some h
 refine Ops.on 2 (fun h0 e0 => (call_keep (E' := EG) (h := h0) (by kernel_rfl) (by kernel_rfl) (by kernel_rfl) (ArgsC.cons (.v (.str a0)) (.v (eS a0)) (by kernel_rfl) ArgsC.nil) (ok17 m a0 v1 ev1 n (by omega)))) ?_
 refine Ops.sg 6 8 ?_
 refine Ops.dn ?_
 refine seqQ.n ?_
 refine Wp.sq ?_
 refine Wp.sq ?_
 refine Wp.rg ?_
 refine Ops.sg 4 4 ?_
 refine Ops.hv (fun KQ => ∀ (d4 d5 d6 : D) (v7 : Bool) (v8 : Bool), f54_r4 m v1 v8 = some o → KQ 8 ⟨(.v (.str a0)) :: u1 ((dB false) :: (appD 0 (List.map eI v1.1)) :: (.ptr 1 0) :: u4 ((.tuple [(appD 0 (List.map eI v1.1)), (.v (.agg [(vI v1.2.fCode), (vI v1.2.fIndex)]))]) :: (.v (.str a0)) :: (.tuple [(appD 0 (List.map eI v1.1)), (.v (.agg [(vI v1.2.fCode), (vI v1.2.fIndex)]))]) :: (appD 0 (List.map eI v1.1)) :: (.v (.agg [(vI v1.2.fCode), (vI v1.2.fIndex)])) :: (.v (.agg [(vI v1.2.fCode), (vI v1.2.fIndex)])) :: (.v (.agg [(vI 0), (vI 0)])) :: (dB v7) :: (dB v7) :: d4 :: d5 :: d6 :: (dB v8) :: u24 [])), [(appO 1 (List.map eI v1.1)), (b54_0 v1)]⟩) ?_ fun J54j9 => ?_
 ·intro d4 d5 d6 v7 v8 h
  unfold f54_r4 at h
  refine Ops.sg 1 9 ?_
  refine Ops.hv (fun KQ => ∀ (d12 d13 d14 : D) (v15 : Bool) (v16 : Bool), f54_r3 m v1 v16 = some o → KQ 13 ⟨(.v (.str a0)) :: u1 ((dB false) :: (appD 0 (List.map eI v1.1)) :: (.ptr 1 0) :: u4 ((.tuple [(appD 0 (List.map eI v1.1)), (.v (.agg [(vI v1.2.fCode), (vI v1.2.fIndex)]))]) :: (.v (.str a0)) :: (.tuple [(appD 0 (List.map eI v1.1)), (.v (.agg [(vI v1.2.fCode), (vI v1.2.fIndex)]))]) :: (appD 0 (List.map eI v1.1)) :: (.v (.agg [(vI v1.2.fCode), (vI v1.2.fIndex)])) :: (.v (.agg [(vI v1.2.fCode), (vI v1.2.fIndex)])) :: (.v (.agg [(vI 0), (vI 0)])) :: (dB v7) :: (dB v7) :: d4 :: d5 :: d6 :: (dB v15) :: (dB v15) :: d12 :: d13 :: d14 :: (dB v16) :: u19 [])), [(appO 1 (List.map eI v1.1)), (b54_0 v1)]⟩) ?_ fun J54j17 => ?_
  ·intro d12 d13 d14 v15 v16 h
   unfold f54_r3 at h
   refine Ops.dn ?_
   refine seqQ.n ?_
   refine Wp.cnd h [2, 3] 2 (by kernel_rfl) (fun h => ?_) (fun h => ?_)
   ·refine Wp.sq ?_
    refine Wp.rg ?_
    refine Ops.sg 1 1 ?_
    refine Ops.dn ?_
    refine seqQ.n ?_
    refine Wp.ret (by kernel_rfl) ?_
    refine sqQ.r ?_
    refine seqQ.r ?_
    exact fnQ.r' (X54 n) (fun z => (eB z)) h (RetOk.mk' (dB false) (by kernel_rfl) (by kernel_rfl))
   ·refine Wp.sk ?_
    refine sqQ.n ⟨(.v (.str a0)) :: u1 ((dB false) :: (appD 0 (List.map eI v1.1)) :: (.ptr 1 0) :: u4 ((.tuple [(appD 0 (List.map eI v1.1)), (.v (.agg [(vI v1.2.fCode), (vI v1.2.fIndex)]))]) :: (.v (.str a0)) :: (.tuple [(appD 0 (List.map eI v1.1)), (.v (.agg [(vI v1.2.fCode), (vI v1.2.fIndex)]))]) :: (appD 0 (List.map eI v1.1)) :: (.v (.agg [(vI v1.2.fCode), (vI v1.2.fIndex)])) :: (.v (.agg [(vI v1.2.fCode), (vI v1.2.fIndex)])) :: (.v (.agg [(vI 0), (vI 0)])) :: (dB v7) :: (dB v7) :: d4 :: d5 :: d6 :: (dB v15) :: (dB v15) :: d12 :: d13 :: d14 :: (dB v16) :: u19 [])), [(appO 1 (List.map eI v1.1)), (b54_0 v1)]⟩ (by generalize v1.1 = z0; cases z0 <;> kernel_rfl) ?_
    refine seqQ.n ?_
    refine Wp.sq ?_
    refine Wp.sq ?_
    refine Wp.rg ?_
    refine Ops.sg 1 1 ?_
    refine Ops.on 2 (fun h0 e0 => (len_a (T := T) (g := .nil) h0 47 3 0 eI v1.1 (by kernel_rfl))) ?_
    refine Ops.sg 1 3 ?_
    refine Ops.dn ?_
    refine seqQ.n ?_
    refine Wp.block' 0 [2] 2 (by kernel_rfl) ?_
    have hLx83 : ∀ (kx57 : Nat) (v55 : Int)  (ox56 : Bool ⊕ (Int)), iter (fun (y : Int) => f54_B2 m v1 y) kx57 v55 = some ox56 → ∀ nx58, kx57 ≤ nx58 → (∀ r, ox56 = .inl r → ∀ σ, RetOk (X54 n) (resOf Proofs.Tryd.prog 54) (eB r) σ → (seqQ (X54 n) p54_0 (fnQ (X54 n).E.T (resOf Proofs.Tryd.prog 54) (eB o))) .ret σ) → (∀ (y : Int) , ox56 = .inr y → (seqQ (X54 n) p54_0 (fnQ (X54 n).E.T (resOf Proofs.Tryd.prog 54) (eB o))) .normal ⟨q2 ((dB false) :: q24 ((appD 0 (List.map eI v1.1)) :: (dI (v1.1.length : Int)) :: (dI y) :: q16 [])), [(appO 1 (List.map eI v1.1)), (b54_0 v1)]⟩) → Lp (X54 n) k54_0 2 p54_1 nx58 ⟨q2 ((dB false) :: q24 ((appD 0 (List.map eI v1.1)) :: (dI (v1.1.length : Int)) :: (dI v55) :: q16 [])), [(appO 1 (List.map eI v1.1)), (b54_0 v1)]⟩ (blkQ (X54 n) 0 [2] 2 (seqQ (X54 n) p54_0 (fnQ (X54 n).E.T (resOf Proofs.Tryd.prog 54) (eB o)))) := by
     intro kx57
     induction kx57 with
     | zero => intro v55  ox56 h; exact (iter_zero h).elim
     | succ kx57 ihx59 =>
      intro v55  ox56 h nx58 hnx62 hrx60 hxx61
      obtain ⟨nx58, rfl⟩ : ∃ q, nx58 = q + 1 := ⟨nx58 - 1, by omega⟩
      obtain ⟨sx63, h, hsx64⟩ := iter_some h
      have h : f54_B2 m v1 v55 = some sx63 := h
      unfold f54_B2 at h
      refine Lp.succ ?_
      refine Wp.sq ?_
      refine Wp.rg ?_
      refine Ops.sg 1 1 ?_
      refine Ops.dn ?_
      refine seqQ.n ?_
      refine Wp.sq ?_
      refine Wp.cnd h k54_0 2 (by kernel_rfl) (fun h => ?_) (fun h => ?_)
      ·refine Wp.sk ?_
       refine sqQ.n ⟨q2 ((dB false) :: q24 ((appD 0 (List.map eI v1.1)) :: (dI (v1.1.length : Int)) :: (dI v55) :: (dB (decide (v55 < (v1.1.length : Int)))) :: q15 [])), [(appO 1 (List.map eI v1.1)), (b54_0 v1)]⟩ (by generalize v1.1 = z0; cases z0 <;> kernel_rfl) ?_
       refine seqQ.n ?_
       refine Wp.sq ?_
       refine Wp.block' 1 k54_0 2 (by kernel_rfl) ?_
       refine Wp.sq ?_
       refine Wp.rg ?_
       obtain ⟨v65, ev65, h⟩ := bnd_some h
       refine Ops.on 1 (fun h0 e0 => (ix_a (T := T) (g := .nil) h0 47 3 1 0 eI v1.1 v55 v65 ev65 (by kernel_rfl) (by kernel_rfl) (fun _ => rfl))) ?_
       refine Ops.sg 2 3 ?_
       refine Ops.dn ?_
       refine seqQ.n ?_
       refine Wp.sq ?_
       refine Wp.sq ?_
       refine Wp.rg ?_
       refine Ops.sg 1 1 ?_
       refine Ops.on 2 (fun h0 e0 => (len_r (T := T) h0 47 3 .nonfull eI ([0, 9, 10, 32, 40, 41, 91, 93, 44, 59]) (by kernel_rfl))) ?_
       refine Ops.sg 1 3 ?_
       refine Ops.dn ?_
       refine seqQ.n ?_
       refine Wp.block' 2 [2, 6, 27, 28, 29] 2 (by kernel_rfl) ?_
       have hLx80 : ∀ (kx71 : Nat) (v69 : Int)  (ox70 : Bool ⊕ (Int)), iter (fun (y : Int) => f54_B1 m v65 y) kx71 v69 = some ox70 → ∀ nx72, kx71 ≤ nx72 → (∀ r, ox70 = .inl r → ∀ σ, RetOk (X54 n) (resOf Proofs.Tryd.prog 54) (eB r) σ → (seqQ (X54 n) p54_3 (blkQ (X54 n) 1 k54_0 2 (seqQ (X54 n) p54_2 (lpQ (X54 n) k54_0 2 p54_1 nx58 (blkQ (X54 n) 0 [2] 2 (seqQ (X54 n) p54_0 (fnQ (X54 n).E.T (resOf Proofs.Tryd.prog 54) (eB o)))))))) .ret σ) → (∀ (y : Int) , ox70 = .inr y → (seqQ (X54 n) p54_3 (blkQ (X54 n) 1 k54_0 2 (seqQ (X54 n) p54_2 (lpQ (X54 n) k54_0 2 p54_1 nx58 (blkQ (X54 n) 0 [2] 2 (seqQ (X54 n) p54_0 (fnQ (X54 n).E.T (resOf Proofs.Tryd.prog 54) (eB o)))))))) .normal ⟨q2 ((dB false) :: q3 ((dI v65) :: q20 ((appD 0 (List.map eI v1.1)) :: (dI (v1.1.length : Int)) :: (dI v55) :: q3 ((.v (.sl .nonfull (List.map eI ([0, 9, 10, 32, 40, 41, 91, 93, 44, 59])))) :: (dI ((([0, 9, 10, 32, 40, 41, 91, 93, 44, 59]).length : Int))) :: (dI y) :: q10 [])))), [(appO 1 (List.map eI v1.1)), (b54_0 v1)]⟩) → Lp (X54 n) k54_1 2 (cL (cL (cR (cL (cR (cL (cL (cR (cR p54_1))))))))) nx72 ⟨q2 ((dB false) :: q3 ((dI v65) :: q20 ((appD 0 (List.map eI v1.1)) :: (dI (v1.1.length : Int)) :: (dI v55) :: q3 ((.v (.sl .nonfull (List.map eI ([0, 9, 10, 32, 40, 41, 91, 93, 44, 59])))) :: (dI ((([0, 9, 10, 32, 40, 41, 91, 93, 44, 59]).length : Int))) :: (dI v69) :: q10 [])))), [(appO 1 (List.map eI v1.1)), (b54_0 v1)]⟩ (blkQ (X54 n) 2 [2, 6, 27, 28, 29] 2 (seqQ (X54 n) p54_3 (blkQ (X54 n) 1 k54_0 2 (seqQ (X54 n) p54_2 (lpQ (X54 n) k54_0 2 p54_1 nx58 (blkQ (X54 n) 0 [2] 2 (seqQ (X54 n) p54_0 (fnQ (X54 n).E.T (resOf Proofs.Tryd.prog 54) (eB o))))))))) := by
        intro kx71
        induction kx71 with
        | zero => intro v69  ox70 h; exact (iter_zero h).elim
        | succ kx71 ihx73 =>
         intro v69  ox70 h nx72 hnx76 hrx74 hxx75
         obtain ⟨nx72, rfl⟩ : ∃ q, nx72 = q + 1 := ⟨nx72 - 1, by omega⟩
         obtain ⟨sx77, h, hsx78⟩ := iter_some h
         have h : f54_B1 m v65 v69 = some sx77 := h
         unfold f54_B1 at h
         refine Lp.succ ?_
         refine Wp.sq ?_
         refine Wp.rg ?_
         refine Ops.sg 1 1 ?_
         refine Ops.dn ?_
         refine seqQ.n ?_
         refine Wp.sq ?_
         refine Wp.cnd h k54_1 2 (by kernel_rfl) (fun h => ?_) (fun h => ?_)
         ·refine Wp.sk ?_
          refine sqQ.n ⟨q2 ((dB false) :: q3 ((dI v65) :: q20 ((appD 0 (List.map eI v1.1)) :: (dI (v1.1.length : Int)) :: (dI v55) :: q3 ((.v (.sl .nonfull (List.map eI ([0, 9, 10, 32, 40, 41, 91, 93, 44, 59])))) :: (dI ((([0, 9, 10, 32, 40, 41, 91, 93, 44, 59]).length : Int))) :: (dI v69) :: (dB (decide (v69 < (([0, 9, 10, 32, 40, 41, 91, 93, 44, 59]).length : Int)))) :: q9 [])))), [(appO 1 (List.map eI v1.1)), (b54_0 v1)]⟩ (by generalize v1.1 = z0; cases z0 <;> kernel_rfl) ?_
          refine seqQ.n ?_
          refine Wp.sq ?_
          refine Wp.block' 3 k54_1 2 (by kernel_rfl) ?_
          refine Wp.sq ?_
          refine Wp.rg ?_
          obtain ⟨v79, ev79, h⟩ := bnd_some h
          refine Ops.on 1 (fun h0 e0 => (ix_r (T := T) h0 47 3 1 .nonfull eI ([0, 9, 10, 32, 40, 41, 91, 93, 44, 59]) v69 v79 ev79 (by kernel_rfl) (by kernel_rfl) (fun _ => rfl))) ?_
          refine Ops.sg 2 3 ?_
          refine Ops.dn ?_
          refine seqQ.n ?_
          refine Wp.sq ?_
          refine Wp.rg ?_
          refine Ops.sg 3 3 ?_
          refine Ops.dn ?_
          refine seqQ.n ?_
          refine Wp.cnd h k54_1 2 (by kernel_rfl) (fun h => ?_) (fun h => ?_)
          ·refine Wp.sq ?_
           refine Wp.rg ?_
           refine Ops.sg 1 1 ?_
           refine Ops.dn ?_
           refine seqQ.n ?_
           refine Wp.ret (by kernel_rfl) ?_
           refine sqQ.r ?_
           refine blkQ.r ?_
           refine seqQ.r ?_
           cases h
           refine lpQ.r ?_
           refine blkQ.r ?_
           exact hrx74 _ hsx78 _ (RetOk.forget k54_1 (by kernel_rfl) (RetOk.mk' (dB false) (by kernel_rfl) (by kernel_rfl)))
          ·refine Wp.sk ?_
           refine sqQ.n ⟨q2 ((dB false) :: q3 ((dI v65) :: q1 ((dI v79) :: q18 ((appD 0 (List.map eI v1.1)) :: (dI (v1.1.length : Int)) :: (dI v55) :: q3 ((.v (.sl .nonfull (List.map eI ([0, 9, 10, 32, 40, 41, 91, 93, 44, 59])))) :: (dI ((([0, 9, 10, 32, 40, 41, 91, 93, 44, 59]).length : Int))) :: (dI v69) :: (dB (decide (v69 < (([0, 9, 10, 32, 40, 41, 91, 93, 44, 59]).length : Int)))) :: (.vptr [(vI v79)]) :: (dI v79) :: (dI v65) :: (dI v79) :: (dB (v65 == v79)) :: q4 []))))), [(appO 1 (List.map eI v1.1)), (b54_0 v1)]⟩ (by generalize v1.1 = z0; cases z0 <;> kernel_rfl) ?_
           refine blkQ.n ⟨q2 ((dB false) :: q3 ((dI v65) :: q1 ((dI v79) :: q18 ((appD 0 (List.map eI v1.1)) :: (dI (v1.1.length : Int)) :: (dI v55) :: q3 ((.v (.sl .nonfull (List.map eI ([0, 9, 10, 32, 40, 41, 91, 93, 44, 59])))) :: (dI ((([0, 9, 10, 32, 40, 41, 91, 93, 44, 59]).length : Int))) :: (dI v69) :: (dB (decide (v69 < (([0, 9, 10, 32, 40, 41, 91, 93, 44, 59]).length : Int)))) :: (.vptr [(vI v79)]) :: (dI v79) :: (dI v65) :: (dI v79) :: (dB (v65 == v79)) :: q4 []))))), [(appO 1 (List.map eI v1.1)), (b54_0 v1)]⟩ (by generalize v1.1 = z0; cases z0 <;> kernel_rfl) ?_
           refine seqQ.n ?_
           refine Wp.rg ?_
           refine Ops.sg 2 2 ?_
           refine Ops.dn ?_
           refine lpQ.n ⟨q2 ((dB false) :: q3 ((dI v65) :: q20 ((appD 0 (List.map eI v1.1)) :: (dI (v1.1.length : Int)) :: (dI v55) :: q3 ((.v (.sl .nonfull (List.map eI ([0, 9, 10, 32, 40, 41, 91, 93, 44, 59])))) :: (dI ((([0, 9, 10, 32, 40, 41, 91, 93, 44, 59]).length : Int))) :: (dI (w64 (v69 + 1))) :: q10 [])))), [(appO 1 (List.map eI v1.1)), (b54_0 v1)]⟩ (by generalize v1.1 = z0; cases z0 <;> kernel_rfl) ?_
           cases h
           exact ihx73 (w64 (v69 + 1))  _ hsx78 _ (by omega) hrx74 hxx75
         ·refine Wp.exit (id := 2) (by kernel_rfl) ?_
          refine sqQ.x ?_
          refine seqQ.x ?_
          cases h
          refine lpQ.x ?_
          refine blkQ.x ⟨q2 ((dB false) :: q3 ((dI v65) :: q20 ((appD 0 (List.map eI v1.1)) :: (dI (v1.1.length : Int)) :: (dI v55) :: q3 ((.v (.sl .nonfull (List.map eI ([0, 9, 10, 32, 40, 41, 91, 93, 44, 59])))) :: (dI ((([0, 9, 10, 32, 40, 41, 91, 93, 44, 59]).length : Int))) :: (dI v69) :: q10 [])))), [(appO 1 (List.map eI v1.1)), (b54_0 v1)]⟩ (by generalize v1.1 = z0; cases z0 <;> kernel_rfl) ?_
          exact hxx75 v69  hsx78
       refine Wp.loop' k54_1 2 (by kernel_rfl) ⟨q2 ((dB false) :: q3 ((dI v65) :: q20 ((appD 0 (List.map eI v1.1)) :: (dI (v1.1.length : Int)) :: (dI v55) :: q3 ((.v (.sl .nonfull (List.map eI ([0, 9, 10, 32, 40, 41, 91, 93, 44, 59])))) :: (dI ((([0, 9, 10, 32, 40, 41, 91, 93, 44, 59]).length : Int))) :: (dI 0) :: q10 [])))), [(appO 1 (List.map eI v1.1)), (b54_0 v1)]⟩ (by generalize v1.1 = z0; cases z0 <;> kernel_rfl) ?_
       rcases brk_some h with ⟨r82, er82, h⟩ | ⟨y81, ey81, h⟩
       ·refine hLx80 _ 0  _ er82 n (by omega) (fun r er σ hσ => ?_) (fun y  ey => by cases ey)
        cases er
        refine seqQ.r ?_
        refine blkQ.r ?_
        refine seqQ.r ?_
        refine lpQ.r ?_
        cases h
        refine blkQ.r ?_
        exact hrx60 _ hsx64 _ (RetOk.forget k54_0 (by kernel_rfl) hσ)
       ·refine hLx80 _ 0  _ ey81 n (by omega) (fun r er => by cases er) (fun y  ey => ?_)
        cases ey
        refine seqQ.n ?_
        refine Wp.sq ?_
        refine Wp.rg ?_
        refine Ops.sg 2 2 ?_
        refine Ops.dn ?_
        refine seqQ.n ?_
        refine Wp.cnd h k54_0 2 (by kernel_rfl) (fun h => ?_) (fun h => ?_)
        ·refine Wp.sq ?_
         refine Wp.rg ?_
         refine Ops.sg 1 1 ?_
         refine Ops.dn ?_
         refine seqQ.n ?_
         refine Wp.ret (by kernel_rfl) ?_
         refine sqQ.r ?_
         refine blkQ.r ?_
         refine seqQ.r ?_
         cases h
         refine lpQ.r ?_
         refine blkQ.r ?_
         exact hrx60 _ hsx64 _ (RetOk.forget k54_0 (by kernel_rfl) (RetOk.mk' (dB false) (by kernel_rfl) (by kernel_rfl)))
        ·refine Wp.sk ?_
         refine sqQ.n ⟨q2 ((dB false) :: q3 ((dI v65) :: q20 ((appD 0 (List.map eI v1.1)) :: (dI (v1.1.length : Int)) :: (dI v55) :: q3 ((.v (.sl .nonfull (List.map eI ([0, 9, 10, 32, 40, 41, 91, 93, 44, 59])))) :: (dI ((([0, 9, 10, 32, 40, 41, 91, 93, 44, 59]).length : Int))) :: (dI y81) :: q7 ((dI v65) :: (dB (decide (v65 ≥ 983040))) :: q1 []))))), [(appO 1 (List.map eI v1.1)), (b54_0 v1)]⟩ (by generalize v1.1 = z0; cases z0 <;> kernel_rfl) ?_
         refine blkQ.n ⟨q2 ((dB false) :: q3 ((dI v65) :: q20 ((appD 0 (List.map eI v1.1)) :: (dI (v1.1.length : Int)) :: (dI v55) :: q3 ((.v (.sl .nonfull (List.map eI ([0, 9, 10, 32, 40, 41, 91, 93, 44, 59])))) :: (dI ((([0, 9, 10, 32, 40, 41, 91, 93, 44, 59]).length : Int))) :: (dI y81) :: q7 ((dI v65) :: (dB (decide (v65 ≥ 983040))) :: q1 []))))), [(appO 1 (List.map eI v1.1)), (b54_0 v1)]⟩ (by generalize v1.1 = z0; cases z0 <;> kernel_rfl) ?_
         refine seqQ.n ?_
         refine Wp.rg ?_
         refine Ops.sg 2 2 ?_
         refine Ops.dn ?_
         refine lpQ.n ⟨q2 ((dB false) :: q24 ((appD 0 (List.map eI v1.1)) :: (dI (v1.1.length : Int)) :: (dI (w64 (v55 + 1))) :: q16 [])), [(appO 1 (List.map eI v1.1)), (b54_0 v1)]⟩ (by generalize v1.1 = z0; cases z0 <;> kernel_rfl) ?_
         cases h
         exact ihx59 (w64 (v55 + 1))  _ hsx64 _ (by omega) hrx60 hxx61
      ·refine Wp.exit (id := 0) (by kernel_rfl) ?_
       refine sqQ.x ?_
       refine seqQ.x ?_
       cases h
       refine lpQ.x ?_
       refine blkQ.x ⟨q2 ((dB false) :: q24 ((appD 0 (List.map eI v1.1)) :: (dI (v1.1.length : Int)) :: (dI v55) :: q16 [])), [(appO 1 (List.map eI v1.1)), (b54_0 v1)]⟩ (by generalize v1.1 = z0; cases z0 <;> kernel_rfl) ?_
       exact hxx61 v55  hsx64
    refine Wp.loop' k54_0 2 (by kernel_rfl) ⟨q2 ((dB false) :: q24 ((appD 0 (List.map eI v1.1)) :: (dI (v1.1.length : Int)) :: (dI 0) :: q16 [])), [(appO 1 (List.map eI v1.1)), (b54_0 v1)]⟩ (by generalize v1.1 = z0; cases z0 <;> kernel_rfl) ?_
    rcases brk_some h with ⟨r85, er85, h⟩ | ⟨y84, ey84, h⟩
    ·refine hLx83 _ 0  _ er85 n (by omega) (fun r er σ hσ => ?_) (fun y  ey => by cases ey)
     cases er
     refine seqQ.r ?_
     exact fnQ.r' (X54 n) (fun z => (eB z)) h hσ
    ·refine hLx83 _ 0  _ ey84 n (by omega) (fun r er => by cases er) (fun y  ey => ?_)
     cases ey
     refine seqQ.n ?_
     refine Wp.sq ?_
     refine Wp.rg ?_
     refine Ops.sg 1 1 ?_
     refine Ops.dn ?_
     refine seqQ.n ?_
     refine Wp.ret (by kernel_rfl) ?_
     exact fnQ.r' (X54 n) (fun z => (eB z)) h (RetOk.mk' (dB true) (by kernel_rfl) (by kernel_rfl))
  refine Ops.hv (fun KQ => ∀ v10 : Bool, f54_r3 m v1 (v10 || (decide ((v1.1.length : Int) > 30))) = some o → KQ 9 ⟨(.v (.str a0)) :: u1 ((dB false) :: (appD 0 (List.map eI v1.1)) :: (.ptr 1 0) :: u4 ((.tuple [(appD 0 (List.map eI v1.1)), (.v (.agg [(vI v1.2.fCode), (vI v1.2.fIndex)]))]) :: (.v (.str a0)) :: (.tuple [(appD 0 (List.map eI v1.1)), (.v (.agg [(vI v1.2.fCode), (vI v1.2.fIndex)]))]) :: (appD 0 (List.map eI v1.1)) :: (.v (.agg [(vI v1.2.fCode), (vI v1.2.fIndex)])) :: (.v (.agg [(vI v1.2.fCode), (vI v1.2.fIndex)])) :: (.v (.agg [(vI 0), (vI 0)])) :: (dB v7) :: (dB v7) :: d4 :: d5 :: d6 :: (dB v10) :: (dB v10) :: u23 [])), [(appO 1 (List.map eI v1.1)), (b54_0 v1)]⟩) ?_ fun G54g11 => Ops.st _ (by kernel_rfl) (G54g11 v8 h)
  intro v10 h
  cases v10
  ·refine Ops.sg 1 10 ?_
   refine Ops.on 11 (fun h0 e0 => (len_a (T := T) (g := .nil) h0 47 3 0 eI v1.1 (by kernel_rfl))) ?_
   refine Ops.sg 2 13 ?_
   exact Ops.st _ (by kernel_rfl) (J54j17 (appD 0 (List.map eI v1.1)) (dI (v1.1.length : Int)) (dB (decide ((v1.1.length : Int) > 30))) false (decide ((v1.1.length : Int) > 30)) h)
  ·refine Ops.sg 4 13 ?_
   exact Ops.st _ (by kernel_rfl) (J54j17 U U U true true h)
 refine Ops.hv (fun KQ => ∀ v2 : Bool, f54_r4 m v1 (v2 || ((v1.1.length : Int) == 0)) = some o → KQ 4 ⟨(.v (.str a0)) :: u1 ((dB false) :: (appD 0 (List.map eI v1.1)) :: (.ptr 1 0) :: u4 ((.tuple [(appD 0 (List.map eI v1.1)), (.v (.agg [(vI v1.2.fCode), (vI v1.2.fIndex)]))]) :: (.v (.str a0)) :: (.tuple [(appD 0 (List.map eI v1.1)), (.v (.agg [(vI v1.2.fCode), (vI v1.2.fIndex)]))]) :: (appD 0 (List.map eI v1.1)) :: (.v (.agg [(vI v1.2.fCode), (vI v1.2.fIndex)])) :: (.v (.agg [(vI v1.2.fCode), (vI v1.2.fIndex)])) :: (.v (.agg [(vI 0), (vI 0)])) :: (dB v2) :: (dB v2) :: u28 [])), [(appO 1 (List.map eI v1.1)), (b54_0 v1)]⟩) ?_ fun G54g3 => Ops.st _ (by kernel_rfl) (G54g3 (!((v1.2.fCode == 0) && ((v1.2.fIndex == 0) && true))) h)
 intro v2 h
 cases v2
 ·refine Ops.sg 1 5 ?_
  refine Ops.on 6 (fun h0 e0 => (len_a (T := T) (g := .nil) h0 47 3 0 eI v1.1 (by kernel_rfl))) ?_
  refine Ops.sg 2 8 ?_
  exact Ops.st _ (by kernel_rfl) (J54j9 (appD 0 (List.map eI v1.1)) (dI (v1.1.length : Int)) (dB ((v1.1.length : Int) == 0)) false ((v1.1.length : Int) == 0) h)
 ·refine Ops.sg 4 8 ?_
  exact Ops.st _ (by kernel_rfl) (J54j9 U U U true true h)
def f32_r1 (m : Nat) (v6 : Bool) : Option Bool :=
 some v6
def f32 (m : Nat) (a0 : ByteArray) : Option Bool :=
 bnd (cnd (a0.toList == (⟨#[]⟩ : ByteArray).toList)
 (some true)
 (bnd (f54 m a0) fun v8 =>
 some v8)) fun v6 =>
 f32_r1 m v6
noncomputable abbrev X32 (n : Nat) : Cx := cxOf Proofs.Tryd.prog EG 32 n
theorem ok32 (m : Nat) (a0 : ByteArray) (o : Bool) (h : f32 m a0 = some o) (n : Nat) (hn : m + 5 ≤ n) : Fn Proofs.Tryd.prog EG n 32 [.v (eS a0)] (eB o) := by
 obtain ⟨n, rfl⟩ : ∃ q, n = q + 1 := ⟨n - 1, by omega⟩
 unfold f32 at h
 refine Fn.of (by kernel_rfl) (by kernel_rfl) (by kernel_rfl) ⟨(.v (.str a0)) :: u8 [], []⟩ (by kernel_rfl) ?_
 refine Wp.sq ?_
 refine Wp.rg ?_
 refine Ops.sg 1 1 ?_
 refine Ops.dn ?_
 refine seqQ.n ?_
 refine Wp.sq ?_
 refine Wp.rg ?_
 refine Ops.sg 3 3 ?_
 refine Ops.hv (fun KQ => ∀ (d3 d4 : D) (v5 : Bool) (v6 : Bool), f32_r1 m v6 = some o → KQ 6 ⟨(.v (.str a0)) :: u1 ((dB false) :: (.v (.str a0)) :: (dB v5) :: (dB v5) :: d3 :: d4 :: (dB v6) :: []), []⟩) ?_ fun J32j7 => ?_
 ·intro d3 d4 v5 v6 h
  unfold f32_r1 at h
  refine Ops.sg 1 7 ?_
  refine Ops.dn ?_
  refine seqQ.n ?_
  refine Wp.ret (by kernel_rfl) ?_
  exact fnQ.r' (X32 n) (fun z => (eB z)) h (RetOk.mk' (dB v6) (by kernel_rfl) (by kernel_rfl))
 obtain ⟨v6, ev6, h⟩ := bnd_some h
 refine Ops.hv (fun KQ => ∀ v1 : Bool, (cnd v1 (some true) (bnd (f54 m a0) fun v8 => some v8)) = some v6 → KQ 3 ⟨(.v (.str a0)) :: u1 ((dB false) :: (.v (.str a0)) :: (dB v1) :: (dB v1) :: u3 []), []⟩) ?_ fun G32g2 => Ops.st _ (by kernel_rfl) (G32g2 (a0.toList == (⟨#[]⟩ : ByteArray).toList) ev6)
 intro v1 ev6
 cases v1
 ·have ev6 := cnd_f ev6
  refine Ops.sg 1 4 ?_
  obtain ⟨v8, ev8, ev6⟩ := bnd_some ev6
  refine Ops.on 5 (fun h0 e0 => (call_ok (E' := EG) (h := h0) (by kernel_rfl) (Args.v (.str a0) (eS a0) (by kernel_rfl) Args.nil) (ok54 m a0 v8 ev8 n (by omega)))) ?_
  refine Ops.sg 1 6 ?_
  exact Ops.st _ (by kernel_rfl) (J32j7 (.v (.str a0)) (dB v8) false v8 (some_sub (fun v6 => f32_r1 m v6 = some o) ev6 h))
 ·have ev6 := cnd_t ev6
  refine Ops.sg 3 6 ?_
  exact Ops.st _ (by kernel_rfl) (J32j7 U U true true (some_sub (fun v6 => f32_r1 m v6 = some o) ev6 h))
def f33_B1 (m : Nat) (a0 : (List ByteArray)) (v6 : Int) : Option (Stp Int (Int)) :=
 cnd (decide (v6 < (a0.length : Int)))
 (bnd (idx a0 v6) fun v16 =>
 bnd (f31 m v16) fun v17 =>
 cnd (!v17)
 (some (.ret 10))
 (some (.nxt (w64 (v6 + 1)))))
 (some (.brk v6))
def f33 (m : Nat) (a0 : (List ByteArray)) (a1 : Int) : Option Int :=
 cnd (decide ((a0.length : Int) > a1))
 (some 2)
 (brk (iter (fun (y : Int) => f33_B1 m a0 y) m 0) some fun y19 =>
 some 0)
noncomputable abbrev X33 (n : Nat) : Cx := cxOf Proofs.Tryd.prog EG 33 n
noncomputable def C33 : Code := bodyOf Proofs.Tryd.prog 33
theorem ok33 (m : Nat) (a0 : (List ByteArray)) (a1 : Int) (o : Int) (h : f33 m a0 a1 = some o) (n : Nat) (hn : m + 2 ≤ n) : Fn Proofs.Tryd.prog EG n 33 [.v ((eL eS) a0), .v (eI a1)] (eI o) := by
 obtain ⟨n, rfl⟩ : ∃ q, n = q + 1 := ⟨n - 1, by omega⟩
 unfold f33 at h
 refine Fn.of (by kernel_rfl) (by kernel_rfl) (by kernel_rfl) ⟨(dP eS a0) :: (dI a1) :: u19 [], []⟩ (by kernel_rfl) ?_
 refine Wp.sq ?_
 refine Wp.rg ?_
 refine Ops.sg 1 1 ?_
 refine Ops.dn ?_
 refine seqQ.n ?_
 refine Wp.sq ?_
 refine Wp.sq ?_
 refine Wp.rg ?_
 refine Ops.sg 1 1 ?_
 refine Ops.on 2 (fun h0 e0 => (len_r (T := T) h0 33 9 .plain eS a0 (by kernel_rfl))) ?_
 refine Ops.sg 2 4 ?_
 refine Ops.dn ?_
 refine seqQ.n ?_
 refine Wp.cnd h [0, 4] 0 (by kernel_rfl) (fun h => ?_) (fun h => ?_)
 ·refine Wp.sq ?_
  refine Wp.rg ?_
  refine Ops.sg 1 1 ?_
  refine Ops.dn ?_
  refine seqQ.n ?_
  refine Wp.ret (by kernel_rfl) ?_
  refine sqQ.r ?_
  refine seqQ.r ?_
  exact fnQ.r' (X33 n) (fun z => (eI z)) h (RetOk.mk' (dI 2) (by kernel_rfl) (by kernel_rfl))
 ·refine Wp.sk ?_
  refine sqQ.n' ?_
  refine seqQ.n ?_
  refine Wp.sq ?_
  refine Wp.sq ?_
  refine Wp.rg ?_
  refine Ops.sg 1 1 ?_
  refine Ops.on 2 (fun h0 e0 => (len_r (T := T) h0 33 9 .plain eS a0 (by kernel_rfl))) ?_
  refine Ops.sg 1 3 ?_
  refine Ops.dn ?_
  refine seqQ.n ?_
  refine Wp.block' 0 [4] 0 (by kernel_rfl) ?_
  have hLx18 : ∀ (kx8 : Nat) (v6 : Int)  (ox7 : Int ⊕ (Int)), iter (fun (y : Int) => f33_B1 m a0 y) kx8 v6 = some ox7 → ∀ nx9, kx8 ≤ nx9 → (∀ r, ox7 = .inl r → ∀ σ, RetOk (X33 n) (resOf Proofs.Tryd.prog 33) (eI r) σ → (seqQ (X33 n) (cR (cR (cR C33))) (fnQ (X33 n).E.T (resOf Proofs.Tryd.prog 33) (eI o))) .ret σ) → (∀ (y : Int) , ox7 = .inr y → (seqQ (X33 n) (cR (cR (cR C33))) (fnQ (X33 n).E.T (resOf Proofs.Tryd.prog 33) (eI o))) .normal ⟨q4 ((dI 0) :: q6 ((dP eS a0) :: (dI (a0.length : Int)) :: (dI y) :: q7 [])), []⟩) → Lp (X33 n) [4, 11, 12, 13] 0 (cL (cL (cR (cL (cR (cR C33)))))) nx9 ⟨q4 ((dI 0) :: q6 ((dP eS a0) :: (dI (a0.length : Int)) :: (dI v6) :: q7 [])), []⟩ (blkQ (X33 n) 0 [4] 0 (seqQ (X33 n) (cR (cR (cR C33))) (fnQ (X33 n).E.T (resOf Proofs.Tryd.prog 33) (eI o)))) := by
   intro kx8
   induction kx8 with
   | zero => intro v6  ox7 h; exact (iter_zero h).elim
   | succ kx8 ihx10 =>
    intro v6  ox7 h nx9 hnx13 hrx11 hxx12
    obtain ⟨nx9, rfl⟩ : ∃ q, nx9 = q + 1 := ⟨nx9 - 1, by omega⟩
    obtain ⟨sx14, h, hsx15⟩ := iter_some h
    have h : f33_B1 m a0 v6 = some sx14 := h
    unfold f33_B1 at h
    refine Lp.succ ?_
    refine Wp.sq ?_
    refine Wp.rg ?_
    refine Ops.sg 1 1 ?_
    refine Ops.dn ?_
    refine seqQ.n ?_
    refine Wp.sq ?_
    refine Wp.cnd h [4, 11, 12, 13] 0 (by kernel_rfl) (fun h => ?_) (fun h => ?_)
    ·refine Wp.sk ?_
     refine sqQ.n' ?_
     refine seqQ.n ?_
     refine Wp.sq ?_
     refine Wp.block' 1 [4, 11, 12, 13] 0 (by kernel_rfl) ?_
     refine Wp.sq ?_
     refine Wp.rg ?_
     obtain ⟨v16, ev16, h⟩ := bnd_some h
     refine Ops.on 1 (fun h0 e0 => (ix_r (T := T) h0 33 9 1 .plain eS a0 v6 v16 ev16 (by kernel_rfl) (by kernel_rfl) (fun _ => rfl))) ?_
     refine Ops.sg 2 3 ?_
     refine Ops.dn ?_
     refine seqQ.n ?_
     refine Wp.sq ?_
     refine Wp.rg ?_
     refine Ops.sg 1 1 ?_
     obtain ⟨v17, ev17, h⟩ := bnd_some h
     refine Ops.on 2 (fun h0 e0 => (call_ok (E' := EG) (h := h0) (by kernel_rfl) (Args.v (.str v16) (eS v16) (by kernel_rfl) Args.nil) (ok31 m v16 v17 ev17 n (by omega)))) ?_
     refine Ops.sg 1 3 ?_
     refine Ops.dn ?_
     refine seqQ.n ?_
     refine Wp.cnd h [4, 11, 12, 13] 0 (by kernel_rfl) (fun h => ?_) (fun h => ?_)
     ·refine Wp.sq ?_
      refine Wp.rg ?_
      refine Ops.sg 1 1 ?_
      refine Ops.dn ?_
      refine seqQ.n ?_
      refine Wp.ret (by kernel_rfl) ?_
      refine sqQ.r ?_
      refine blkQ.r ?_
      refine seqQ.r ?_
      cases h
      refine lpQ.r ?_
      refine blkQ.r ?_
      exact hrx11 _ hsx15 _ (RetOk.forget [4, 11, 12, 13] (by kernel_rfl) (RetOk.mk' (dI 10) (by kernel_rfl) (by kernel_rfl)))
     ·refine Wp.sk ?_
      refine sqQ.n' ?_
      refine blkQ.n' ?_
      refine seqQ.n ?_
      refine Wp.rg ?_
      refine Ops.sg 2 2 ?_
      refine Ops.dn ?_
      refine lpQ.n ⟨q4 ((dI 0) :: q6 ((dP eS a0) :: (dI (a0.length : Int)) :: (dI (w64 (v6 + 1))) :: q7 [])), []⟩ (by kernel_rfl) ?_
      cases h
      exact ihx10 (w64 (v6 + 1))  _ hsx15 _ (by omega) hrx11 hxx12
    ·refine Wp.exit (id := 0) (by kernel_rfl) ?_
     refine sqQ.x ?_
     refine seqQ.x ?_
     cases h
     refine lpQ.x ?_
     refine blkQ.x ⟨q4 ((dI 0) :: q6 ((dP eS a0) :: (dI (a0.length : Int)) :: (dI v6) :: q7 [])), []⟩ (by kernel_rfl) ?_
     exact hxx12 v6  hsx15
  refine Wp.loop' [4, 11, 12, 13] 0 (by kernel_rfl) ⟨q4 ((dI 0) :: q6 ((dP eS a0) :: (dI (a0.length : Int)) :: (dI 0) :: q7 [])), []⟩ (by kernel_rfl) ?_
  rcases brk_some h with ⟨r20, er20, h⟩ | ⟨y19, ey19, h⟩
  ·refine hLx18 _ 0  _ er20 n (by omega) (fun r er σ hσ => ?_) (fun y  ey => by cases ey)
   cases er
   refine seqQ.r ?_
   exact fnQ.r' (X33 n) (fun z => (eI z)) h hσ
  ·refine hLx18 _ 0  _ ey19 n (by omega) (fun r er => by cases er) (fun y  ey => ?_)
   cases ey
   refine seqQ.n ?_
   refine Wp.sq ?_
   refine Wp.rg ?_
   refine Ops.sg 1 1 ?_
   refine Ops.dn ?_
   refine seqQ.n ?_
   refine Wp.ret (by kernel_rfl) ?_
   exact fnQ.r' (X33 n) (fun z => (eI z)) h (RetOk.mk' (dI 0) (by kernel_rfl) (by kernel_rfl))
def f15_B1 (m : Nat) (a0 : S23) (v332 : Int) (v342 : S37) (v350 : Int) : Option (Stp S29 (Int)) :=
 cnd (decide (v350 < v332))
 (bnd (idx a0.fClasses v350) fun v360 =>
 cnd (v360.fName.toList == v342.fName.toList)
 (bnd (f18 m 7 v332) fun v361 =>
 some (.ret v361))
 (some (.nxt (w64 (v350 + 1)))))
 (some (.brk v350))
def f15_r2 (m : Nat) (v332 : Int) (v449 : Int) (v496 : Bool) : Option (Stp S29 (Int)) :=
 cnd v496
 (bnd (f18 m 3 v332) fun v498 =>
 some (.ret v498))
 (some (.nxt (w64 (v449 + 1))))
def f15_r3 (m : Nat) (v332 : Int) (v449 : Int) (v459 : S34) (v488 : Bool) : Option (Stp S29 (Int)) :=
 f15_r2 m v332 v449 (v488 || (decide (v459.fWeight > 1000000)))
def f15_r4 (m : Nat) (v332 : Int) (v449 : Int) (v459 : S34) (v480 : Bool) : Option (Stp S29 (Int)) :=
 f15_r3 m v332 v449 v459 (v480 || (decide (v459.fWeight < 0)))
def f15_r5 (m : Nat) (a0 : S23) (v332 : Int) (v449 : Int) (v459 : S34) (v468 : Bool) : Option (Stp S29 (Int)) :=
 cnd v468
 (bnd (f18 m 5 v332) fun v470 =>
 some (.ret v470))
 (bnd (f33 m v459.fTags 4) fun v471 =>
 cnd (v471 != 0)
 (bnd (f18 m v471 v332) fun v472 =>
 some (.ret v472))
 (f15_r4 m v332 v449 v459 ((decide (v459.fNext < (-1))) || (decide (v459.fNext ≥ (a0.fClasses.length : Int))))))
def f15_B6 (m : Nat) (a0 : S23) (v332 : Int) (v342 : S37) (v449 : Int) : Option (Stp S29 (Int)) :=
 cnd (decide (v449 < (v342.fItems.length : Int)))
 (bnd (idx v342.fItems v449) fun v459 =>
 bnd (f32 m v459.fBase) fun v460 =>
 bnd (cnd (!v460)
 (some true)
 (bnd (f32 m v459.fForm) fun v499 =>
 some (!v499))) fun v468 =>
 f15_r5 m a0 v332 v449 v459 v468)
 (some (.brk v449))
def f15_B7 (m : Nat) (a0 : S23) (v332 : Int) : Option (Stp S29 (Int)) :=
 cnd (decide (v332 < (a0.fClasses.length : Int)))
 (bnd (idx a0.fClasses v332) fun v342 =>
 bnd (f31 m v342.fName) fun v343 =>
 cnd (!v343)
 (bnd (f18 m 10 v332) fun v344 =>
 some (.ret v344))
 (brk (iter (fun (y : Int) => f15_B1 m a0 v332 v342 y) m 0) (fun r => some (.ret r)) fun y363 =>
 cnd (decide ((v342.fItems.length : Int) > 100))
 (bnd (f18 m 2 v332) fun v365 =>
 some (.ret v365))
 (brk (iter (fun (y : Int) => f15_B6 m a0 v332 v342 y) m 0) (fun r => some (.ret r)) fun y501 =>
 some (.nxt (w64 (v332 + 1))))))
 (some (.brk v332))
def f15_r8 (m : Nat) (a0 : S23) (v6 : Bool) : Option S29 :=
 cnd v6
 (bnd (f18 m 9 (-1)) fun v8 =>
 some v8)
 (brk (iter (fun (y : Int) => f15_B7 m a0 y) m 0) some fun y504 =>
 some ((⟨0, 0⟩ : S29)))
def f15 (m : Nat) (a0 : S23) : Option S29 :=
 f15_r8 m a0 (((a0.fClasses.length : Int) == 0) || (decide ((a0.fClasses.length : Int) > 40)))
noncomputable abbrev X15 (n : Nat) : Cx := cxOf Proofs.Tryd.prog EG 15 n
noncomputable def C15 : Code := bodyOf Proofs.Tryd.prog 15
noncomputable abbrev p15_0 : Code := cR (cR (cR (cR C15)))
noncomputable abbrev p15_1 : Code := cL (cL (cR (cL (cR (cR (cR C15))))))
noncomputable abbrev p15_2 : Code := cR (cR (cR p15_1))
noncomputable abbrev p15_3 : Code := cR (cR (cR (cL (cL (cR (cR p15_1))))))
abbrev b15_0 (w0 : S23) : AObj := .cells [(dP e37 w0.fClasses)]
abbrev b15_1 : AObj := .cells [(dI 0), (dI 0)]
abbrev b15_2 (w0 : S37) : AObj := .cells [(.v (.str w0.fName)), (dP e34 w0.fItems)]
abbrev b15_3 (w0 : S34) : AObj := .cells [(.v (.str w0.fBase)), (.v (.str w0.fForm)), (dP eS w0.fTags), (dI w0.fNext), (dI w0.fWeight)]
abbrev k15_0 : List Nat := [1, 2, 3, 21, 22, 23]
abbrev k15_1 : List Nat := [1, 2, 3, 4, 5, 6, 21, 22, 23]
abbrev k15_2 : List Nat := [1, 2, 3, 4, 21, 22, 23, 57, 58, 59]
theorem ok15 (m : Nat) (a0 : S23) (o : S29) (h : f15 m a0 = some o) (n : Nat) (hn : m + 6 ≤ n) : Fn Proofs.Tryd.prog EG n 15 [.v (e23 a0)] (e29 o) := by
 obtain ⟨n, rfl⟩ : ∃ q, n = q + 1 := ⟨n - 1, by omega⟩
 unfold f15 at h
 refine Fn.of (by kernel_rfl) (by kernel_rfl) (by kernel_rfl) ⟨(.v (.agg [(vP e37 a0.fClasses)])) :: u40 (u40 (u26 [])), []⟩ (by kernel_rfl) ?_
 refine Wp.sq ?_
 refine Wp.rg ?_
 refine Ops.sg 2 2 ?_
 refine Ops.dn ?_
 refine seqQ.n ?_
 refine Wp.sq ?_
 refine Wp.rg ?_
 refine Ops.sg 2 2 ?_
 refine Ops.on 3 (fun h0 e0 => (len_r (T := T) h0 22 38 .plain e37 a0.fClasses (by kernel_rfl))) ?_
 refine Ops.sg 1 4 ?_
 refine Ops.dn ?_
 refine seqQ.n ?_
 refine Wp.sq ?_
 refine Wp.sq ?_
 refine Wp.rg ?_
 refine Ops.sg 3 3 ?_
 refine Ops.hv (fun KQ => ∀ (d3 d4 : D) (v5 : Bool) (v6 : Bool), f15_r8 m a0 v6 = some o → KQ 6 ⟨(.v (.agg [(vP e37 a0.fClasses)])) :: (.ptr 0 0) :: (.ptr 1 0) :: (dI (a0.fClasses.length : Int)) :: u6 ((.ptr 0 0) :: (dP e37 a0.fClasses) :: (dI (a0.fClasses.length : Int)) :: (dI (a0.fClasses.length : Int)) :: (dB v5) :: (dB v5) :: d3 :: d4 :: (dB v6) :: u40 (u40 (u8 []))), [(b15_0 a0), b15_1]⟩) ?_ fun J15j7 => ?_
 ·intro d3 d4 v5 v6 h
  unfold f15_r8 at h
  refine Ops.dn ?_
  refine seqQ.n ?_
  refine Wp.cnd h [1, 2, 3] 2 (by kernel_rfl) (fun h => ?_) (fun h => ?_)
  ·refine Wp.sq ?_
   refine Wp.rg ?_
   obtain ⟨v8, ev8, h⟩ := bnd_some h
   refine Ops.on 1 (fun h0 e0 => (call_ok (E' := EG) (h := h0) (by kernel_rfl) (Args.v (vI 9) (eI 9) (by kernel_rfl) (Args.v (vI (-1)) (eI (-1)) (by kernel_rfl) Args.nil)) (ok18 m 9 (-1) v8 ev8 n (by omega)))) ?_
   refine Ops.sg 1 2 ?_
   refine Ops.dn ?_
   refine seqQ.n ?_
   refine Wp.ret (by kernel_rfl) ?_
   refine sqQ.r ?_
   refine seqQ.r ?_
   exact fnQ.r' (X15 n) (fun z => (e29 z)) h (RetOk.mk' (.v (.agg [(vI v8.fCode), (vI v8.fIndex)])) (by kernel_rfl) (by kernel_rfl))
  ·refine Wp.sk ?_
   refine sqQ.n' ?_
   refine seqQ.n ?_
   refine Wp.sq ?_
   refine Wp.sq ?_
   refine Wp.rg ?_
   refine Ops.sg 2 2 ?_
   refine Ops.on 3 (fun h0 e0 => (len_r (T := T) h0 22 38 .plain e37 a0.fClasses (by kernel_rfl))) ?_
   refine Ops.sg 1 4 ?_
   refine Ops.dn ?_
   refine seqQ.n ?_
   refine Wp.block' 0 [2] 2 (by kernel_rfl) ?_
   have hLx503 : ∀ (kx334 : Nat) (v332 : Int)  (ox333 : S29 ⊕ (Int)), iter (fun (y : Int) => f15_B7 m a0 y) kx334 v332 = some ox333 → ∀ nx335, kx334 ≤ nx335 → (∀ r, ox333 = .inl r → ∀ σ, RetOk (X15 n) (resOf Proofs.Tryd.prog 15) (e29 r) σ → (seqQ (X15 n) p15_0 (fnQ (X15 n).E.T (resOf Proofs.Tryd.prog 15) (e29 o))) .ret σ) → (∀ (y : Int) , ox333 = .inr y → (seqQ (X15 n) p15_0 (fnQ (X15 n).E.T (resOf Proofs.Tryd.prog 15) (e29 o))) .normal ⟨q1 ((.ptr 0 0) :: (.ptr 1 0) :: (dI (a0.fClasses.length : Int)) :: q17 ((dP e37 a0.fClasses) :: (dI (a0.fClasses.length : Int)) :: (dI y) :: q40 (q40 (q3 [])))), [(b15_0 a0), b15_1]⟩) → Lp (X15 n) k15_0 2 p15_1 nx335 ⟨q1 ((.ptr 0 0) :: (.ptr 1 0) :: (dI (a0.fClasses.length : Int)) :: q17 ((dP e37 a0.fClasses) :: (dI (a0.fClasses.length : Int)) :: (dI v332) :: q40 (q40 (q3 [])))), [(b15_0 a0), b15_1]⟩ (blkQ (X15 n) 0 [2] 2 (seqQ (X15 n) p15_0 (fnQ (X15 n).E.T (resOf Proofs.Tryd.prog 15) (e29 o)))) := by
    intro kx334
    induction kx334 with
    | zero => intro v332  ox333 h; exact (iter_zero h).elim
    | succ kx334 ihx336 =>
     intro v332  ox333 h nx335 hnx339 hrx337 hxx338
     obtain ⟨nx335, rfl⟩ : ∃ q, nx335 = q + 1 := ⟨nx335 - 1, by omega⟩
     obtain ⟨sx340, h, hsx341⟩ := iter_some h
     have h : f15_B7 m a0 v332 = some sx340 := h
     unfold f15_B7 at h
     refine Lp.succ ?_
     refine Wp.sq ?_
     refine Wp.rg ?_
     refine Ops.sg 1 1 ?_
     refine Ops.dn ?_
     refine seqQ.n ?_
     refine Wp.sq ?_
     refine Wp.cnd h k15_0 2 (by kernel_rfl) (fun h => ?_) (fun h => ?_)
     ·refine Wp.sk ?_
      refine sqQ.n' ?_
      refine seqQ.n ?_
      refine Wp.sq ?_
      refine Wp.block' 1 k15_0 2 (by kernel_rfl) ?_
      refine Wp.sq ?_
      refine Wp.rg ?_
      refine Ops.sg 1 1 ?_
      obtain ⟨v342, ev342, h⟩ := bnd_some h
      refine Ops.on 2 (fun h0 e0 => (ix_r (T := T) h0 22 38 2 .plain e37 a0.fClasses v332 v342 ev342 (by kernel_rfl) (by kernel_rfl) (fun _ => rfl))) ?_
      refine Ops.sg 4 6 ?_
      refine Ops.dn ?_
      refine seqQ.n ?_
      refine Wp.sq ?_
      refine Wp.sq ?_
      refine Wp.rg ?_
      refine Ops.sg 2 2 ?_
      obtain ⟨v343, ev343, h⟩ := bnd_some h
      refine Ops.on 3 (fun h0 e0 => (call_ok (E' := EG) (h := h0) (by kernel_rfl) (Args.v (.str v342.fName) (eS v342.fName) (by kernel_rfl) Args.nil) (ok31 m v342.fName v343 ev343 n (by omega)))) ?_
      refine Ops.sg 1 4 ?_
      refine Ops.dn ?_
      refine seqQ.n ?_
      refine Wp.cnd h [1, 2, 3, 4, 5, 21, 22, 23] 3 (by kernel_rfl) (fun h => ?_) (fun h => ?_)
      ·refine Wp.sq ?_
       refine Wp.rg ?_
       refine Ops.sg 1 1 ?_
       obtain ⟨v344, ev344, h⟩ := bnd_some h
       refine Ops.on 2 (fun h0 e0 => (call_ok (E' := EG) (h := h0) (by kernel_rfl) (Args.v (vI 10) (eI 10) (by kernel_rfl) (Args.v (vI v332) (eI v332) (by kernel_rfl) Args.nil)) (ok18 m 10 v332 v344 ev344 n (by omega)))) ?_
       refine Ops.sg 1 3 ?_
       refine Ops.dn ?_
       refine seqQ.n ?_
       refine Wp.ret (by kernel_rfl) ?_
       refine sqQ.r ?_
       refine seqQ.r ?_
       refine blkQ.r ?_
       refine seqQ.r ?_
       cases h
       refine lpQ.r ?_
       refine blkQ.r ?_
       exact hrx337 _ hsx341 _ (RetOk.forget k15_0 (by kernel_rfl) (RetOk.mk' (.v (.agg [(vI v344.fCode), (vI v344.fIndex)])) (by kernel_rfl) (by kernel_rfl)))
      ·refine Wp.sk ?_
       refine sqQ.n' ?_
       refine seqQ.n ?_
       refine Wp.sq ?_
       refine Wp.sq ?_
       refine Wp.rg ?_
       refine Ops.sg 1 1 ?_
       refine Ops.dn ?_
       refine seqQ.n ?_
       refine Wp.block' 2 [1, 2, 3, 4, 5, 21, 22, 23] 3 (by kernel_rfl) ?_
       have hLx362 : ∀ (kx352 : Nat) (v350 : Int)  (ox351 : S29 ⊕ (Int)), iter (fun (y : Int) => f15_B1 m a0 v332 v342 y) kx352 v350 = some ox351 → ∀ nx353, kx352 ≤ nx353 → (∀ r, ox351 = .inl r → ∀ σ, RetOk (X15 n) (resOf Proofs.Tryd.prog 15) (e29 r) σ → (seqQ (X15 n) p15_3 (blkQ (X15 n) 1 k15_0 2 (seqQ (X15 n) p15_2 (lpQ (X15 n) k15_0 2 p15_1 nx335 (blkQ (X15 n) 0 [2] 2 (seqQ (X15 n) p15_0 (fnQ (X15 n).E.T (resOf Proofs.Tryd.prog 15) (e29 o)))))))) .ret σ) → (∀ (y : Int) , ox351 = .inr y → (seqQ (X15 n) p15_3 (blkQ (X15 n) 1 k15_0 2 (seqQ (X15 n) p15_2 (lpQ (X15 n) k15_0 2 p15_1 nx335 (blkQ (X15 n) 0 [2] 2 (seqQ (X15 n) p15_0 (fnQ (X15 n).E.T (resOf Proofs.Tryd.prog 15) (e29 o)))))))) .normal ⟨q1 ((.ptr 0 0) :: (.ptr 1 0) :: (dI (a0.fClasses.length : Int)) :: (dI v332) :: (.ptr 2 0) :: (dI y) :: q14 ((dP e37 a0.fClasses) :: (dI (a0.fClasses.length : Int)) :: (dI v332) :: q40 (q40 (q3 [])))), [(b15_0 a0), b15_1, (b15_2 v342)]⟩) → Lp (X15 n) k15_1 3 (cL (cL (cR (cL (cR (cR (cL (cL (cR (cR p15_1)))))))))) nx353 ⟨q1 ((.ptr 0 0) :: (.ptr 1 0) :: (dI (a0.fClasses.length : Int)) :: (dI v332) :: (.ptr 2 0) :: (dI v350) :: q14 ((dP e37 a0.fClasses) :: (dI (a0.fClasses.length : Int)) :: (dI v332) :: q40 (q40 (q3 [])))), [(b15_0 a0), b15_1, (b15_2 v342)]⟩ (blkQ (X15 n) 2 [1, 2, 3, 4, 5, 21, 22, 23] 3 (seqQ (X15 n) p15_3 (blkQ (X15 n) 1 k15_0 2 (seqQ (X15 n) p15_2 (lpQ (X15 n) k15_0 2 p15_1 nx335 (blkQ (X15 n) 0 [2] 2 (seqQ (X15 n) p15_0 (fnQ (X15 n).E.T (resOf Proofs.Tryd.prog 15) (e29 o))))))))) := by
        intro kx352
        induction kx352 with
        | zero => intro v350  ox351 h; exact (iter_zero h).elim
        | succ kx352 ihx354 =>
         intro v350  ox351 h nx353 hnx357 hrx355 hxx356
         obtain ⟨nx353, rfl⟩ : ∃ q, nx353 = q + 1 := ⟨nx353 - 1, by omega⟩
         obtain ⟨sx358, h, hsx359⟩ := iter_some h
         have h : f15_B1 m a0 v332 v342 v350 = some sx358 := h
         unfold f15_B1 at h
         refine Lp.succ ?_
         refine Wp.sq ?_
         refine Wp.sq ?_
         refine Wp.rg ?_
         refine Ops.sg 3 3 ?_
         refine Ops.dn ?_
         refine seqQ.n ?_
         refine Wp.cnd h k15_1 3 (by kernel_rfl) (fun h => ?_) (fun h => ?_)
         ·refine Wp.sk ?_
          refine sqQ.n' ?_
          refine seqQ.n ?_
          refine Wp.sq ?_
          refine Wp.block' 3 k15_1 3 (by kernel_rfl) ?_
          refine Wp.sq ?_
          refine Wp.rg ?_
          refine Ops.sg 3 3 ?_
          obtain ⟨v360, ev360, h⟩ := bnd_some h
          refine Ops.on 4 (fun h0 e0 => (ix_r (T := T) h0 22 38 2 .plain e37 a0.fClasses v350 v360 ev360 (by kernel_rfl) (by kernel_rfl) (fun _ => rfl))) ?_
          refine Ops.sg 5 9 ?_
          refine Ops.dn ?_
          refine seqQ.n ?_
          refine Wp.cnd h k15_1 3 (by kernel_rfl) (fun h => ?_) (fun h => ?_)
          ·refine Wp.sq ?_
           refine Wp.rg ?_
           refine Ops.sg 1 1 ?_
           obtain ⟨v361, ev361, h⟩ := bnd_some h
           refine Ops.on 2 (fun h0 e0 => (call_ok (E' := EG) (h := h0) (by kernel_rfl) (Args.v (vI 7) (eI 7) (by kernel_rfl) (Args.v (vI v332) (eI v332) (by kernel_rfl) Args.nil)) (ok18 m 7 v332 v361 ev361 n (by omega)))) ?_
           refine Ops.sg 1 3 ?_
           refine Ops.dn ?_
           refine seqQ.n ?_
           refine Wp.ret (by kernel_rfl) ?_
           refine sqQ.r ?_
           refine blkQ.r ?_
           refine seqQ.r ?_
           cases h
           refine lpQ.r ?_
           refine blkQ.r ?_
           exact hrx355 _ hsx359 _ (RetOk.forget k15_1 (by kernel_rfl) (RetOk.mk' (.v (.agg [(vI v361.fCode), (vI v361.fIndex)])) (by kernel_rfl) (by kernel_rfl)))
          ·refine Wp.sk ?_
           refine sqQ.n' ?_
           refine blkQ.n' ?_
           refine seqQ.n ?_
           refine Wp.rg ?_
           refine Ops.sg 3 3 ?_
           refine Ops.dn ?_
           refine lpQ.n ⟨q1 ((.ptr 0 0) :: (.ptr 1 0) :: (dI (a0.fClasses.length : Int)) :: (dI v332) :: (.ptr 2 0) :: (dI (w64 (v350 + 1))) :: q14 ((dP e37 a0.fClasses) :: (dI (a0.fClasses.length : Int)) :: (dI v332) :: q40 (q40 (q3 [])))), [(b15_0 a0), b15_1, (b15_2 v342)]⟩ (by kernel_rfl) ?_
           cases h
           exact ihx354 (w64 (v350 + 1))  _ hsx359 _ (by omega) hrx355 hxx356
         ·refine Wp.exit (id := 2) (by kernel_rfl) ?_
          refine sqQ.x ?_
          refine seqQ.x ?_
          cases h
          refine lpQ.x ?_
          refine blkQ.x ⟨q1 ((.ptr 0 0) :: (.ptr 1 0) :: (dI (a0.fClasses.length : Int)) :: (dI v332) :: (.ptr 2 0) :: (dI v350) :: q14 ((dP e37 a0.fClasses) :: (dI (a0.fClasses.length : Int)) :: (dI v332) :: q40 (q40 (q3 [])))), [(b15_0 a0), b15_1, (b15_2 v342)]⟩ (by kernel_rfl) ?_
          exact hxx356 v350  hsx359
       refine Wp.loop' k15_1 3 (by kernel_rfl) ⟨q1 ((.ptr 0 0) :: (.ptr 1 0) :: (dI (a0.fClasses.length : Int)) :: (dI v332) :: (.ptr 2 0) :: (dI 0) :: q14 ((dP e37 a0.fClasses) :: (dI (a0.fClasses.length : Int)) :: (dI v332) :: q40 (q40 (q3 [])))), [(b15_0 a0), b15_1, (b15_2 v342)]⟩ (by kernel_rfl) ?_
       rcases brk_some h with ⟨r364, er364, h⟩ | ⟨y363, ey363, h⟩
       ·refine hLx362 _ 0  _ er364 n (by omega) (fun r er σ hσ => ?_) (fun y  ey => by cases ey)
        cases er
        refine seqQ.r ?_
        refine blkQ.r ?_
        refine seqQ.r ?_
        refine lpQ.r ?_
        cases h
        refine blkQ.r ?_
        exact hrx337 _ hsx341 _ (RetOk.forget k15_0 (by kernel_rfl) hσ)
       ·refine hLx362 _ 0  _ ey363 n (by omega) (fun r er => by cases er) (fun y  ey => ?_)
        cases ey
        refine seqQ.n ?_
        refine Wp.sq ?_
        refine Wp.sq ?_
        refine Wp.rg ?_
        refine Ops.sg 2 2 ?_
        refine Ops.on 3 (fun h0 e0 => (len_r (T := T) h0 36 35 .plain e34 v342.fItems (by kernel_rfl))) ?_
        refine Ops.sg 1 4 ?_
        refine Ops.dn ?_
        refine seqQ.n ?_
        refine Wp.cnd h [1, 2, 3, 4, 5, 21, 22, 23] 3 (by kernel_rfl) (fun h => ?_) (fun h => ?_)
        ·refine Wp.sq ?_
         refine Wp.rg ?_
         refine Ops.sg 1 1 ?_
         obtain ⟨v365, ev365, h⟩ := bnd_some h
         refine Ops.on 2 (fun h0 e0 => (call_ok (E' := EG) (h := h0) (by kernel_rfl) (Args.v (vI 2) (eI 2) (by kernel_rfl) (Args.v (vI v332) (eI v332) (by kernel_rfl) Args.nil)) (ok18 m 2 v332 v365 ev365 n (by omega)))) ?_
         refine Ops.sg 1 3 ?_
         refine Ops.dn ?_
         refine seqQ.n ?_
         refine Wp.ret (by kernel_rfl) ?_
         refine sqQ.r ?_
         refine seqQ.r ?_
         refine blkQ.r ?_
         refine seqQ.r ?_
         cases h
         refine lpQ.r ?_
         refine blkQ.r ?_
         exact hrx337 _ hsx341 _ (RetOk.forget k15_0 (by kernel_rfl) (RetOk.mk' (.v (.agg [(vI v365.fCode), (vI v365.fIndex)])) (by kernel_rfl) (by kernel_rfl)))
        ·refine Wp.sk ?_
         refine sqQ.n' ?_
         refine seqQ.n ?_
         refine Wp.sq ?_
         refine Wp.rg ?_
         refine Ops.sg 2 2 ?_
         refine Ops.on 3 (fun h0 e0 => (len_r (T := T) h0 36 35 .plain e34 v342.fItems (by kernel_rfl))) ?_
         refine Ops.sg 1 4 ?_
         refine Ops.dn ?_
         refine seqQ.n ?_
         refine Wp.block' 4 k15_0 3 (by kernel_rfl) ?_
         have hLx500 : ∀ (kx451 : Nat) (v449 : Int)  (ox450 : S29 ⊕ (Int)), iter (fun (y : Int) => f15_B6 m a0 v332 v342 y) kx451 v449 = some ox450 → ∀ nx452, kx451 ≤ nx452 → (∀ r, ox450 = .inl r → ∀ σ, RetOk (X15 n) (resOf Proofs.Tryd.prog 15) (e29 r) σ → (blkQ (X15 n) 1 k15_0 2 (seqQ (X15 n) p15_2 (lpQ (X15 n) k15_0 2 p15_1 nx335 (blkQ (X15 n) 0 [2] 2 (seqQ (X15 n) p15_0 (fnQ (X15 n).E.T (resOf Proofs.Tryd.prog 15) (e29 o))))))) .ret σ) → (∀ (y : Int) , ox450 = .inr y → (blkQ (X15 n) 1 k15_0 2 (seqQ (X15 n) p15_2 (lpQ (X15 n) k15_0 2 p15_1 nx335 (blkQ (X15 n) 0 [2] 2 (seqQ (X15 n) p15_0 (fnQ (X15 n).E.T (resOf Proofs.Tryd.prog 15) (e29 o))))))) .normal ⟨q1 ((.ptr 0 0) :: (.ptr 1 0) :: (dI (a0.fClasses.length : Int)) :: (dI v332) :: q16 ((dP e37 a0.fClasses) :: (dI (a0.fClasses.length : Int)) :: (dI v332) :: q33 ((dP e34 v342.fItems) :: (dI (v342.fItems.length : Int)) :: (dI y) :: q40 (q7 [])))), [(b15_0 a0), b15_1, (b15_2 v342)]⟩) → Lp (X15 n) k15_2 3 (cL (cL (cR (cR p15_3)))) nx452 ⟨q1 ((.ptr 0 0) :: (.ptr 1 0) :: (dI (a0.fClasses.length : Int)) :: (dI v332) :: q16 ((dP e37 a0.fClasses) :: (dI (a0.fClasses.length : Int)) :: (dI v332) :: q33 ((dP e34 v342.fItems) :: (dI (v342.fItems.length : Int)) :: (dI v449) :: q40 (q7 [])))), [(b15_0 a0), b15_1, (b15_2 v342)]⟩ (blkQ (X15 n) 4 k15_0 3 (blkQ (X15 n) 1 k15_0 2 (seqQ (X15 n) p15_2 (lpQ (X15 n) k15_0 2 p15_1 nx335 (blkQ (X15 n) 0 [2] 2 (seqQ (X15 n) p15_0 (fnQ (X15 n).E.T (resOf Proofs.Tryd.prog 15) (e29 o)))))))) := by
          intro kx451
          induction kx451 with
          | zero => intro v449  ox450 h; exact (iter_zero h).elim
          | succ kx451 ihx453 =>
           intro v449  ox450 h nx452 hnx456 hrx454 hxx455
           obtain ⟨nx452, rfl⟩ : ∃ q, nx452 = q + 1 := ⟨nx452 - 1, by omega⟩
           obtain ⟨sx457, h, hsx458⟩ := iter_some h
           have h : f15_B6 m a0 v332 v342 v449 = some sx457 := h
           unfold f15_B6 at h
           refine Lp.succ ?_
           refine Wp.sq ?_
           refine Wp.rg ?_
           refine Ops.sg 1 1 ?_
           refine Ops.dn ?_
           refine seqQ.n ?_
           refine Wp.sq ?_
           refine Wp.cnd h k15_2 3 (by kernel_rfl) (fun h => ?_) (fun h => ?_)
           ·refine Wp.sk ?_
            refine sqQ.n' ?_
            refine seqQ.n ?_
            refine Wp.sq ?_
            refine Wp.block' 5 k15_2 3 (by kernel_rfl) ?_
            refine Wp.sq ?_
            refine Wp.rg ?_
            obtain ⟨v459, ev459, h⟩ := bnd_some h
            refine Ops.on 1 (fun h0 e0 => (ix_r (T := T) h0 36 35 5 .plain e34 v342.fItems v449 v459 ev459 (by kernel_rfl) (by kernel_rfl) (fun _ => rfl))) ?_
            refine Ops.sg 3 4 ?_
            refine Ops.dn ?_
            refine seqQ.n ?_
            refine Wp.sq ?_
            refine Wp.sq ?_
            refine Wp.rg ?_
            refine Ops.sg 2 2 ?_
            obtain ⟨v460, ev460, h⟩ := bnd_some h
            refine Ops.on 3 (fun h0 e0 => (call_ok (E' := EG) (h := h0) (by kernel_rfl) (Args.v (.str v459.fBase) (eS v459.fBase) (by kernel_rfl) Args.nil) (ok32 m v459.fBase v460 ev460 n (by omega)))) ?_
            refine Ops.sg 2 5 ?_
            refine Ops.hv (fun KQ => ∀ (d463 d464 d465 d466 : D) (v467 : Bool) (v468 : Bool), f15_r5 m a0 v332 v449 v459 v468 = some sx457 → KQ 10 ⟨q1 ((.ptr 0 0) :: (.ptr 1 0) :: (dI (a0.fClasses.length : Int)) :: (dI v332) :: q3 ((.ptr 3 0) :: q12 ((dP e37 a0.fClasses) :: (dI (a0.fClasses.length : Int)) :: (dI v332) :: q33 ((dP e34 v342.fItems) :: (dI (v342.fItems.length : Int)) :: (dI v449) :: (dB (decide (v449 < (v342.fItems.length : Int)))) :: (.vptr [(.str v459.fBase), (.str v459.fForm), (vP eS v459.fTags), (vI v459.fNext), (vI v459.fWeight)]) :: (.v (.agg [(.str v459.fBase), (.str v459.fForm), (vP eS v459.fTags), (vI v459.fNext), (vI v459.fWeight)])) :: (.ptr 3 0) :: (.v (.str v459.fBase)) :: (dB v460) :: (dB v467) :: (dB v467) :: d463 :: d464 :: d465 :: d466 :: (dB v468) :: q34 [])))), [(b15_0 a0), b15_1, (b15_2 v342), (b15_3 v459)]⟩) ?_ fun J15j469 => ?_
            ·intro d463 d464 d465 d466 v467 v468 h
             unfold f15_r5 at h
             refine Ops.dn ?_
             refine seqQ.n ?_
             refine Wp.cnd h [1, 2, 3, 4, 8, 21, 22, 23, 57, 58, 59] 4 (by kernel_rfl) (fun h => ?_) (fun h => ?_)
             ·refine Wp.sq ?_
              refine Wp.rg ?_
              refine Ops.sg 1 1 ?_
              obtain ⟨v470, ev470, h⟩ := bnd_some h
              refine Ops.on 2 (fun h0 e0 => (call_ok (E' := EG) (h := h0) (by kernel_rfl) (Args.v (vI 5) (eI 5) (by kernel_rfl) (Args.v (vI v332) (eI v332) (by kernel_rfl) Args.nil)) (ok18 m 5 v332 v470 ev470 n (by omega)))) ?_
              refine Ops.sg 1 3 ?_
              refine Ops.dn ?_
              refine seqQ.n ?_
              refine Wp.ret (by kernel_rfl) ?_
              refine sqQ.r ?_
              refine seqQ.r ?_
              refine blkQ.r ?_
              refine seqQ.r ?_
              cases h
              refine lpQ.r ?_
              refine blkQ.r ?_
              exact hrx454 _ hsx458 _ (RetOk.forget k15_2 (by kernel_rfl) (RetOk.mk' (.v (.agg [(vI v470.fCode), (vI v470.fIndex)])) (by kernel_rfl) (by kernel_rfl)))
             ·refine Wp.sk ?_
              refine sqQ.n' ?_
              refine seqQ.n ?_
              refine Wp.sq ?_
              refine Wp.sq ?_
              refine Wp.rg ?_
              refine Ops.sg 2 2 ?_
              obtain ⟨v471, ev471, h⟩ := bnd_some h
              refine Ops.on 3 (fun h0 e0 => (call_ok (E' := EG) (h := h0) (by kernel_rfl) (Args.v (vP eS v459.fTags) ((eL eS) v459.fTags) (by kernel_rfl) (Args.v (vI 4) (eI 4) (by kernel_rfl) Args.nil)) (ok33 m v459.fTags 4 v471 ev471 n (by omega)))) ?_
              refine Ops.sg 1 4 ?_
              refine Ops.dn ?_
              refine seqQ.n ?_
              refine Wp.sq ?_
              refine Wp.rg ?_
              refine Ops.sg 2 2 ?_
              refine Ops.dn ?_
              refine seqQ.n ?_
              refine Wp.cnd h [1, 2, 3, 4, 8, 21, 22, 23, 57, 58, 59] 4 (by kernel_rfl) (fun h => ?_) (fun h => ?_)
              ·refine Wp.sq ?_
               refine Wp.rg ?_
               refine Ops.sg 2 2 ?_
               obtain ⟨v472, ev472, h⟩ := bnd_some h
               refine Ops.on 3 (fun h0 e0 => (call_ok (E' := EG) (h := h0) (by kernel_rfl) (Args.v (vI v471) (eI v471) (by kernel_rfl) (Args.v (vI v332) (eI v332) (by kernel_rfl) Args.nil)) (ok18 m v471 v332 v472 ev472 n (by omega)))) ?_
               refine Ops.sg 1 4 ?_
               refine Ops.dn ?_
               refine seqQ.n ?_
               refine Wp.ret (by kernel_rfl) ?_
               refine sqQ.r ?_
               refine seqQ.r ?_
               refine blkQ.r ?_
               refine seqQ.r ?_
               cases h
               refine lpQ.r ?_
               refine blkQ.r ?_
               exact hrx454 _ hsx458 _ (RetOk.forget k15_2 (by kernel_rfl) (RetOk.mk' (.v (.agg [(vI v472.fCode), (vI v472.fIndex)])) (by kernel_rfl) (by kernel_rfl)))
              ·refine Wp.sk ?_
               refine sqQ.n' ?_
               refine seqQ.n ?_
               refine Wp.sq ?_
               refine Wp.rg ?_
               refine Ops.sg 4 4 ?_
               refine Ops.hv (fun KQ => ∀ (d475 d476 d477 d478 : D) (v479 : Bool) (v480 : Bool), f15_r4 m v332 v449 v459 v480 = some sx457 → KQ 9 ⟨q1 ((.ptr 0 0) :: (.ptr 1 0) :: (dI (a0.fClasses.length : Int)) :: (dI v332) :: q3 ((.ptr 3 0) :: (dI v471) :: q11 ((dP e37 a0.fClasses) :: (dI (a0.fClasses.length : Int)) :: (dI v332) :: q33 ((dP e34 v342.fItems) :: (dI (v342.fItems.length : Int)) :: (dI v449) :: (dB (decide (v449 < (v342.fItems.length : Int)))) :: (.vptr [(.str v459.fBase), (.str v459.fForm), (vP eS v459.fTags), (vI v459.fNext), (vI v459.fWeight)]) :: (.v (.agg [(.str v459.fBase), (.str v459.fForm), (vP eS v459.fTags), (vI v459.fNext), (vI v459.fWeight)])) :: (.ptr 3 0) :: (.v (.str v459.fBase)) :: (dB v460) :: (dB v467) :: (dB v467) :: d463 :: d464 :: d465 :: d466 :: (dB v468) :: q2 ((.ptr 3 2) :: (dP eS v459.fTags) :: (dI v471) :: (dI v471) :: (dB (v471 != 0)) :: q3 ((.ptr 3 3) :: (dI v459.fNext) :: (dB v479) :: (dB v479) :: d475 :: d476 :: d477 :: d478 :: (dB v480) :: q15 [])))))), [(b15_0 a0), b15_1, (b15_2 v342), (b15_3 v459)]⟩) ?_ fun J15j481 => ?_
               ·intro d475 d476 d477 d478 v479 v480 h
                unfold f15_r4 at h
                refine Ops.sg 1 10 ?_
                refine Ops.hv (fun KQ => ∀ (d484 d485 d486 : D) (v487 : Bool) (v488 : Bool), f15_r3 m v332 v449 v459 v488 = some sx457 → KQ 14 ⟨q1 ((.ptr 0 0) :: (.ptr 1 0) :: (dI (a0.fClasses.length : Int)) :: (dI v332) :: q3 ((.ptr 3 0) :: (dI v471) :: q11 ((dP e37 a0.fClasses) :: (dI (a0.fClasses.length : Int)) :: (dI v332) :: q33 ((dP e34 v342.fItems) :: (dI (v342.fItems.length : Int)) :: (dI v449) :: (dB (decide (v449 < (v342.fItems.length : Int)))) :: (.vptr [(.str v459.fBase), (.str v459.fForm), (vP eS v459.fTags), (vI v459.fNext), (vI v459.fWeight)]) :: (.v (.agg [(.str v459.fBase), (.str v459.fForm), (vP eS v459.fTags), (vI v459.fNext), (vI v459.fWeight)])) :: (.ptr 3 0) :: (.v (.str v459.fBase)) :: (dB v460) :: (dB v467) :: (dB v467) :: d463 :: d464 :: d465 :: d466 :: (dB v468) :: q2 ((.ptr 3 2) :: (dP eS v459.fTags) :: (dI v471) :: (dI v471) :: (dB (v471 != 0)) :: q3 ((.ptr 3 3) :: (dI v459.fNext) :: (dB v479) :: (dB v479) :: d475 :: d476 :: d477 :: d478 :: (dB v487) :: (dB v487) :: d484 :: d485 :: d486 :: (dB v488) :: q10 [])))))), [(b15_0 a0), b15_1, (b15_2 v342), (b15_3 v459)]⟩) ?_ fun J15j489 => ?_
                ·intro d484 d485 d486 v487 v488 h
                 unfold f15_r3 at h
                 refine Ops.sg 1 15 ?_
                 refine Ops.hv (fun KQ => ∀ (d492 d493 d494 : D) (v495 : Bool) (v496 : Bool), f15_r2 m v332 v449 v496 = some sx457 → KQ 19 ⟨q1 ((.ptr 0 0) :: (.ptr 1 0) :: (dI (a0.fClasses.length : Int)) :: (dI v332) :: q3 ((.ptr 3 0) :: (dI v471) :: q11 ((dP e37 a0.fClasses) :: (dI (a0.fClasses.length : Int)) :: (dI v332) :: q33 ((dP e34 v342.fItems) :: (dI (v342.fItems.length : Int)) :: (dI v449) :: (dB (decide (v449 < (v342.fItems.length : Int)))) :: (.vptr [(.str v459.fBase), (.str v459.fForm), (vP eS v459.fTags), (vI v459.fNext), (vI v459.fWeight)]) :: (.v (.agg [(.str v459.fBase), (.str v459.fForm), (vP eS v459.fTags), (vI v459.fNext), (vI v459.fWeight)])) :: (.ptr 3 0) :: (.v (.str v459.fBase)) :: (dB v460) :: (dB v467) :: (dB v467) :: d463 :: d464 :: d465 :: d466 :: (dB v468) :: q2 ((.ptr 3 2) :: (dP eS v459.fTags) :: (dI v471) :: (dI v471) :: (dB (v471 != 0)) :: q3 ((.ptr 3 3) :: (dI v459.fNext) :: (dB v479) :: (dB v479) :: d475 :: d476 :: d477 :: d478 :: (dB v487) :: (dB v487) :: d484 :: d485 :: d486 :: (dB v495) :: (dB v495) :: d492 :: d493 :: d494 :: (dB v496) :: q5 [])))))), [(b15_0 a0), b15_1, (b15_2 v342), (b15_3 v459)]⟩) ?_ fun J15j497 => ?_
                 ·intro d492 d493 d494 v495 v496 h
                  unfold f15_r2 at h
                  refine Ops.dn ?_
                  refine seqQ.n ?_
                  refine Wp.cnd h k15_2 4 (by kernel_rfl) (fun h => ?_) (fun h => ?_)
                  ·refine Wp.sq ?_
                   refine Wp.rg ?_
                   refine Ops.sg 1 1 ?_
                   obtain ⟨v498, ev498, h⟩ := bnd_some h
                   refine Ops.on 2 (fun h0 e0 => (call_ok (E' := EG) (h := h0) (by kernel_rfl) (Args.v (vI 3) (eI 3) (by kernel_rfl) (Args.v (vI v332) (eI v332) (by kernel_rfl) Args.nil)) (ok18 m 3 v332 v498 ev498 n (by omega)))) ?_
                   refine Ops.sg 1 3 ?_
                   refine Ops.dn ?_
                   refine seqQ.n ?_
                   refine Wp.ret (by kernel_rfl) ?_
                   refine sqQ.r ?_
                   refine blkQ.r ?_
                   refine seqQ.r ?_
                   cases h
                   refine lpQ.r ?_
                   refine blkQ.r ?_
                   exact hrx454 _ hsx458 _ (RetOk.forget k15_2 (by kernel_rfl) (RetOk.mk' (.v (.agg [(vI v498.fCode), (vI v498.fIndex)])) (by kernel_rfl) (by kernel_rfl)))
                  ·refine Wp.sk ?_
                   refine sqQ.n' ?_
                   refine blkQ.n' ?_
                   refine seqQ.n ?_
                   refine Wp.rg ?_
                   refine Ops.sg 2 2 ?_
                   refine Ops.dn ?_
                   refine lpQ.n ⟨q1 ((.ptr 0 0) :: (.ptr 1 0) :: (dI (a0.fClasses.length : Int)) :: (dI v332) :: q16 ((dP e37 a0.fClasses) :: (dI (a0.fClasses.length : Int)) :: (dI v332) :: q33 ((dP e34 v342.fItems) :: (dI (v342.fItems.length : Int)) :: (dI (w64 (v449 + 1))) :: q40 (q7 [])))), [(b15_0 a0), b15_1, (b15_2 v342)]⟩ (by kernel_rfl) ?_
                   cases h
                   exact ihx453 (w64 (v449 + 1))  _ hsx458 _ (by omega) hrx454 hxx455
                 refine Ops.hv (fun KQ => ∀ v490 : Bool, f15_r2 m v332 v449 (v490 || (decide (v459.fWeight > 1000000))) = some sx457 → KQ 15 ⟨q1 ((.ptr 0 0) :: (.ptr 1 0) :: (dI (a0.fClasses.length : Int)) :: (dI v332) :: q3 ((.ptr 3 0) :: (dI v471) :: q11 ((dP e37 a0.fClasses) :: (dI (a0.fClasses.length : Int)) :: (dI v332) :: q33 ((dP e34 v342.fItems) :: (dI (v342.fItems.length : Int)) :: (dI v449) :: (dB (decide (v449 < (v342.fItems.length : Int)))) :: (.vptr [(.str v459.fBase), (.str v459.fForm), (vP eS v459.fTags), (vI v459.fNext), (vI v459.fWeight)]) :: (.v (.agg [(.str v459.fBase), (.str v459.fForm), (vP eS v459.fTags), (vI v459.fNext), (vI v459.fWeight)])) :: (.ptr 3 0) :: (.v (.str v459.fBase)) :: (dB v460) :: (dB v467) :: (dB v467) :: d463 :: d464 :: d465 :: d466 :: (dB v468) :: q2 ((.ptr 3 2) :: (dP eS v459.fTags) :: (dI v471) :: (dI v471) :: (dB (v471 != 0)) :: q3 ((.ptr 3 3) :: (dI v459.fNext) :: (dB v479) :: (dB v479) :: d475 :: d476 :: d477 :: d478 :: (dB v487) :: (dB v487) :: d484 :: d485 :: d486 :: (dB v490) :: (dB v490) :: q9 [])))))), [(b15_0 a0), b15_1, (b15_2 v342), (b15_3 v459)]⟩) ?_ fun G15g491 => Ops.st _ (by kernel_rfl) (G15g491 v488 h)
                 intro v490 h
                 cases v490
                 ·refine Ops.sg 4 19 ?_
                  exact Ops.st _ (by kernel_rfl) (J15j497 (.ptr 3 4) (dI v459.fWeight) (dB (decide (v459.fWeight > 1000000))) false (decide (v459.fWeight > 1000000)) h)
                 ·refine Ops.sg 4 19 ?_
                  exact Ops.st _ (by kernel_rfl) (J15j497 U U U true true h)
                refine Ops.hv (fun KQ => ∀ v482 : Bool, f15_r3 m v332 v449 v459 (v482 || (decide (v459.fWeight < 0))) = some sx457 → KQ 10 ⟨q1 ((.ptr 0 0) :: (.ptr 1 0) :: (dI (a0.fClasses.length : Int)) :: (dI v332) :: q3 ((.ptr 3 0) :: (dI v471) :: q11 ((dP e37 a0.fClasses) :: (dI (a0.fClasses.length : Int)) :: (dI v332) :: q33 ((dP e34 v342.fItems) :: (dI (v342.fItems.length : Int)) :: (dI v449) :: (dB (decide (v449 < (v342.fItems.length : Int)))) :: (.vptr [(.str v459.fBase), (.str v459.fForm), (vP eS v459.fTags), (vI v459.fNext), (vI v459.fWeight)]) :: (.v (.agg [(.str v459.fBase), (.str v459.fForm), (vP eS v459.fTags), (vI v459.fNext), (vI v459.fWeight)])) :: (.ptr 3 0) :: (.v (.str v459.fBase)) :: (dB v460) :: (dB v467) :: (dB v467) :: d463 :: d464 :: d465 :: d466 :: (dB v468) :: q2 ((.ptr 3 2) :: (dP eS v459.fTags) :: (dI v471) :: (dI v471) :: (dB (v471 != 0)) :: q3 ((.ptr 3 3) :: (dI v459.fNext) :: (dB v479) :: (dB v479) :: d475 :: d476 :: d477 :: d478 :: (dB v482) :: (dB v482) :: q14 [])))))), [(b15_0 a0), b15_1, (b15_2 v342), (b15_3 v459)]⟩) ?_ fun G15g483 => Ops.st _ (by kernel_rfl) (G15g483 v480 h)
                intro v482 h
                cases v482
                ·refine Ops.sg 4 14 ?_
                 exact Ops.st _ (by kernel_rfl) (J15j489 (.ptr 3 4) (dI v459.fWeight) (dB (decide (v459.fWeight < 0))) false (decide (v459.fWeight < 0)) h)
                ·refine Ops.sg 4 14 ?_
                 exact Ops.st _ (by kernel_rfl) (J15j489 U U U true true h)
               refine Ops.hv (fun KQ => ∀ v473 : Bool, f15_r4 m v332 v449 v459 (v473 || (decide (v459.fNext ≥ (a0.fClasses.length : Int)))) = some sx457 → KQ 4 ⟨q1 ((.ptr 0 0) :: (.ptr 1 0) :: (dI (a0.fClasses.length : Int)) :: (dI v332) :: q3 ((.ptr 3 0) :: (dI v471) :: q11 ((dP e37 a0.fClasses) :: (dI (a0.fClasses.length : Int)) :: (dI v332) :: q33 ((dP e34 v342.fItems) :: (dI (v342.fItems.length : Int)) :: (dI v449) :: (dB (decide (v449 < (v342.fItems.length : Int)))) :: (.vptr [(.str v459.fBase), (.str v459.fForm), (vP eS v459.fTags), (vI v459.fNext), (vI v459.fWeight)]) :: (.v (.agg [(.str v459.fBase), (.str v459.fForm), (vP eS v459.fTags), (vI v459.fNext), (vI v459.fWeight)])) :: (.ptr 3 0) :: (.v (.str v459.fBase)) :: (dB v460) :: (dB v467) :: (dB v467) :: d463 :: d464 :: d465 :: d466 :: (dB v468) :: q2 ((.ptr 3 2) :: (dP eS v459.fTags) :: (dI v471) :: (dI v471) :: (dB (v471 != 0)) :: q3 ((.ptr 3 3) :: (dI v459.fNext) :: (dB v473) :: (dB v473) :: q20 [])))))), [(b15_0 a0), b15_1, (b15_2 v342), (b15_3 v459)]⟩) ?_ fun G15g474 => Ops.st _ (by kernel_rfl) (G15g474 (decide (v459.fNext < (-1))) h)
               intro v473 h
               cases v473
               ·refine Ops.sg 5 9 ?_
                exact Ops.st _ (by kernel_rfl) (J15j481 (.ptr 3 3) (dI v459.fNext) (dI (a0.fClasses.length : Int)) (dB (decide (v459.fNext ≥ (a0.fClasses.length : Int)))) false (decide (v459.fNext ≥ (a0.fClasses.length : Int))) h)
               ·refine Ops.sg 5 9 ?_
                exact Ops.st _ (by kernel_rfl) (J15j481 U U U U true true h)
            obtain ⟨v468, ev468, h⟩ := bnd_some h
            refine Ops.hv (fun KQ => ∀ v461 : Bool, (cnd v461 (some true) (bnd (f32 m v459.fForm) fun v499 => some (!v499))) = some v468 → KQ 5 ⟨q1 ((.ptr 0 0) :: (.ptr 1 0) :: (dI (a0.fClasses.length : Int)) :: (dI v332) :: q3 ((.ptr 3 0) :: q12 ((dP e37 a0.fClasses) :: (dI (a0.fClasses.length : Int)) :: (dI v332) :: q33 ((dP e34 v342.fItems) :: (dI (v342.fItems.length : Int)) :: (dI v449) :: (dB (decide (v449 < (v342.fItems.length : Int)))) :: (.vptr [(.str v459.fBase), (.str v459.fForm), (vP eS v459.fTags), (vI v459.fNext), (vI v459.fWeight)]) :: (.v (.agg [(.str v459.fBase), (.str v459.fForm), (vP eS v459.fTags), (vI v459.fNext), (vI v459.fWeight)])) :: (.ptr 3 0) :: (.v (.str v459.fBase)) :: (dB v460) :: (dB v461) :: (dB v461) :: q39 [])))), [(b15_0 a0), b15_1, (b15_2 v342), (b15_3 v459)]⟩) ?_ fun G15g462 => Ops.st _ (by kernel_rfl) (G15g462 (!v460) ev468)
            intro v461 ev468
            cases v461
            ·have ev468 := cnd_f ev468
             refine Ops.sg 2 7 ?_
             obtain ⟨v499, ev499, ev468⟩ := bnd_some ev468
             refine Ops.on 8 (fun h0 e0 => (call_ok (E' := EG) (h := h0) (by kernel_rfl) (Args.v (.str v459.fForm) (eS v459.fForm) (by kernel_rfl) Args.nil) (ok32 m v459.fForm v499 ev499 n (by omega)))) ?_
             refine Ops.sg 2 10 ?_
             exact Ops.st _ (by kernel_rfl) (J15j469 (.ptr 3 1) (.v (.str v459.fForm)) (dB v499) (dB (!v499)) false (!v499) (some_sub (fun v468 => f15_r5 m a0 v332 v449 v459 v468 = some sx457) ev468 h))
            ·have ev468 := cnd_t ev468
             refine Ops.sg 5 10 ?_
             exact Ops.st _ (by kernel_rfl) (J15j469 U U U U true true (some_sub (fun v468 => f15_r5 m a0 v332 v449 v459 v468 = some sx457) ev468 h))
           ·refine Wp.exit (id := 4) (by kernel_rfl) ?_
            refine sqQ.x ?_
            refine seqQ.x ?_
            cases h
            refine lpQ.x ?_
            refine blkQ.x ⟨q1 ((.ptr 0 0) :: (.ptr 1 0) :: (dI (a0.fClasses.length : Int)) :: (dI v332) :: q16 ((dP e37 a0.fClasses) :: (dI (a0.fClasses.length : Int)) :: (dI v332) :: q33 ((dP e34 v342.fItems) :: (dI (v342.fItems.length : Int)) :: (dI v449) :: q40 (q7 [])))), [(b15_0 a0), b15_1, (b15_2 v342)]⟩ (by kernel_rfl) ?_
            exact hxx455 v449  hsx458
         refine Wp.loop' k15_2 3 (by kernel_rfl) ⟨q1 ((.ptr 0 0) :: (.ptr 1 0) :: (dI (a0.fClasses.length : Int)) :: (dI v332) :: q16 ((dP e37 a0.fClasses) :: (dI (a0.fClasses.length : Int)) :: (dI v332) :: q33 ((dP e34 v342.fItems) :: (dI (v342.fItems.length : Int)) :: (dI 0) :: q40 (q7 [])))), [(b15_0 a0), b15_1, (b15_2 v342)]⟩ (by kernel_rfl) ?_
         rcases brk_some h with ⟨r502, er502, h⟩ | ⟨y501, ey501, h⟩
         ·refine hLx500 _ 0  _ er502 n (by omega) (fun r er σ hσ => ?_) (fun y  ey => by cases ey)
          cases er
          refine blkQ.r ?_
          refine seqQ.r ?_
          refine lpQ.r ?_
          cases h
          refine blkQ.r ?_
          exact hrx337 _ hsx341 _ (RetOk.forget k15_0 (by kernel_rfl) hσ)
         ·refine hLx500 _ 0  _ ey501 n (by omega) (fun r er => by cases er) (fun y  ey => ?_)
          cases ey
          refine blkQ.n' ?_
          refine seqQ.n ?_
          refine Wp.rg ?_
          refine Ops.sg 2 2 ?_
          refine Ops.dn ?_
          refine lpQ.n ⟨q1 ((.ptr 0 0) :: (.ptr 1 0) :: (dI (a0.fClasses.length : Int)) :: q17 ((dP e37 a0.fClasses) :: (dI (a0.fClasses.length : Int)) :: (dI (w64 (v332 + 1))) :: q40 (q40 (q3 [])))), [(b15_0 a0), b15_1]⟩ (by kernel_rfl) ?_
          cases h
          exact ihx336 (w64 (v332 + 1))  _ hsx341 _ (by omega) hrx337 hxx338
     ·refine Wp.exit (id := 0) (by kernel_rfl) ?_
      refine sqQ.x ?_
      refine seqQ.x ?_
      cases h
      refine lpQ.x ?_
      refine blkQ.x ⟨q1 ((.ptr 0 0) :: (.ptr 1 0) :: (dI (a0.fClasses.length : Int)) :: q17 ((dP e37 a0.fClasses) :: (dI (a0.fClasses.length : Int)) :: (dI v332) :: q40 (q40 (q3 [])))), [(b15_0 a0), b15_1]⟩ (by kernel_rfl) ?_
      exact hxx338 v332  hsx341
   refine Wp.loop' k15_0 2 (by kernel_rfl) ⟨q1 ((.ptr 0 0) :: (.ptr 1 0) :: (dI (a0.fClasses.length : Int)) :: q17 ((dP e37 a0.fClasses) :: (dI (a0.fClasses.length : Int)) :: (dI 0) :: q40 (q40 (q3 [])))), [(b15_0 a0), b15_1]⟩ (by kernel_rfl) ?_
   rcases brk_some h with ⟨r505, er505, h⟩ | ⟨y504, ey504, h⟩
   ·refine hLx503 _ 0  _ er505 n (by omega) (fun r er σ hσ => ?_) (fun y  ey => by cases ey)
    cases er
    refine seqQ.r ?_
    exact fnQ.r' (X15 n) (fun z => (e29 z)) h hσ
   ·refine hLx503 _ 0  _ ey504 n (by omega) (fun r er => by cases er) (fun y  ey => ?_)
    cases ey
    refine seqQ.n ?_
    refine Wp.sq ?_
    refine Wp.rg ?_
    refine Ops.sg 2 2 ?_
    refine Ops.dn ?_
    refine seqQ.n ?_
    refine Wp.ret (by kernel_rfl) ?_
    exact fnQ.r' (X15 n) (fun z => (e29 z)) h (RetOk.mk' (.v (.agg [(vI 0), (vI 0)])) (by kernel_rfl) (by kernel_rfl))
 refine Ops.hv (fun KQ => ∀ v1 : Bool, f15_r8 m a0 (v1 || (decide ((a0.fClasses.length : Int) > 40))) = some o → KQ 3 ⟨(.v (.agg [(vP e37 a0.fClasses)])) :: (.ptr 0 0) :: (.ptr 1 0) :: (dI (a0.fClasses.length : Int)) :: u6 ((.ptr 0 0) :: (dP e37 a0.fClasses) :: (dI (a0.fClasses.length : Int)) :: (dI (a0.fClasses.length : Int)) :: (dB v1) :: (dB v1) :: u40 (u40 (u11 []))), [(b15_0 a0), b15_1]⟩) ?_ fun G15g2 => Ops.st _ (by kernel_rfl) (G15g2 ((a0.fClasses.length : Int) == 0) h)
 intro v1 h
 cases v1
 ·refine Ops.sg 3 6 ?_
  exact Ops.st _ (by kernel_rfl) (J15j7 (dI (a0.fClasses.length : Int)) (dB (decide ((a0.fClasses.length : Int) > 40))) false (decide ((a0.fClasses.length : Int) > 40)) h)
 ·refine Ops.sg 3 6 ?_
  exact Ops.st _ (by kernel_rfl) (J15j7 U U true true h)
def f16_j1 (m : Nat) (v2177 : Int) (v2187 : (List ByteArray)) : Option (Stp (List ByteArray) ((List ByteArray) × Int)) :=
 some (.nxt (v2187, w64 (v2177 + 1)))
def f16_r2 (m : Nat) (v2216 : Int) (v2235 : Bool) : Option (Stp (List ByteArray) (Int)) :=
 cnd v2235
 (some (.nxt (w64 (v2216 + 1))))
 (some (.brk v2216))
def f16_B3 (m : Nat) (v2175 : (List ByteArray)) (v2190 : ByteArray) (v2216 : Int) : Option (Stp (List ByteArray) (Int)) :=
 bnd (cnd (decide (v2216 < (v2175.length : Int)))
 (bnd (idx v2175 v2216) fun v2237 =>
 some (Op.bytesLess v2237.toList v2190.toList))
 (some false)) fun v2235 =>
 f16_r2 m v2216 v2235
def f16_j4 (m : Nat) (v2177 : Int) (v2252 : (List ByteArray)) : Option (Stp (List ByteArray) ((List ByteArray) × Int)) :=
 f16_j1 m v2177 v2252
def f16_r5 (m : Nat) (v2175 : (List ByteArray)) (v2177 : Int) (v2190 : ByteArray) (y2239 : Int) (v2250 : Bool) : Option (Stp (List ByteArray) ((List ByteArray) × Int)) :=
 cnd v2250
 (bnd (sub v2175 0 y2239) fun v2256 =>
 bnd (app 16 [] v2256) fun v2257 =>
 bnd (app 16 v2257 [v2190]) fun v2258 =>
 bnd (sub v2175 y2239 (v2175.length : Int)) fun v2259 =>
 bnd (app 16 v2258 v2259) fun v2260 =>
 f16_j4 m v2177 v2260)
 (f16_j4 m v2177 v2175)
def f16_B6 (m : Nat) (v2021 : S34) (v2175 : (List ByteArray)) (v2177 : Int) : Option (Stp (List ByteArray) ((List ByteArray) × Int)) :=
 cnd (decide (v2177 < (v2021.fTags.length : Int)))
 (bnd (idx v2021.fTags v2177) fun v2190 =>
 brk (iter (fun (y : Int) => f16_B3 m v2175 v2190 y) m 0) (fun r => some (.ret r)) fun y2239 =>
 bnd (cnd (y2239 == (v2175.length : Int))
 (some true)
 (bnd (idx v2175 y2239) fun v2261 =>
 some (!(v2261.toList == v2190.toList)))) fun v2250 =>
 f16_r5 m v2175 v2177 v2190 y2239 v2250)
 (some (.brk (v2175, v2177)))
def f16_B7 (m : Nat) (v1517 : S37) (v2009 : (List ByteArray)) (v2011 : Int) : Option (Stp (List ByteArray) ((List ByteArray) × Int)) :=
 cnd (decide (v2011 < (v1517.fItems.length : Int)))
 (bnd (idx v1517.fItems v2011) fun v2021 =>
 brk (iter (fun (y : (List ByteArray) × Int) => f16_B6 m v2021 y.1 y.2) m (v2009, 0)) (fun r => some (.ret r)) fun y2263 =>
 some (.nxt (y2263.1, w64 (v2011 + 1))))
 (some (.brk (v2009, v2011)))
def f16_B8 (m : Nat) (a0 : S23) (v1505 : (List ByteArray)) (v1507 : Int) : Option (Stp (List ByteArray) ((List ByteArray) × Int)) :=
 cnd (decide (v1507 < (a0.fClasses.length : Int)))
 (bnd (idx a0.fClasses v1507) fun v1517 =>
 brk (iter (fun (y : (List ByteArray) × Int) => f16_B7 m v1517 y.1 y.2) m (v1505, 0)) (fun r => some (.ret r)) fun y2266 =>
 some (.nxt (y2266.1, w64 (v1507 + 1))))
 (some (.brk (v1505, v1507)))
def f16 (m : Nat) (a0 : S23) : Option (List ByteArray) :=
 brk (iter (fun (y : (List ByteArray) × Int) => f16_B8 m a0 y.1 y.2) m ([], 0)) some fun y2269 =>
 some y2269.1
noncomputable abbrev X16 (n : Nat) : Cx := cxOf Proofs.Tryd.prog EG 16 n
noncomputable def C16 : Code := bodyOf Proofs.Tryd.prog 16
noncomputable abbrev p16_0 : Code := cR (cR (cR C16))
noncomputable abbrev p16_1 : Code := cL (cL (cR (cL (cR (cR C16)))))
noncomputable abbrev p16_2 : Code := cR (cR (cR p16_1))
noncomputable abbrev p16_3 : Code := cL (cL (cR (cR (cL (cL (cR (cR p16_1)))))))
noncomputable abbrev p16_4 : Code := cR (cR (cR p16_3))
noncomputable abbrev p16_5 : Code := cL (cL (cR (cR (cL (cL (cR (cR p16_3)))))))
noncomputable abbrev p16_6 : Code := cR (cR (cR p16_5))
noncomputable abbrev p16_7 : Code := cR (cR (cR (cL (cL (cR (cR p16_5))))))
noncomputable abbrev p16_8 : Code := cL (cL (cL (cR (cR (cL (cL (cR (cR p16_5))))))))
abbrev b16_0 (w0 : S23) : AObj := .cells [(dP e37 w0.fClasses)]
abbrev b16_1 (w0 : S37) : AObj := .cells [(.v (.str w0.fName)), (dP e34 w0.fItems)]
abbrev b16_2 (w0 : S34) : AObj := .cells [(.v (.str w0.fBase)), (.v (.str w0.fForm)), (dP eS w0.fTags), (dI w0.fNext), (dI w0.fWeight)]
abbrev k16_0 : List Nat := [2, 3, 12, 13, 14, 19, 20, 21, 26, 27, 28]
abbrev k16_1 : List Nat := [2, 3, 12, 13, 14, 19, 20, 21]
abbrev k16_2 : List Nat := [2, 3, 12, 13, 14]
abbrev k16_3 : List Nat := [2, 3, 9, 10, 12, 13, 14, 19, 20, 21, 26, 27, 28]
theorem f16_hLx2238 (m : Nat) (a0 : S23) (o : (List ByteArray)) (n : Nat) (hn : m + 1 ≤ n + 1) (v2175 : (List ByteArray)) (v2190 : ByteArray) (nx2180 : Nat) (nx2014 : Nat) (nx1510 : Nat) (ag2176 : AG) (v1507 : Int) (v1517 : S37) (v2011 : Int) (v2021 : S34) (v2177 : Int) : ∀ (kx2218 : Nat) (v2216 : Int)  (ox2217 : (List ByteArray) ⊕ (Int)), iter (fun (y : Int) => f16_B3 m v2175 v2190 y) kx2218 v2216 = some ox2217 → ∀ nx2219, kx2218 ≤ nx2219 → (∀ r, ox2217 = .inl r → ∀ σ, RetOk (X16 n) (resOf Proofs.Tryd.prog 16) ((eL eS) r) σ → (seqQ (X16 n) p16_7 (blkQ (X16 n) 5 k16_0 9 (seqQ (X16 n) p16_6 (lpQ (X16 n) k16_0 7 p16_5 nx2180 (blkQ (X16 n) 4 k16_1 7 (blkQ (X16 n) 3 k16_1 6 (seqQ (X16 n) p16_4 (lpQ (X16 n) k16_1 4 p16_3 nx2014 (blkQ (X16 n) 2 k16_2 4 (blkQ (X16 n) 1 k16_2 3 (seqQ (X16 n) p16_2 (lpQ (X16 n) k16_2 1 p16_1 nx1510 (blkQ (X16 n) 0 [2, 3] 1 (seqQ (X16 n) p16_0 (fnQ (X16 n).E.T (resOf Proofs.Tryd.prog 16) ((eL eS) o)))))))))))))))) .ret σ) → (∀ (y : Int) , ox2217 = .inr y → (seqQ (X16 n) p16_7 (blkQ (X16 n) 5 k16_0 9 (seqQ (X16 n) p16_6 (lpQ (X16 n) k16_0 7 p16_5 nx2180 (blkQ (X16 n) 4 k16_1 7 (blkQ (X16 n) 3 k16_1 6 (seqQ (X16 n) p16_4 (lpQ (X16 n) k16_1 4 p16_3 nx2014 (blkQ (X16 n) 2 k16_2 4 (blkQ (X16 n) 1 k16_2 3 (seqQ (X16 n) p16_2 (lpQ (X16 n) k16_2 1 p16_1 nx1510 (blkQ (X16 n) 0 [2, 3] 1 (seqQ (X16 n) p16_0 (fnQ (X16 n).E.T (resOf Proofs.Tryd.prog 16) ((eL eS) o)))))))))))))))) .normal ⟨q2 ((.v (.sl .nil (List.map eS []))) :: (AG.d ag2176 9 (List.map eS v2175)) :: q5 ((.v (.str v2190)) :: (dI y) :: q1 ((dP e37 a0.fClasses) :: (dI (a0.fClasses.length : Int)) :: (dI v1507) :: q4 ((dP e34 v1517.fItems) :: (dI (v1517.fItems.length : Int)) :: (dI v2011) :: q4 ((dP eS v2021.fTags) :: (dI (v2021.fTags.length : Int)) :: (dI v2177) :: q40 (q5 [])))))), [(b16_0 a0), .dead, .dead, (b16_1 v1517), .dead, .dead, (b16_2 v2021), .dead, .dead, (AG.o ag2176 1 (List.map eS v2175))]⟩) → Lp (X16 n) k16_3 9 p16_8 nx2219 ⟨q2 ((.v (.sl .nil (List.map eS []))) :: (AG.d ag2176 9 (List.map eS v2175)) :: q5 ((.v (.str v2190)) :: (dI v2216) :: q1 ((dP e37 a0.fClasses) :: (dI (a0.fClasses.length : Int)) :: (dI v1507) :: q4 ((dP e34 v1517.fItems) :: (dI (v1517.fItems.length : Int)) :: (dI v2011) :: q4 ((dP eS v2021.fTags) :: (dI (v2021.fTags.length : Int)) :: (dI v2177) :: q40 (q5 [])))))), [(b16_0 a0), .dead, .dead, (b16_1 v1517), .dead, .dead, (b16_2 v2021), .dead, .dead, (AG.o ag2176 1 (List.map eS v2175))]⟩ (blkQ (X16 n) 6 k16_3 9 (seqQ (X16 n) p16_7 (blkQ (X16 n) 5 k16_0 9 (seqQ (X16 n) p16_6 (lpQ (X16 n) k16_0 7 p16_5 nx2180 (blkQ (X16 n) 4 k16_1 7 (blkQ (X16 n) 3 k16_1 6 (seqQ (X16 n) p16_4 (lpQ (X16 n) k16_1 4 p16_3 nx2014 (blkQ (X16 n) 2 k16_2 4 (blkQ (X16 n) 1 k16_2 3 (seqQ (X16 n) p16_2 (lpQ (X16 n) k16_2 1 p16_1 nx1510 (blkQ (X16 n) 0 [2, 3] 1 (seqQ (X16 n) p16_0 (fnQ (X16 n).E.T (resOf Proofs.Tryd.prog 16) ((eL eS) o))))))))))))))))) := by
 intro kx2218
 induction kx2218 with
 | zero => intro v2216  ox2217 h; exact (iter_zero h).elim
 | succ kx2218 ihx2220 =>
  intro v2216  ox2217 h nx2219 hnx2223 hrx2221 hxx2222
  obtain ⟨nx2219, rfl⟩ : ∃ q, nx2219 = q + 1 := ⟨nx2219 - 1, by omega⟩
  obtain ⟨sx2224, h, hsx2225⟩ := iter_some h
  have h : f16_B3 m v2175 v2190 v2216 = some sx2224 := h
  unfold f16_B3 at h
  refine Lp.succ ?_
  refine Wp.sq ?_
  refine Wp.sq ?_
  refine Wp.rg ?_
  refine Ops.sg 2 2 ?_
  refine Ops.on 3 (fun h0 e0 => (len_g (T := T) h0 33 9 9 ag2176 eS v2175 (by kernel_rfl))) ?_
  refine Ops.sg 2 5 ?_
  refine Ops.hv (fun KQ => ∀ (d2228 d2229 d2230 d2231 d2232 d2233 : D) (v2234 : Bool) (v2235 : Bool), f16_r2 m v2216 v2235 = some sx2224 → KQ 12 ⟨q2 ((.v (.sl .nil (List.map eS []))) :: (AG.d ag2176 9 (List.map eS v2175)) :: q5 ((.v (.str v2190)) :: (dI v2216) :: q1 ((dP e37 a0.fClasses) :: (dI (a0.fClasses.length : Int)) :: (dI v1507) :: q4 ((dP e34 v1517.fItems) :: (dI (v1517.fItems.length : Int)) :: (dI v2011) :: q4 ((dP eS v2021.fTags) :: (dI (v2021.fTags.length : Int)) :: (dI v2177) :: q3 ((dI v2216) :: (AG.d ag2176 9 (List.map eS v2175)) :: (dI (v2175.length : Int)) :: (dB v2234) :: (dB v2234) :: d2228 :: d2229 :: d2230 :: d2231 :: d2232 :: d2233 :: (dB v2235) :: q30 [])))))), [(b16_0 a0), .dead, .dead, (b16_1 v1517), .dead, .dead, (b16_2 v2021), .dead, .dead, (AG.o ag2176 1 (List.map eS v2175))]⟩) ?_ fun J16j2236 => ?_
  ·intro d2228 d2229 d2230 d2231 d2232 d2233 v2234 v2235 h
   unfold f16_r2 at h
   refine Ops.dn ?_
   refine seqQ.n ?_
   refine Wp.cnd h k16_3 10 (by kernel_rfl) (fun h => ?_) (fun h => ?_)
   ·refine Wp.sk ?_
    refine sqQ.n ⟨q2 ((.v (.sl .nil (List.map eS []))) :: (AG.d ag2176 10 (List.map eS v2175)) :: q5 ((.v (.str v2190)) :: (dI v2216) :: q1 ((dP e37 a0.fClasses) :: (dI (a0.fClasses.length : Int)) :: (dI v1507) :: q4 ((dP e34 v1517.fItems) :: (dI (v1517.fItems.length : Int)) :: (dI v2011) :: q4 ((dP eS v2021.fTags) :: (dI (v2021.fTags.length : Int)) :: (dI v2177) :: q40 (q5 [])))))), [(b16_0 a0), .dead, .dead, (b16_1 v1517), .dead, .dead, (b16_2 v2021), .dead, .dead, .dead, (AG.o ag2176 1 (List.map eS v2175))]⟩ (by cases ag2176 <;> kernel_rfl) ?_
    refine seqQ.n ?_
    refine Wp.block' 7 k16_3 11 (by kernel_rfl) ?_
    refine Wp.rg ?_
    refine Ops.sg 3 3 ?_
    refine Ops.dn ?_
    refine blkQ.n ⟨q2 ((.v (.sl .nil (List.map eS []))) :: (AG.d ag2176 11 (List.map eS v2175)) :: q5 ((.v (.str v2190)) :: (dI (w64 (v2216 + 1))) :: q1 ((dP e37 a0.fClasses) :: (dI (a0.fClasses.length : Int)) :: (dI v1507) :: q4 ((dP e34 v1517.fItems) :: (dI (v1517.fItems.length : Int)) :: (dI v2011) :: q4 ((dP eS v2021.fTags) :: (dI (v2021.fTags.length : Int)) :: (dI v2177) :: q40 (q5 [])))))), [(b16_0 a0), .dead, .dead, (b16_1 v1517), .dead, .dead, (b16_2 v2021), .dead, .dead, .dead, .dead, (AG.o ag2176 1 (List.map eS v2175))]⟩ (by cases ag2176 <;> kernel_rfl) ?_
    refine lpQ.n ⟨q2 ((.v (.sl .nil (List.map eS []))) :: (AG.d ag2176 9 (List.map eS v2175)) :: q5 ((.v (.str v2190)) :: (dI (w64 (v2216 + 1))) :: q1 ((dP e37 a0.fClasses) :: (dI (a0.fClasses.length : Int)) :: (dI v1507) :: q4 ((dP e34 v1517.fItems) :: (dI (v1517.fItems.length : Int)) :: (dI v2011) :: q4 ((dP eS v2021.fTags) :: (dI (v2021.fTags.length : Int)) :: (dI v2177) :: q40 (q5 [])))))), [(b16_0 a0), .dead, .dead, (b16_1 v1517), .dead, .dead, (b16_2 v2021), .dead, .dead, (AG.o ag2176 1 (List.map eS v2175))]⟩ (by cases ag2176 <;> kernel_rfl) ?_
    cases h
    exact ihx2220 (w64 (v2216 + 1))  _ hsx2225 _ (by omega) hrx2221 hxx2222
   ·refine Wp.exit (id := 6) (by kernel_rfl) ?_
    refine sqQ.x ?_
    refine seqQ.x ?_
    cases h
    refine lpQ.x ?_
    refine blkQ.x ⟨q2 ((.v (.sl .nil (List.map eS []))) :: (AG.d ag2176 9 (List.map eS v2175)) :: q5 ((.v (.str v2190)) :: (dI v2216) :: q1 ((dP e37 a0.fClasses) :: (dI (a0.fClasses.length : Int)) :: (dI v1507) :: q4 ((dP e34 v1517.fItems) :: (dI (v1517.fItems.length : Int)) :: (dI v2011) :: q4 ((dP eS v2021.fTags) :: (dI (v2021.fTags.length : Int)) :: (dI v2177) :: q40 (q5 [])))))), [(b16_0 a0), .dead, .dead, (b16_1 v1517), .dead, .dead, (b16_2 v2021), .dead, .dead, (AG.o ag2176 1 (List.map eS v2175))]⟩ (by cases ag2176 <;> kernel_rfl) ?_
    exact hxx2222 v2216  hsx2225
  obtain ⟨v2235, ev2235, h⟩ := bnd_some h
  refine Ops.hv (fun KQ => ∀ v2226 : Bool, (cnd v2226 (bnd (idx v2175 v2216) fun v2237 => some (Op.bytesLess v2237.toList v2190.toList)) (some false)) = some v2235 → KQ 5 ⟨q2 ((.v (.sl .nil (List.map eS []))) :: (AG.d ag2176 9 (List.map eS v2175)) :: q5 ((.v (.str v2190)) :: (dI v2216) :: q1 ((dP e37 a0.fClasses) :: (dI (a0.fClasses.length : Int)) :: (dI v1507) :: q4 ((dP e34 v1517.fItems) :: (dI (v1517.fItems.length : Int)) :: (dI v2011) :: q4 ((dP eS v2021.fTags) :: (dI (v2021.fTags.length : Int)) :: (dI v2177) :: q3 ((dI v2216) :: (AG.d ag2176 9 (List.map eS v2175)) :: (dI (v2175.length : Int)) :: (dB v2226) :: (dB v2226) :: q37 [])))))), [(b16_0 a0), .dead, .dead, (b16_1 v1517), .dead, .dead, (b16_2 v2021), .dead, .dead, (AG.o ag2176 1 (List.map eS v2175))]⟩) ?_ fun G16g2227 => Ops.st _ (by kernel_rfl) (G16g2227 (decide (v2216 < (v2175.length : Int))) ev2235)
  intro v2226 ev2235
  cases v2226
  ·have ev2235 := cnd_f ev2235
   refine Ops.sg 7 12 ?_
   exact Ops.st _ (by kernel_rfl) (J16j2236 U U U U U U false false (some_sub (fun v2235 => f16_r2 m v2216 v2235 = some sx2224) ev2235 h))
  ·have ev2235 := cnd_t ev2235
   refine Ops.sg 2 7 ?_
   obtain ⟨v2237, ev2237, ev2235⟩ := bnd_some ev2235
   refine Ops.on 8 (fun h0 e0 => (ix_g (T := T) h0 33 9 1 9 ag2176 eS v2175 v2216 v2237 ev2237 (by kernel_rfl) (by kernel_rfl) (fun _ => rfl))) ?_
   refine Ops.sg 4 12 ?_
   exact Ops.st _ (by kernel_rfl) (J16j2236 (AG.d ag2176 9 (List.map eS v2175)) (dI v2216) (.vptr [(.str v2237)]) (.v (.str v2237)) (.v (.str v2190)) (dB (Op.bytesLess v2237.toList v2190.toList)) true (Op.bytesLess v2237.toList v2190.toList) (some_sub (fun v2235 => f16_r2 m v2216 v2235 = some sx2224) ev2235 h))
theorem f16_hLx2262 (m : Nat) (a0 : S23) (o : (List ByteArray)) (n : Nat) (hn : m + 1 ≤ n + 1) (v2021 : S34) (nx2014 : Nat) (nx1510 : Nat) (v1507 : Int) (v1517 : S37) (v2011 : Int) : ∀ (kx2179 : Nat) (v2175 : (List ByteArray)) (v2177 : Int) (ag2176 : AG) (ox2178 : (List ByteArray) ⊕ ((List ByteArray) × Int)), iter (fun (y : (List ByteArray) × Int) => f16_B6 m v2021 y.1 y.2) kx2179 (v2175, v2177) = some ox2178 → ∀ nx2180, kx2179 ≤ nx2180 → (∀ r, ox2178 = .inl r → ∀ σ, RetOk (X16 n) (resOf Proofs.Tryd.prog 16) ((eL eS) r) σ → (blkQ (X16 n) 3 k16_1 6 (seqQ (X16 n) p16_4 (lpQ (X16 n) k16_1 4 p16_3 nx2014 (blkQ (X16 n) 2 k16_2 4 (blkQ (X16 n) 1 k16_2 3 (seqQ (X16 n) p16_2 (lpQ (X16 n) k16_2 1 p16_1 nx1510 (blkQ (X16 n) 0 [2, 3] 1 (seqQ (X16 n) p16_0 (fnQ (X16 n).E.T (resOf Proofs.Tryd.prog 16) ((eL eS) o))))))))))) .ret σ) → (∀ (y : (List ByteArray) × Int) (ag2176 : AG), ox2178 = .inr y → (blkQ (X16 n) 3 k16_1 6 (seqQ (X16 n) p16_4 (lpQ (X16 n) k16_1 4 p16_3 nx2014 (blkQ (X16 n) 2 k16_2 4 (blkQ (X16 n) 1 k16_2 3 (seqQ (X16 n) p16_2 (lpQ (X16 n) k16_2 1 p16_1 nx1510 (blkQ (X16 n) 0 [2, 3] 1 (seqQ (X16 n) p16_0 (fnQ (X16 n).E.T (resOf Proofs.Tryd.prog 16) ((eL eS) o))))))))))) .normal ⟨q2 ((.v (.sl .nil (List.map eS []))) :: (AG.d ag2176 7 (List.map eS y.1)) :: q8 ((dP e37 a0.fClasses) :: (dI (a0.fClasses.length : Int)) :: (dI v1507) :: q4 ((dP e34 v1517.fItems) :: (dI (v1517.fItems.length : Int)) :: (dI v2011) :: q40 (q12 [])))), [(b16_0 a0), .dead, .dead, (b16_1 v1517), .dead, .dead, (b16_2 v2021), (AG.o ag2176 1 (List.map eS y.1))]⟩) → Lp (X16 n) k16_0 7 p16_5 nx2180 ⟨q2 ((.v (.sl .nil (List.map eS []))) :: (AG.d ag2176 7 (List.map eS v2175)) :: q8 ((dP e37 a0.fClasses) :: (dI (a0.fClasses.length : Int)) :: (dI v1507) :: q4 ((dP e34 v1517.fItems) :: (dI (v1517.fItems.length : Int)) :: (dI v2011) :: q4 ((dP eS v2021.fTags) :: (dI (v2021.fTags.length : Int)) :: (dI v2177) :: q40 (q5 []))))), [(b16_0 a0), .dead, .dead, (b16_1 v1517), .dead, .dead, (b16_2 v2021), (AG.o ag2176 1 (List.map eS v2175))]⟩ (blkQ (X16 n) 4 k16_1 7 (blkQ (X16 n) 3 k16_1 6 (seqQ (X16 n) p16_4 (lpQ (X16 n) k16_1 4 p16_3 nx2014 (blkQ (X16 n) 2 k16_2 4 (blkQ (X16 n) 1 k16_2 3 (seqQ (X16 n) p16_2 (lpQ (X16 n) k16_2 1 p16_1 nx1510 (blkQ (X16 n) 0 [2, 3] 1 (seqQ (X16 n) p16_0 (fnQ (X16 n).E.T (resOf Proofs.Tryd.prog 16) ((eL eS) o)))))))))))) := by
 intro kx2179
 induction kx2179 with
 | zero => intro v2175 v2177 ag2176 ox2178 h; exact (iter_zero h).elim
 | succ kx2179 ihx2181 =>
  intro v2175 v2177 ag2176 ox2178 h nx2180 hnx2184 hrx2182 hxx2183
  obtain ⟨nx2180, rfl⟩ : ∃ q, nx2180 = q + 1 := ⟨nx2180 - 1, by omega⟩
  obtain ⟨sx2185, h, hsx2186⟩ := iter_some h
  have h : f16_B6 m v2021 v2175 v2177 = some sx2185 := h
  unfold f16_B6 at h
  refine Lp.succ ?_
  refine Wp.sq ?_
  refine Wp.rg ?_
  refine Ops.sg 1 1 ?_
  refine Ops.dn ?_
  refine seqQ.n ?_
  refine Wp.sq ?_
  refine Wp.cnd h k16_0 8 (by kernel_rfl) (fun h => ?_) (fun h => ?_)
  ·refine Wp.sk ?_
   refine sqQ.n ⟨q2 ((.v (.sl .nil (List.map eS []))) :: (AG.d ag2176 8 (List.map eS v2175)) :: q8 ((dP e37 a0.fClasses) :: (dI (a0.fClasses.length : Int)) :: (dI v1507) :: q4 ((dP e34 v1517.fItems) :: (dI (v1517.fItems.length : Int)) :: (dI v2011) :: q4 ((dP eS v2021.fTags) :: (dI (v2021.fTags.length : Int)) :: (dI v2177) :: q40 (q5 []))))), [(b16_0 a0), .dead, .dead, (b16_1 v1517), .dead, .dead, (b16_2 v2021), .dead, (AG.o ag2176 1 (List.map eS v2175))]⟩ (by cases ag2176 <;> kernel_rfl) ?_
   refine seqQ.n ?_
   refine Wp.sq ?_
   have J16j2189 : ∀ (v2187 : (List ByteArray)) (ag2188 : AG), f16_j1 m v2177 v2187 = some sx2185 → (seqQ (X16 n) p16_6 (lpQ (X16 n) k16_0 7 p16_5 nx2180 (blkQ (X16 n) 4 k16_1 7 (blkQ (X16 n) 3 k16_1 6 (seqQ (X16 n) p16_4 (lpQ (X16 n) k16_1 4 p16_3 nx2014 (blkQ (X16 n) 2 k16_2 4 (blkQ (X16 n) 1 k16_2 3 (seqQ (X16 n) p16_2 (lpQ (X16 n) k16_2 1 p16_1 nx1510 (blkQ (X16 n) 0 [2, 3] 1 (seqQ (X16 n) p16_0 (fnQ (X16 n).E.T (resOf Proofs.Tryd.prog 16) ((eL eS) o)))))))))))))) .normal ⟨q2 ((.v (.sl .nil (List.map eS []))) :: (AG.d ag2188 9 (List.map eS v2187)) :: q8 ((dP e37 a0.fClasses) :: (dI (a0.fClasses.length : Int)) :: (dI v1507) :: q4 ((dP e34 v1517.fItems) :: (dI (v1517.fItems.length : Int)) :: (dI v2011) :: q4 ((dP eS v2021.fTags) :: (dI (v2021.fTags.length : Int)) :: (dI v2177) :: q40 (q5 []))))), [(b16_0 a0), .dead, .dead, (b16_1 v1517), .dead, .dead, (b16_2 v2021), .dead, .dead, (AG.o ag2188 1 (List.map eS v2187))]⟩ := by
    intro v2187 ag2188 h
    unfold f16_j1 at h
    refine seqQ.n ?_
    refine Wp.rg ?_
    refine Ops.sg 2 2 ?_
    refine Ops.dn ?_
    refine lpQ.n ⟨q2 ((.v (.sl .nil (List.map eS []))) :: (AG.d ag2188 7 (List.map eS v2187)) :: q8 ((dP e37 a0.fClasses) :: (dI (a0.fClasses.length : Int)) :: (dI v1507) :: q4 ((dP e34 v1517.fItems) :: (dI (v1517.fItems.length : Int)) :: (dI v2011) :: q4 ((dP eS v2021.fTags) :: (dI (v2021.fTags.length : Int)) :: (dI (w64 (v2177 + 1))) :: q40 (q5 []))))), [(b16_0 a0), .dead, .dead, (b16_1 v1517), .dead, .dead, (b16_2 v2021), (AG.o ag2188 1 (List.map eS v2187))]⟩ (by cases ag2188 <;> kernel_rfl) ?_
    cases h
    exact ihx2181 v2187 (w64 (v2177 + 1)) _ _ hsx2186 _ (by omega) hrx2182 hxx2183
   refine Wp.block' 5 k16_0 9 (by kernel_rfl) ?_
   refine Wp.sq ?_
   refine Wp.rg ?_
   obtain ⟨v2190, ev2190, h⟩ := bnd_some h
   refine Ops.on 1 (fun h0 e0 => (ix_r (T := T) h0 33 9 1 .plain eS v2021.fTags v2177 v2190 ev2190 (by kernel_rfl) (by kernel_rfl) (fun _ => rfl))) ?_
   refine Ops.sg 2 3 ?_
   refine Ops.dn ?_
   refine seqQ.n ?_
   refine Wp.sq ?_
   refine Wp.rg ?_
   refine Ops.sg 1 1 ?_
   refine Ops.dn ?_
   refine seqQ.n ?_
   refine Wp.sq ?_
   refine Wp.block' 6 k16_3 9 (by kernel_rfl) ?_
   have hLx2238 := f16_hLx2238 m a0 o n hn v2175 v2190 nx2180 nx2014 nx1510 ag2176 v1507 v1517 v2011 v2021 v2177
   refine Wp.loop' k16_3 9 (by kernel_rfl) ⟨q2 ((.v (.sl .nil (List.map eS []))) :: (AG.d ag2176 9 (List.map eS v2175)) :: q5 ((.v (.str v2190)) :: (dI 0) :: q1 ((dP e37 a0.fClasses) :: (dI (a0.fClasses.length : Int)) :: (dI v1507) :: q4 ((dP e34 v1517.fItems) :: (dI (v1517.fItems.length : Int)) :: (dI v2011) :: q4 ((dP eS v2021.fTags) :: (dI (v2021.fTags.length : Int)) :: (dI v2177) :: q40 (q5 [])))))), [(b16_0 a0), .dead, .dead, (b16_1 v1517), .dead, .dead, (b16_2 v2021), .dead, .dead, (AG.o ag2176 1 (List.map eS v2175))]⟩ (by cases ag2176 <;> kernel_rfl) ?_
   rcases brk_some h with ⟨r2240, er2240, h⟩ | ⟨y2239, ey2239, h⟩
   ·refine hLx2238 _ 0  _ er2240 n (by omega) (fun r er σ hσ => ?_) (fun y  ey => by cases ey)
    cases er
    refine seqQ.r ?_
    refine blkQ.r ?_
    refine seqQ.r ?_
    refine lpQ.r ?_
    cases h
    refine blkQ.r ?_
    exact hrx2182 _ hsx2186 _ (RetOk.forget k16_0 (by kernel_rfl) hσ)
   ·refine hLx2238 _ 0  _ ey2239 n (by omega) (fun r er => by cases er) (fun y  ey => ?_)
    cases ey
    refine seqQ.n ?_
    refine Wp.sq ?_
    refine Wp.rg ?_
    refine Ops.sg 2 2 ?_
    refine Ops.on 3 (fun h0 e0 => (len_g (T := T) h0 33 9 9 ag2176 eS v2175 (by kernel_rfl))) ?_
    refine Ops.sg 2 5 ?_
    refine Ops.hv (fun KQ => ∀ (d2243 d2244 d2245 d2246 d2247 d2248 : D) (v2249 : Bool) (v2250 : Bool), f16_r5 m v2175 v2177 v2190 y2239 v2250 = some sx2185 → KQ 12 ⟨q2 ((.v (.sl .nil (List.map eS []))) :: (AG.d ag2176 9 (List.map eS v2175)) :: q5 ((.v (.str v2190)) :: (dI y2239) :: q1 ((dP e37 a0.fClasses) :: (dI (a0.fClasses.length : Int)) :: (dI v1507) :: q4 ((dP e34 v1517.fItems) :: (dI (v1517.fItems.length : Int)) :: (dI v2011) :: q4 ((dP eS v2021.fTags) :: (dI (v2021.fTags.length : Int)) :: (dI v2177) :: q17 ((dI y2239) :: (AG.d ag2176 9 (List.map eS v2175)) :: (dI (v2175.length : Int)) :: (dB v2249) :: (dB v2249) :: d2243 :: d2244 :: d2245 :: d2246 :: d2247 :: d2248 :: (dB v2250) :: q16 [])))))), [(b16_0 a0), .dead, .dead, (b16_1 v1517), .dead, .dead, (b16_2 v2021), .dead, .dead, (AG.o ag2176 1 (List.map eS v2175))]⟩) ?_ fun J16j2251 => ?_
    ·intro d2243 d2244 d2245 d2246 d2247 d2248 v2249 v2250 h
     unfold f16_r5 at h
     refine Ops.dn ?_
     refine seqQ.n ?_
     have J16j2255 : ∀ (v2252 : (List ByteArray)) (ag2253 : AG) (oo2254 : OO), f16_j4 m v2177 v2252 = some sx2185 → (blkQ (X16 n) 5 k16_0 9 (seqQ (X16 n) p16_6 (lpQ (X16 n) k16_0 7 p16_5 nx2180 (blkQ (X16 n) 4 k16_1 7 (blkQ (X16 n) 3 k16_1 6 (seqQ (X16 n) p16_4 (lpQ (X16 n) k16_1 4 p16_3 nx2014 (blkQ (X16 n) 2 k16_2 4 (blkQ (X16 n) 1 k16_2 3 (seqQ (X16 n) p16_2 (lpQ (X16 n) k16_2 1 p16_1 nx1510 (blkQ (X16 n) 0 [2, 3] 1 (seqQ (X16 n) p16_0 (fnQ (X16 n).E.T (resOf Proofs.Tryd.prog 16) ((eL eS) o))))))))))))))) .normal ⟨q2 ((.v (.sl .nil (List.map eS []))) :: (AG.d ag2253 10 (List.map eS v2252)) :: q8 ((dP e37 a0.fClasses) :: (dI (a0.fClasses.length : Int)) :: (dI v1507) :: q4 ((dP e34 v1517.fItems) :: (dI (v1517.fItems.length : Int)) :: (dI v2011) :: q4 ((dP eS v2021.fTags) :: (dI (v2021.fTags.length : Int)) :: (dI v2177) :: q40 (q5 []))))), [(b16_0 a0), .dead, .dead, (b16_1 v1517), .dead, .dead, (b16_2 v2021), .dead, .dead, (OO.o oo2254), (AG.o ag2253 1 (List.map eS v2252))]⟩ := by
      intro v2252 ag2253 oo2254 h
      unfold f16_j4 at h
      refine blkQ.n ⟨q2 ((.v (.sl .nil (List.map eS []))) :: (AG.d ag2253 9 (List.map eS v2252)) :: q8 ((dP e37 a0.fClasses) :: (dI (a0.fClasses.length : Int)) :: (dI v1507) :: q4 ((dP e34 v1517.fItems) :: (dI (v1517.fItems.length : Int)) :: (dI v2011) :: q4 ((dP eS v2021.fTags) :: (dI (v2021.fTags.length : Int)) :: (dI v2177) :: q40 (q5 []))))), [(b16_0 a0), .dead, .dead, (b16_1 v1517), .dead, .dead, (b16_2 v2021), .dead, .dead, (AG.o ag2253 1 (List.map eS v2252))]⟩ (by cases ag2253 <;> kernel_rfl) ?_
      exact J16j2189 v2252 _ h
     refine Wp.cnd h k16_0 10 (by kernel_rfl) (fun h => ?_) (fun h => ?_)
     ·refine Wp.rg ?_
      refine Ops.sg 3 3 ?_
      obtain ⟨v2256, ev2256, h⟩ := bnd_some h
      refine Ops.on 4 (fun h0 e0 => (sub_x (T := T) h0 33 9 1 (AG.d ag2176 9 (List.map eS v2175)) eS v2175 v2256 none (some y2239) (AG.hd _ _ _) ev2256 (by kernel_rfl) (by kernel_rfl) (fun _ => rfl))) ?_
      obtain ⟨v2257, ev2257, h⟩ := bnd_some h
      refine Ops.on 5 (fun h0 e0 => (app_n (T := T) (g := .nonfull) h0 33 9 1 ti9 (sfl (dfl (AG.d ag2176 9 (List.map eS v2175))) v2175.length (some y2239)) eS v2256 v2257 ev2257 (by kernel_rfl) (by kernel_rfl) (by kernel_rfl) (by kernel_rfl) (fun _ => rfl))) ?_
      refine Ops.sg 2 7 ?_
      obtain ⟨v2258, ev2258, h⟩ := bnd_some h
      refine Ops.on 8 (fun h0 e0 => (app_r (T := T) (g := .nonfull) h0 33 9 10 1 ti9 .nonfull eS v2257 [v2190] v2258 ev2258 (by kernel_rfl) (by kernel_rfl) (by kernel_rfl) (by kernel_rfl) (fun _ => rfl) (hq_of e0 (by kernel_rfl)))) ?_
      refine Ops.sg 2 10 ?_
      obtain ⟨v2259, ev2259, h⟩ := bnd_some h
      refine Ops.on 11 (fun h0 e0 => (sub_x (T := T) h0 33 9 1 (AG.d ag2176 9 (List.map eS v2175)) eS v2175 v2259 (some y2239) none (AG.hd _ _ _) ev2259 (by kernel_rfl) (by kernel_rfl) (fun _ => rfl))) ?_
      obtain ⟨v2260, ev2260, h⟩ := bnd_some h
      refine Ops.on 12 (fun h0 e0 => (app_r (T := T) (g := .nonfull) h0 33 9 11 1 ti9 (sfl (dfl (AG.d ag2176 9 (List.map eS v2175))) v2175.length none) eS v2258 v2259 v2260 ev2260 (by kernel_rfl) (by kernel_rfl) (by kernel_rfl) (by kernel_rfl) (fun _ => rfl) (hq_of e0 (by kernel_rfl)))) ?_
      refine Ops.sg 1 13 ?_
      refine Ops.dn ?_
      refine sqQ.n ⟨q2 ((.v (.sl .nil (List.map eS []))) :: (AG.d (AG.of .nonfull (List.map eS v2260)) 10 (List.map eS v2260)) :: q8 ((dP e37 a0.fClasses) :: (dI (a0.fClasses.length : Int)) :: (dI v1507) :: q4 ((dP e34 v1517.fItems) :: (dI (v1517.fItems.length : Int)) :: (dI v2011) :: q4 ((dP eS v2021.fTags) :: (dI (v2021.fTags.length : Int)) :: (dI v2177) :: q40 (q5 []))))), [(b16_0 a0), .dead, .dead, (b16_1 v1517), .dead, .dead, (b16_2 v2021), .dead, .dead, (OO.o (OO.ofg ag2176 1 (List.map eS v2175))), (AG.o (AG.of .nonfull (List.map eS v2260)) 1 (List.map eS v2260))]⟩ (by generalize v2260 = z0; cases ag2176 <;> cases z0 <;> (as_aux_lemma => kernel_rfl)) ?_
      exact J16j2255 v2260 _ _ h
     ·refine Wp.sk ?_
      refine sqQ.n ⟨q2 ((.v (.sl .nil (List.map eS []))) :: (AG.d ag2176 10 (List.map eS v2175)) :: q8 ((dP e37 a0.fClasses) :: (dI (a0.fClasses.length : Int)) :: (dI v1507) :: q4 ((dP e34 v1517.fItems) :: (dI (v1517.fItems.length : Int)) :: (dI v2011) :: q4 ((dP eS v2021.fTags) :: (dI (v2021.fTags.length : Int)) :: (dI v2177) :: q40 (q5 []))))), [(b16_0 a0), .dead, .dead, (b16_1 v1517), .dead, .dead, (b16_2 v2021), .dead, .dead, (OO.o none), (AG.o ag2176 1 (List.map eS v2175))]⟩ (by cases ag2176 <;> kernel_rfl) ?_
      exact J16j2255 v2175 _ _ h
    obtain ⟨v2250, ev2250, h⟩ := bnd_some h
    refine Ops.hv (fun KQ => ∀ v2241 : Bool, (cnd v2241 (some true) (bnd (idx v2175 y2239) fun v2261 => some (!(v2261.toList == v2190.toList)))) = some v2250 → KQ 5 ⟨q2 ((.v (.sl .nil (List.map eS []))) :: (AG.d ag2176 9 (List.map eS v2175)) :: q5 ((.v (.str v2190)) :: (dI y2239) :: q1 ((dP e37 a0.fClasses) :: (dI (a0.fClasses.length : Int)) :: (dI v1507) :: q4 ((dP e34 v1517.fItems) :: (dI (v1517.fItems.length : Int)) :: (dI v2011) :: q4 ((dP eS v2021.fTags) :: (dI (v2021.fTags.length : Int)) :: (dI v2177) :: q17 ((dI y2239) :: (AG.d ag2176 9 (List.map eS v2175)) :: (dI (v2175.length : Int)) :: (dB v2241) :: (dB v2241) :: q23 [])))))), [(b16_0 a0), .dead, .dead, (b16_1 v1517), .dead, .dead, (b16_2 v2021), .dead, .dead, (AG.o ag2176 1 (List.map eS v2175))]⟩) ?_ fun G16g2242 => Ops.st _ (by kernel_rfl) (G16g2242 (y2239 == (v2175.length : Int)) ev2250)
    intro v2241 ev2250
    cases v2241
    ·have ev2250 := cnd_f ev2250
     refine Ops.sg 2 7 ?_
     obtain ⟨v2261, ev2261, ev2250⟩ := bnd_some ev2250
     refine Ops.on 8 (fun h0 e0 => (ix_g (T := T) h0 33 9 1 9 ag2176 eS v2175 y2239 v2261 ev2261 (by kernel_rfl) (by kernel_rfl) (fun _ => rfl))) ?_
     refine Ops.sg 4 12 ?_
     exact Ops.st _ (by kernel_rfl) (J16j2251 (AG.d ag2176 9 (List.map eS v2175)) (dI y2239) (.vptr [(.str v2261)]) (.v (.str v2261)) (.v (.str v2190)) (dB (!(v2261.toList == v2190.toList))) false (!(v2261.toList == v2190.toList)) (some_sub (fun v2250 => f16_r5 m v2175 v2177 v2190 y2239 v2250 = some sx2185) ev2250 h))
    ·have ev2250 := cnd_t ev2250
     refine Ops.sg 7 12 ?_
     exact Ops.st _ (by kernel_rfl) (J16j2251 U U U U U U true true (some_sub (fun v2250 => f16_r5 m v2175 v2177 v2190 y2239 v2250 = some sx2185) ev2250 h))
  ·refine Wp.exit (id := 4) (by kernel_rfl) ?_
   refine sqQ.x ?_
   refine seqQ.x ?_
   cases h
   refine lpQ.x ?_
   refine blkQ.x ⟨q2 ((.v (.sl .nil (List.map eS []))) :: (AG.d ag2176 7 (List.map eS v2175)) :: q8 ((dP e37 a0.fClasses) :: (dI (a0.fClasses.length : Int)) :: (dI v1507) :: q4 ((dP e34 v1517.fItems) :: (dI (v1517.fItems.length : Int)) :: (dI v2011) :: q40 (q12 [])))), [(b16_0 a0), .dead, .dead, (b16_1 v1517), .dead, .dead, (b16_2 v2021), (AG.o ag2176 1 (List.map eS v2175))]⟩ (by cases ag2176 <;> kernel_rfl) ?_
   exact hxx2183 (v2175, v2177) _ hsx2186
theorem f16_hLx2268 (m : Nat) (a0 : S23) (o : (List ByteArray)) (n : Nat) (hn : m + 1 ≤ n + 1)  : ∀ (kx1509 : Nat) (v1505 : (List ByteArray)) (v1507 : Int) (ag1506 : AG) (ox1508 : (List ByteArray) ⊕ ((List ByteArray) × Int)), iter (fun (y : (List ByteArray) × Int) => f16_B8 m a0 y.1 y.2) kx1509 (v1505, v1507) = some ox1508 → ∀ nx1510, kx1509 ≤ nx1510 → (∀ r, ox1508 = .inl r → ∀ σ, RetOk (X16 n) (resOf Proofs.Tryd.prog 16) ((eL eS) r) σ → (seqQ (X16 n) p16_0 (fnQ (X16 n).E.T (resOf Proofs.Tryd.prog 16) ((eL eS) o))) .ret σ) → (∀ (y : (List ByteArray) × Int) (ag1506 : AG), ox1508 = .inr y → (seqQ (X16 n) p16_0 (fnQ (X16 n).E.T (resOf Proofs.Tryd.prog 16) ((eL eS) o))) .normal ⟨q2 ((.v (.sl .nil (List.map eS []))) :: (AG.d ag1506 1 (List.map eS y.1)) :: q40 (q30 [])), [(b16_0 a0), (AG.o ag1506 1 (List.map eS y.1))]⟩) → Lp (X16 n) k16_2 1 p16_1 nx1510 ⟨q2 ((.v (.sl .nil (List.map eS []))) :: (AG.d ag1506 1 (List.map eS v1505)) :: q8 ((dP e37 a0.fClasses) :: (dI (a0.fClasses.length : Int)) :: (dI v1507) :: q40 (q19 []))), [(b16_0 a0), (AG.o ag1506 1 (List.map eS v1505))]⟩ (blkQ (X16 n) 0 [2, 3] 1 (seqQ (X16 n) p16_0 (fnQ (X16 n).E.T (resOf Proofs.Tryd.prog 16) ((eL eS) o)))) := by
 intro kx1509
 induction kx1509 with
 | zero => intro v1505 v1507 ag1506 ox1508 h; exact (iter_zero h).elim
 | succ kx1509 ihx1511 =>
  intro v1505 v1507 ag1506 ox1508 h nx1510 hnx1514 hrx1512 hxx1513
  obtain ⟨nx1510, rfl⟩ : ∃ q, nx1510 = q + 1 := ⟨nx1510 - 1, by omega⟩
  obtain ⟨sx1515, h, hsx1516⟩ := iter_some h
  have h : f16_B8 m a0 v1505 v1507 = some sx1515 := h
  unfold f16_B8 at h
  refine Lp.succ ?_
  refine Wp.sq ?_
  refine Wp.rg ?_
  refine Ops.sg 1 1 ?_
  refine Ops.dn ?_
  refine seqQ.n ?_
  refine Wp.sq ?_
  refine Wp.cnd h k16_2 2 (by kernel_rfl) (fun h => ?_) (fun h => ?_)
  ·refine Wp.sk ?_
   refine sqQ.n ⟨q2 ((.v (.sl .nil (List.map eS []))) :: (AG.d ag1506 2 (List.map eS v1505)) :: q8 ((dP e37 a0.fClasses) :: (dI (a0.fClasses.length : Int)) :: (dI v1507) :: q40 (q19 []))), [(b16_0 a0), .dead, (AG.o ag1506 1 (List.map eS v1505))]⟩ (by cases ag1506 <;> kernel_rfl) ?_
   refine seqQ.n ?_
   refine Wp.sq ?_
   refine Wp.block' 1 k16_2 3 (by kernel_rfl) ?_
   refine Wp.sq ?_
   refine Wp.rg ?_
   obtain ⟨v1517, ev1517, h⟩ := bnd_some h
   refine Ops.on 1 (fun h0 e0 => (ix_r (T := T) h0 22 38 2 .plain e37 a0.fClasses v1507 v1517 ev1517 (by kernel_rfl) (by kernel_rfl) (fun _ => rfl))) ?_
   refine Ops.sg 3 4 ?_
   refine Ops.dn ?_
   refine seqQ.n ?_
   refine Wp.sq ?_
   refine Wp.rg ?_
   refine Ops.sg 2 2 ?_
   refine Ops.on 3 (fun h0 e0 => (len_r (T := T) h0 36 35 .plain e34 v1517.fItems (by kernel_rfl))) ?_
   refine Ops.sg 1 4 ?_
   refine Ops.dn ?_
   refine seqQ.n ?_
   refine Wp.block' 2 k16_2 4 (by kernel_rfl) ?_
   have hLx2265 : ∀ (kx2013 : Nat) (v2009 : (List ByteArray)) (v2011 : Int) (ag2010 : AG) (ox2012 : (List ByteArray) ⊕ ((List ByteArray) × Int)), iter (fun (y : (List ByteArray) × Int) => f16_B7 m v1517 y.1 y.2) kx2013 (v2009, v2011) = some ox2012 → ∀ nx2014, kx2013 ≤ nx2014 → (∀ r, ox2012 = .inl r → ∀ σ, RetOk (X16 n) (resOf Proofs.Tryd.prog 16) ((eL eS) r) σ → (blkQ (X16 n) 1 k16_2 3 (seqQ (X16 n) p16_2 (lpQ (X16 n) k16_2 1 p16_1 nx1510 (blkQ (X16 n) 0 [2, 3] 1 (seqQ (X16 n) p16_0 (fnQ (X16 n).E.T (resOf Proofs.Tryd.prog 16) ((eL eS) o))))))) .ret σ) → (∀ (y : (List ByteArray) × Int) (ag2010 : AG), ox2012 = .inr y → (blkQ (X16 n) 1 k16_2 3 (seqQ (X16 n) p16_2 (lpQ (X16 n) k16_2 1 p16_1 nx1510 (blkQ (X16 n) 0 [2, 3] 1 (seqQ (X16 n) p16_0 (fnQ (X16 n).E.T (resOf Proofs.Tryd.prog 16) ((eL eS) o))))))) .normal ⟨q2 ((.v (.sl .nil (List.map eS []))) :: (AG.d ag2010 4 (List.map eS y.1)) :: q8 ((dP e37 a0.fClasses) :: (dI (a0.fClasses.length : Int)) :: (dI v1507) :: q40 (q19 []))), [(b16_0 a0), .dead, .dead, (b16_1 v1517), (AG.o ag2010 1 (List.map eS y.1))]⟩) → Lp (X16 n) k16_1 4 p16_3 nx2014 ⟨q2 ((.v (.sl .nil (List.map eS []))) :: (AG.d ag2010 4 (List.map eS v2009)) :: q8 ((dP e37 a0.fClasses) :: (dI (a0.fClasses.length : Int)) :: (dI v1507) :: q4 ((dP e34 v1517.fItems) :: (dI (v1517.fItems.length : Int)) :: (dI v2011) :: q40 (q12 [])))), [(b16_0 a0), .dead, .dead, (b16_1 v1517), (AG.o ag2010 1 (List.map eS v2009))]⟩ (blkQ (X16 n) 2 k16_2 4 (blkQ (X16 n) 1 k16_2 3 (seqQ (X16 n) p16_2 (lpQ (X16 n) k16_2 1 p16_1 nx1510 (blkQ (X16 n) 0 [2, 3] 1 (seqQ (X16 n) p16_0 (fnQ (X16 n).E.T (resOf Proofs.Tryd.prog 16) ((eL eS) o)))))))) := by
    intro kx2013
    induction kx2013 with
    | zero => intro v2009 v2011 ag2010 ox2012 h; exact (iter_zero h).elim
    | succ kx2013 ihx2015 =>
     intro v2009 v2011 ag2010 ox2012 h nx2014 hnx2018 hrx2016 hxx2017
     obtain ⟨nx2014, rfl⟩ : ∃ q, nx2014 = q + 1 := ⟨nx2014 - 1, by omega⟩
     obtain ⟨sx2019, h, hsx2020⟩ := iter_some h
     have h : f16_B7 m v1517 v2009 v2011 = some sx2019 := h
     unfold f16_B7 at h
     refine Lp.succ ?_
     refine Wp.sq ?_
     refine Wp.rg ?_
     refine Ops.sg 1 1 ?_
     refine Ops.dn ?_
     refine seqQ.n ?_
     refine Wp.sq ?_
     refine Wp.cnd h k16_1 5 (by kernel_rfl) (fun h => ?_) (fun h => ?_)
     ·refine Wp.sk ?_
      refine sqQ.n ⟨q2 ((.v (.sl .nil (List.map eS []))) :: (AG.d ag2010 5 (List.map eS v2009)) :: q8 ((dP e37 a0.fClasses) :: (dI (a0.fClasses.length : Int)) :: (dI v1507) :: q4 ((dP e34 v1517.fItems) :: (dI (v1517.fItems.length : Int)) :: (dI v2011) :: q40 (q12 [])))), [(b16_0 a0), .dead, .dead, (b16_1 v1517), .dead, (AG.o ag2010 1 (List.map eS v2009))]⟩ (by cases ag2010 <;> kernel_rfl) ?_
      refine seqQ.n ?_
      refine Wp.sq ?_
      refine Wp.block' 3 k16_1 6 (by kernel_rfl) ?_
      refine Wp.sq ?_
      refine Wp.rg ?_
      obtain ⟨v2021, ev2021, h⟩ := bnd_some h
      refine Ops.on 1 (fun h0 e0 => (ix_r (T := T) h0 36 35 5 .plain e34 v1517.fItems v2011 v2021 ev2021 (by kernel_rfl) (by kernel_rfl) (fun _ => rfl))) ?_
      refine Ops.sg 3 4 ?_
      refine Ops.dn ?_
      refine seqQ.n ?_
      refine Wp.sq ?_
      refine Wp.rg ?_
      refine Ops.sg 2 2 ?_
      refine Ops.on 3 (fun h0 e0 => (len_r (T := T) h0 33 9 .plain eS v2021.fTags (by kernel_rfl))) ?_
      refine Ops.sg 1 4 ?_
      refine Ops.dn ?_
      refine seqQ.n ?_
      refine Wp.block' 4 k16_1 7 (by kernel_rfl) ?_
      have hLx2262 := f16_hLx2262 m a0 o n hn v2021 nx2014 nx1510 v1507 v1517 v2011
      refine Wp.loop' k16_0 7 (by kernel_rfl) ⟨q2 ((.v (.sl .nil (List.map eS []))) :: (AG.d ag2010 7 (List.map eS v2009)) :: q8 ((dP e37 a0.fClasses) :: (dI (a0.fClasses.length : Int)) :: (dI v1507) :: q4 ((dP e34 v1517.fItems) :: (dI (v1517.fItems.length : Int)) :: (dI v2011) :: q4 ((dP eS v2021.fTags) :: (dI (v2021.fTags.length : Int)) :: (dI 0) :: q40 (q5 []))))), [(b16_0 a0), .dead, .dead, (b16_1 v1517), .dead, .dead, (b16_2 v2021), (AG.o ag2010 1 (List.map eS v2009))]⟩ (by cases ag2010 <;> kernel_rfl) ?_
      rcases brk_some h with ⟨r2264, er2264, h⟩ | ⟨y2263, ey2263, h⟩
      ·refine hLx2262 _ v2009 0 _ _ er2264 n (by omega) (fun r er σ hσ => ?_) (fun y ag2176 ey => by cases ey)
       cases er
       refine blkQ.r ?_
       refine seqQ.r ?_
       refine lpQ.r ?_
       cases h
       refine blkQ.r ?_
       exact hrx2016 _ hsx2020 _ (RetOk.forget k16_1 (by kernel_rfl) hσ)
      ·refine hLx2262 _ v2009 0 _ _ ey2263 n (by omega) (fun r er => by cases er) (fun y ag2176 ey => ?_)
       cases ey
       refine blkQ.n ⟨q2 ((.v (.sl .nil (List.map eS []))) :: (AG.d ag2176 6 (List.map eS y2263.1)) :: q8 ((dP e37 a0.fClasses) :: (dI (a0.fClasses.length : Int)) :: (dI v1507) :: q4 ((dP e34 v1517.fItems) :: (dI (v1517.fItems.length : Int)) :: (dI v2011) :: q40 (q12 [])))), [(b16_0 a0), .dead, .dead, (b16_1 v1517), .dead, .dead, (AG.o ag2176 1 (List.map eS y2263.1))]⟩ (by cases ag2176 <;> kernel_rfl) ?_
       refine seqQ.n ?_
       refine Wp.rg ?_
       refine Ops.sg 2 2 ?_
       refine Ops.dn ?_
       refine lpQ.n ⟨q2 ((.v (.sl .nil (List.map eS []))) :: (AG.d ag2176 4 (List.map eS y2263.1)) :: q8 ((dP e37 a0.fClasses) :: (dI (a0.fClasses.length : Int)) :: (dI v1507) :: q4 ((dP e34 v1517.fItems) :: (dI (v1517.fItems.length : Int)) :: (dI (w64 (v2011 + 1))) :: q40 (q12 [])))), [(b16_0 a0), .dead, .dead, (b16_1 v1517), (AG.o ag2176 1 (List.map eS y2263.1))]⟩ (by cases ag2176 <;> kernel_rfl) ?_
       cases h
       exact ihx2015 y2263.1 (w64 (v2011 + 1)) _ _ hsx2020 _ (by omega) hrx2016 hxx2017
     ·refine Wp.exit (id := 2) (by kernel_rfl) ?_
      refine sqQ.x ?_
      refine seqQ.x ?_
      cases h
      refine lpQ.x ?_
      refine blkQ.x ⟨q2 ((.v (.sl .nil (List.map eS []))) :: (AG.d ag2010 4 (List.map eS v2009)) :: q8 ((dP e37 a0.fClasses) :: (dI (a0.fClasses.length : Int)) :: (dI v1507) :: q40 (q19 []))), [(b16_0 a0), .dead, .dead, (b16_1 v1517), (AG.o ag2010 1 (List.map eS v2009))]⟩ (by cases ag2010 <;> kernel_rfl) ?_
      exact hxx2017 (v2009, v2011) _ hsx2020
   refine Wp.loop' k16_1 4 (by kernel_rfl) ⟨q2 ((.v (.sl .nil (List.map eS []))) :: (AG.d ag1506 4 (List.map eS v1505)) :: q8 ((dP e37 a0.fClasses) :: (dI (a0.fClasses.length : Int)) :: (dI v1507) :: q4 ((dP e34 v1517.fItems) :: (dI (v1517.fItems.length : Int)) :: (dI 0) :: q40 (q12 [])))), [(b16_0 a0), .dead, .dead, (b16_1 v1517), (AG.o ag1506 1 (List.map eS v1505))]⟩ (by cases ag1506 <;> kernel_rfl) ?_
   rcases brk_some h with ⟨r2267, er2267, h⟩ | ⟨y2266, ey2266, h⟩
   ·refine hLx2265 _ v1505 0 _ _ er2267 n (by omega) (fun r er σ hσ => ?_) (fun y ag2010 ey => by cases ey)
    cases er
    refine blkQ.r ?_
    refine seqQ.r ?_
    refine lpQ.r ?_
    cases h
    refine blkQ.r ?_
    exact hrx1512 _ hsx1516 _ (RetOk.forget k16_2 (by kernel_rfl) hσ)
   ·refine hLx2265 _ v1505 0 _ _ ey2266 n (by omega) (fun r er => by cases er) (fun y ag2010 ey => ?_)
    cases ey
    refine blkQ.n ⟨q2 ((.v (.sl .nil (List.map eS []))) :: (AG.d ag2010 3 (List.map eS y2266.1)) :: q8 ((dP e37 a0.fClasses) :: (dI (a0.fClasses.length : Int)) :: (dI v1507) :: q40 (q19 []))), [(b16_0 a0), .dead, .dead, (AG.o ag2010 1 (List.map eS y2266.1))]⟩ (by cases ag2010 <;> kernel_rfl) ?_
    refine seqQ.n ?_
    refine Wp.rg ?_
    refine Ops.sg 2 2 ?_
    refine Ops.dn ?_
    refine lpQ.n ⟨q2 ((.v (.sl .nil (List.map eS []))) :: (AG.d ag2010 1 (List.map eS y2266.1)) :: q8 ((dP e37 a0.fClasses) :: (dI (a0.fClasses.length : Int)) :: (dI (w64 (v1507 + 1))) :: q40 (q19 []))), [(b16_0 a0), (AG.o ag2010 1 (List.map eS y2266.1))]⟩ (by cases ag2010 <;> kernel_rfl) ?_
    cases h
    exact ihx1511 y2266.1 (w64 (v1507 + 1)) _ _ hsx1516 _ (by omega) hrx1512 hxx1513
  ·refine Wp.exit (id := 0) (by kernel_rfl) ?_
   refine sqQ.x ?_
   refine seqQ.x ?_
   cases h
   refine lpQ.x ?_
   refine blkQ.x ⟨q2 ((.v (.sl .nil (List.map eS []))) :: (AG.d ag1506 1 (List.map eS v1505)) :: q40 (q30 [])), [(b16_0 a0), (AG.o ag1506 1 (List.map eS v1505))]⟩ (by cases ag1506 <;> kernel_rfl) ?_
   exact hxx1513 (v1505, v1507) _ hsx1516
theorem ok16 (m : Nat) (a0 : S23) (o : (List ByteArray)) (h : f16 m a0 = some o) (n : Nat) (hn : m + 1 ≤ n) : Fn Proofs.Tryd.prog EG n 16 [.v (e23 a0)] ((eL eS) o) := by
 obtain ⟨n, rfl⟩ : ∃ q, n = q + 1 := ⟨n - 1, by omega⟩
 unfold f16 at h
 refine Fn.of (by kernel_rfl) (by kernel_rfl) (by kernel_rfl) ⟨(.v (.agg [(vP e37 a0.fClasses)])) :: u40 (u33 []), []⟩ (by kernel_rfl) ?_
 refine Wp.sq ?_
 refine Wp.rg ?_
 refine Ops.sg 2 2 ?_
 refine Ops.dn ?_
 refine seqQ.n ?_
 refine Wp.sq ?_
 refine Wp.rg ?_
 refine Ops.sg 1 1 ?_
 refine Ops.dn ?_
 refine seqQ.n ?_
 refine Wp.sq ?_
 refine Wp.sq ?_
 refine Wp.rg ?_
 refine Ops.sg 2 2 ?_
 refine Ops.on 3 (fun h0 e0 => (len_r (T := T) h0 22 38 .plain e37 a0.fClasses (by kernel_rfl))) ?_
 refine Ops.sg 1 4 ?_
 refine Ops.dn ?_
 refine seqQ.n ?_
 refine Wp.block' 0 [2, 3] 1 (by kernel_rfl) ?_
 have hLx2268 := f16_hLx2268 m a0 o n hn
 refine Wp.loop' k16_2 1 (by kernel_rfl) ⟨q2 ((.v (.sl .nil (List.map eS []))) :: (AG.d (AG.of .nil (List.map eS [])) 1 (List.map eS [])) :: q8 ((dP e37 a0.fClasses) :: (dI (a0.fClasses.length : Int)) :: (dI 0) :: q40 (q19 []))), [(b16_0 a0), (AG.o (AG.of .nil (List.map eS [])) 1 (List.map eS []))]⟩ (by kernel_rfl) ?_
 rcases brk_some h with ⟨r2270, er2270, h⟩ | ⟨y2269, ey2269, h⟩
 ·refine hLx2268 _ [] 0 _ _ er2270 n (by omega) (fun r er σ hσ => ?_) (fun y ag1506 ey => by cases ey)
  cases er
  refine seqQ.r ?_
  exact fnQ.r' (X16 n) (fun z => ((eL eS) z)) h hσ
 ·refine hLx2268 _ [] 0 _ _ ey2269 n (by omega) (fun r er => by cases er) (fun y ag1506 ey => ?_)
  cases ey
  refine seqQ.n ?_
  refine Wp.sq ?_
  refine Wp.rg ?_
  refine Ops.sg 2 2 ?_
  refine Ops.dn ?_
  refine seqQ.n ?_
  refine Wp.ret (by kernel_rfl) ?_
  exact fnQ.r' (X16 n) (fun z => ((eL eS) z)) h (RetOk.mk' (AG.d ag1506 1 (List.map eS y2269.1)) (by kernel_rfl) (AG.frz _ _ _ _ _))
def f37_B1 (m : Nat) (a0 : S40) (a1 : S40) (v10 : Int) : Option (Stp Bool (Int)) :=
 cnd (decide (v10 < (([a0.fFrom, a0.fIn, a0.fOut, a0.fTo, a0.fWeight]).length : Int)))
 (bnd (idx ([a0.fFrom, a0.fIn, a0.fOut, a0.fTo, a0.fWeight]) v10) fun v20 =>
 bnd (idx ([a1.fFrom, a1.fIn, a1.fOut, a1.fTo, a1.fWeight]) v10) fun v21 =>
 cnd (v20 != v21)
 (bnd (idx ([a0.fFrom, a0.fIn, a0.fOut, a0.fTo, a0.fWeight]) v10) fun v22 =>
 bnd (idx ([a1.fFrom, a1.fIn, a1.fOut, a1.fTo, a1.fWeight]) v10) fun v23 =>
 some (.ret (decide (v22 < v23))))
 (some (.nxt (w64 (v10 + 1)))))
 (some (.brk v10))
def f37 (m : Nat) (a0 : S40) (a1 : S40) : Option Bool :=
 brk (iter (fun (y : Int) => f37_B1 m a0 a1 y) m 0) some fun y25 =>
 some false
noncomputable abbrev X37 (n : Nat) : Cx := cxOf Proofs.Tryd.prog EG 37 n
noncomputable def C37 : Code := bodyOf Proofs.Tryd.prog 37
abbrev b37_0 (w0 : S40) : AObj := .cells [(dI w0.fFrom), (dI w0.fTo), (dI w0.fIn), (dI w0.fOut), (dI w0.fWeight)]
theorem ok37 (m : Nat) (a0 : S40) (a1 : S40) (o : Bool) (h : f37 m a0 a1 = some o) (n : Nat) (hn : m + 1 ≤ n) : Fn Proofs.Tryd.prog EG n 37 [.v (e40 a0), .v (e40 a1)] (eB o) := by
 obtain ⟨n, rfl⟩ : ∃ q, n = q + 1 := ⟨n - 1, by omega⟩
 unfold f37 at h
 refine Fn.of (by kernel_rfl) (by kernel_rfl) (by kernel_rfl) ⟨(.v (.agg [(vI a0.fFrom), (vI a0.fTo), (vI a0.fIn), (vI a0.fOut), (vI a0.fWeight)])) :: (.v (.agg [(vI a1.fFrom), (vI a1.fTo), (vI a1.fIn), (vI a1.fOut), (vI a1.fWeight)])) :: u40 (u12 []), []⟩ (by kernel_rfl) ?_
 refine Wp.sq ?_
 refine Wp.rg ?_
 refine Ops.sg 3 3 ?_
 refine Ops.dn ?_
 refine seqQ.n ?_
 refine Wp.sq ?_
 refine Wp.rg ?_
 refine Ops.sg 12 12 ?_
 refine Ops.dn ?_
 refine seqQ.n ?_
 refine Wp.sq ?_
 refine Wp.rg ?_
 refine Ops.sg 12 12 ?_
 refine Ops.dn ?_
 refine seqQ.n ?_
 refine Wp.sq ?_
 refine Wp.sq ?_
 refine Wp.rg ?_
 refine Ops.sg 1 1 ?_
 refine Ops.on 2 (fun h0 e0 => (len_r (T := T) h0 47 3 .nonfull eI ([a0.fFrom, a0.fIn, a0.fOut, a0.fTo, a0.fWeight]) (by kernel_rfl))) ?_
 refine Ops.sg 1 3 ?_
 refine Ops.dn ?_
 refine seqQ.n ?_
 refine Wp.block' 0 [4] 2 (by kernel_rfl) ?_
 have hLx24 : ∀ (kx12 : Nat) (v10 : Int)  (ox11 : Bool ⊕ (Int)), iter (fun (y : Int) => f37_B1 m a0 a1 y) kx12 v10 = some ox11 → ∀ nx13, kx12 ≤ nx13 → (∀ r, ox11 = .inl r → ∀ σ, RetOk (X37 n) (resOf Proofs.Tryd.prog 37) (eB r) σ → (seqQ (X37 n) (cR (cR (cR (cR C37)))) (fnQ (X37 n).E.T (resOf Proofs.Tryd.prog 37) (eB o))) .ret σ) → (∀ (y : Int) , ox11 = .inr y → (seqQ (X37 n) (cR (cR (cR (cR C37)))) (fnQ (X37 n).E.T (resOf Proofs.Tryd.prog 37) (eB o))) .normal ⟨q4 ((dB false) :: (.v (.sl .nonfull (List.map eI ([a0.fFrom, a0.fIn, a0.fOut, a0.fTo, a0.fWeight])))) :: (.v (.sl .nonfull (List.map eI ([a1.fFrom, a1.fIn, a1.fOut, a1.fTo, a1.fWeight])))) :: q24 ((dI ((([a0.fFrom, a0.fIn, a0.fOut, a0.fTo, a0.fWeight]).length : Int))) :: (dI y) :: q21 [])), [(b37_0 a0), (b37_0 a1)]⟩) → Lp (X37 n) [4, 5, 6, 31, 32] 2 (cL (cL (cR (cL (cR (cR (cR C37))))))) nx13 ⟨q4 ((dB false) :: (.v (.sl .nonfull (List.map eI ([a0.fFrom, a0.fIn, a0.fOut, a0.fTo, a0.fWeight])))) :: (.v (.sl .nonfull (List.map eI ([a1.fFrom, a1.fIn, a1.fOut, a1.fTo, a1.fWeight])))) :: q24 ((dI ((([a0.fFrom, a0.fIn, a0.fOut, a0.fTo, a0.fWeight]).length : Int))) :: (dI v10) :: q21 [])), [(b37_0 a0), (b37_0 a1)]⟩ (blkQ (X37 n) 0 [4] 2 (seqQ (X37 n) (cR (cR (cR (cR C37)))) (fnQ (X37 n).E.T (resOf Proofs.Tryd.prog 37) (eB o)))) := by
  intro kx12
  induction kx12 with
  | zero => intro v10  ox11 h; exact (iter_zero h).elim
  | succ kx12 ihx14 =>
   intro v10  ox11 h nx13 hnx17 hrx15 hxx16
   obtain ⟨nx13, rfl⟩ : ∃ q, nx13 = q + 1 := ⟨nx13 - 1, by omega⟩
   obtain ⟨sx18, h, hsx19⟩ := iter_some h
   have h : f37_B1 m a0 a1 v10 = some sx18 := h
   unfold f37_B1 at h
   refine Lp.succ ?_
   refine Wp.sq ?_
   refine Wp.rg ?_
   refine Ops.sg 1 1 ?_
   refine Ops.dn ?_
   refine seqQ.n ?_
   refine Wp.sq ?_
   refine Wp.cnd h [4, 5, 6, 31, 32] 2 (by kernel_rfl) (fun h => ?_) (fun h => ?_)
   ·refine Wp.sk ?_
    refine sqQ.n' ?_
    refine seqQ.n ?_
    refine Wp.sq ?_
    refine Wp.block' 1 [4, 5, 6, 31, 32] 2 (by kernel_rfl) ?_
    refine Wp.sq ?_
    refine Wp.rg ?_
    refine Ops.sg 2 2 ?_
    refine Ops.dn ?_
    refine seqQ.n ?_
    refine Wp.sq ?_
    refine Wp.rg ?_
    refine Ops.sg 2 2 ?_
    obtain ⟨v20, ev20, h⟩ := bnd_some h
    refine Ops.on 3 (fun h0 e0 => (ix_r (T := T) h0 47 3 1 .nonfull eI ([a0.fFrom, a0.fIn, a0.fOut, a0.fTo, a0.fWeight]) v10 v20 ev20 (by kernel_rfl) (by kernel_rfl) (fun _ => rfl))) ?_
    refine Ops.sg 3 6 ?_
    obtain ⟨v21, ev21, h⟩ := bnd_some h
    refine Ops.on 7 (fun h0 e0 => (ix_r (T := T) h0 47 3 1 .nonfull eI ([a1.fFrom, a1.fIn, a1.fOut, a1.fTo, a1.fWeight]) v10 v21 ev21 (by kernel_rfl) (by kernel_rfl) (fun _ => rfl))) ?_
    refine Ops.sg 2 9 ?_
    refine Ops.dn ?_
    refine seqQ.n ?_
    refine Wp.cnd h [4, 5, 6, 31, 32] 2 (by kernel_rfl) (fun h => ?_) (fun h => ?_)
    ·refine Wp.sq ?_
     refine Wp.rg ?_
     refine Ops.sg 2 2 ?_
     obtain ⟨v22, ev22, h⟩ := bnd_some h
     refine Ops.on 3 (fun h0 e0 => (ix_r (T := T) h0 47 3 1 .nonfull eI ([a0.fFrom, a0.fIn, a0.fOut, a0.fTo, a0.fWeight]) v10 v22 ev22 (by kernel_rfl) (by kernel_rfl) (fun _ => rfl))) ?_
     refine Ops.sg 3 6 ?_
     obtain ⟨v23, ev23, h⟩ := bnd_some h
     refine Ops.on 7 (fun h0 e0 => (ix_r (T := T) h0 47 3 1 .nonfull eI ([a1.fFrom, a1.fIn, a1.fOut, a1.fTo, a1.fWeight]) v10 v23 ev23 (by kernel_rfl) (by kernel_rfl) (fun _ => rfl))) ?_
     refine Ops.sg 3 10 ?_
     refine Ops.dn ?_
     refine seqQ.n ?_
     refine Wp.ret (by kernel_rfl) ?_
     refine sqQ.r ?_
     refine blkQ.r ?_
     refine seqQ.r ?_
     cases h
     refine lpQ.r ?_
     refine blkQ.r ?_
     exact hrx15 _ hsx19 _ (RetOk.forget [4, 5, 6, 31, 32] (by kernel_rfl) (RetOk.mk' (dB (decide (v22 < v23))) (by kernel_rfl) (by kernel_rfl)))
    ·refine Wp.sk ?_
     refine sqQ.n' ?_
     refine blkQ.n' ?_
     refine seqQ.n ?_
     refine Wp.rg ?_
     refine Ops.sg 2 2 ?_
     refine Ops.dn ?_
     refine lpQ.n ⟨q4 ((dB false) :: (.v (.sl .nonfull (List.map eI ([a0.fFrom, a0.fIn, a0.fOut, a0.fTo, a0.fWeight])))) :: (.v (.sl .nonfull (List.map eI ([a1.fFrom, a1.fIn, a1.fOut, a1.fTo, a1.fWeight])))) :: q24 ((dI ((([a0.fFrom, a0.fIn, a0.fOut, a0.fTo, a0.fWeight]).length : Int))) :: (dI (w64 (v10 + 1))) :: q21 [])), [(b37_0 a0), (b37_0 a1)]⟩ (by kernel_rfl) ?_
     cases h
     exact ihx14 (w64 (v10 + 1))  _ hsx19 _ (by omega) hrx15 hxx16
   ·refine Wp.exit (id := 0) (by kernel_rfl) ?_
    refine sqQ.x ?_
    refine seqQ.x ?_
    cases h
    refine lpQ.x ?_
    refine blkQ.x ⟨q4 ((dB false) :: (.v (.sl .nonfull (List.map eI ([a0.fFrom, a0.fIn, a0.fOut, a0.fTo, a0.fWeight])))) :: (.v (.sl .nonfull (List.map eI ([a1.fFrom, a1.fIn, a1.fOut, a1.fTo, a1.fWeight])))) :: q24 ((dI ((([a0.fFrom, a0.fIn, a0.fOut, a0.fTo, a0.fWeight]).length : Int))) :: (dI v10) :: q21 [])), [(b37_0 a0), (b37_0 a1)]⟩ (by kernel_rfl) ?_
    exact hxx16 v10  hsx19
 refine Wp.loop' [4, 5, 6, 31, 32] 2 (by kernel_rfl) ⟨q4 ((dB false) :: (.v (.sl .nonfull (List.map eI ([a0.fFrom, a0.fIn, a0.fOut, a0.fTo, a0.fWeight])))) :: (.v (.sl .nonfull (List.map eI ([a1.fFrom, a1.fIn, a1.fOut, a1.fTo, a1.fWeight])))) :: q24 ((dI ((([a0.fFrom, a0.fIn, a0.fOut, a0.fTo, a0.fWeight]).length : Int))) :: (dI 0) :: q21 [])), [(b37_0 a0), (b37_0 a1)]⟩ (by kernel_rfl) ?_
 rcases brk_some h with ⟨r26, er26, h⟩ | ⟨y25, ey25, h⟩
 ·refine hLx24 _ 0  _ er26 n (by omega) (fun r er σ hσ => ?_) (fun y  ey => by cases ey)
  cases er
  refine seqQ.r ?_
  exact fnQ.r' (X37 n) (fun z => (eB z)) h hσ
 ·refine hLx24 _ 0  _ ey25 n (by omega) (fun r er => by cases er) (fun y  ey => ?_)
  cases ey
  refine seqQ.n ?_
  refine Wp.sq ?_
  refine Wp.rg ?_
  refine Ops.sg 1 1 ?_
  refine Ops.dn ?_
  refine seqQ.n ?_
  refine Wp.ret (by kernel_rfl) ?_
  exact fnQ.r' (X37 n) (fun z => (eB z)) h (RetOk.mk' (dB false) (by kernel_rfl) (by kernel_rfl))
def f19_r1 (m : Nat) (v189 : (List S40)) (v190 : Int) (v213 : Bool) : Option (Stp (List S40) ((List S40) × Int)) :=
 cnd v213
 (bnd (idx v189 (w64 (v190 - 1))) fun v215 =>
 bnd (idx v189 v190) fun v216 =>
 bnd (idx v189 v190) fun v217 =>
 bnd (upd v189 v190 v215) fun v218 =>
 bnd (idx v218 (w64 (v190 - 1))) fun v219 =>
 bnd (upd v218 (w64 (v190 - 1)) v216) fun v220 =>
 some (.nxt (v220, w64 (v190 - 1))))
 (some (.brk (v189, v190)))
def f19_B2 (m : Nat) (v189 : (List S40)) (v190 : Int) : Option (Stp (List S40) ((List S40) × Int)) :=
 bnd (cnd (decide (v190 > 0))
 (bnd (idx v189 v190) fun v221 =>
 bnd (idx v189 (w64 (v190 - 1))) fun v222 =>
 bnd (f37 m v221 v222) fun v223 =>
 some v223)
 (some false)) fun v213 =>
 f19_r1 m v189 v190 v213
def f19_B3 (m : Nat) (v154 : (List S40)) (v155 : Int) : Option (Stp (List S40) ((List S40) × Int)) :=
 cnd (decide (v155 < (v154.length : Int)))
 (brk (iter (fun (y : (List S40) × Int) => f19_B2 m y.1 y.2) m (v154, v155)) (fun r => some (.ret r)) fun y225 =>
 some (.nxt (y225.1, w64 (v155 + 1))))
 (some (.brk (v154, v155)))
def f19_j4 (m : Nat) (v335 : Int) (v345 : (List S40)) : Option (Stp (List S40) ((List S40) × Int)) :=
 some (.nxt (v345, w64 (v335 + 1)))
def f19_j5 (m : Nat) (v334 : (List S40)) (v335 : Int) (v347 : S40) : Option (Stp (List S40) ((List S40) × Int)) :=
 bnd (app 40 v334 [v347]) fun v349 =>
 f19_j4 m v335 v349
def f19_r6 (m : Nat) (v334 : (List S40)) (v335 : Int) (v347 : S40) (v392 : Bool) : Option (Stp (List S40) ((List S40) × Int)) :=
 cnd v392
 (f19_j4 m v335 v334)
 (f19_j5 m v334 v335 v347)
def f19_r7 (m : Nat) (a1 : Bool) (v334 : (List S40)) (v335 : Int) (v347 : S40) (v350 : S40) (v379 : Bool) : Option (Stp (List S40) ((List S40) × Int)) :=
 f19_r6 m v334 v335 v347 (v379 && (a1 || (v347.fWeight == v350.fWeight)))
def f19_r8 (m : Nat) (a1 : Bool) (v334 : (List S40)) (v335 : Int) (v347 : S40) (v350 : S40) (v369 : Bool) : Option (Stp (List S40) ((List S40) × Int)) :=
 f19_r7 m a1 v334 v335 v347 v350 (v369 && (v347.fTo == v350.fTo))
def f19_r9 (m : Nat) (a1 : Bool) (v334 : (List S40)) (v335 : Int) (v347 : S40) (v350 : S40) (v359 : Bool) : Option (Stp (List S40) ((List S40) × Int)) :=
 f19_r8 m a1 v334 v335 v347 v350 (v359 && (v347.fOut == v350.fOut))
def f19_B10 (m : Nat) (a1 : Bool) (y228 : (List S40) × Int) (v334 : (List S40)) (v335 : Int) : Option (Stp (List S40) ((List S40) × Int)) :=
 cnd (decide (v335 < (y228.1.length : Int)))
 (bnd (idx y228.1 v335) fun v347 =>
 cnd (decide (v335 > 0))
 (bnd (idx y228.1 (w64 (v335 - 1))) fun v350 =>
 f19_r9 m a1 v334 v335 v347 v350 ((v347.fFrom == v350.fFrom) && (v347.fIn == v350.fIn)))
 (f19_j5 m v334 v335 v347))
 (some (.brk (v334, v335)))
def f19 (m : Nat) (a0 : (List S40)) (a1 : Bool) : Option (List S40) :=
 bnd (app 40 [] a0) fun v1 =>
 brk (iter (fun (y : (List S40) × Int) => f19_B3 m y.1 y.2) m (v1, 1)) some fun y228 =>
 brk (iter (fun (y : (List S40) × Int) => f19_B10 m a1 y228 y.1 y.2) m ([], 0)) some fun y397 =>
 some y397.1
noncomputable abbrev X19 (n : Nat) : Cx := cxOf Proofs.Tryd.prog EG 19 n
noncomputable def C19 : Code := bodyOf Proofs.Tryd.prog 19
noncomputable abbrev p19_0 : Code := cR (cR (cR (cR (cR C19))))
noncomputable abbrev p19_1 : Code := cL (cL (cR (cL (cR (cR C19)))))
noncomputable abbrev p19_2 : Code := cL (cL (cR (cL (cR (cR (cR (cR C19)))))))
noncomputable abbrev p19_3 : Code := cR (cR p19_1)
noncomputable abbrev p19_4 : Code := cR (cR (cR p19_2))
abbrev b19_0 (w0 : S40) : AObj := .cells [(dI w0.fFrom), (dI w0.fTo), (dI w0.fIn), (dI w0.fOut), (dI w0.fWeight)]
abbrev k19_0 : List Nat := [1, 4, 5, 8, 55, 56, 57]
theorem f19_hLx396 (m : Nat) (a0 : (List S40)) (a1 : Bool) (o : (List S40)) (n : Nat) (hn : m + 2 ≤ n + 1) (y228 : (List S40) × Int) : ∀ (kx337 : Nat) (v334 : (List S40)) (v335 : Int)  (ox336 : (List S40) ⊕ ((List S40) × Int)), iter (fun (y : (List S40) × Int) => f19_B10 m a1 y228 y.1 y.2) kx337 (v334, v335) = some ox336 → ∀ nx338, kx337 ≤ nx338 → (∀ r, ox336 = .inl r → ∀ σ, RetOk (X19 n) (resOf Proofs.Tryd.prog 19) ((eL e40) r) σ → (seqQ (X19 n) p19_0 (fnQ (X19 n).E.T (resOf Proofs.Tryd.prog 19) ((eL e40) o))) .ret σ) → (∀ (y : (List S40) × Int) , ox336 = .inr y → (seqQ (X19 n) p19_0 (fnQ (X19 n).E.T (resOf Proofs.Tryd.prog 19) ((eL e40) o))) .normal ⟨q4 ((.v (.sl .nil (List.map e40 []))) :: q3 ((rowF .nil 2 (List.map e40 y.1)) :: q40 (q40 (q23 [])))), [(rowO 5 (List.map e40 y228.1)), .dead, (rowO 5 (List.map e40 y.1))]⟩) → Lp (X19 n) k19_0 2 p19_2 nx338 ⟨q1 ((dB a1) :: q2 ((.v (.sl .nil (List.map e40 []))) :: (rowF .nonfull 0 (List.map e40 y228.1)) :: q2 ((rowF .nil 2 (List.map e40 v334)) :: q40 (q6 ((rowF .nonfull 0 (List.map e40 y228.1)) :: (dI (y228.1.length : Int)) :: (dI v335) :: q40 (q14 [])))))), [(rowO 5 (List.map e40 y228.1)), .dead, (rowO 5 (List.map e40 v334))]⟩ (blkQ (X19 n) 4 [4, 8] 2 (seqQ (X19 n) p19_0 (fnQ (X19 n).E.T (resOf Proofs.Tryd.prog 19) ((eL e40) o)))) := by
 intro kx337
 induction kx337 with
 | zero => intro v334 v335  ox336 h; exact (iter_zero h).elim
 | succ kx337 ihx339 =>
  intro v334 v335  ox336 h nx338 hnx342 hrx340 hxx341
  obtain ⟨nx338, rfl⟩ : ∃ q, nx338 = q + 1 := ⟨nx338 - 1, by omega⟩
  obtain ⟨sx343, h, hsx344⟩ := iter_some h
  have h : f19_B10 m a1 y228 v334 v335 = some sx343 := h
  unfold f19_B10 at h
  refine Lp.succ ?_
  refine Wp.sq ?_
  refine Wp.rg ?_
  refine Ops.sg 1 1 ?_
  refine Ops.dn ?_
  refine seqQ.n ?_
  refine Wp.sq ?_
  refine Wp.cnd h k19_0 3 (by kernel_rfl) (fun h => ?_) (fun h => ?_)
  ·refine Wp.sk ?_
   refine sqQ.n ⟨q1 ((dB a1) :: q2 ((.v (.sl .nil (List.map e40 []))) :: (rowF .nonfull 0 (List.map e40 y228.1)) :: q2 ((rowF .nil 3 (List.map e40 v334)) :: q40 (q6 ((rowF .nonfull 0 (List.map e40 y228.1)) :: (dI (y228.1.length : Int)) :: (dI v335) :: q40 (q14 [])))))), [(rowO 5 (List.map e40 y228.1)), .dead, .dead, (rowO 5 (List.map e40 v334))]⟩ (by generalize y228.1 = z0; generalize v334 = z1; cases z0 <;> cases z1 <;> (as_aux_lemma => kernel_rfl)) ?_
   refine seqQ.n ?_
   refine Wp.sq ?_
   have J19j346 : ∀ (v345 : (List S40)) , f19_j4 m v335 v345 = some sx343 → (seqQ (X19 n) p19_4 (lpQ (X19 n) k19_0 2 p19_2 nx338 (blkQ (X19 n) 4 [4, 8] 2 (seqQ (X19 n) p19_0 (fnQ (X19 n).E.T (resOf Proofs.Tryd.prog 19) ((eL e40) o)))))) .normal ⟨q1 ((dB a1) :: q2 ((.v (.sl .nil (List.map e40 []))) :: (rowF .nonfull 0 (List.map e40 y228.1)) :: q2 ((rowF .nil 4 (List.map e40 v345)) :: q40 (q6 ((rowF .nonfull 0 (List.map e40 y228.1)) :: (dI (y228.1.length : Int)) :: (dI v335) :: q40 (q14 [])))))), [(rowO 5 (List.map e40 y228.1)), .dead, .dead, .dead, (rowO 5 (List.map e40 v345))]⟩ := by
    intro v345  h
    unfold f19_j4 at h
    refine seqQ.n ?_
    refine Wp.rg ?_
    refine Ops.sg 2 2 ?_
    refine Ops.dn ?_
    refine lpQ.n ⟨q1 ((dB a1) :: q2 ((.v (.sl .nil (List.map e40 []))) :: (rowF .nonfull 0 (List.map e40 y228.1)) :: q2 ((rowF .nil 2 (List.map e40 v345)) :: q40 (q6 ((rowF .nonfull 0 (List.map e40 y228.1)) :: (dI (y228.1.length : Int)) :: (dI (w64 (v335 + 1))) :: q40 (q14 [])))))), [(rowO 5 (List.map e40 y228.1)), .dead, (rowO 5 (List.map e40 v345))]⟩ (by generalize y228.1 = z0; generalize v345 = z1; cases z0 <;> cases z1 <;> (as_aux_lemma => kernel_rfl)) ?_
    cases h
    exact ihx339 v345 (w64 (v335 + 1))  _ hsx344 _ (by omega) hrx340 hxx341
   refine Wp.block' 5 k19_0 4 (by kernel_rfl) ?_
   refine Wp.sq ?_
   refine Wp.rg ?_
   refine Ops.sg 1 1 ?_
   obtain ⟨v347, ev347, h⟩ := bnd_some h
   refine Ops.on 2 (fun h0 e0 => (ix_w (T := T) (g := .nonfull) h0 25 41 5 0 e40 y228.1 v335 v347 ev347 (by kernel_rfl) (by kernel_rfl) (hq_of e0 (by kernel_rfl)))) ?_
   refine Ops.on 3 (fun h0 e0 => (ld_w (i := ti41) h0 5 0 0 e40 y228.1 v335 v347 (.agg [(vI v347.fFrom), (vI v347.fTo), (vI v347.fIn), (vI v347.fOut), (vI v347.fWeight)]) ev347 (hq_of e0 (by kernel_rfl)) (by kernel_rfl))) ?_
   refine Ops.sg 3 6 ?_
   refine Ops.dn ?_
   refine seqQ.n ?_
   refine Wp.sq ?_
   refine Wp.sq ?_
   refine Wp.rg ?_
   refine Ops.sg 2 2 ?_
   refine Ops.dn ?_
   refine seqQ.n ?_
   have J19j348 : f19_j5 m v334 v335 v347 = some sx343 → (seqQ (X19 n) (cR (cR (cL (cL (cR (cR p19_2)))))) (blkQ (X19 n) 5 k19_0 4 (seqQ (X19 n) p19_4 (lpQ (X19 n) k19_0 2 p19_2 nx338 (blkQ (X19 n) 4 [4, 8] 2 (seqQ (X19 n) p19_0 (fnQ (X19 n).E.T (resOf Proofs.Tryd.prog 19) ((eL e40) o)))))))) .normal ⟨q1 ((dB a1) :: q2 ((.v (.sl .nil (List.map e40 []))) :: (rowF .nonfull 0 (List.map e40 y228.1)) :: q2 ((rowF .nil 5 (List.map e40 v334)) :: q1 ((.ptr 4 0) :: q40 (q4 ((rowF .nonfull 0 (List.map e40 y228.1)) :: (dI (y228.1.length : Int)) :: (dI v335) :: q40 (q14 []))))))), [(rowO 5 (List.map e40 y228.1)), .dead, .dead, .dead, (b19_0 v347), (rowO 5 (List.map e40 v334))]⟩ := by
    intro   h
    unfold f19_j5 at h
    refine seqQ.n ?_
    refine Wp.rg ?_
    refine Ops.sg 3 3 ?_
    obtain ⟨v349, ev349, h⟩ := bnd_some h
    refine Ops.on 4 (fun h0 e0 => (row_app (T := T) (g := .nil) h0 25 41 5 ti41 .nonfull e40 v334 [v347] v349 ev349 (by kernel_rfl) (by kernel_rfl) (by kernel_rfl) (by kernel_rfl) (fun _ => rfl) (hq_of e0 (by kernel_rfl)))) ?_
    refine Ops.sg 1 5 ?_
    refine Ops.dn ?_
    refine blkQ.n ⟨q1 ((dB a1) :: q2 ((.v (.sl .nil (List.map e40 []))) :: (rowF .nonfull 0 (List.map e40 y228.1)) :: q2 ((rowF .nil 4 (List.map e40 v349)) :: q40 (q6 ((rowF .nonfull 0 (List.map e40 y228.1)) :: (dI (y228.1.length : Int)) :: (dI v335) :: q40 (q14 [])))))), [(rowO 5 (List.map e40 y228.1)), .dead, .dead, .dead, (rowO 5 (List.map e40 v349))]⟩ (by generalize y228.1 = z0; generalize v349 = z1; cases z0 <;> cases z1 <;> (as_aux_lemma => kernel_rfl)) ?_
    exact J19j346 v349  h
   refine Wp.cnd h [1, 4, 5, 8, 10, 55, 56, 57] 5 (by kernel_rfl) (fun h => ?_) (fun h => ?_)
   ·refine Wp.sq ?_
    refine Wp.rg ?_
    refine Ops.seg 3 3 (by kernel_rfl) ⟨q1 ((dB a1) :: q2 ((.v (.sl .nil (List.map e40 []))) :: (rowF .nonfull 0 (List.map e40 y228.1)) :: q2 ((rowF .nil 3 (List.map e40 v334)) :: (dI v335) :: (.ptr 4 0) :: q40 (q4 ((rowF .nonfull 0 (List.map e40 y228.1)) :: (dI (y228.1.length : Int)) :: (dI v335) :: q1 ((dI v335) :: (.eptr 0 (Int.toNat v335) 0) :: (.v (.agg [(vI v347.fFrom), (vI v347.fTo), (vI v347.fIn), (vI v347.fOut), (vI v347.fWeight)])) :: (dI v335) :: (dB (decide (v335 > 0))) :: (rowF .nonfull 0 (List.map e40 y228.1)) :: (dI v335) :: (dI (w64 (v335 - 1))) :: q40 (q5 []))))))), [(rowO 5 (List.map e40 y228.1)), .dead, .dead, (rowO 5 (List.map e40 v334)), (b19_0 v347)]⟩ (by kernel_rfl) ?_
    obtain ⟨v350, ev350, h⟩ := bnd_some h
    refine Ops.on 4 (fun h0 e0 => (ix_w (T := T) (g := .nonfull) h0 25 41 5 0 e40 y228.1 (w64 (v335 - 1)) v350 ev350 (by kernel_rfl) (by kernel_rfl) (hq_of e0 (by kernel_rfl)))) ?_
    refine Ops.on 5 (fun h0 e0 => (ld_w (i := ti41) h0 5 0 0 e40 y228.1 (w64 (v335 - 1)) v350 (.agg [(vI v350.fFrom), (vI v350.fTo), (vI v350.fIn), (vI v350.fOut), (vI v350.fWeight)]) ev350 (hq_of e0 (by kernel_rfl)) (by kernel_rfl))) ?_
    refine Ops.sg 2 7 ?_
    refine Ops.dn ?_
    refine seqQ.n ?_
    refine Wp.sq ?_
    refine Wp.rg ?_
    refine Ops.seg 6 6 (by kernel_rfl) ⟨q1 ((dB a1) :: q2 ((.v (.sl .nil (List.map e40 []))) :: (rowF .nonfull 0 (List.map e40 y228.1)) :: q2 ((rowF .nil 3 (List.map e40 v334)) :: (dI v335) :: (.ptr 4 0) :: (.ptr 5 0) :: q40 (q3 ((rowF .nonfull 0 (List.map e40 y228.1)) :: (dI (y228.1.length : Int)) :: (dI v335) :: q1 ((dI v335) :: (.eptr 0 (Int.toNat v335) 0) :: (.v (.agg [(vI v347.fFrom), (vI v347.fTo), (vI v347.fIn), (vI v347.fOut), (vI v347.fWeight)])) :: (dI v335) :: (dB (decide (v335 > 0))) :: (rowF .nonfull 0 (List.map e40 y228.1)) :: (dI v335) :: (dI (w64 (v335 - 1))) :: (.eptr 0 (Int.toNat (w64 (v335 - 1))) 0) :: (.v (.agg [(vI v350.fFrom), (vI v350.fTo), (vI v350.fIn), (vI v350.fOut), (vI v350.fWeight)])) :: (.ptr 4 0) :: (dI v347.fFrom) :: (.ptr 5 0) :: (dI v350.fFrom) :: (dB (v347.fFrom == v350.fFrom)) :: (dB (v347.fFrom == v350.fFrom)) :: q37 [])))))), [(rowO 5 (List.map e40 y228.1)), .dead, .dead, (rowO 5 (List.map e40 v334)), (b19_0 v347), (b19_0 v350)]⟩ (by kernel_rfl) ?_
    refine Ops.hv (fun KQ => ∀ (d353 d354 d355 d356 d357 : D) (v358 : Bool) (v359 : Bool), f19_r9 m a1 v334 v335 v347 v350 v359 = some sx343 → KQ 12 ⟨q1 ((dB a1) :: q2 ((.v (.sl .nil (List.map e40 []))) :: (rowF .nonfull 0 (List.map e40 y228.1)) :: q2 ((rowF .nil 3 (List.map e40 v334)) :: (dI v335) :: (.ptr 4 0) :: (.ptr 5 0) :: q40 (q3 ((rowF .nonfull 0 (List.map e40 y228.1)) :: (dI (y228.1.length : Int)) :: (dI v335) :: q1 ((dI v335) :: (.eptr 0 (Int.toNat v335) 0) :: (.v (.agg [(vI v347.fFrom), (vI v347.fTo), (vI v347.fIn), (vI v347.fOut), (vI v347.fWeight)])) :: (dI v335) :: (dB (decide (v335 > 0))) :: (rowF .nonfull 0 (List.map e40 y228.1)) :: (dI v335) :: (dI (w64 (v335 - 1))) :: (.eptr 0 (Int.toNat (w64 (v335 - 1))) 0) :: (.v (.agg [(vI v350.fFrom), (vI v350.fTo), (vI v350.fIn), (vI v350.fOut), (vI v350.fWeight)])) :: (.ptr 4 0) :: (dI v347.fFrom) :: (.ptr 5 0) :: (dI v350.fFrom) :: (dB v358) :: (dB v358) :: d353 :: d354 :: d355 :: d356 :: d357 :: (dB v359) :: q31 [])))))), [(rowO 5 (List.map e40 y228.1)), .dead, .dead, (rowO 5 (List.map e40 v334)), (b19_0 v347), (b19_0 v350)]⟩) ?_ fun J19j360 => ?_
    ·intro d353 d354 d355 d356 d357 v358 v359 h
     unfold f19_r9 at h
     refine Ops.sg 1 13 ?_
     refine Ops.hv (fun KQ => ∀ (d363 d364 d365 d366 d367 : D) (v368 : Bool) (v369 : Bool), f19_r8 m a1 v334 v335 v347 v350 v369 = some sx343 → KQ 19 ⟨q1 ((dB a1) :: q2 ((.v (.sl .nil (List.map e40 []))) :: (rowF .nonfull 0 (List.map e40 y228.1)) :: q2 ((rowF .nil 3 (List.map e40 v334)) :: (dI v335) :: (.ptr 4 0) :: (.ptr 5 0) :: q40 (q3 ((rowF .nonfull 0 (List.map e40 y228.1)) :: (dI (y228.1.length : Int)) :: (dI v335) :: q1 ((dI v335) :: (.eptr 0 (Int.toNat v335) 0) :: (.v (.agg [(vI v347.fFrom), (vI v347.fTo), (vI v347.fIn), (vI v347.fOut), (vI v347.fWeight)])) :: (dI v335) :: (dB (decide (v335 > 0))) :: (rowF .nonfull 0 (List.map e40 y228.1)) :: (dI v335) :: (dI (w64 (v335 - 1))) :: (.eptr 0 (Int.toNat (w64 (v335 - 1))) 0) :: (.v (.agg [(vI v350.fFrom), (vI v350.fTo), (vI v350.fIn), (vI v350.fOut), (vI v350.fWeight)])) :: (.ptr 4 0) :: (dI v347.fFrom) :: (.ptr 5 0) :: (dI v350.fFrom) :: (dB v358) :: (dB v358) :: d353 :: d354 :: d355 :: d356 :: d357 :: (dB v368) :: (dB v368) :: d363 :: d364 :: d365 :: d366 :: d367 :: (dB v369) :: q24 [])))))), [(rowO 5 (List.map e40 y228.1)), .dead, .dead, (rowO 5 (List.map e40 v334)), (b19_0 v347), (b19_0 v350)]⟩) ?_ fun J19j370 => ?_
     ·intro d363 d364 d365 d366 d367 v368 v369 h
      unfold f19_r8 at h
      refine Ops.sg 1 20 ?_
      refine Ops.hv (fun KQ => ∀ (d373 d374 d375 d376 d377 : D) (v378 : Bool) (v379 : Bool), f19_r7 m a1 v334 v335 v347 v350 v379 = some sx343 → KQ 26 ⟨q1 ((dB a1) :: q2 ((.v (.sl .nil (List.map e40 []))) :: (rowF .nonfull 0 (List.map e40 y228.1)) :: q2 ((rowF .nil 3 (List.map e40 v334)) :: (dI v335) :: (.ptr 4 0) :: (.ptr 5 0) :: q40 (q3 ((rowF .nonfull 0 (List.map e40 y228.1)) :: (dI (y228.1.length : Int)) :: (dI v335) :: q1 ((dI v335) :: (.eptr 0 (Int.toNat v335) 0) :: (.v (.agg [(vI v347.fFrom), (vI v347.fTo), (vI v347.fIn), (vI v347.fOut), (vI v347.fWeight)])) :: (dI v335) :: (dB (decide (v335 > 0))) :: (rowF .nonfull 0 (List.map e40 y228.1)) :: (dI v335) :: (dI (w64 (v335 - 1))) :: (.eptr 0 (Int.toNat (w64 (v335 - 1))) 0) :: (.v (.agg [(vI v350.fFrom), (vI v350.fTo), (vI v350.fIn), (vI v350.fOut), (vI v350.fWeight)])) :: (.ptr 4 0) :: (dI v347.fFrom) :: (.ptr 5 0) :: (dI v350.fFrom) :: (dB v358) :: (dB v358) :: d353 :: d354 :: d355 :: d356 :: d357 :: (dB v368) :: (dB v368) :: d363 :: d364 :: d365 :: d366 :: d367 :: (dB v378) :: (dB v378) :: d373 :: d374 :: d375 :: d376 :: d377 :: (dB v379) :: q17 [])))))), [(rowO 5 (List.map e40 y228.1)), .dead, .dead, (rowO 5 (List.map e40 v334)), (b19_0 v347), (b19_0 v350)]⟩) ?_ fun J19j380 => ?_
      ·intro d373 d374 d375 d376 d377 v378 v379 h
       unfold f19_r7 at h
       refine Ops.sg 1 27 ?_
       refine Ops.dn ?_
       refine seqQ.n ?_
       refine Wp.sq ?_
       refine Wp.rg ?_
       refine Ops.sg 2 2 ?_
       refine Ops.hv (fun KQ => ∀ (d383 d384 d385 d386 d387 d388 d389 d390 : D) (v391 : Bool) (v392 : Bool), f19_r6 m v334 v335 v347 v392 = some sx343 → KQ 11 ⟨q1 ((dB a1) :: q2 ((.v (.sl .nil (List.map e40 []))) :: (rowF .nonfull 0 (List.map e40 y228.1)) :: q2 ((rowF .nil 3 (List.map e40 v334)) :: (dI v335) :: (.ptr 4 0) :: (.ptr 5 0) :: (dB v391) :: q40 (q2 ((rowF .nonfull 0 (List.map e40 y228.1)) :: (dI (y228.1.length : Int)) :: (dI v335) :: q1 ((dI v335) :: (.eptr 0 (Int.toNat v335) 0) :: (.v (.agg [(vI v347.fFrom), (vI v347.fTo), (vI v347.fIn), (vI v347.fOut), (vI v347.fWeight)])) :: (dI v335) :: (dB (decide (v335 > 0))) :: (rowF .nonfull 0 (List.map e40 y228.1)) :: (dI v335) :: (dI (w64 (v335 - 1))) :: (.eptr 0 (Int.toNat (w64 (v335 - 1))) 0) :: (.v (.agg [(vI v350.fFrom), (vI v350.fTo), (vI v350.fIn), (vI v350.fOut), (vI v350.fWeight)])) :: (.ptr 4 0) :: (dI v347.fFrom) :: (.ptr 5 0) :: (dI v350.fFrom) :: (dB v358) :: (dB v358) :: d353 :: d354 :: d355 :: d356 :: d357 :: (dB v368) :: (dB v368) :: d363 :: d364 :: d365 :: d366 :: d367 :: (dB v378) :: (dB v378) :: d373 :: d374 :: d375 :: d376 :: d377 :: (dB v391) :: (dB v391) :: (dB v391) :: d383 :: d384 :: d385 :: d386 :: d387 :: d388 :: d389 :: d390 :: (dB v392) :: q6 [])))))), [(rowO 5 (List.map e40 y228.1)), .dead, .dead, (rowO 5 (List.map e40 v334)), (b19_0 v347), (b19_0 v350)]⟩) ?_ fun J19j393 => ?_
       ·intro d383 d384 d385 d386 d387 d388 d389 d390 v391 v392 h
        unfold f19_r6 at h
        refine Ops.dn ?_
        refine seqQ.n ?_
        refine Wp.cnd h [1, 4, 5, 8, 10, 55, 56, 57] 6 (by kernel_rfl) (fun h => ?_) (fun h => ?_)
        ·refine Wp.exit (id := 5) (by kernel_rfl) ?_
         refine sqQ.x ?_
         refine sqQ.x ?_
         refine seqQ.x ?_
         refine blkQ.x ⟨q1 ((dB a1) :: q2 ((.v (.sl .nil (List.map e40 []))) :: (rowF .nonfull 0 (List.map e40 y228.1)) :: q2 ((rowF .nil 4 (List.map e40 v334)) :: q40 (q6 ((rowF .nonfull 0 (List.map e40 y228.1)) :: (dI (y228.1.length : Int)) :: (dI v335) :: q40 (q14 [])))))), [(rowO 5 (List.map e40 y228.1)), .dead, .dead, .dead, (rowO 5 (List.map e40 v334))]⟩ (by generalize y228.1 = z0; generalize v334 = z1; cases z0 <;> cases z1 <;> (as_aux_lemma => kernel_rfl)) ?_
         exact J19j346 v334  h
        ·refine Wp.sk ?_
         refine sqQ.n ⟨q1 ((dB a1) :: q2 ((.v (.sl .nil (List.map e40 []))) :: (rowF .nonfull 0 (List.map e40 y228.1)) :: q2 ((rowF .nil 6 (List.map e40 v334)) :: q1 ((.ptr 4 0) :: q40 (q4 ((rowF .nonfull 0 (List.map e40 y228.1)) :: (dI (y228.1.length : Int)) :: (dI v335) :: q40 (q14 []))))))), [(rowO 5 (List.map e40 y228.1)), .dead, .dead, .dead, (b19_0 v347), (b19_0 v350), (rowO 5 (List.map e40 v334))]⟩ (by generalize y228.1 = z0; generalize v334 = z1; cases z0 <;> cases z1 <;> (as_aux_lemma => kernel_rfl)) ?_
         refine sqQ.n ⟨q1 ((dB a1) :: q2 ((.v (.sl .nil (List.map e40 []))) :: (rowF .nonfull 0 (List.map e40 y228.1)) :: q2 ((rowF .nil 5 (List.map e40 v334)) :: q1 ((.ptr 4 0) :: q40 (q4 ((rowF .nonfull 0 (List.map e40 y228.1)) :: (dI (y228.1.length : Int)) :: (dI v335) :: q40 (q14 []))))))), [(rowO 5 (List.map e40 y228.1)), .dead, .dead, .dead, (b19_0 v347), (rowO 5 (List.map e40 v334))]⟩ (by generalize y228.1 = z0; generalize v334 = z1; cases z0 <;> cases z1 <;> (as_aux_lemma => kernel_rfl)) ?_
         exact J19j348   h
       refine Ops.hv (fun KQ => ∀ v381 : Bool, f19_r6 m v334 v335 v347 (v381 && (a1 || (v347.fWeight == v350.fWeight))) = some sx343 → KQ 2 ⟨q1 ((dB a1) :: q2 ((.v (.sl .nil (List.map e40 []))) :: (rowF .nonfull 0 (List.map e40 y228.1)) :: q2 ((rowF .nil 3 (List.map e40 v334)) :: (dI v335) :: (.ptr 4 0) :: (.ptr 5 0) :: (dB v381) :: q40 (q2 ((rowF .nonfull 0 (List.map e40 y228.1)) :: (dI (y228.1.length : Int)) :: (dI v335) :: q1 ((dI v335) :: (.eptr 0 (Int.toNat v335) 0) :: (.v (.agg [(vI v347.fFrom), (vI v347.fTo), (vI v347.fIn), (vI v347.fOut), (vI v347.fWeight)])) :: (dI v335) :: (dB (decide (v335 > 0))) :: (rowF .nonfull 0 (List.map e40 y228.1)) :: (dI v335) :: (dI (w64 (v335 - 1))) :: (.eptr 0 (Int.toNat (w64 (v335 - 1))) 0) :: (.v (.agg [(vI v350.fFrom), (vI v350.fTo), (vI v350.fIn), (vI v350.fOut), (vI v350.fWeight)])) :: (.ptr 4 0) :: (dI v347.fFrom) :: (.ptr 5 0) :: (dI v350.fFrom) :: (dB v358) :: (dB v358) :: d353 :: d354 :: d355 :: d356 :: d357 :: (dB v368) :: (dB v368) :: d363 :: d364 :: d365 :: d366 :: d367 :: (dB v378) :: (dB v378) :: d373 :: d374 :: d375 :: d376 :: d377 :: (dB v381) :: (dB v381) :: (dB v381) :: q15 [])))))), [(rowO 5 (List.map e40 y228.1)), .dead, .dead, (rowO 5 (List.map e40 v334)), (b19_0 v347), (b19_0 v350)]⟩) ?_ fun G19g382 => Ops.st _ (by kernel_rfl) (G19g382 v379 h)
       intro v381 h
       cases v381
       ·refine Ops.sg 9 11 ?_
        exact Ops.st _ (by kernel_rfl) (J19j393 U U U U U U U U false false h)
       ·refine Ops.sg 2 4 ?_
        refine Ops.hv (fun KQ => ∀ v394 : Bool, (f19_r6 m v334 v335 v347 (true && (v394 || (v347.fWeight == v350.fWeight)))) = some sx343 → KQ 4 ⟨q1 ((dB a1) :: q2 ((.v (.sl .nil (List.map e40 []))) :: (rowF .nonfull 0 (List.map e40 y228.1)) :: q2 ((rowF .nil 3 (List.map e40 v334)) :: (dI v335) :: (.ptr 4 0) :: (.ptr 5 0) :: (dB true) :: q40 (q2 ((rowF .nonfull 0 (List.map e40 y228.1)) :: (dI (y228.1.length : Int)) :: (dI v335) :: q1 ((dI v335) :: (.eptr 0 (Int.toNat v335) 0) :: (.v (.agg [(vI v347.fFrom), (vI v347.fTo), (vI v347.fIn), (vI v347.fOut), (vI v347.fWeight)])) :: (dI v335) :: (dB (decide (v335 > 0))) :: (rowF .nonfull 0 (List.map e40 y228.1)) :: (dI v335) :: (dI (w64 (v335 - 1))) :: (.eptr 0 (Int.toNat (w64 (v335 - 1))) 0) :: (.v (.agg [(vI v350.fFrom), (vI v350.fTo), (vI v350.fIn), (vI v350.fOut), (vI v350.fWeight)])) :: (.ptr 4 0) :: (dI v347.fFrom) :: (.ptr 5 0) :: (dI v350.fFrom) :: (dB v358) :: (dB v358) :: d353 :: d354 :: d355 :: d356 :: d357 :: (dB v368) :: (dB v368) :: d363 :: d364 :: d365 :: d366 :: d367 :: (dB v378) :: (dB v378) :: d373 :: d374 :: d375 :: d376 :: d377 :: (dB true) :: (dB true) :: (dB true) :: (dB v394) :: (dB v394) :: q13 [])))))), [(rowO 5 (List.map e40 y228.1)), .dead, .dead, (rowO 5 (List.map e40 v334)), (b19_0 v347), (b19_0 v350)]⟩) ?_ fun G19g395 => Ops.st _ (by kernel_rfl) (G19g395 a1 h)
        intro v394 h
        cases v394
        ·refine Ops.sg 7 11 ?_
         exact Ops.st _ (by kernel_rfl) (J19j393 (dB false) (dB false) (.ptr 4 4) (dI v347.fWeight) (.ptr 5 4) (dI v350.fWeight) (dB (v347.fWeight == v350.fWeight)) (dB (v347.fWeight == v350.fWeight)) true (v347.fWeight == v350.fWeight) h)
        ·refine Ops.sg 7 11 ?_
         exact Ops.st _ (by kernel_rfl) (J19j393 (dB true) (dB true) U U U U U (dB true) true true h)
      refine Ops.hv (fun KQ => ∀ v371 : Bool, f19_r7 m a1 v334 v335 v347 v350 (v371 && (v347.fTo == v350.fTo)) = some sx343 → KQ 20 ⟨q1 ((dB a1) :: q2 ((.v (.sl .nil (List.map e40 []))) :: (rowF .nonfull 0 (List.map e40 y228.1)) :: q2 ((rowF .nil 3 (List.map e40 v334)) :: (dI v335) :: (.ptr 4 0) :: (.ptr 5 0) :: q40 (q3 ((rowF .nonfull 0 (List.map e40 y228.1)) :: (dI (y228.1.length : Int)) :: (dI v335) :: q1 ((dI v335) :: (.eptr 0 (Int.toNat v335) 0) :: (.v (.agg [(vI v347.fFrom), (vI v347.fTo), (vI v347.fIn), (vI v347.fOut), (vI v347.fWeight)])) :: (dI v335) :: (dB (decide (v335 > 0))) :: (rowF .nonfull 0 (List.map e40 y228.1)) :: (dI v335) :: (dI (w64 (v335 - 1))) :: (.eptr 0 (Int.toNat (w64 (v335 - 1))) 0) :: (.v (.agg [(vI v350.fFrom), (vI v350.fTo), (vI v350.fIn), (vI v350.fOut), (vI v350.fWeight)])) :: (.ptr 4 0) :: (dI v347.fFrom) :: (.ptr 5 0) :: (dI v350.fFrom) :: (dB v358) :: (dB v358) :: d353 :: d354 :: d355 :: d356 :: d357 :: (dB v368) :: (dB v368) :: d363 :: d364 :: d365 :: d366 :: d367 :: (dB v371) :: (dB v371) :: q23 [])))))), [(rowO 5 (List.map e40 y228.1)), .dead, .dead, (rowO 5 (List.map e40 v334)), (b19_0 v347), (b19_0 v350)]⟩) ?_ fun G19g372 => Ops.st _ (by kernel_rfl) (G19g372 v369 h)
      intro v371 h
      cases v371
      ·refine Ops.sg 6 26 ?_
       exact Ops.st _ (by kernel_rfl) (J19j380 U U U U U false false h)
      ·refine Ops.sg 6 26 ?_
       exact Ops.st _ (by kernel_rfl) (J19j380 (.ptr 4 1) (dI v347.fTo) (.ptr 5 1) (dI v350.fTo) (dB (v347.fTo == v350.fTo)) true (v347.fTo == v350.fTo) h)
     refine Ops.hv (fun KQ => ∀ v361 : Bool, f19_r8 m a1 v334 v335 v347 v350 (v361 && (v347.fOut == v350.fOut)) = some sx343 → KQ 13 ⟨q1 ((dB a1) :: q2 ((.v (.sl .nil (List.map e40 []))) :: (rowF .nonfull 0 (List.map e40 y228.1)) :: q2 ((rowF .nil 3 (List.map e40 v334)) :: (dI v335) :: (.ptr 4 0) :: (.ptr 5 0) :: q40 (q3 ((rowF .nonfull 0 (List.map e40 y228.1)) :: (dI (y228.1.length : Int)) :: (dI v335) :: q1 ((dI v335) :: (.eptr 0 (Int.toNat v335) 0) :: (.v (.agg [(vI v347.fFrom), (vI v347.fTo), (vI v347.fIn), (vI v347.fOut), (vI v347.fWeight)])) :: (dI v335) :: (dB (decide (v335 > 0))) :: (rowF .nonfull 0 (List.map e40 y228.1)) :: (dI v335) :: (dI (w64 (v335 - 1))) :: (.eptr 0 (Int.toNat (w64 (v335 - 1))) 0) :: (.v (.agg [(vI v350.fFrom), (vI v350.fTo), (vI v350.fIn), (vI v350.fOut), (vI v350.fWeight)])) :: (.ptr 4 0) :: (dI v347.fFrom) :: (.ptr 5 0) :: (dI v350.fFrom) :: (dB v358) :: (dB v358) :: d353 :: d354 :: d355 :: d356 :: d357 :: (dB v361) :: (dB v361) :: q30 [])))))), [(rowO 5 (List.map e40 y228.1)), .dead, .dead, (rowO 5 (List.map e40 v334)), (b19_0 v347), (b19_0 v350)]⟩) ?_ fun G19g362 => Ops.st _ (by kernel_rfl) (G19g362 v359 h)
     intro v361 h
     cases v361
     ·refine Ops.sg 6 19 ?_
      exact Ops.st _ (by kernel_rfl) (J19j370 U U U U U false false h)
     ·refine Ops.sg 6 19 ?_
      exact Ops.st _ (by kernel_rfl) (J19j370 (.ptr 4 3) (dI v347.fOut) (.ptr 5 3) (dI v350.fOut) (dB (v347.fOut == v350.fOut)) true (v347.fOut == v350.fOut) h)
    refine Ops.hv (fun KQ => ∀ v351 : Bool, f19_r9 m a1 v334 v335 v347 v350 (v351 && (v347.fIn == v350.fIn)) = some sx343 → KQ 6 ⟨q1 ((dB a1) :: q2 ((.v (.sl .nil (List.map e40 []))) :: (rowF .nonfull 0 (List.map e40 y228.1)) :: q2 ((rowF .nil 3 (List.map e40 v334)) :: (dI v335) :: (.ptr 4 0) :: (.ptr 5 0) :: q40 (q3 ((rowF .nonfull 0 (List.map e40 y228.1)) :: (dI (y228.1.length : Int)) :: (dI v335) :: q1 ((dI v335) :: (.eptr 0 (Int.toNat v335) 0) :: (.v (.agg [(vI v347.fFrom), (vI v347.fTo), (vI v347.fIn), (vI v347.fOut), (vI v347.fWeight)])) :: (dI v335) :: (dB (decide (v335 > 0))) :: (rowF .nonfull 0 (List.map e40 y228.1)) :: (dI v335) :: (dI (w64 (v335 - 1))) :: (.eptr 0 (Int.toNat (w64 (v335 - 1))) 0) :: (.v (.agg [(vI v350.fFrom), (vI v350.fTo), (vI v350.fIn), (vI v350.fOut), (vI v350.fWeight)])) :: (.ptr 4 0) :: (dI v347.fFrom) :: (.ptr 5 0) :: (dI v350.fFrom) :: (dB v351) :: (dB v351) :: q37 [])))))), [(rowO 5 (List.map e40 y228.1)), .dead, .dead, (rowO 5 (List.map e40 v334)), (b19_0 v347), (b19_0 v350)]⟩) ?_ fun G19g352 => Ops.st _ (by kernel_rfl) (G19g352 (v347.fFrom == v350.fFrom) h)
    intro v351 h
    cases v351
    ·refine Ops.sg 6 12 ?_
     exact Ops.st _ (by kernel_rfl) (J19j360 U U U U U false false h)
    ·refine Ops.sg 6 12 ?_
     exact Ops.st _ (by kernel_rfl) (J19j360 (.ptr 4 2) (dI v347.fIn) (.ptr 5 2) (dI v350.fIn) (dB (v347.fIn == v350.fIn)) true (v347.fIn == v350.fIn) h)
   ·refine Wp.sk ?_
    refine sqQ.n ⟨q1 ((dB a1) :: q2 ((.v (.sl .nil (List.map e40 []))) :: (rowF .nonfull 0 (List.map e40 y228.1)) :: q2 ((rowF .nil 5 (List.map e40 v334)) :: q1 ((.ptr 4 0) :: q40 (q4 ((rowF .nonfull 0 (List.map e40 y228.1)) :: (dI (y228.1.length : Int)) :: (dI v335) :: q40 (q14 []))))))), [(rowO 5 (List.map e40 y228.1)), .dead, .dead, .dead, (b19_0 v347), (rowO 5 (List.map e40 v334))]⟩ (by generalize y228.1 = z0; generalize v334 = z1; cases z0 <;> cases z1 <;> (as_aux_lemma => kernel_rfl)) ?_
    exact J19j348   h
  ·refine Wp.exit (id := 4) (by kernel_rfl) ?_
   refine sqQ.x ?_
   refine seqQ.x ?_
   cases h
   refine lpQ.x ?_
   refine blkQ.x ⟨q4 ((.v (.sl .nil (List.map e40 []))) :: q3 ((rowF .nil 2 (List.map e40 v334)) :: q40 (q40 (q23 [])))), [(rowO 5 (List.map e40 y228.1)), .dead, (rowO 5 (List.map e40 v334))]⟩ (by generalize y228.1 = z0; generalize v334 = z1; cases z0 <;> cases z1 <;> (as_aux_lemma => kernel_rfl)) ?_
   exact hxx341 (v334, v335)  hsx344
theorem f19_hLx224 (m : Nat) (a0 : (List S40)) (a1 : Bool) (o : (List S40)) (n : Nat) (hn : m + 2 ≤ n + 1) (nx158 : Nat) (v155 : Int) : ∀ (kx192 : Nat) (v189 : (List S40)) (v190 : Int)  (ox191 : (List S40) ⊕ ((List S40) × Int)), iter (fun (y : (List S40) × Int) => f19_B2 m y.1 y.2) kx192 (v189, v190) = some ox191 → ∀ nx193, kx192 ≤ nx193 → (∀ r, ox191 = .inl r → ∀ σ, RetOk (X19 n) (resOf Proofs.Tryd.prog 19) ((eL e40) r) σ → (blkQ (X19 n) 1 [1, 4, 5, 6] 3 (seqQ (X19 n) p19_3 (lpQ (X19 n) [1, 4, 5, 6] 1 p19_1 nx158 (blkQ (X19 n) 0 [1, 4, 5] 1 (seqQ (X19 n) (cR (cR (cR C19))) (fnQ (X19 n).E.T (resOf Proofs.Tryd.prog 19) ((eL e40) o))))))) .ret σ) → (∀ (y : (List S40) × Int) , ox191 = .inr y → (blkQ (X19 n) 1 [1, 4, 5, 6] 3 (seqQ (X19 n) p19_3 (lpQ (X19 n) [1, 4, 5, 6] 1 p19_1 nx158 (blkQ (X19 n) 0 [1, 4, 5] 1 (seqQ (X19 n) (cR (cR (cR C19))) (fnQ (X19 n).E.T (resOf Proofs.Tryd.prog 19) ((eL e40) o))))))) .normal ⟨q1 ((dB a1) :: q2 ((.v (.sl .nil (List.map e40 []))) :: (rowF .nonfull 0 (List.map e40 y.1)) :: (dI v155) :: q40 (q40 (q25 [])))), [(rowO 5 (List.map e40 y.1)), .dead, .dead, .dead]⟩) → Lp (X19 n) [1, 4, 5, 6, 7] 3 (cL (cL (cR (cL (cL (cR p19_1)))))) nx193 ⟨q1 ((dB a1) :: q2 ((.v (.sl .nil (List.map e40 []))) :: (rowF .nonfull 0 (List.map e40 v189)) :: (dI v155) :: (dI v190) :: q40 (q40 (q24 [])))), [(rowO 5 (List.map e40 v189)), .dead, .dead, .dead]⟩ (blkQ (X19 n) 2 [1, 4, 5, 6] 3 (blkQ (X19 n) 1 [1, 4, 5, 6] 3 (seqQ (X19 n) p19_3 (lpQ (X19 n) [1, 4, 5, 6] 1 p19_1 nx158 (blkQ (X19 n) 0 [1, 4, 5] 1 (seqQ (X19 n) (cR (cR (cR C19))) (fnQ (X19 n).E.T (resOf Proofs.Tryd.prog 19) ((eL e40) o)))))))) := by
 intro kx192
 induction kx192 with
 | zero => intro v189 v190  ox191 h; exact (iter_zero h).elim
 | succ kx192 ihx194 =>
  intro v189 v190  ox191 h nx193 hnx197 hrx195 hxx196
  obtain ⟨nx193, rfl⟩ : ∃ q, nx193 = q + 1 := ⟨nx193 - 1, by omega⟩
  obtain ⟨sx198, h, hsx199⟩ := iter_some h
  have h : f19_B2 m v189 v190 = some sx198 := h
  unfold f19_B2 at h
  refine Lp.succ ?_
  refine Wp.sq ?_
  refine Wp.sq ?_
  refine Wp.rg ?_
  refine Ops.sg 3 3 ?_
  refine Ops.hv (fun KQ => ∀ (d202 d203 d204 d205 d206 d207 d208 d209 d210 d211 : D) (v212 : Bool) (v213 : Bool), f19_r1 m v189 v190 v213 = some sx198 → KQ 14 ⟨q1 ((dB a1) :: q2 ((.v (.sl .nil (List.map e40 []))) :: (rowF .nonfull 0 (List.map e40 v189)) :: (dI v155) :: (dI v190) :: q15 ((dI v190) :: (dB v212) :: (dB v212) :: d202 :: d203 :: d204 :: d205 :: d206 :: d207 :: d208 :: d209 :: d210 :: d211 :: (dB v213) :: q40 (q35 [])))), [(rowO 5 (List.map e40 v189)), .dead, .dead, .dead]⟩) ?_ fun J19j214 => ?_
  ·intro d202 d203 d204 d205 d206 d207 d208 d209 d210 d211 v212 v213 h
   unfold f19_r1 at h
   refine Ops.dn ?_
   refine seqQ.n ?_
   refine Wp.cnd h [1, 4, 5, 6, 7] 4 (by kernel_rfl) (fun h => ?_) (fun h => ?_)
   ·refine Wp.sk ?_
    refine sqQ.n ⟨q1 ((dB a1) :: q2 ((.v (.sl .nil (List.map e40 []))) :: (rowF .nonfull 0 (List.map e40 v189)) :: (dI v155) :: (dI v190) :: q40 (q40 (q24 [])))), [(rowO 5 (List.map e40 v189)), .dead, .dead, .dead, .dead]⟩ (by generalize v189 = z0; cases z0 <;> kernel_rfl) ?_
    refine seqQ.n ?_
    refine Wp.sq ?_
    refine Wp.block' 3 [1, 4, 5, 6, 7] 5 (by kernel_rfl) ?_
    refine Wp.rg ?_
    refine Ops.sg 8 8 ?_
    obtain ⟨v215, ev215, h⟩ := bnd_some h
    refine Ops.on 9 (fun h0 e0 => (ix_w (T := T) (g := .nonfull) h0 25 41 5 0 e40 v189 (w64 (v190 - 1)) v215 ev215 (by kernel_rfl) (by kernel_rfl) (hq_of e0 (by kernel_rfl)))) ?_
    refine Ops.on 10 (fun h0 e0 => (ld_w (i := ti41) h0 5 0 0 e40 v189 (w64 (v190 - 1)) v215 (.agg [(vI v215.fFrom), (vI v215.fTo), (vI v215.fIn), (vI v215.fOut), (vI v215.fWeight)]) ev215 (hq_of e0 (by kernel_rfl)) (by kernel_rfl))) ?_
    refine Ops.seg 2 12 (by kernel_rfl) ⟨q1 ((dB a1) :: q2 ((.v (.sl .nil (List.map e40 []))) :: (rowF .nonfull 0 (List.map e40 v189)) :: (dI v155) :: (dI v190) :: q31 ((rowF .nonfull 0 (List.map e40 v189)) :: (dI v190) :: (rowF .nonfull 0 (List.map e40 v189)) :: (dI v190) :: (dI (w64 (v190 - 1))) :: (rowF .nonfull 0 (List.map e40 v189)) :: (dI v190) :: (dI (w64 (v190 - 1))) :: (.eptr 0 (Int.toNat (w64 (v190 - 1))) 0) :: (.v (.agg [(vI v215.fFrom), (vI v215.fTo), (vI v215.fIn), (vI v215.fOut), (vI v215.fWeight)])) :: (rowF .nonfull 0 (List.map e40 v189)) :: (dI v190) :: q40 (q21 [])))), [(rowO 5 (List.map e40 v189)), .dead, .dead, .dead, .dead]⟩ (by kernel_rfl) ?_
    obtain ⟨v216, ev216, h⟩ := bnd_some h
    refine Ops.on 13 (fun h0 e0 => (ix_w (T := T) (g := .nonfull) h0 25 41 5 0 e40 v189 v190 v216 ev216 (by kernel_rfl) (by kernel_rfl) (hq_of e0 (by kernel_rfl)))) ?_
    refine Ops.on 14 (fun h0 e0 => (ld_w (i := ti41) h0 5 0 0 e40 v189 v190 v216 (.agg [(vI v216.fFrom), (vI v216.fTo), (vI v216.fIn), (vI v216.fOut), (vI v216.fWeight)]) ev216 (hq_of e0 (by kernel_rfl)) (by kernel_rfl))) ?_
    obtain ⟨v217, ev217, h⟩ := bnd_some h
    refine Ops.on 15 (fun h0 e0 => (ix_w (T := T) (g := .nonfull) h0 25 41 5 0 e40 v189 v190 v217 ev217 (by kernel_rfl) (by kernel_rfl) (hq_of e0 (by kernel_rfl)))) ?_
    obtain ⟨v218, ev218, h⟩ := bnd_some h
    refine Ops.on 16 (fun h0 e0 => (st_w (i := ti41) h0 5 0 0 e40 v189 v218 v190 v217 v215 (.agg [(vI v215.fFrom), (vI v215.fTo), (vI v215.fIn), (vI v215.fOut), (vI v215.fWeight)]) ev217 ev218 (hq_of e0 (by kernel_rfl)) (by kernel_rfl) (by kernel_rfl) (by kernel_rfl))) ?_
    refine Ops.st ⟨q1 ((dB a1) :: q2 ((.v (.sl .nil (List.map e40 []))) :: (rowF .nonfull 0 (List.map e40 v189)) :: (dI v155) :: (dI v190) :: q31 ((rowF .nonfull 0 (List.map e40 v189)) :: (dI v190) :: (rowF .nonfull 0 (List.map e40 v189)) :: (dI v190) :: (dI (w64 (v190 - 1))) :: (rowF .nonfull 0 (List.map e40 v189)) :: (dI v190) :: (dI (w64 (v190 - 1))) :: (.eptr 0 (Int.toNat (w64 (v190 - 1))) 0) :: (.v (.agg [(vI v215.fFrom), (vI v215.fTo), (vI v215.fIn), (vI v215.fOut), (vI v215.fWeight)])) :: (rowF .nonfull 0 (List.map e40 v189)) :: (dI v190) :: (.eptr 0 (Int.toNat v190) 0) :: (.v (.agg [(vI v216.fFrom), (vI v216.fTo), (vI v216.fIn), (vI v216.fOut), (vI v216.fWeight)])) :: (.eptr 0 (Int.toNat v190) 0) :: q40 (q18 [])))), [(rowO 5 (List.map e40 v218)), .dead, .dead, .dead, .dead]⟩ (by kernel_rfl) ?_
    rw [upd_row ev218]
    obtain ⟨v219, ev219, h⟩ := bnd_some h
    refine Ops.on 17 (fun h0 e0 => (ix_w (T := T) (g := .nonfull) h0 25 41 5 0 e40 v218 (w64 (v190 - 1)) v219 ev219 (by kernel_rfl) (by kernel_rfl) (hq_of e0 (by kernel_rfl)))) ?_
    obtain ⟨v220, ev220, h⟩ := bnd_some h
    refine Ops.on 18 (fun h0 e0 => (st_w (i := ti41) h0 5 0 0 e40 v218 v220 (w64 (v190 - 1)) v219 v216 (.agg [(vI v216.fFrom), (vI v216.fTo), (vI v216.fIn), (vI v216.fOut), (vI v216.fWeight)]) ev219 ev220 (hq_of e0 (by kernel_rfl)) (by kernel_rfl) (by kernel_rfl) (by kernel_rfl))) ?_
    refine Ops.st ⟨q1 ((dB a1) :: q2 ((.v (.sl .nil (List.map e40 []))) :: (rowF .nonfull 0 (List.map e40 v218)) :: (dI v155) :: (dI v190) :: q31 ((rowF .nonfull 0 (List.map e40 v218)) :: (dI v190) :: (rowF .nonfull 0 (List.map e40 v218)) :: (dI v190) :: (dI (w64 (v190 - 1))) :: (rowF .nonfull 0 (List.map e40 v218)) :: (dI v190) :: (dI (w64 (v190 - 1))) :: (.eptr 0 (Int.toNat (w64 (v190 - 1))) 0) :: (.v (.agg [(vI v215.fFrom), (vI v215.fTo), (vI v215.fIn), (vI v215.fOut), (vI v215.fWeight)])) :: (rowF .nonfull 0 (List.map e40 v218)) :: (dI v190) :: (.eptr 0 (Int.toNat v190) 0) :: (.v (.agg [(vI v216.fFrom), (vI v216.fTo), (vI v216.fIn), (vI v216.fOut), (vI v216.fWeight)])) :: (.eptr 0 (Int.toNat v190) 0) :: (.eptr 0 (Int.toNat (w64 (v190 - 1))) 0) :: q40 (q17 [])))), [(rowO 5 (List.map e40 v220)), .dead, .dead, .dead, .dead]⟩ (by kernel_rfl) ?_
    rw [upd_row ev220]
    refine Ops.dn ?_
    refine blkQ.n ⟨q1 ((dB a1) :: q2 ((.v (.sl .nil (List.map e40 []))) :: (rowF .nonfull 0 (List.map e40 v220)) :: (dI v155) :: (dI v190) :: q40 (q40 (q24 [])))), [(rowO 5 (List.map e40 v220)), .dead, .dead, .dead, .dead, .dead]⟩ (by generalize v220 = z0; cases z0 <;> kernel_rfl) ?_
    refine seqQ.n ?_
    refine Wp.rg ?_
    refine Ops.sg 3 3 ?_
    refine Ops.dn ?_
    refine lpQ.n ⟨q1 ((dB a1) :: q2 ((.v (.sl .nil (List.map e40 []))) :: (rowF .nonfull 0 (List.map e40 v220)) :: (dI v155) :: (dI (w64 (v190 - 1))) :: q40 (q40 (q24 [])))), [(rowO 5 (List.map e40 v220)), .dead, .dead, .dead]⟩ (by generalize v220 = z0; cases z0 <;> kernel_rfl) ?_
    cases h
    exact ihx194 v220 (w64 (v190 - 1))  _ hsx199 _ (by omega) hrx195 hxx196
   ·refine Wp.exit (id := 2) (by kernel_rfl) ?_
    refine sqQ.x ?_
    refine seqQ.x ?_
    cases h
    refine lpQ.x ?_
    refine blkQ.x ⟨q1 ((dB a1) :: q2 ((.v (.sl .nil (List.map e40 []))) :: (rowF .nonfull 0 (List.map e40 v189)) :: (dI v155) :: q40 (q40 (q25 [])))), [(rowO 5 (List.map e40 v189)), .dead, .dead, .dead]⟩ (by generalize v189 = z0; cases z0 <;> kernel_rfl) ?_
    exact hxx196 (v189, v190)  hsx199
  obtain ⟨v213, ev213, h⟩ := bnd_some h
  refine Ops.hv (fun KQ => ∀ v200 : Bool, (cnd v200 (bnd (idx v189 v190) fun v221 => bnd (idx v189 (w64 (v190 - 1))) fun v222 => bnd (f37 m v221 v222) fun v223 => some v223) (some false)) = some v213 → KQ 3 ⟨q1 ((dB a1) :: q2 ((.v (.sl .nil (List.map e40 []))) :: (rowF .nonfull 0 (List.map e40 v189)) :: (dI v155) :: (dI v190) :: q15 ((dI v190) :: (dB v200) :: (dB v200) :: q40 (q40 (q6 []))))), [(rowO 5 (List.map e40 v189)), .dead, .dead, .dead]⟩) ?_ fun G19g201 => Ops.st _ (by kernel_rfl) (G19g201 (decide (v190 > 0)) ev213)
  intro v200 ev213
  cases v200
  ·have ev213 := cnd_f ev213
   refine Ops.seg 11 14 (by kernel_rfl) ⟨q1 ((dB a1) :: q2 ((.v (.sl .nil (List.map e40 []))) :: (rowF .nonfull 0 (List.map e40 v189)) :: (dI v155) :: (dI v190) :: q15 ((dI v190) :: (dB false) :: (dB false) :: u10 ((dB false) :: q40 (q35 []))))), [(rowO 5 (List.map e40 v189)), .dead, .dead, .dead]⟩ (by kernel_rfl) ?_
   exact Ops.st _ (by kernel_rfl) (J19j214 U U U U U U U U U U false false (some_sub (fun v213 => f19_r1 m v189 v190 v213 = some sx198) ev213 h))
  ·have ev213 := cnd_t ev213
   refine Ops.sg 2 5 ?_
   obtain ⟨v221, ev221, ev213⟩ := bnd_some ev213
   refine Ops.on 6 (fun h0 e0 => (ix_w (T := T) (g := .nonfull) h0 25 41 5 0 e40 v189 v190 v221 ev221 (by kernel_rfl) (by kernel_rfl) (hq_of e0 (by kernel_rfl)))) ?_
   refine Ops.on 7 (fun h0 e0 => (ld_w (i := ti41) h0 5 0 0 e40 v189 v190 v221 (.agg [(vI v221.fFrom), (vI v221.fTo), (vI v221.fIn), (vI v221.fOut), (vI v221.fWeight)]) ev221 (hq_of e0 (by kernel_rfl)) (by kernel_rfl))) ?_
   refine Ops.sg 3 10 ?_
   obtain ⟨v222, ev222, ev213⟩ := bnd_some ev213
   refine Ops.on 11 (fun h0 e0 => (ix_w (T := T) (g := .nonfull) h0 25 41 5 0 e40 v189 (w64 (v190 - 1)) v222 ev222 (by kernel_rfl) (by kernel_rfl) (hq_of e0 (by kernel_rfl)))) ?_
   refine Ops.on 12 (fun h0 e0 => (ld_w (i := ti41) h0 5 0 0 e40 v189 (w64 (v190 - 1)) v222 (.agg [(vI v222.fFrom), (vI v222.fTo), (vI v222.fIn), (vI v222.fOut), (vI v222.fWeight)]) ev222 (hq_of e0 (by kernel_rfl)) (by kernel_rfl))) ?_
   obtain ⟨v223, ev223, ev213⟩ := bnd_some ev213
   refine Ops.on 13 (fun h0 e0 => (call_ok (E' := EG) (h := h0) (by kernel_rfl) (Args.v (.agg [(vI v221.fFrom), (vI v221.fTo), (vI v221.fIn), (vI v221.fOut), (vI v221.fWeight)]) (e40 v221) (by kernel_rfl) (Args.v (.agg [(vI v222.fFrom), (vI v222.fTo), (vI v222.fIn), (vI v222.fOut), (vI v222.fWeight)]) (e40 v222) (by kernel_rfl) Args.nil)) (ok37 m v221 v222 v223 ev223 n (by omega)))) ?_
   refine Ops.seg 1 14 (by kernel_rfl) ⟨q1 ((dB a1) :: q2 ((.v (.sl .nil (List.map e40 []))) :: (rowF .nonfull 0 (List.map e40 v189)) :: (dI v155) :: (dI v190) :: q15 ((dI v190) :: (dB true) :: (dB true) :: (rowF .nonfull 0 (List.map e40 v189)) :: (dI v190) :: (.eptr 0 (Int.toNat v190) 0) :: (.v (.agg [(vI v221.fFrom), (vI v221.fTo), (vI v221.fIn), (vI v221.fOut), (vI v221.fWeight)])) :: (rowF .nonfull 0 (List.map e40 v189)) :: (dI v190) :: (dI (w64 (v190 - 1))) :: (.eptr 0 (Int.toNat (w64 (v190 - 1))) 0) :: (.v (.agg [(vI v222.fFrom), (vI v222.fTo), (vI v222.fIn), (vI v222.fOut), (vI v222.fWeight)])) :: (dB v223) :: (dB v223) :: q40 (q35 [])))), [(rowO 5 (List.map e40 v189)), .dead, .dead, .dead]⟩ (by kernel_rfl) ?_
   exact Ops.st _ (by kernel_rfl) (J19j214 (rowF .nonfull 0 (List.map e40 v189)) (dI v190) (.eptr 0 (Int.toNat v190) 0) ((.v (.agg [(vI v221.fFrom), (vI v221.fTo), (vI v221.fIn), (vI v221.fOut), (vI v221.fWeight)]))) (rowF .nonfull 0 (List.map e40 v189)) (dI v190) (dI (w64 (v190 - 1))) (.eptr 0 (Int.toNat (w64 (v190 - 1))) 0) ((.v (.agg [(vI v222.fFrom), (vI v222.fTo), (vI v222.fIn), (vI v222.fOut), (vI v222.fWeight)]))) (dB v223) true v223 (some_sub (fun v213 => f19_r1 m v189 v190 v213 = some sx198) ev213 h))
theorem f19_hLx227 (m : Nat) (a0 : (List S40)) (a1 : Bool) (o : (List S40)) (n : Nat) (hn : m + 2 ≤ n + 1)  : ∀ (kx157 : Nat) (v154 : (List S40)) (v155 : Int)  (ox156 : (List S40) ⊕ ((List S40) × Int)), iter (fun (y : (List S40) × Int) => f19_B3 m y.1 y.2) kx157 (v154, v155) = some ox156 → ∀ nx158, kx157 ≤ nx158 → (∀ r, ox156 = .inl r → ∀ σ, RetOk (X19 n) (resOf Proofs.Tryd.prog 19) ((eL e40) r) σ → (seqQ (X19 n) (cR (cR (cR C19))) (fnQ (X19 n).E.T (resOf Proofs.Tryd.prog 19) ((eL e40) o))) .ret σ) → (∀ (y : (List S40) × Int) , ox156 = .inr y → (seqQ (X19 n) (cR (cR (cR C19))) (fnQ (X19 n).E.T (resOf Proofs.Tryd.prog 19) ((eL e40) o))) .normal ⟨q1 ((dB a1) :: q2 ((.v (.sl .nil (List.map e40 []))) :: (rowF .nonfull 0 (List.map e40 y.1)) :: q40 (q40 (q26 [])))), [(rowO 5 (List.map e40 y.1)), .dead]⟩) → Lp (X19 n) [1, 4, 5, 6] 1 p19_1 nx158 ⟨q1 ((dB a1) :: q2 ((.v (.sl .nil (List.map e40 []))) :: (rowF .nonfull 0 (List.map e40 v154)) :: (dI v155) :: q40 (q40 (q25 [])))), [(rowO 5 (List.map e40 v154)), .dead]⟩ (blkQ (X19 n) 0 [1, 4, 5] 1 (seqQ (X19 n) (cR (cR (cR C19))) (fnQ (X19 n).E.T (resOf Proofs.Tryd.prog 19) ((eL e40) o)))) := by
 intro kx157
 induction kx157 with
 | zero => intro v154 v155  ox156 h; exact (iter_zero h).elim
 | succ kx157 ihx159 =>
  intro v154 v155  ox156 h nx158 hnx162 hrx160 hxx161
  obtain ⟨nx158, rfl⟩ : ∃ q, nx158 = q + 1 := ⟨nx158 - 1, by omega⟩
  obtain ⟨sx163, h, hsx164⟩ := iter_some h
  have h : f19_B3 m v154 v155 = some sx163 := h
  unfold f19_B3 at h
  refine Lp.succ ?_
  refine Wp.sq ?_
  refine Wp.sq ?_
  refine Wp.rg ?_
  refine Ops.sg 2 2 ?_
  refine Ops.on 3 (fun h0 e0 => (len_w (T := T) (g := .nonfull) h0 25 41 0 e40 v154 (by kernel_rfl))) ?_
  refine Ops.sg 1 4 ?_
  refine Ops.dn ?_
  refine seqQ.n ?_
  refine Wp.cnd h [1, 4, 5, 6] 2 (by kernel_rfl) (fun h => ?_) (fun h => ?_)
  ·refine Wp.sk ?_
   refine sqQ.n ⟨q1 ((dB a1) :: q2 ((.v (.sl .nil (List.map e40 []))) :: (rowF .nonfull 0 (List.map e40 v154)) :: (dI v155) :: q40 (q40 (q25 [])))), [(rowO 5 (List.map e40 v154)), .dead, .dead]⟩ (by generalize v154 = z0; cases z0 <;> kernel_rfl) ?_
   refine seqQ.n ?_
   refine Wp.sq ?_
   refine Wp.block' 1 [1, 4, 5, 6] 3 (by kernel_rfl) ?_
   refine Wp.sq ?_
   refine Wp.rg ?_
   refine Ops.sg 2 2 ?_
   refine Ops.dn ?_
   refine seqQ.n ?_
   refine Wp.block' 2 [1, 4, 5, 6] 3 (by kernel_rfl) ?_
   have hLx224 := f19_hLx224 m a0 a1 o n hn nx158 v155
   refine Wp.loop' [1, 4, 5, 6, 7] 3 (by kernel_rfl) ⟨q1 ((dB a1) :: q2 ((.v (.sl .nil (List.map e40 []))) :: (rowF .nonfull 0 (List.map e40 v154)) :: (dI v155) :: (dI v155) :: q40 (q40 (q24 [])))), [(rowO 5 (List.map e40 v154)), .dead, .dead, .dead]⟩ (by generalize v154 = z0; cases z0 <;> kernel_rfl) ?_
   rcases brk_some h with ⟨r226, er226, h⟩ | ⟨y225, ey225, h⟩
   ·refine hLx224 _ v154 v155  _ er226 n (by omega) (fun r er σ hσ => ?_) (fun y  ey => by cases ey)
    cases er
    refine blkQ.r ?_
    refine seqQ.r ?_
    refine lpQ.r ?_
    cases h
    refine blkQ.r ?_
    exact hrx160 _ hsx164 _ (RetOk.forget [1, 4, 5, 6] (by kernel_rfl) hσ)
   ·refine hLx224 _ v154 v155  _ ey225 n (by omega) (fun r er => by cases er) (fun y  ey => ?_)
    cases ey
    refine blkQ.n ⟨q1 ((dB a1) :: q2 ((.v (.sl .nil (List.map e40 []))) :: (rowF .nonfull 0 (List.map e40 y225.1)) :: (dI v155) :: q40 (q40 (q25 [])))), [(rowO 5 (List.map e40 y225.1)), .dead, .dead, .dead]⟩ (by generalize y225.1 = z0; cases z0 <;> kernel_rfl) ?_
    refine seqQ.n ?_
    refine Wp.rg ?_
    refine Ops.sg 3 3 ?_
    refine Ops.dn ?_
    refine lpQ.n ⟨q1 ((dB a1) :: q2 ((.v (.sl .nil (List.map e40 []))) :: (rowF .nonfull 0 (List.map e40 y225.1)) :: (dI (w64 (v155 + 1))) :: q40 (q40 (q25 [])))), [(rowO 5 (List.map e40 y225.1)), .dead]⟩ (by generalize y225.1 = z0; cases z0 <;> kernel_rfl) ?_
    cases h
    exact ihx159 y225.1 (w64 (v155 + 1))  _ hsx164 _ (by omega) hrx160 hxx161
  ·refine Wp.exit (id := 0) (by kernel_rfl) ?_
   refine sqQ.x ?_
   refine seqQ.x ?_
   cases h
   refine lpQ.x ?_
   refine blkQ.x ⟨q1 ((dB a1) :: q2 ((.v (.sl .nil (List.map e40 []))) :: (rowF .nonfull 0 (List.map e40 v154)) :: q40 (q40 (q26 [])))), [(rowO 5 (List.map e40 v154)), .dead]⟩ (by generalize v154 = z0; cases z0 <;> kernel_rfl) ?_
   exact hxx161 (v154, v155)  hsx164
theorem ok19 (m : Nat) (a0 : (List S40)) (a1 : Bool) (o : (List S40)) (h : f19 m a0 a1 = some o) (n : Nat) (hn : m + 2 ≤ n) : Fn Proofs.Tryd.prog EG n 19 [.v ((eL e40) a0), .v (eB a1)] ((eL e40) o) := by
 obtain ⟨n, rfl⟩ : ∃ q, n = q + 1 := ⟨n - 1, by omega⟩
 unfold f19 at h
 refine Fn.of (by kernel_rfl) (by kernel_rfl) (by kernel_rfl) ⟨(dP e40 a0) :: (dB a1) :: u40 (u40 (u30 [])), []⟩ (by kernel_rfl) ?_
 refine Wp.sq ?_
 refine Wp.rg ?_
 refine Ops.sg 1 1 ?_
 refine Ops.dn ?_
 refine seqQ.n ?_
 refine Wp.sq ?_
 refine Wp.rg ?_
 refine Ops.sg 2 2 ?_
 obtain ⟨v1, ev1, h⟩ := bnd_some h
 refine Ops.on 3 (fun h0 e0 => (row_n (T := T) (g := .nonfull) h0 25 41 ti41 .plain e40 a0 v1 ev1 (by kernel_rfl) (by kernel_rfl) (by kernel_rfl) (by kernel_rfl) (fun _ => rfl))) ?_
 refine Ops.sg 1 4 ?_
 refine Ops.dn ?_
 refine seqQ.n ?_
 refine Wp.sq ?_
 refine Wp.sq ?_
 refine Wp.rg ?_
 refine Ops.sg 1 1 ?_
 refine Ops.dn ?_
 refine seqQ.n ?_
 refine Wp.block' 0 [1, 4, 5] 1 (by kernel_rfl) ?_
 have hLx227 := f19_hLx227 m a0 a1 o n hn
 refine Wp.loop' [1, 4, 5, 6] 1 (by kernel_rfl) ⟨q1 ((dB a1) :: q2 ((.v (.sl .nil (List.map e40 []))) :: (rowF .nonfull 0 (List.map e40 v1)) :: (dI 1) :: q40 (q40 (q25 [])))), [(rowO 5 (List.map e40 v1)), .dead]⟩ (by generalize v1 = z0; cases z0 <;> kernel_rfl) ?_
 rcases brk_some h with ⟨r229, er229, h⟩ | ⟨y228, ey228, h⟩
 ·refine hLx227 _ v1 1  _ er229 n (by omega) (fun r er σ hσ => ?_) (fun y  ey => by cases ey)
  cases er
  refine seqQ.r ?_
  exact fnQ.r' (X19 n) (fun z => ((eL e40) z)) h hσ
 ·refine hLx227 _ v1 1  _ ey228 n (by omega) (fun r er => by cases er) (fun y  ey => ?_)
  cases ey
  refine seqQ.n ?_
  refine Wp.sq ?_
  refine Wp.rg ?_
  refine Ops.sg 1 1 ?_
  refine Ops.dn ?_
  refine seqQ.n ?_
  refine Wp.sq ?_
  refine Wp.sq ?_
  refine Wp.rg ?_
  refine Ops.sg 1 1 ?_
  refine Ops.on 2 (fun h0 e0 => (len_w (T := T) (g := .nonfull) h0 25 41 0 e40 y228.1 (by kernel_rfl))) ?_
  refine Ops.sg 1 3 ?_
  refine Ops.dn ?_
  refine seqQ.n ?_
  refine Wp.block' 4 [4, 8] 2 (by kernel_rfl) ?_
  have hLx396 := f19_hLx396 m a0 a1 o n hn y228
  refine Wp.loop' k19_0 2 (by kernel_rfl) ⟨q1 ((dB a1) :: q2 ((.v (.sl .nil (List.map e40 []))) :: (rowF .nonfull 0 (List.map e40 y228.1)) :: q2 ((rowF .nil 2 (List.map e40 [])) :: q40 (q6 ((rowF .nonfull 0 (List.map e40 y228.1)) :: (dI (y228.1.length : Int)) :: (dI 0) :: q40 (q14 [])))))), [(rowO 5 (List.map e40 y228.1)), .dead, (rowO 5 (List.map e40 []))]⟩ (by generalize y228.1 = z0; cases z0 <;> kernel_rfl) ?_
  rcases brk_some h with ⟨r398, er398, h⟩ | ⟨y397, ey397, h⟩
  ·refine hLx396 _ [] 0  _ er398 n (by omega) (fun r er σ hσ => ?_) (fun y  ey => by cases ey)
   cases er
   refine seqQ.r ?_
   exact fnQ.r' (X19 n) (fun z => ((eL e40) z)) h hσ
  ·refine hLx396 _ [] 0  _ ey397 n (by omega) (fun r er => by cases er) (fun y  ey => ?_)
   cases ey
   refine seqQ.n ?_
   refine Wp.sq ?_
   refine Wp.rg ?_
   refine Ops.sg 2 2 ?_
   refine Ops.dn ?_
   refine seqQ.n ?_
   refine Wp.ret (by kernel_rfl) ?_
   exact fnQ.r' (X19 n) (fun z => ((eL e40) z)) h (RetOk.mk' (rowF .nil 2 (List.map e40 y397.1)) (by kernel_rfl) (row_frz _ _ 2 5 _ (by kernel_rfl)))
end Go.Abs
