import Derived.Test.YthiikobbfpfbkaaDoorWZ
namespace Go.Abs
set_option linter.unusedVariables false
set_option maxRecDepth 100000
noncomputable def f8 (m : Nat) : Option Bool := some true
theorem ok8 (m : Nat) (o : Bool) (h : f8 m = some o) (n : Nat) (hn : m + 1 ≤ n) : Fn Proofs.Tryd.prog E n 8 [] (eB o) := by
 cases h
 obtain ⟨n, rfl⟩ : ∃ q, n = q + 1 := ⟨n - 1, by omega⟩
 exact ora_fn (xs := []) (by kernel_rfl) (by kernel_rfl) (by kernel_rfl) (F := trueF) rfl rfl
noncomputable def f43 (m : Nat) (a0 a1 : Int) : Option S27 :=
 some ((⟨a0, a1⟩ : S27))
noncomputable abbrev X43 (n : Nat) : Cx := cxOf Proofs.Tryd.prog E 43 n
theorem ok43 (m : Nat) (a0 a1 : Int) (o : S27) (h : f43 m a0 a1 = some o) (n : Nat) (hn : m + 1 ≤ n) : Fn Proofs.Tryd.prog E n 43 [.v (eI a0), .v (eI a1)] (e27 o) := by
 obtain ⟨n, rfl⟩ : ∃ q, n = q + 1 := ⟨n - 1, by omega⟩
 unfold f43 at h
 refine Fn.of (by kernel_rfl) (by kernel_rfl) (by kernel_rfl) ⟨(dI a0)::(dI a1)::u6 [], []⟩ (by kernel_rfl) (Wp.sq (Wp.rg (Ops.sg 1 1 (Ops.dn (seqQ.n (Wp.sq (Wp.rg (Ops.sg 4 4 (Ops.dn (seqQ.n (Wp.rt ?_)))))))))))
 exact fnQ.r' (X43 n) (fun z => (e27 z)) h (RetOk.mk' (.v (.agg [(vI a0), (vI a1)])) (by kernel_rfl) (by kernel_rfl))
noncomputable def f44 (m : Nat) (a0 : ByteArray) : Option (Int × Int) := some (((Lib.decodeGo a0).1 : Int), ((Lib.decodeGo a0).2 : Int))
theorem ok44 (m : Nat) (a0 : ByteArray) (o : (Int × Int)) (h : f44 m a0 = some o) (n : Nat) (hn : m + 1 ≤ n) : Fn Proofs.Tryd.prog E n 44 [.v (eS a0)] (.tuple [(eK .i32) o.1, eI o.2]) := by
 obtain ⟨n, rfl⟩ : ∃ q, n = q + 1 := ⟨n - 1, by omega⟩
 refine ora_fn (xs := [eS a0]) (by kernel_rfl) (by kernel_rfl) (by kernel_rfl) (F := decodeF) ?_ rfl
 cases h
 rfl
noncomputable def f27_r1 (m : Nat) (v26 : (List Int)) (v27 : Int) (v38 : (Int × Int)) (v44 : Bool) : Option (Stp ((List Int) × S27) ((List Int) × Int)) :=
 cnd v44
 (bnd (f43 m 5 v27) fun v46 =>
 some (.ret (([], v46))))
 (bnd (app 8 v26 ([w64 v38.1])) fun v47 =>
 some (.nxt (v47, w64 (v27 + v38.2))))
noncomputable def f27_B2 (m : Nat) (a0 : ByteArray) (v26 : (List Int)) (v27 : Int) : Option (Stp ((List Int) × S27) ((List Int) × Int)) :=
 cnd (decide (v27 < (a0.size : Int)))
 (bnd (ssub a0 v27 (a0.size : Int)) fun v37 =>
 bnd (f44 m v37) fun v38 =>
 f27_r1 m v26 v27 v38 ((v38.1 == 65533) && (decide (v38.2 ≤ 1))))
 (some (.brk (v26, v27)))
noncomputable def f27 (m : Nat) (a0 : ByteArray) : Option ((List Int) × S27) :=
 cnd (decide ((a0.size : Int) > 4000))
 (bnd (f43 m 1 (-1)) fun v1 =>
 some (([], v1)))
 (brk (iter (fun (y : (List Int) × Int) => f27_B2 m a0 y.1 y.2) m ([], 0)) some fun y49 =>
 some ((y49.1, (⟨0, 0⟩ : S27))))
noncomputable abbrev X27 (n : Nat) : Cx := cxOf Proofs.Tryd.prog E 27 n
noncomputable def C27 : Code := bodyOf Proofs.Tryd.prog 27
noncomputable abbrev b27_0 : AObj := .cells [(dI 0), (dI 0)]
theorem ok27 (m : Nat) (a0 : ByteArray) (o : ((List Int) × S27)) (h : f27 m a0 = some o) (n : Nat) (hn : m + 2 ≤ n) : Fn Proofs.Tryd.prog E n 27 [.v (eS a0)] (.tuple [(eL eI) o.1, e27 o.2]) := by
 obtain ⟨n, rfl⟩ : ∃ q, n = q + 1 := ⟨n - 1, by omega⟩
 unfold f27 at h
 refine Fn.of (by kernel_rfl) (by kernel_rfl) (by kernel_rfl) ⟨(.v (.str a0))::u40 [], []⟩ (by kernel_rfl) (Wp.sq (Wp.rg (Ops.sg 2 2 (Ops.dn (seqQ.n (Wp.sq (Wp.sq (Wp.rg (Ops.sg 3 3 (Ops.dn (seqQ.n ?_)))))))))))
 refine Wp.cd h [0, 2, 3] 1 (fun h => ?_) (fun h => ?_)
 ·refine Wp.sq (Wp.rg ?_)
  obtain ⟨v1, ev1, h⟩ := bnd_some h
  refine Ops.on 1 (fun h0 e0 => (call_ok (E' := E) (h := h0) (by kernel_rfl) (Args.v (vI 1) (eI 1) (by kernel_rfl) (Args.v (vI (-1)) (eI (-1)) (by kernel_rfl) Args.nil)) (ok43 m 1 (-1) v1 ev1 n (by omega)))) ?_
  refine Ops.sg 2 3 (Ops.dn (seqQ.n (Wp.rt (sqQ.r (seqQ.r ?_)))))
  exact fnQ.r' (X27 n) (fun z => (.tuple [(eL eI) z.1, e27 z.2])) h (RetOk.mk' (.v (.tuple [(.sl .nil (List.map eI [])), (.agg [(vI v1.fCode), (vI v1.fIndex)])])) (by kernel_rfl) (by kernel_rfl))
 ·refine Wp.sk (sqQ.n' (seqQ.n (Wp.sq (Wp.rg (Ops.sg 1 1 (Ops.dn (seqQ.n (Wp.sq (Wp.sq (Wp.rg (Ops.sg 1 1 (Ops.dn (seqQ.n (Wp.bk 0 [2, 3, 4] 2 ?_))))))))))))))
  have hLx48 : ∀ (kx29 : Nat) (v26 : (List Int)) (v27 : Int)  (ox28 : ((List Int) × S27) ⊕ ((List Int) × Int)), iter (fun (y : (List Int) × Int) => f27_B2 m a0 y.1 y.2) kx29 (v26, v27) = some ox28 → ∀ nx30, kx29 ≤ nx30 → (∀ r, ox28 = .inl r → ∀ σ, RetOk (X27 n) (resOf Proofs.Tryd.prog 27) (.tuple [(eL eI) r.1, e27 r.2]) σ → (seqQ (X27 n) (cR (cR (cR (cR C27)))) (fnQ (X27 n).E.T (resOf Proofs.Tryd.prog 27) (.tuple [(eL eI) o.1, e27 o.2]))) .ret σ) → (∀ (y : (List Int) × Int) , ox28 = .inr y → (seqQ (X27 n) (cR (cR (cR (cR C27)))) (fnQ (X27 n).E.T (resOf Proofs.Tryd.prog 27) (.tuple [(eL eI) o.1, e27 o.2]))) .normal ⟨Zs53 (.v (.sl .nil (List.map eI []))) y.1 (q36 []), [b27_0, .dead, (appO 1 (List.map eI y.1))]⟩) → Lp (X27 n) [0, 2, 3, 4, 5] 2 (cL (cL (cR (cL (cR (cR (cR C27))))))) nx30 ⟨Zs31 a0 (.v (.sl .nil (List.map eI []))) ((appD 2 (List.map eI v26))::(dI v27)::q35 []), [b27_0, .dead, (appO 1 (List.map eI v26))]⟩ (blkQ (X27 n) 0 [2, 3, 4] 2 (seqQ (X27 n) (cR (cR (cR (cR C27)))) (fnQ (X27 n).E.T (resOf Proofs.Tryd.prog 27) (.tuple [(eL eI) o.1, e27 o.2])))) := by
   intro kx29
   induction kx29 with
   | zero => intro v26 v27  ox28 h; exact (iter_zero h).elim
   | succ kx29 ihx31 =>
    intro v26 v27  ox28 h nx30 hnx34 hrx32 hxx33
    obtain ⟨nx30, rfl⟩ : ∃ q, nx30 = q + 1 := ⟨nx30 - 1, by omega⟩
    obtain ⟨sx35, h, hsx36⟩ := iter_some h
    have h : f27_B2 m a0 v26 v27 = some sx35 := h
    unfold f27_B2 at h
    refine Lp.succ (Wp.sq (Wp.sq (Wp.rg (Ops.sg 4 4 (Ops.dn (seqQ.n ?_))))))
    refine Wp.cd h [0, 2, 3, 4, 5] 3 (fun h => ?_) (fun h => ?_)
    ·refine Wp.sk (sqQ.n ⟨Zs31 a0 (.v (.sl .nil (List.map eI []))) ((appD 3 (List.map eI v26))::(dI v27)::q35 []), [b27_0, .dead, .dead, (appO 1 (List.map eI v26))]⟩ (by generalize v26 = z0; cases z0 <;> kernel_rfl) (seqQ.n (Wp.bk 1 [0, 2, 3, 4, 5] 4 (Wp.sq (Wp.rg (Ops.sg 2 2 ?_))))))
     obtain ⟨v37, ev37, h⟩ := bnd_some h
     refine Ops.on 3 (fun h0 e0 => (str_sub (T := T) h0 9 a0 v37 (some v27) none ev37 (by kernel_rfl))) ?_
     obtain ⟨v38, ev38, h⟩ := bnd_some h
     refine Ops.on 4 (fun h0 e0 => (call_ok (E' := E) (h := h0) (by kernel_rfl) (Args.v (.str v37) (eS v37) (by kernel_rfl) Args.nil) (ok44 m v37 v38 ev38 n (by omega)))) ?_
     refine Ops.sg 5 9 (Ops.dn (seqQ.n (Wp.sq (Wp.sq (Wp.rg (Ops.sg 3 3 ?_))))))
     refine Ops.hv (fun KQ => ∀ (d41 d42 : D) (v43 v44 : Bool), f27_r1 m v26 v27 v38 v44 = some sx35 → KQ 6 ⟨Zs31 a0 (.v (.sl .nil (List.map eI []))) ((appD 3 (List.map eI v26))::(dI v27)::(.v (.int .i32 v38.1))::(dI v38.2)::q8 ((.v (.tuple [(.int .i32 v38.1), (vI v38.2)]))::(.v (.str a0))::(dI v27)::(.v (.str v37))::(.v (.tuple [(.int .i32 v38.1), (vI v38.2)]))::(.v (.int .i32 v38.1))::(dI v38.2)::(.v (.int .i32 v38.1))::(dB v43)::(dB v43)::d41::d42::(dB v44)::q12 [])), [b27_0, .dead, .dead, (appO 1 (List.map eI v26))]⟩) ?_ fun J27j45 => ?_
     ·intro d41 d42 v43 v44 h
      unfold f27_r1 at h
      refine Ops.dn (seqQ.n ?_)
      refine Wp.cd h [0, 2, 3, 4, 5, 6, 7] 4 (fun h => ?_) (fun h => ?_)
      ·refine Wp.sq (Wp.rg (Ops.sg 1 1 ?_))
       obtain ⟨v46, ev46, h⟩ := bnd_some h
       refine Ops.on 2 (fun h0 e0 => (call_ok (E' := E) (h := h0) (by kernel_rfl) (Args.v (vI 5) (eI 5) (by kernel_rfl) (Args.v (vI v27) (eI v27) (by kernel_rfl) Args.nil)) (ok43 m 5 v27 v46 ev46 n (by omega)))) ?_
       refine Ops.sg 2 4 (Ops.dn (seqQ.n (Wp.rt (sqQ.r (seqQ.r (blkQ.r ?_))))))
       cases h
       refine lpQ.r (blkQ.r ?_)
       exact hrx32 _ hsx36 _ (RetOk.forget [0, 2, 3, 4, 5] (by kernel_rfl) (RetOk.mk' (.v (.tuple [(.sl .nil (List.map eI [])), (.agg [(vI v46.fCode), (vI v46.fIndex)])])) (by kernel_rfl) (by kernel_rfl)))
      ·refine Wp.sk (sqQ.n ⟨Zs31 a0 (.v (.sl .nil (List.map eI []))) ((appD 4 (List.map eI v26))::(dI v27)::(.v (.int .i32 v38.1))::(dI v38.2)::q33 []), [b27_0, .dead, .dead, .dead, (appO 1 (List.map eI v26))]⟩ (by generalize v26 = z0; cases z0 <;> kernel_rfl) (seqQ.n (Wp.sq (Wp.rg (Ops.sg 4 4 ?_)))))
       obtain ⟨v47, ev47, h⟩ := bnd_some h
       refine Ops.on 5 (fun h0 e0 => (app_r (T := T) (g := .nil) h0 22 3 4 1 ti3 .nonfull eI v26 ([w64 v38.1]) v47 ev47 (by kernel_rfl) (by kernel_rfl) (by kernel_rfl) (by kernel_rfl) (fun _ => rfl) (hq_of e0 (by kernel_rfl)))) ?_
       refine Ops.sg 1 6 (Ops.dn (seqQ.n (Wp.rg (Ops.sg 4 4 (Ops.dn (blkQ.n ⟨Zs31 a0 (.v (.sl .nil (List.map eI []))) ((appD 4 (List.map eI v47))::(dI (w64 (v27 + v38.2)))::q35 []), [b27_0, .dead, .dead, .dead, (appO 1 (List.map eI v47))]⟩ (by generalize v47 = z0; cases z0 <;> kernel_rfl) (lpQ.n ⟨Zs31 a0 (.v (.sl .nil (List.map eI []))) ((appD 2 (List.map eI v47))::(dI (w64 (v27 + v38.2)))::q35 []), [b27_0, .dead, (appO 1 (List.map eI v47))]⟩ (by generalize v47 = z0; cases z0 <;> kernel_rfl) ?_)))))))
       cases h
       exact ihx31 v47 (w64 (v27 + v38.2))  _ hsx36 _ (by omega) hrx32 hxx33
     refine Ops.hv (fun KQ => ∀ v39 : Bool, f27_r1 m v26 v27 v38 (v39 && (decide (v38.2 ≤ 1))) = some sx35 → KQ 3 ⟨Zs31 a0 (.v (.sl .nil (List.map eI []))) ((appD 3 (List.map eI v26))::(dI v27)::(.v (.int .i32 v38.1))::(dI v38.2)::q8 ((.v (.tuple [(.int .i32 v38.1), (vI v38.2)]))::(.v (.str a0))::(dI v27)::(.v (.str v37))::(.v (.tuple [(.int .i32 v38.1), (vI v38.2)]))::(.v (.int .i32 v38.1))::(dI v38.2)::(.v (.int .i32 v38.1))::(dB v39)::(dB v39)::q15 [])), [b27_0, .dead, .dead, (appO 1 (List.map eI v26))]⟩) ?_ fun G27g40 => Ops.sx (G27g40 (v38.1 == 65533) h)
     intro v39 h
     cases v39
     ·refine Ops.sg 3 6 ?_
      exact Ops.sx (J27j45 U U false false h)
     ·refine Ops.sg 3 6 ?_
      exact Ops.sx (J27j45 (dI v38.2) (dB (decide (v38.2 ≤ 1))) true (decide (v38.2 ≤ 1)) h)
    ·refine Wp.ex 0 (sqQ.x (seqQ.x ?_))
     cases h
     refine lpQ.x (blkQ.x ⟨Zs53 (.v (.sl .nil (List.map eI []))) v26 (q36 []), [b27_0, .dead, (appO 1 (List.map eI v26))]⟩ (by generalize v26 = z0; cases z0 <;> kernel_rfl) ?_)
     exact hxx33 (v26, v27)  hsx36
  refine Wp.loop' [0, 2, 3, 4, 5] 2 (by kernel_rfl) ⟨Zs31 a0 (.v (.sl .nil (List.map eI []))) ((appD 2 (List.map eI []))::(dI 0)::q35 []), [b27_0, .dead, .dead]⟩ (by kernel_rfl) ?_
  rcases brk_some h with ⟨r50, er50, h⟩ | ⟨y49, ey49, h⟩
  ·refine hLx48 _ [] 0  _ er50 n (by omega) (fun r er σ hσ => ?_) (fun y  ey => by cases ey)
   cases er
   refine seqQ.r ?_
   exact fnQ.r' (X27 n) (fun z => (.tuple [(eL eI) z.1, e27 z.2])) h hσ
  ·refine hLx48 _ [] 0  _ ey49 n (by omega) (fun r er => by cases er) (fun y  ey => ?_)
   cases ey
   refine seqQ.n (Wp.sq (Wp.rg (Ops.sg 4 4 (Ops.dn (seqQ.n (Wp.rt ?_))))))
   exact fnQ.r' (X27 n) (fun z => (.tuple [(eL eI) z.1, e27 z.2])) h (RetOk.tup [(appD 2 (List.map eI y49.1)), (.v (.agg [(vI 0), (vI 0)]))] (by kernel_rfl) (.d (appD 2 (List.map eI y49.1)) _ (appD_frz _ _ _ _) (appF_nt _ _ _) (.v (.agg [(vI 0), (vI 0)]) _ (by kernel_rfl) (by kernel_rfl) .nil)))
noncomputable def f46_r1 (m : Nat) (v16 : Bool) : Option Bool :=
 some v16
noncomputable def f46 (m : Nat) (a0 : S58) (a1 : Int) : Option Bool :=
 bnd (cnd (decide (a0.fAt < (a0.fL.length : Int)))
 (bnd (idx a0.fL a0.fAt) fun v18 =>
 some (v18 == a1))
 (some false)) fun v16 =>
 f46_r1 m v16
noncomputable abbrev X46 (n : Nat) : Cx := cxOf Proofs.Tryd.prog E 46 n
theorem ok46 (m : Nat) (a0 : S58) (a1 : Int) (o : Bool) (h : f46 m a0 a1 = some o) (n : Nat) (hn : m + 1 ≤ n) : FnP Proofs.Tryd.prog E n 46 (c58 a0) [.v (eI a1)] (eB o) (c58 a0) := by
 obtain ⟨n, rfl⟩ : ∃ q, n = q + 1 := ⟨n - 1, by omega⟩
 unfold f46 at h
 refine FnP.of (by kernel_rfl) (by kernel_rfl) (by kernel_rfl) ⟨(.ptr 0 0)::(dI a1)::u27 [], [(.cells [(dP eI a0.fL), (dI a0.fAt)])]⟩ (by kernel_rfl) (Wp.sq (Wp.rg (Ops.sg 1 1 (Ops.dn (seqQ.n (Wp.sq (Wp.rg (Ops.sg 8 8 ?_))))))))
 refine Ops.on 9 (fun h0 e0 => (len_r (T := T) h0 22 3 .plain eI a0.fL (by kernel_rfl))) ?_
 refine Ops.sg 2 11 ?_
 refine Ops.hv (fun KQ => ∀ (d3 d4 d5 d6 d7 d8 d9 d10 d11 d12 d13 d14 : D) (v15 v16 : Bool), f46_r1 m v16 = some o → KQ 24 ⟨Zs51 a1 a0.fAt a0.fL (a0.fL.length : Int) v15 (d3::d4::d5::d6::d7::d8::d9::d10::d11::d12::d13::d14::(dB v16)::[]), [(.cells [(dP eI a0.fL), (dI a0.fAt)])]⟩) ?_ fun J46j17 => ?_
 ·intro d3 d4 d5 d6 d7 d8 d9 d10 d11 d12 d13 d14 v15 v16 h
  unfold f46_r1 at h
  refine Ops.sg 1 25 (Ops.dn (seqQ.n (Wp.rt ?_)))
  exact fnQP.r1 (X46 n) (fun z => (eB z)) (c58 a0) h (RetOkP.mk' (dB v16) (by kernel_rfl) (by kernel_rfl) (by kernel_rfl) (by kernel_rfl))
 obtain ⟨v16, ev16, h⟩ := bnd_some h
 refine Ops.hv (fun KQ => ∀ v1 : Bool, (cnd v1 (bnd (idx a0.fL a0.fAt) fun v18 => some (v18 == a1)) (some false)) = some v16 → KQ 11 ⟨Zs51 a1 a0.fAt a0.fL (a0.fL.length : Int) v1 (u13 []), [(.cells [(dP eI a0.fL), (dI a0.fAt)])]⟩) ?_ fun G46g2 => Ops.sx (G46g2 (decide (a0.fAt < (a0.fL.length : Int))) ev16)
 intro v1 ev16
 cases v1
 ·have ev16 := cnd_f ev16
  refine Ops.sg 13 24 ?_
  exact Ops.sx (J46j17 U U U U U U U U U U U U false false (some_sub (fun v16 => f46_r1 m v16 = some o) ev16 h))
 ·have ev16 := cnd_t ev16
  refine Ops.sg 8 19 ?_
  obtain ⟨v18, ev18, ev16⟩ := bnd_some ev16
  refine Ops.on 20 (fun h0 e0 => (ix_r (T := T) h0 22 3 1 .plain eI a0.fL a0.fAt v18 ev18 (by kernel_rfl) (by kernel_rfl) (fun _ => rfl))) ?_
  refine Ops.sg 4 24 ?_
  exact Ops.sx (J46j17 (.ptr 0 0) (.ptr 0 0) (.ptr 0 0) (dP eI a0.fL) (.ptr 0 0) (.ptr 0 0) (.ptr 0 1) (dI a0.fAt) (.vptr [(vI v18)]) (dI v18) (dI a1) (dB (v18 == a1)) true (v18 == a1) (some_sub (fun v16 => f46_r1 m v16 = some o) ev16 h))
noncomputable def f56 (m : Nat) (a0 : ByteArray) (a1 : Int) : Option Int := some (Lib.indexByte a0.data.toList a1.toNat.toUInt8)
theorem ok56 (m : Nat) (a0 : ByteArray) (a1 o : Int) (h : f56 m a0 a1 = some o) (n : Nat) (hn : m + 1 ≤ n) : Fn Proofs.Tryd.prog E n 56 [.v (eS a0), .v ((eK .u8) a1)] (eI o) := by
 obtain ⟨n, rfl⟩ : ∃ q, n = q + 1 := ⟨n - 1, by omega⟩
 refine ora_fn (xs := [eS a0, (eK .u8) a1]) (by kernel_rfl) (by kernel_rfl) (by kernel_rfl) (F := ixbyteF) ?_ rfl
 cases h
 rfl
noncomputable def f75_r1 (m : Nat) (a0 : S58) (v31 : Bool) : Option ((Int × Bool) × S58) :=
 cnd v31
 (some (((0, false), a0)))
 (bnd (idx a0.fL (w64 (w64 (a0.fAt + 1) - 1))) fun v33 =>
 some (((w64 (v33 - 48), true), (⟨a0.fL, w64 (a0.fAt + 1)⟩ : S58))))
noncomputable def f75_r2 (m : Nat) (a0 : S58) (v15 : Bool) : Option ((Int × Bool) × S58) :=
 bnd (cnd v15
 (some true)
 (bnd (idx a0.fL a0.fAt) fun v34 =>
 some (decide (v34 > 57)))) fun v31 =>
 f75_r1 m a0 v31
noncomputable def f75 (m : Nat) (a0 : S58) : Option ((Int × Bool) × S58) :=
 bnd (cnd (a0.fAt == (a0.fL.length : Int))
 (some true)
 (bnd (idx a0.fL a0.fAt) fun v35 =>
 some (decide (v35 < 48)))) fun v15 =>
 f75_r2 m a0 v15
noncomputable abbrev X75 (n : Nat) : Cx := cxOf Proofs.Tryd.prog E 75 n
theorem ok75 (m : Nat) (a0 : S58) (o : ((Int × Bool) × S58)) (h : f75 m a0 = some o) (n : Nat) (hn : m + 1 ≤ n) : FnP Proofs.Tryd.prog E n 75 (c58 a0) [] (.tuple [eI o.1.1, eB o.1.2]) (c58 o.2) := by
 obtain ⟨n, rfl⟩ : ∃ q, n = q + 1 := ⟨n - 1, by omega⟩
 unfold f75 at h
 refine FnP.of (by kernel_rfl) (by kernel_rfl) (by kernel_rfl) ⟨(.ptr 0 0)::u40 (u18 []), [(.cells [(dP eI a0.fL), (dI a0.fAt)])]⟩ (by kernel_rfl) (Wp.sq (Wp.rg (Ops.sg 2 2 (Ops.dn (seqQ.n (Wp.sq (Wp.sq (Wp.rg (Ops.sg 8 8 ?_)))))))))
 refine Ops.on 9 (fun h0 e0 => (len_r (T := T) h0 22 3 .plain eI a0.fL (by kernel_rfl))) ?_
 refine Ops.sg 2 11 ?_
 refine Ops.hv (fun KQ => ∀ (d3 d4 d5 d6 d7 d8 d9 d10 d11 d12 d13 : D) (v14 v15 : Bool), f75_r2 m a0 v15 = some o → KQ 23 ⟨Zs24 a0.fAt a0.fL (a0.fL.length : Int) v14 (d3::d4::d5::d6::d7::d8::d9::d10::d11::d12::d13::(dB v15)::u32 []), [(.cells [(dP eI a0.fL), (dI a0.fAt)])]⟩) ?_ fun J75j16 => ?_
 ·intro d3 d4 d5 d6 d7 d8 d9 d10 d11 d12 d13 v14 v15 h
  unfold f75_r2 at h
  refine Ops.sg 1 24 ?_
  refine Ops.hv (fun KQ => ∀ (d19 d20 d21 d22 d23 d24 d25 d26 d27 d28 d29 : D) (v30 v31 : Bool), f75_r1 m a0 v31 = some o → KQ 36 ⟨Zs24 a0.fAt a0.fL (a0.fL.length : Int) v14 (d3::d4::d5::d6::d7::d8::d9::d10::d11::d12::d13::(dB v30)::(dB v30)::d19::d20::d21::d22::d23::d24::d25::d26::d27::d28::d29::(dB v31)::u19 []), [(.cells [(dP eI a0.fL), (dI a0.fAt)])]⟩) ?_ fun J75j32 => ?_
  ·intro d19 d20 d21 d22 d23 d24 d25 d26 d27 d28 d29 v30 v31 h
   unfold f75_r1 at h
   refine Ops.dn (seqQ.n ?_)
   refine Wp.cd h [0, 2, 3] 1 (fun h => ?_) (fun h => ?_)
   ·refine Wp.sq (Wp.rg (Ops.sg 2 2 (Ops.dn (seqQ.n (Wp.rt (sqQ.r (seqQ.r ?_)))))))
    exact fnQP.r' (X75 n) (fun z => (.tuple [eI z.1, eB z.2])) c58 h (RetOkP.mk' (.v (.tuple [(vI 0), (vB false)])) (by kernel_rfl) (by kernel_rfl) (by kernel_rfl) (by kernel_rfl))
   ·refine Wp.sk (sqQ.n' (seqQ.n (Wp.sq (Wp.rg (Ops.sg 8 8 (Ops.dn (seqQ.n (Wp.sq (Wp.rg (Ops.sg 9 9 ?_))))))))))
    obtain ⟨v33, ev33, h⟩ := bnd_some h
    refine Ops.on 10 (fun h0 e0 => (ix_r (T := T) h0 22 3 1 .plain eI a0.fL (w64 (w64 (a0.fAt + 1) - 1)) v33 ev33 (by kernel_rfl) (by kernel_rfl) (fun _ => rfl))) ?_
    refine Ops.sg 4 14 (Ops.dn (seqQ.n (Wp.rt ?_)))
    exact fnQP.r' (X75 n) (fun z => (.tuple [eI z.1, eB z.2])) c58 h (RetOkP.mk' (.v (.tuple [(vI (w64 (v33 - 48))), (vB true)])) (by kernel_rfl) (by kernel_rfl) (by kernel_rfl) (by kernel_rfl))
  obtain ⟨v31, ev31, h⟩ := bnd_some h
  refine Ops.hv (fun KQ => ∀ v17 : Bool, (cnd v17 (some true) (bnd (idx a0.fL a0.fAt) fun v34 => some (decide (v34 > 57)))) = some v31 → KQ 24 ⟨Zs24 a0.fAt a0.fL (a0.fL.length : Int) v14 (d3::d4::d5::d6::d7::d8::d9::d10::d11::d12::d13::(dB v17)::(dB v17)::u31 []), [(.cells [(dP eI a0.fL), (dI a0.fAt)])]⟩) ?_ fun G75g18 => Ops.sx (G75g18 v15 ev31)
  intro v17 ev31
  cases v17
  ·have ev31 := cnd_f ev31
   refine Ops.sg 8 32 ?_
   obtain ⟨v34, ev34, ev31⟩ := bnd_some ev31
   refine Ops.on 33 (fun h0 e0 => (ix_r (T := T) h0 22 3 1 .plain eI a0.fL a0.fAt v34 ev34 (by kernel_rfl) (by kernel_rfl) (fun _ => rfl))) ?_
   refine Ops.sg 3 36 ?_
   exact Ops.sx (J75j32 (.ptr 0 0) (.ptr 0 0) (.ptr 0 0) (dP eI a0.fL) (.ptr 0 0) (.ptr 0 0) (.ptr 0 1) (dI a0.fAt) (.vptr [(vI v34)]) (dI v34) (dB (decide (v34 > 57))) false (decide (v34 > 57)) (some_sub (fun v31 => f75_r1 m a0 v31 = some o) ev31 h))
  ·have ev31 := cnd_t ev31
   refine Ops.sg 12 36 ?_
   exact Ops.sx (J75j32 U U U U U U U U U U U true true (some_sub (fun v31 => f75_r1 m a0 v31 = some o) ev31 h))
 obtain ⟨v15, ev15, h⟩ := bnd_some h
 refine Ops.hv (fun KQ => ∀ v1 : Bool, (cnd v1 (some true) (bnd (idx a0.fL a0.fAt) fun v35 => some (decide (v35 < 48)))) = some v15 → KQ 11 ⟨Zs24 a0.fAt a0.fL (a0.fL.length : Int) v1 (u40 (u4 [])), [(.cells [(dP eI a0.fL), (dI a0.fAt)])]⟩) ?_ fun G75g2 => Ops.sx (G75g2 (a0.fAt == (a0.fL.length : Int)) ev15)
 intro v1 ev15
 cases v1
 ·have ev15 := cnd_f ev15
  refine Ops.sg 8 19 ?_
  obtain ⟨v35, ev35, ev15⟩ := bnd_some ev15
  refine Ops.on 20 (fun h0 e0 => (ix_r (T := T) h0 22 3 1 .plain eI a0.fL a0.fAt v35 ev35 (by kernel_rfl) (by kernel_rfl) (fun _ => rfl))) ?_
  refine Ops.sg 3 23 ?_
  exact Ops.sx (J75j16 (.ptr 0 0) (.ptr 0 0) (.ptr 0 0) (dP eI a0.fL) (.ptr 0 0) (.ptr 0 0) (.ptr 0 1) (dI a0.fAt) (.vptr [(vI v35)]) (dI v35) (dB (decide (v35 < 48))) false (decide (v35 < 48)) (some_sub (fun v15 => f75_r2 m a0 v15 = some o) ev15 h))
 ·have ev15 := cnd_t ev15
  refine Ops.sg 12 23 ?_
  exact Ops.sx (J75j16 U U U U U U U U U U U true true (some_sub (fun v15 => f75_r2 m a0 v15 = some o) ev15 h))
noncomputable def f81_j1 (m : Nat) (a0 : S58) (v57 : Int) : Option ((Int × Bool) × S58) :=
 bnd (idx a0.fL v57) fun v59 =>
 cnd (v59 == 0)
 (some (((0, false), (⟨a0.fL, v57⟩ : S58))))
 (bnd (idx a0.fL (w64 (w64 (v57 + 1) - 1))) fun v60 =>
 some (((v60, true), (⟨a0.fL, w64 (v57 + 1)⟩ : S58))))
noncomputable def f81_r2 (m : Nat) (a0 : S58) (v90 : Bool) : Option ((Int × Bool) × S58) :=
 cnd v90
 (some (((0, false), a0)))
 (f81_j1 m a0 a0.fAt)
noncomputable def f81 (m : Nat) (a0 : S58) : Option ((Int × Bool) × S58) :=
 bnd (f46 m a0 92) fun v1 =>
 cnd v1
 (cnd ((w64 (a0.fAt + 1)) == (a0.fL.length : Int))
 (some (((0, false), (⟨a0.fL, w64 (a0.fAt + 1)⟩ : S58))))
 (f81_j1 m a0 (w64 (a0.fAt + 1))))
 (bnd (cnd (a0.fAt == (a0.fL.length : Int))
 (some true)
 (bnd (idx a0.fL a0.fAt) fun v92 =>
 cnd (decide (v92 < 128))
 (bnd (idx a0.fL a0.fAt) fun v95 =>
 bnd (f56 m ((⟨#[40, 41, 91, 93, 124, 38, 45, 42, 43, 63, 123, 125, 44, 92]⟩ : ByteArray)) (IntKind.u8.wrap v95)) fun v96 =>
 some (decide (v96 ≥ 0)))
 (some false))) fun v90 =>
 f81_r2 m a0 v90)
noncomputable abbrev X81 (n : Nat) : Cx := cxOf Proofs.Tryd.prog E 81 n
noncomputable def C81 : Code := bodyOf Proofs.Tryd.prog 81
theorem ok81 (m : Nat) (a0 : S58) (o : ((Int × Bool) × S58)) (h : f81 m a0 = some o) (n : Nat) (hn : m + 2 ≤ n) : FnP Proofs.Tryd.prog E n 81 (c58 a0) [] (.tuple [eI o.1.1, eB o.1.2]) (c58 o.2) := by
 obtain ⟨n, rfl⟩ : ∃ q, n = q + 1 := ⟨n - 1, by omega⟩
 unfold f81 at h
 refine FnP.of (by kernel_rfl) (by kernel_rfl) (by kernel_rfl) ⟨(.ptr 0 0)::u40 (u40 (u9 [])), [(.cells [(dP eI a0.fL), (dI a0.fAt)])]⟩ (by kernel_rfl) (Wp.sq (Wp.rg (Ops.sg 2 2 (Ops.dn (seqQ.n (Wp.sq (Wp.sq (Wp.rg (Ops.sg 1 1 ?_)))))))))
 obtain ⟨v1, ev1, h⟩ := bnd_some h
 refine Ops.on 2 (fun h0 e0 => (call_ptr (E' := E) (h := h0) (q := 0) (cs := c58 a0) (by kernel_rfl) (by kernel_rfl) (by kernel_rfl) (hq_of e0 (by kernel_rfl)) (by kernel_rfl) (Args.v (vI 92) (eI 92) (by kernel_rfl) Args.nil) (ok46 m a0 92 v1 ev1 n (by omega)))) ?_
 refine Ops.dn (seqQ.n ?_)
 have J81j58 : ∀ (v57 : Int) (d2 d3 d4 d5 d6 d7 d8 d9 d10 d11 d12 d13 d14 d15 d16 d17 d18 d19 d20 d21 d22 d23 d24 d25 d26 d27 d28 d29 d30 d31 d32 d33 d34 d35 d36 d37 d38 d39 d40 d41 d42 d43 d44 d45 d46 d47 d48 d49 d50 d51 d52 d53 d54 d55 d56 : D), f81_j1 m a0 v57 = some o → (seqQ (X81 n) (cR (cR C81)) (fnQP (X81 n).E.T (resOf Proofs.Tryd.prog 81) (.tuple [eI o.1.1, eB o.1.2]) (c58 o.2))) .normal ⟨(.ptr 0 0)::u1 ((dI 0)::(dB false)::(.ptr 0 0)::(dB v1)::d2::d3::d4::d5::d6::d7::d8::d9::d10::d11::d12::d13::d14::d15::d16::d17::d18::d19::d20::d21::d22::d23::d24::d25::d26::d27::d28::d29::d30::d31::d32::d33::d34::d35::d36::d37::d38::d39::d40::d41::d42::d43::d44::d45::d46::d47::d48::d49::d50::d51::d52::d53::d54::d55::d56::u29 []), [(.cells [(dP eI a0.fL), (dI v57)])]⟩ := by
  intro v57 d2 d3 d4 d5 d6 d7 d8 d9 d10 d11 d12 d13 d14 d15 d16 d17 d18 d19 d20 d21 d22 d23 d24 d25 d26 d27 d28 d29 d30 d31 d32 d33 d34 d35 d36 d37 d38 d39 d40 d41 d42 d43 d44 d45 d46 d47 d48 d49 d50 d51 d52 d53 d54 d55 d56 h
  unfold f81_j1 at h
  refine seqQ.n (Wp.sq (Wp.sq (Wp.rg (Ops.sg 8 8 ?_))))
  obtain ⟨v59, ev59, h⟩ := bnd_some h
  refine Ops.on 9 (fun h0 e0 => (ix_r (T := T) h0 22 3 1 .plain eI a0.fL v57 v59 ev59 (by kernel_rfl) (by kernel_rfl) (fun _ => rfl))) ?_
  refine Ops.sg 2 11 (Ops.dn (seqQ.n ?_))
  refine Wp.cd h [0, 2, 3] 1 (fun h => ?_) (fun h => ?_)
  ·refine Wp.sq (Wp.rg (Ops.sg 2 2 (Ops.dn (seqQ.n (Wp.rt (sqQ.r (seqQ.r ?_)))))))
   exact fnQP.r' (X81 n) (fun z => (.tuple [eI z.1, eB z.2])) c58 h (RetOkP.mk' (.v (.tuple [(vI 0), (vB false)])) (by kernel_rfl) (by kernel_rfl) (by kernel_rfl) (by kernel_rfl))
  ·refine Wp.sk (sqQ.n' (seqQ.n (Wp.sq (Wp.rg (Ops.sg 8 8 (Ops.dn (seqQ.n (Wp.sq (Wp.rg (Ops.sg 9 9 ?_))))))))))
   obtain ⟨v60, ev60, h⟩ := bnd_some h
   refine Ops.on 10 (fun h0 e0 => (ix_r (T := T) h0 22 3 1 .plain eI a0.fL (w64 (w64 (v57 + 1) - 1)) v60 ev60 (by kernel_rfl) (by kernel_rfl) (fun _ => rfl))) ?_
   refine Ops.sg 3 13 (Ops.dn (seqQ.n (Wp.rt ?_)))
   exact fnQP.r' (X81 n) (fun z => (.tuple [eI z.1, eB z.2])) c58 h (RetOkP.mk' (.v (.tuple [(vI v60), (vB true)])) (by kernel_rfl) (by kernel_rfl) (by kernel_rfl) (by kernel_rfl))
 refine Wp.cd h [0, 2, 3] 1 (fun h => ?_) (fun h => ?_)
 ·refine Wp.sq (Wp.rg (Ops.sg 8 8 (Ops.dn (seqQ.n (Wp.sq (Wp.rg (Ops.sg 8 8 ?_)))))))
  refine Ops.on 9 (fun h0 e0 => (len_r (T := T) h0 22 3 .plain eI a0.fL (by kernel_rfl))) ?_
  refine Ops.sg 1 10 (Ops.dn (seqQ.n ?_))
  refine Wp.cd h [0, 2, 3] 1 (fun h => ?_) (fun h => ?_)
  ·refine Wp.sq (Wp.rg (Ops.sg 2 2 (Ops.dn (seqQ.n (Wp.rt (sqQ.r (sqQ.r (seqQ.r ?_))))))))
   exact fnQP.r' (X81 n) (fun z => (.tuple [eI z.1, eB z.2])) c58 h (RetOkP.mk' (.v (.tuple [(vI 0), (vB false)])) (by kernel_rfl) (by kernel_rfl) (by kernel_rfl) (by kernel_rfl))
  ·refine Wp.sk (sqQ.n' (sqQ.m ⟨(.ptr 0 0)::u1 ((dI 0)::(dB false)::(.ptr 0 0)::(dB v1)::(.ptr 0 0)::(.ptr 0 0)::(.ptr 0 1)::(dI a0.fAt)::(dI (w64 (a0.fAt + 1)))::(.ptr 0 0)::(.ptr 0 1)::(.ptr 0 0)::(.ptr 0 0)::(.ptr 0 1)::(dI (w64 (a0.fAt + 1)))::(.ptr 0 0)::(.ptr 0 0)::(.ptr 0 0)::(dP eI a0.fL)::(dI (a0.fL.length : Int))::(dB ((w64 (a0.fAt + 1)) == (a0.fL.length : Int)))::u40 (u27 [])), [(.cells [(dP eI a0.fL), (dI (w64 (a0.fAt + 1)))])]⟩ ?_))
   exact J81j58 (w64 (a0.fAt + 1)) _ _ _ _ _ _ _ _ _ _ _ _ _ _ _ _ _ _ _ _ _ _ _ _ _ _ _ _ _ _ _ _ _ _ _ _ _ _ _ _ _ _ _ _ _ _ _ _ _ _ _ _ _ _ _ h
 ·refine Wp.sq (Wp.rg (Ops.sg 8 8 ?_))
  refine Ops.on 9 (fun h0 e0 => (len_r (T := T) h0 22 3 .plain eI a0.fL (by kernel_rfl))) ?_
  refine Ops.sg 2 11 ?_
  refine Ops.hv (fun KQ => ∀ (d63 d64 d65 d66 d67 d68 d69 d70 d71 d72 d73 d74 d75 d76 d77 d78 d79 d80 d81 d82 d83 d84 d85 d86 d87 d88 : D) (v89 v90 : Bool), f81_r2 m a0 v90 = some o → KQ 38 ⟨Zs23 v1 a0.fAt a0.fL (a0.fL.length : Int) ((dB v89)::(dB v89)::d63::d64::d65::d66::d67::d68::d69::d70::d71::d72::d73::d74::d75::d76::d77::d78::d79::d80::d81::d82::d83::d84::d85::d86::d87::d88::(dB v90)::u29 []), [(.cells [(dP eI a0.fL), (dI a0.fAt)])]⟩) ?_ fun J81j91 => ?_
  ·intro d63 d64 d65 d66 d67 d68 d69 d70 d71 d72 d73 d74 d75 d76 d77 d78 d79 d80 d81 d82 d83 d84 d85 d86 d87 d88 v89 v90 h
   unfold f81_r2 at h
   refine Ops.dn (seqQ.n ?_)
   refine Wp.cd h [0, 2, 3] 1 (fun h => ?_) (fun h => ?_)
   ·refine Wp.sq (Wp.rg (Ops.sg 2 2 (Ops.dn (seqQ.n (Wp.rt (sqQ.r (sqQ.r (seqQ.r ?_))))))))
    exact fnQP.r' (X81 n) (fun z => (.tuple [eI z.1, eB z.2])) c58 h (RetOkP.mk' (.v (.tuple [(vI 0), (vB false)])) (by kernel_rfl) (by kernel_rfl) (by kernel_rfl) (by kernel_rfl))
   ·refine Wp.sk (sqQ.n' (sqQ.m ⟨Zs23 v1 a0.fAt a0.fL (a0.fL.length : Int) ((dB v89)::(dB v89)::d63::d64::d65::d66::d67::d68::d69::d70::d71::d72::d73::d74::d75::d76::d77::d78::d79::d80::d81::d82::d83::d84::d85::d86::d87::d88::(dB v90)::u29 []), [(.cells [(dP eI a0.fL), (dI a0.fAt)])]⟩ ?_))
    exact J81j58 a0.fAt _ _ _ _ _ _ _ _ _ _ _ _ _ _ _ _ _ _ _ _ _ _ _ _ _ _ _ _ _ _ _ _ _ _ _ _ _ _ _ _ _ _ _ _ _ _ _ _ _ _ _ _ _ _ _ h
  obtain ⟨v90, ev90, h⟩ := bnd_some h
  refine Ops.hv (fun KQ => ∀ v61 : Bool, (cnd v61 (some true) (bnd (idx a0.fL a0.fAt) fun v92 => cnd (decide (v92 < 128)) (bnd (idx a0.fL a0.fAt) fun v95 => bnd (f56 m ((⟨#[40, 41, 91, 93, 124, 38, 45, 42, 43, 63, 123, 125, 44, 92]⟩ : ByteArray)) (IntKind.u8.wrap v95)) fun v96 => some (decide (v96 ≥ 0))) (some false))) = some v90 → KQ 11 ⟨Zs23 v1 a0.fAt a0.fL (a0.fL.length : Int) ((dB v61)::(dB v61)::u40 (u16 [])), [(.cells [(dP eI a0.fL), (dI a0.fAt)])]⟩) ?_ fun G81g62 => Ops.sx (G81g62 (a0.fAt == (a0.fL.length : Int)) ev90)
  intro v61 ev90
  cases v61
  ·have ev90 := cnd_f ev90
   refine Ops.sg 8 19 ?_
   obtain ⟨v92, ev92, ev90⟩ := bnd_some ev90
   refine Ops.on 20 (fun h0 e0 => (ix_r (T := T) h0 22 3 1 .plain eI a0.fL a0.fAt v92 ev92 (by kernel_rfl) (by kernel_rfl) (fun _ => rfl))) ?_
   refine Ops.sg 3 23 ?_
   refine Ops.hv (fun KQ => ∀ v93 : Bool, (cnd v93 (bnd (idx a0.fL a0.fAt) fun v95 => bnd (f56 m ((⟨#[40, 41, 91, 93, 124, 38, 45, 42, 43, 63, 123, 125, 44, 92]⟩ : ByteArray)) (IntKind.u8.wrap v95)) fun v96 => some (decide (v96 ≥ 0))) (some false)) = some v90 → KQ 23 ⟨Zs23 v1 a0.fAt a0.fL (a0.fL.length : Int) ((dB false)::(dB false)::(.ptr 0 0)::(.ptr 0 0)::(.ptr 0 0)::(dP eI a0.fL)::(.ptr 0 0)::(.ptr 0 0)::(.ptr 0 1)::(dI a0.fAt)::(.vptr [(vI v92)])::(dI v92)::(dB v93)::(dB v93)::u40 (u4 [])), [(.cells [(dP eI a0.fL), (dI a0.fAt)])]⟩) ?_ fun G81g94 => Ops.sx (G81g94 (decide (v92 < 128)) ev90)
   intro v93 ev90
   cases v93
   ·have ev90 := cnd_f ev90
    refine Ops.sg 15 38 ?_
    exact Ops.sx (J81j91 (.ptr 0 0) (.ptr 0 0) (.ptr 0 0) (dP eI a0.fL) (.ptr 0 0) (.ptr 0 0) (.ptr 0 1) (dI a0.fAt) (.vptr [(vI v92)]) (dI v92) (dB false) (dB false) U U U U U U U U U U U U U (dB false) false false (some_sub (fun v90 => f81_r2 m a0 v90 = some o) ev90 h))
   ·have ev90 := cnd_t ev90
    refine Ops.sg 8 31 ?_
    obtain ⟨v95, ev95, ev90⟩ := bnd_some ev90
    refine Ops.on 32 (fun h0 e0 => (ix_r (T := T) h0 22 3 1 .plain eI a0.fL a0.fAt v95 ev95 (by kernel_rfl) (by kernel_rfl) (fun _ => rfl))) ?_
    refine Ops.sg 2 34 ?_
    obtain ⟨v96, ev96, ev90⟩ := bnd_some ev90
    refine Ops.on 35 (fun h0 e0 => (call_ok (E' := E) (h := h0) (by kernel_rfl) (Args.v (.str ((⟨#[40, 41, 91, 93, 124, 38, 45, 42, 43, 63, 123, 125, 44, 92]⟩ : ByteArray))) (eS ((⟨#[40, 41, 91, 93, 124, 38, 45, 42, 43, 63, 123, 125, 44, 92]⟩ : ByteArray))) (by kernel_rfl) (Args.v (.int .u8 (IntKind.u8.wrap v95)) ((eK .u8) (IntKind.u8.wrap v95)) (by kernel_rfl) Args.nil)) (ok56 m ((⟨#[40, 41, 91, 93, 124, 38, 45, 42, 43, 63, 123, 125, 44, 92]⟩ : ByteArray)) (IntKind.u8.wrap v95) v96 ev96 n (by omega)))) ?_
    refine Ops.sg 3 38 ?_
    exact Ops.sx (J81j91 (.ptr 0 0) (.ptr 0 0) (.ptr 0 0) (dP eI a0.fL) (.ptr 0 0) (.ptr 0 0) (.ptr 0 1) (dI a0.fAt) (.vptr [(vI v92)]) (dI v92) (dB true) (dB true) (.ptr 0 0) (.ptr 0 0) (.ptr 0 0) (dP eI a0.fL) (.ptr 0 0) (.ptr 0 0) (.ptr 0 1) (dI a0.fAt) (.vptr [(vI v95)]) (dI v95) (.v (.int .u8 (IntKind.u8.wrap v95))) (dI v96) (dB (decide (v96 ≥ 0))) (dB (decide (v96 ≥ 0))) false (decide (v96 ≥ 0)) (some_sub (fun v90 => f81_r2 m a0 v90 = some o) ev90 h))
  ·have ev90 := cnd_t ev90
   refine Ops.sg 27 38 ?_
   exact Ops.sx (J81j91 U U U U U U U U U U U U U U U U U U U U U U U U U U true true (some_sub (fun v90 => f81_r2 m a0 v90 = some o) ev90 h))
structure Rec28 where
 r28 : S58 → Int → Option ((S24 × Bool) × S58)
 r45 : S58 → Int → Option ((S24 × Bool) × S58)
 r61 : S58 → Int → Option ((S24 × Bool) × S58)
 r67 : S58 → Int → Option ((S24 × Bool) × S58)
 r74 : S58 → Int → Option ((S24 × Bool) × S58)
structure OkRec28 (m : Nat) (K : Rec28) (nn : Nat) : Prop where
 ok28 : ∀ (a0 : S58) (a1 : Int) (o : ((S24 × Bool) × S58)), K.r28 a0 a1 = some o → ∀ n, nn ≤ n → FnP Proofs.Tryd.prog E n 28 (c58 a0) [.v (eI a1)] (.tuple [e24 o.1.1, eB o.1.2]) (c58 o.2)
 ok45 : ∀ (a0 : S58) (a1 : Int) (o : ((S24 × Bool) × S58)), K.r45 a0 a1 = some o → ∀ n, nn ≤ n → FnP Proofs.Tryd.prog E n 45 (c58 a0) [.v (eI a1)] (.tuple [e24 o.1.1, eB o.1.2]) (c58 o.2)
 ok61 : ∀ (a0 : S58) (a1 : Int) (o : ((S24 × Bool) × S58)), K.r61 a0 a1 = some o → ∀ n, nn ≤ n → FnP Proofs.Tryd.prog E n 61 (c58 a0) [.v (eI a1)] (.tuple [e24 o.1.1, eB o.1.2]) (c58 o.2)
 ok67 : ∀ (a0 : S58) (a1 : Int) (o : ((S24 × Bool) × S58)), K.r67 a0 a1 = some o → ∀ n, nn ≤ n → FnP Proofs.Tryd.prog E n 67 (c58 a0) [.v (eI a1)] (.tuple [e24 o.1.1, eB o.1.2]) (c58 o.2)
 ok74 : ∀ (a0 : S58) (a1 : Int) (o : ((S24 × Bool) × S58)), K.r74 a0 a1 = some o → ∀ n, nn ≤ n → FnP Proofs.Tryd.prog E n 74 (c58 a0) [.v (eI a1)] (.tuple [e24 o.1.1, eB o.1.2]) (c58 o.2)
noncomputable def f28_B1 (m : Nat) (K : Rec28) (a1 : Int) (v10 : (List P24)) (v11 : (List Int)) (v12 : Int) : Option (Stp ((S24 × Bool) × S58) ((List P24) × (List Int) × Int)) :=
 bnd (K.r45 ((⟨v11, v12⟩ : S58)) a1) fun v22 =>
 cnd (!v22.1.2)
 (some (.ret (((v22.1.1, false), v22.2))))
 (bnd (app 72 v10 ([(P24.con v22.1.1)])) fun v23 =>
 bnd (f46 m v22.2 124) fun v24 =>
 cnd (!v24)
 (some (.brk (v23, v22.2.fL, v22.2.fAt)))
 (some (.nxt (v23, v22.2.fL, w64 (v22.2.fAt + 1)))))
noncomputable def b28 (m : Nat) (K : Rec28) (a0 : S58) (a1 : Int) : Option ((S24 × Bool) × S58) :=
 brk (iter (fun (y : (List P24) × (List Int) × Int) => f28_B1 m K a1 y.1 y.2.1 y.2.2) m ([], a0.fL, a0.fAt)) some fun y26 =>
 cnd ((y26.1.length : Int) == 1)
 (bnd (idx y26.1 0) fun v28 =>
 some (((v28.vw, true), (⟨y26.2.1, y26.2.2⟩ : S58))))
 (some ((((⟨4, [], y26.1, 0, 0⟩ : S24), true), (⟨y26.2.1, y26.2.2⟩ : S58))))
noncomputable abbrev X28 (n : Nat) : Cx := cxOf Proofs.Tryd.prog E 28 n
noncomputable def C28 : Code := bodyOf Proofs.Tryd.prog 28
noncomputable abbrev b28_0 : AObj := .cells [(dI 0), (.v (.sl .nil (List.map eI []))), (.v (.sl .nil (List.map ep24 []))), (dI 0), (dI 0)]
theorem okb28 (m : Nat) (K : Rec28) (nn : Nat) (hK : OkRec28 m K nn) (a0 : S58) (a1 : Int) (o : ((S24 × Bool) × S58)) (h : b28 m K a0 a1 = some o) (n : Nat) (hn : m + 2 ≤ n) (hk : nn + 1 ≤ n) : FnP Proofs.Tryd.prog E n 28 (c58 a0) [.v (eI a1)] (.tuple [e24 o.1.1, eB o.1.2]) (c58 o.2) := by
 obtain ⟨n, rfl⟩ : ∃ q, n = q + 1 := ⟨n - 1, by omega⟩
 unfold b28 at h
 refine FnP.of (by kernel_rfl) (by kernel_rfl) (by kernel_rfl) ⟨(.ptr 0 0)::(dI a1)::u38 [], [(.cells [(dP eI a0.fL), (dI a0.fAt)])]⟩ (by kernel_rfl) (Wp.sq (Wp.rg (Ops.sg 2 2 (Ops.dn (seqQ.n (Wp.sq (Wp.rg (Ops.sg 1 1 (Ops.dn (seqQ.n (Wp.sq (Wp.bk 0 [4, 5, 6] 2 ?_))))))))))))
 have hLx25 : ∀ (kx14 : Nat) (v10 : (List P24)) (v11 : (List Int)) (v12 : Int)  (ox13 : ((S24 × Bool) × S58) ⊕ ((List P24) × (List Int) × Int)), iter (fun (y : (List P24) × (List Int) × Int) => f28_B1 m K a1 y.1 y.2.1 y.2.2) kx14 (v10, v11, v12) = some ox13 → ∀ nx15, kx14 ≤ nx15 → (∀ r, ox13 = .inl r → ∀ σ, RetOkP (X28 n) (resOf Proofs.Tryd.prog 28) (.tuple [e24 r.1.1, eB r.1.2]) (c58 r.2) σ → (seqQ (X28 n) (cR (cR (cR C28))) (fnQP (X28 n).E.T (resOf Proofs.Tryd.prog 28) (.tuple [e24 o.1.1, eB o.1.2]) (c58 o.2))) .ret σ) → (∀ (y : (List P24) × (List Int) × Int) , ox13 = .inr y → (seqQ (X28 n) (cR (cR (cR C28))) (fnQP (X28 n).E.T (resOf Proofs.Tryd.prog 28) (.tuple [e24 o.1.1, eB o.1.2]) (c58 o.2))) .normal ⟨Zs48 y.1 (q33 []), [(.cells [(dP eI y.2.1), (dI y.2.2)]), b28_0, (appO 5 (List.map ep24 y.1))]⟩) → Lp (X28 n) [0, 1, 4, 5, 6] 2 (cL (cL (cL (cR (cR C28))))) nx15 ⟨Zs9 a1 ((appD 2 (List.map ep24 v10))::q33 []), [(.cells [(dP eI v11), (dI v12)]), b28_0, (appO 5 (List.map ep24 v10))]⟩ (blkQ (X28 n) 0 [4, 5, 6] 2 (seqQ (X28 n) (cR (cR (cR C28))) (fnQP (X28 n).E.T (resOf Proofs.Tryd.prog 28) (.tuple [e24 o.1.1, eB o.1.2]) (c58 o.2)))) := by
  intro kx14
  induction kx14 with
  | zero => intro v10 v11 v12  ox13 h; exact (iter_zero h).elim
  | succ kx14 ihx16 =>
   intro v10 v11 v12  ox13 h nx15 hnx19 hrx17 hxx18
   obtain ⟨nx15, rfl⟩ : ∃ q, nx15 = q + 1 := ⟨nx15 - 1, by omega⟩
   obtain ⟨sx20, h, hsx21⟩ := iter_some h
   have h : f28_B1 m K a1 v10 v11 v12 = some sx20 := h
   unfold f28_B1 at h
   refine Lp.succ (Wp.bk 1 [0, 1, 4, 5, 6] 3 (Wp.sq (Wp.rg (Ops.sg 2 2 ?_))))
   obtain ⟨v22, ev22, h⟩ := bnd_some h
   refine Ops.on 3 (fun h0 e0 => (call_ptr (E' := E) (h := h0) (q := 0) (cs := c58 ((⟨v11, v12⟩ : S58))) (by kernel_rfl) (by kernel_rfl) (by kernel_rfl) (hq_of e0 (by kernel_rfl)) (by kernel_rfl) (Args.v (vI a1) (eI a1) (by kernel_rfl) Args.nil) (hK.ok45 ((⟨v11, v12⟩ : S58)) a1 v22 ev22 n (by omega)))) ?_
   refine Ops.sg 6 9 (Ops.dn (seqQ.n (Wp.sq (Wp.sq (Wp.rg (Ops.sg 2 2 (Ops.dn (seqQ.n ?_))))))))
   refine Wp.cd h [0, 1, 4, 5, 6, 7] 4 (fun h => ?_) (fun h => ?_)
   ·refine Wp.sq (Wp.rg (Ops.sg 3 3 (Ops.dn (seqQ.n (Wp.rt (sqQ.r (seqQ.r (blkQ.r ?_))))))))
    cases h
    refine lpQ.r (blkQ.r ?_)
    exact hrx17 _ hsx21 _ (RetOkP.forget [0, 1, 4, 5, 6] (by kernel_rfl) (RetOkP.mk' (.v (.tuple [(.agg [(vI v22.1.1.fKind), (vP eI v22.1.1.fLabels), (vP ep24 v22.1.1.fSubs), (vI v22.1.1.fLeast), (vI v22.1.1.fMost)]), (vB false)])) (by kernel_rfl) (by kernel_rfl) (by kernel_rfl) (by kernel_rfl)))
   ·refine Wp.sk (sqQ.n ⟨Zs9 a1 ((appD 4 (List.map ep24 v10))::(.ptr 3 0)::q32 []), [(.cells [(dP eI v22.2.fL), (dI v22.2.fAt)]), b28_0, .dead, (.cells [(dI v22.1.1.fKind), (dP eI v22.1.1.fLabels), (dP ep24 v22.1.1.fSubs), (dI v22.1.1.fLeast), (dI v22.1.1.fMost)]), (appO 5 (List.map ep24 v10))]⟩ (by generalize v10 = z0; cases z0 <;> kernel_rfl) (seqQ.n (Wp.sq (Wp.rg (Ops.sg 3 3 ?_)))))
    obtain ⟨v23, ev23, h⟩ := bnd_some h
    refine Ops.on 4 (fun h0 e0 => (app_r (T := T) (g := .nil) h0 23 25 4 5 ti25 .nonfull ep24 v10 ([(P24.con v22.1.1)]) v23 ev23 (by kernel_rfl) (by kernel_rfl) (by kernel_rfl) (by kernel_rfl) ep24_len (hq_of e0 (by kernel_rfl)))) ?_
    refine Ops.sg 1 5 (Ops.dn (seqQ.n (Wp.sq (Wp.sq (Wp.rg (Ops.sg 1 1 ?_))))))
    obtain ⟨v24, ev24, h⟩ := bnd_some h
    refine Ops.on 2 (fun h0 e0 => (call_ptr (E' := E) (h := h0) (q := 0) (cs := c58 v22.2) (by kernel_rfl) (by kernel_rfl) (by kernel_rfl) (hq_of e0 (by kernel_rfl)) (by kernel_rfl) (Args.v (vI 124) (eI 124) (by kernel_rfl) Args.nil) (ok46 m v22.2 124 v24 ev24 n (by omega)))) ?_
    refine Ops.sg 1 3 (Ops.dn (seqQ.n ?_))
    refine Wp.cd h [0, 1, 4, 5, 6] 6 (fun h => ?_) (fun h => ?_)
    ·refine Wp.ex 0 (sqQ.x (seqQ.x (blkQ.y (by kernel_rfl) ?_)))
     cases h
     refine lpQ.x (blkQ.x ⟨Zs48 v23 (q33 []), [(.cells [(dP eI v22.2.fL), (dI v22.2.fAt)]), b28_0, (appO 5 (List.map ep24 v23))]⟩ (by generalize v23 = z0; cases z0 <;> kernel_rfl) ?_)
     exact hxx18 (v23, v22.2.fL, v22.2.fAt)  hsx21
    ·refine Wp.sk (sqQ.n ⟨Zs9 a1 ((appD 6 (List.map ep24 v23))::q33 []), [(.cells [(dP eI v22.2.fL), (dI v22.2.fAt)]), b28_0, .dead, (.cells [(dI v22.1.1.fKind), (dP eI v22.1.1.fLabels), (dP ep24 v22.1.1.fSubs), (dI v22.1.1.fLeast), (dI v22.1.1.fMost)]), .dead, .dead, (appO 5 (List.map ep24 v23))]⟩ (by generalize v23 = z0; cases z0 <;> kernel_rfl) (seqQ.n (Wp.rg (Ops.sg 8 8 (Ops.dn (blkQ.n ⟨Zs9 a1 ((appD 3 (List.map ep24 v23))::q33 []), [(.cells [(dP eI v22.2.fL), (dI (w64 (v22.2.fAt + 1)))]), b28_0, .dead, (appO 5 (List.map ep24 v23))]⟩ (by generalize v23 = z0; cases z0 <;> kernel_rfl) (lpQ.n ⟨Zs9 a1 ((appD 2 (List.map ep24 v23))::q33 []), [(.cells [(dP eI v22.2.fL), (dI (w64 (v22.2.fAt + 1)))]), b28_0, (appO 5 (List.map ep24 v23))]⟩ (by generalize v23 = z0; cases z0 <;> kernel_rfl) ?_)))))))
     cases h
     exact ihx16 v23 v22.2.fL (w64 (v22.2.fAt + 1))  _ hsx21 _ (by omega) hrx17 hxx18
 refine Wp.loop' [0, 1, 4, 5, 6] 2 (by kernel_rfl) ⟨Zs9 a1 ((appD 2 (List.map ep24 []))::q33 []), [(.cells [(dP eI a0.fL), (dI a0.fAt)]), b28_0, .dead]⟩ (by kernel_rfl) ?_
 rcases brk_some h with ⟨r27, er27, h⟩ | ⟨y26, ey26, h⟩
 ·refine hLx25 _ [] a0.fL a0.fAt  _ er27 n (by omega) (fun r er σ hσ => ?_) (fun y  ey => by cases ey)
  cases er
  refine seqQ.r ?_
  exact fnQP.r' (X28 n) (fun z => (.tuple [e24 z.1, eB z.2])) c58 h hσ
 ·refine hLx25 _ [] a0.fL a0.fAt  _ ey26 n (by omega) (fun r er => by cases er) (fun y  ey => ?_)
  cases ey
  refine seqQ.n (Wp.sq (Wp.sq (Wp.rg (Ops.sg 1 1 ?_))))
  refine Ops.on 2 (fun h0 e0 => (len_a (T := T) (g := .nil) h0 23 25 2 ep24 y26.1 (by kernel_rfl))) ?_
  refine Ops.sg 1 3 (Ops.dn (seqQ.n ?_))
  refine Wp.cd h [4, 5, 6] 3 (fun h => ?_) (fun h => ?_)
  ·refine Wp.sq (Wp.rg (Ops.sg 1 1 ?_))
   obtain ⟨v28, ev28, h⟩ := bnd_some h
   refine Ops.on 2 (fun h0 e0 => (ixb24 (ix_a (T := T) (g := .nil) h0 23 25 5 2 ep24 y26.1 0 v28 ev28 (by kernel_rfl) (by kernel_rfl) ep24_len))) ?_
   refine Ops.sg 3 5 (Ops.dn (seqQ.n (Wp.rt (sqQ.r (seqQ.r ?_)))))
   exact fnQP.r' (X28 n) (fun z => (.tuple [e24 z.1, eB z.2])) c58 h (RetOkP.mk' (.v (.tuple [(.agg [(vI v28.vw.fKind), (vP eI v28.vw.fLabels), (vP ep24 v28.vw.fSubs), (vI v28.vw.fLeast), (vI v28.vw.fMost)]), (vB true)])) (by kernel_rfl) (by kernel_rfl) (by kernel_rfl) (by kernel_rfl))
  ·refine Wp.sk (sqQ.n ⟨Zs43 y26.1 (q33 []), [(.cells [(dP eI y26.2.1), (dI y26.2.2)]), b28_0, .dead, (appO 5 (List.map ep24 y26.1))]⟩ (by generalize y26.1 = z0; cases z0 <;> kernel_rfl) (seqQ.n (Wp.sq (Wp.rg (Ops.sg 1 1 (Ops.seg 1 2 (by kernel_rfl) ⟨Zs43 y26.1 (q31 ((appD 3 (List.map ep24 y26.1))::(.v (.agg [(vI 4), (.sl .nil (List.map eI [])), (.sl (dfl (appD 3 (List.map ep24 y26.1))) (List.map ep24 y26.1)), (vI 0), (vI 0)]))::[])), [(.cells [(dP eI y26.2.1), (dI y26.2.2)]), b28_0, .dead, (appO 5 (List.map ep24 y26.1))]⟩ (by generalize y26.1 = z0; cases z0 <;> kernel_rfl) (Ops.sg 2 4 (Ops.dn (seqQ.n (Wp.rt ?_))))))))))
   exact fnQP.r' (X28 n) (fun z => (.tuple [e24 z.1, eB z.2])) c58 h (RetOkP.mk' (.v (.tuple [(.agg [(vI 4), (.sl .nil (List.map eI [])), (.sl (dfl (appD 3 (List.map ep24 y26.1))) (List.map ep24 y26.1)), (vI 0), (vI 0)]), (vB true)])) (by kernel_rfl) (by kernel_rfl) (by kernel_rfl) (by kernel_rfl))
noncomputable def f45_j1 (m : Nat) (K : Rec28) (a1 : Int) (v63 : (List Int)) (v64 v65 : Int) (v66 : (List Int)) (v68 : (List P24)) (v70 v71 v93 : Int) : Option (Stp ((S24 × Bool) × S58) (Bool × (List Int) × Int × Int × (List Int) × (List P24) × Int × Int)) :=
 bnd (K.r61 ((⟨v63, w64 (v64 + 1)⟩ : S58)) a1) fun v101 =>
 some (.nxt (v101.1.2, v101.2.fL, v101.2.fAt, v93, [], [(P24.con ((⟨v65, v66, v68, v70, v71⟩ : S24))), (P24.con v101.1.1)], 0, 0))
noncomputable def f45_r2 (m : Nat) (K : Rec28) (a1 : Int) (v63 : (List Int)) (v64 v65 : Int) (v66 : (List Int)) (v68 : (List P24)) (v70 v71 : Int) (v89 v90 : Bool) : Option (Stp ((S24 × Bool) × S58) (Bool × (List Int) × Int × Int × (List Int) × (List P24) × Int × Int)) :=
 cnd v90
 (bnd (f46 m ((⟨v63, v64⟩ : S58)) 45) fun v92 =>
 cnd v92
 (f45_j1 m K a1 v63 v64 v65 v66 v68 v70 v71 7)
 (f45_j1 m K a1 v63 v64 v65 v66 v68 v70 v71 6))
 (some (.brk (v89, v63, v64, v65, v66, v68, v70, v71)))
noncomputable def f45_B3 (m : Nat) (K : Rec28) (a1 : Int) (v62 : Bool) (v63 : (List Int)) (v64 v65 : Int) (v66 : (List Int)) (v68 : (List P24)) (v70 v71 : Int) : Option (Stp ((S24 × Bool) × S58) (Bool × (List Int) × Int × Int × (List Int) × (List P24) × Int × Int)) :=
 bnd (cnd v62
 (bnd (f46 m ((⟨v63, v64⟩ : S58)) 38) fun v102 =>
 cnd v102
 (some true)
 (bnd (f46 m ((⟨v63, v64⟩ : S58)) 45) fun v105 =>
 some v105))
 (some false)) fun v90 =>
 f45_r2 m K a1 v63 v64 v65 v66 v68 v70 v71 v62 v90
noncomputable def b45 (m : Nat) (K : Rec28) (a0 : S58) (a1 : Int) : Option ((S24 × Bool) × S58) :=
 bnd (K.r61 a0 a1) fun v1 =>
 brk (iter (fun (y : Bool × (List Int) × Int × Int × (List Int) × (List P24) × Int × Int) => f45_B3 m K a1 y.1 y.2.1 y.2.2.1 y.2.2.2.1 y.2.2.2.2.1 y.2.2.2.2.2.1 y.2.2.2.2.2.2.1 y.2.2.2.2.2.2.2) m (v1.1.2, v1.2.fL, v1.2.fAt, v1.1.1.fKind, v1.1.1.fLabels, v1.1.1.fSubs, v1.1.1.fLeast, v1.1.1.fMost)) some fun y107 =>
 some ((((⟨y107.2.2.2.1, y107.2.2.2.2.1, y107.2.2.2.2.2.1, y107.2.2.2.2.2.2.1, y107.2.2.2.2.2.2.2⟩ : S24), y107.1), (⟨y107.2.1, y107.2.2.1⟩ : S58)))
noncomputable abbrev X45 (n : Nat) : Cx := cxOf Proofs.Tryd.prog E 45 n
noncomputable def C45 : Code := bodyOf Proofs.Tryd.prog 45
noncomputable abbrev b45_0 : AObj := .cells [(dI 0), (.v (.sl .nil (List.map eI []))), (.v (.sl .nil (List.map ep24 []))), (dI 0), (dI 0)]
noncomputable abbrev b45_1 (w0 : (List Int)) (w1 : Int) : AObj := .cells [(dP eI w0), (dI w1)]
theorem okb45 (m : Nat) (K : Rec28) (nn : Nat) (hK : OkRec28 m K nn) (a0 : S58) (a1 : Int) (o : ((S24 × Bool) × S58)) (h : b45 m K a0 a1 = some o) (n : Nat) (hn : m + 2 ≤ n) (hk : nn + 1 ≤ n) : FnP Proofs.Tryd.prog E n 45 (c58 a0) [.v (eI a1)] (.tuple [e24 o.1.1, eB o.1.2]) (c58 o.2) := by
 obtain ⟨n, rfl⟩ : ∃ q, n = q + 1 := ⟨n - 1, by omega⟩
 unfold b45 at h
 refine FnP.of (by kernel_rfl) (by kernel_rfl) (by kernel_rfl) ⟨(.ptr 0 0)::(dI a1)::u40 (u5 []), [(.cells [(dP eI a0.fL), (dI a0.fAt)])]⟩ (by kernel_rfl) (Wp.sq (Wp.rg (Ops.sg 2 2 (Ops.dn (seqQ.n (Wp.sq (Wp.rg (Ops.sg 2 2 ?_))))))))
 obtain ⟨v1, ev1, h⟩ := bnd_some h
 refine Ops.on 3 (fun h0 e0 => (call_ptr (E' := E) (h := h0) (q := 0) (cs := c58 a0) (by kernel_rfl) (by kernel_rfl) (by kernel_rfl) (hq_of e0 (by kernel_rfl)) (by kernel_rfl) (Args.v (vI a1) (eI a1) (by kernel_rfl) Args.nil) (hK.ok61 a0 a1 v1 ev1 n (by omega)))) ?_
 refine Ops.sg 6 9 (Ops.dn (seqQ.n (Wp.sq (Wp.bk 0 [4, 5, 6, 7] 3 ?_))))
 have hLx106 : ∀ (kx73 : Nat) (v62 : Bool) (v63 : (List Int)) (v64 v65 : Int) (v66 : (List Int)) (v68 : (List P24)) (v70 v71 : Int) (fl67 fl69 : SFlag) (ox72 : ((S24 × Bool) × S58) ⊕ (Bool × (List Int) × Int × Int × (List Int) × (List P24) × Int × Int)), iter (fun (y : Bool × (List Int) × Int × Int × (List Int) × (List P24) × Int × Int) => f45_B3 m K a1 y.1 y.2.1 y.2.2.1 y.2.2.2.1 y.2.2.2.2.1 y.2.2.2.2.2.1 y.2.2.2.2.2.2.1 y.2.2.2.2.2.2.2) kx73 (v62, v63, v64, v65, v66, v68, v70, v71) = some ox72 → ∀ nx74, kx73 ≤ nx74 → (∀ r, ox72 = .inl r → ∀ σ, RetOkP (X45 n) (resOf Proofs.Tryd.prog 45) (.tuple [e24 r.1.1, eB r.1.2]) (c58 r.2) σ → (seqQ (X45 n) (cR (cR (cR C45))) (fnQP (X45 n).E.T (resOf Proofs.Tryd.prog 45) (.tuple [e24 o.1.1, eB o.1.2]) (c58 o.2))) .ret σ) → (∀ (y : Bool × (List Int) × Int × Int × (List Int) × (List P24) × Int × Int) (fl67 fl69 : SFlag), ox72 = .inr y → (seqQ (X45 n) (cR (cR (cR C45))) (fnQP (X45 n).E.T (resOf Proofs.Tryd.prog 45) (.tuple [e24 o.1.1, eB o.1.2]) (c58 o.2))) .normal ⟨Zs9 a1 ((.ptr 2 0)::(dB y.1)::q39 []), [(.cells [(dP eI y.2.1), (dI y.2.2.1)]), b45_0, (.cells [(dI y.2.2.2.1), (.v (.sl fl67 (List.map eI y.2.2.2.2.1))), (.v (.sl fl69 (List.map ep24 y.2.2.2.2.2.1))), (dI y.2.2.2.2.2.2.1), (dI y.2.2.2.2.2.2.2)])]⟩) → Lp (X45 n) [0, 1, 4, 5, 6, 7] 3 (cL (cL (cL (cR (cR C45))))) nx74 ⟨Zs9 a1 ((.ptr 2 0)::(dB v62)::q39 []), [(b45_1 v63 v64), b45_0, (.cells [(dI v65), (.v (.sl fl67 (List.map eI v66))), (.v (.sl fl69 (List.map ep24 v68))), (dI v70), (dI v71)])]⟩ (blkQ (X45 n) 0 [4, 5, 6, 7] 3 (seqQ (X45 n) (cR (cR (cR C45))) (fnQP (X45 n).E.T (resOf Proofs.Tryd.prog 45) (.tuple [e24 o.1.1, eB o.1.2]) (c58 o.2)))) := by
  intro kx73
  induction kx73 with
  | zero => intro v62 v63 v64 v65 v66 v68 v70 v71 fl67 fl69 ox72 h; exact (iter_zero h).elim
  | succ kx73 ihx75 =>
   intro v62 v63 v64 v65 v66 v68 v70 v71 fl67 fl69 ox72 h nx74 hnx78 hrx76 hxx77
   obtain ⟨nx74, rfl⟩ : ∃ q, nx74 = q + 1 := ⟨nx74 - 1, by omega⟩
   obtain ⟨sx79, h, hsx80⟩ := iter_some h
   have h : f45_B3 m K a1 v62 v63 v64 v65 v66 v68 v70 v71 = some sx79 := h
   unfold f45_B3 at h
   refine Lp.succ (Wp.sq (Wp.sq (Wp.rg (Ops.sg 2 2 ?_))))
   refine Ops.hv (fun KQ => ∀ (d83 d84 d85 d86 d87 d88 : D) (v89 v90 : Bool), f45_r2 m K a1 v63 v64 v65 v66 v68 v70 v71 v89 v90 = some sx79 → KQ 9 ⟨Zs9 a1 ((.ptr 2 0)::(dB v89)::q8 ((dB v89)::(dB v89)::d83::d84::d85::d86::d87::d88::(dB v90)::q22 [])), [(b45_1 v63 v64), b45_0, (.cells [(dI v65), (.v (.sl fl67 (List.map eI v66))), (.v (.sl fl69 (List.map ep24 v68))), (dI v70), (dI v71)])]⟩) ?_ fun J45j91 => ?_
   ·intro d83 d84 d85 d86 d87 d88 v89 v90 h
    unfold f45_r2 at h
    refine Ops.dn (seqQ.n ?_)
    refine Wp.cd h [0, 1, 4, 5, 6] 3 (fun h => ?_) (fun h => ?_)
    ·refine Wp.sk (sqQ.n' (seqQ.n (Wp.bk 1 [0, 1, 4, 5, 6, 7] 3 (Wp.sq (Wp.rg (Ops.sg 1 1 (Ops.dn (seqQ.n (Wp.sq (Wp.sq (Wp.rg (Ops.sg 1 1 ?_))))))))))))
     obtain ⟨v92, ev92, h⟩ := bnd_some h
     refine Ops.on 2 (fun h0 e0 => (call_ptr (E' := E) (h := h0) (q := 0) (cs := c58 ((⟨v63, v64⟩ : S58))) (by kernel_rfl) (by kernel_rfl) (by kernel_rfl) (hq_of e0 (by kernel_rfl)) (by kernel_rfl) (Args.v (vI 45) (eI 45) (by kernel_rfl) Args.nil) (ok46 m ((⟨v63, v64⟩ : S58)) 45 v92 ev92 n (by omega)))) ?_
     refine Ops.dn (seqQ.n ?_)
     have J45j100 : ∀ (v93 : Int) (d94 d95 d96 d97 d98 d99 : D), f45_j1 m K a1 v63 v64 v65 v66 v68 v70 v71 v93 = some sx79 → (seqQ (X45 n) (cR (cR (cL (cR (cL (cL (cL (cR (cR C45))))))))) (blkQ (X45 n) 1 [0, 1, 4, 5, 6, 7] 3 (lpQ (X45 n) [0, 1, 4, 5, 6, 7] 3 (cL (cL (cL (cR (cR C45))))) nx74 (blkQ (X45 n) 0 [4, 5, 6, 7] 3 (seqQ (X45 n) (cR (cR (cR C45))) (fnQP (X45 n).E.T (resOf Proofs.Tryd.prog 45) (.tuple [e24 o.1.1, eB o.1.2]) (c58 o.2))))))) .normal ⟨Zs9 a1 ((.ptr 2 0)::(dB v89)::(dI v93)::q7 ((dB v89)::(dB v89)::d94::d95::d96::d97::d98::d99::(dB v90)::(.ptr 0 0)::(dB v92)::q20 [])), [(b45_1 v63 v64), b45_0, (.cells [(dI v65), (.v (.sl fl67 (List.map eI v66))), (.v (.sl fl69 (List.map ep24 v68))), (dI v70), (dI v71)])]⟩ := by
      intro v93 d94 d95 d96 d97 d98 d99 h
      unfold f45_j1 at h
      refine seqQ.n (Wp.sq (Wp.rg (Ops.sg 8 8 (Ops.dn (seqQ.n (Wp.sq (Wp.rg (Ops.sg 1 1 (Ops.dn (seqQ.n (Wp.sq (Wp.rg (Ops.sg 2 2 ?_)))))))))))))
      obtain ⟨v101, ev101, h⟩ := bnd_some h
      refine Ops.on 3 (fun h0 e0 => (call_ptr (E' := E) (h := h0) (q := 0) (cs := c58 ((⟨v63, w64 (v64 + 1)⟩ : S58))) (by kernel_rfl) (by kernel_rfl) (by kernel_rfl) (hq_of e0 (by kernel_rfl)) (by kernel_rfl) (Args.v (vI a1) (eI a1) (by kernel_rfl) Args.nil) (hK.ok61 ((⟨v63, w64 (v64 + 1)⟩ : S58)) a1 v101 ev101 n (by omega)))) ?_
      refine Ops.sg 5 8 (Ops.dn (seqQ.n (Wp.rg (Ops.sg 6 6 (Ops.dn (blkQ.n' (lpQ.m ⟨Zs9 a1 ((.ptr 2 0)::(dB v101.1.2)::q39 []), [(.cells [(dP eI v101.2.fL), (dI v101.2.fAt)]), b45_0, (.cells [(dI v93), (.v (.sl .nil (List.map eI []))), (.v (.sl .nonfull (List.map ep24 ([(P24.con ((⟨v65, v66, v68, v70, v71⟩ : S24))), (P24.con v101.1.1)])))), (dI 0), (dI 0)])]⟩ ?_)))))))
      cases h
      exact ihx75 v101.1.2 v101.2.fL v101.2.fAt v93 [] ([(P24.con ((⟨v65, v66, v68, v70, v71⟩ : S24))), (P24.con v101.1.1)]) 0 0 _ _ _ hsx80 _ (by omega) hrx76 hxx77
     refine Wp.cd h [0, 1, 4, 5, 6, 8] 3 (fun h => ?_) (fun h => ?_)
     ·refine Wp.rg (Ops.sg 1 1 (Ops.dn (sqQ.m ⟨Zs9 a1 ((.ptr 2 0)::(dB v89)::(dI 7)::q7 ((dB v89)::(dB v89)::d83::d84::d85::d86::d87::d88::(dB v90)::(.ptr 0 0)::(dB v92)::q20 [])), [(b45_1 v63 v64), b45_0, (.cells [(dI v65), (.v (.sl fl67 (List.map eI v66))), (.v (.sl fl69 (List.map ep24 v68))), (dI v70), (dI v71)])]⟩ ?_)))
      exact J45j100 7 _ _ _ _ _ _ h
     ·refine Wp.sk (sqQ.m ⟨Zs9 a1 ((.ptr 2 0)::(dB v89)::(dI 6)::q7 ((dB v89)::(dB v89)::d83::d84::d85::d86::d87::d88::(dB v90)::(.ptr 0 0)::(dB v92)::q20 [])), [(b45_1 v63 v64), b45_0, (.cells [(dI v65), (.v (.sl fl67 (List.map eI v66))), (.v (.sl fl69 (List.map ep24 v68))), (dI v70), (dI v71)])]⟩ ?_)
      exact J45j100 6 _ _ _ _ _ _ h
    ·refine Wp.ex 0 (sqQ.x (seqQ.x ?_))
     cases h
     refine lpQ.x (blkQ.w ⟨Zs9 a1 ((.ptr 2 0)::(dB v89)::q39 []), [(b45_1 v63 v64), b45_0, (.cells [(dI v65), (.v (.sl fl67 (List.map eI v66))), (.v (.sl fl69 (List.map ep24 v68))), (dI v70), (dI v71)])]⟩ ?_)
     exact hxx77 (v89, v63, v64, v65, v66, v68, v70, v71) _ _ hsx80
   obtain ⟨v90, ev90, h⟩ := bnd_some h
   refine Ops.hv (fun KQ => ∀ v81 : Bool, (cnd v81 (bnd (f46 m ((⟨v63, v64⟩ : S58)) 38) fun v102 => cnd v102 (some true) (bnd (f46 m ((⟨v63, v64⟩ : S58)) 45) fun v105 => some v105)) (some false)) = some v90 → f45_r2 m K a1 v63 v64 v65 v66 v68 v70 v71 v81 v90 = some sx79 → KQ 2 ⟨Zs9 a1 ((.ptr 2 0)::(dB v81)::q8 ((dB v81)::(dB v81)::q29 [])), [(b45_1 v63 v64), b45_0, (.cells [(dI v65), (.v (.sl fl67 (List.map eI v66))), (.v (.sl fl69 (List.map ep24 v68))), (dI v70), (dI v71)])]⟩) ?_ fun G45g82 => Ops.sx (G45g82 v62 ev90 h)
   intro v81 ev90 h
   cases v81
   ·have ev90 := cnd_f ev90
    refine Ops.sg 7 9 ?_
    exact Ops.sx (J45j91 U U U U U U false false (some_sub (fun v90 => f45_r2 m K a1 v63 v64 v65 v66 v68 v70 v71 false v90 = some sx79) ev90 h))
   ·have ev90 := cnd_t ev90
    refine Ops.sg 1 3 ?_
    obtain ⟨v102, ev102, ev90⟩ := bnd_some ev90
    refine Ops.on 4 (fun h0 e0 => (call_ptr (E' := E) (h := h0) (q := 0) (cs := c58 ((⟨v63, v64⟩ : S58))) (by kernel_rfl) (by kernel_rfl) (by kernel_rfl) (hq_of e0 (by kernel_rfl)) (by kernel_rfl) (Args.v (vI 38) (eI 38) (by kernel_rfl) Args.nil) (ok46 m ((⟨v63, v64⟩ : S58)) 38 v102 ev102 n (by omega)))) ?_
    refine Ops.sg 1 5 ?_
    refine Ops.hv (fun KQ => ∀ v103 : Bool, (cnd v103 (some true) (bnd (f46 m ((⟨v63, v64⟩ : S58)) 45) fun v105 => some v105)) = some v90 → KQ 5 ⟨Zs9 a1 ((.ptr 2 0)::(dB true)::q8 ((dB true)::(dB true)::(.ptr 0 0)::(dB v103)::(dB v103)::q26 [])), [(b45_1 v63 v64), b45_0, (.cells [(dI v65), (.v (.sl fl67 (List.map eI v66))), (.v (.sl fl69 (List.map ep24 v68))), (dI v70), (dI v71)])]⟩) ?_ fun G45g104 => Ops.sx (G45g104 v102 ev90)
    intro v103 ev90
    cases v103
    ·have ev90 := cnd_f ev90
     refine Ops.sg 1 6 ?_
     obtain ⟨v105, ev105, ev90⟩ := bnd_some ev90
     refine Ops.on 7 (fun h0 e0 => (call_ptr (E' := E) (h := h0) (q := 0) (cs := c58 ((⟨v63, v64⟩ : S58))) (by kernel_rfl) (by kernel_rfl) (by kernel_rfl) (hq_of e0 (by kernel_rfl)) (by kernel_rfl) (Args.v (vI 45) (eI 45) (by kernel_rfl) Args.nil) (ok46 m ((⟨v63, v64⟩ : S58)) 45 v105 ev105 n (by omega)))) ?_
     refine Ops.sg 2 9 ?_
     exact Ops.sx (J45j91 (.ptr 0 0) (dB false) (dB false) (.ptr 0 0) (dB v105) (dB v105) true v105 (some_sub (fun v90 => f45_r2 m K a1 v63 v64 v65 v66 v68 v70 v71 true v90 = some sx79) ev90 h))
    ·have ev90 := cnd_t ev90
     refine Ops.sg 4 9 ?_
     exact Ops.sx (J45j91 (.ptr 0 0) (dB true) (dB true) U U (dB true) true true (some_sub (fun v90 => f45_r2 m K a1 v63 v64 v65 v66 v68 v70 v71 true v90 = some sx79) ev90 h))
 refine Wp.loop' [0, 1, 4, 5, 6, 7] 3 (by kernel_rfl) ⟨Zs9 a1 ((.ptr 2 0)::(dB v1.1.2)::q39 []), [(.cells [(dP eI v1.2.fL), (dI v1.2.fAt)]), b45_0, (.cells [(dI v1.1.1.fKind), (dP eI v1.1.1.fLabels), (dP ep24 v1.1.1.fSubs), (dI v1.1.1.fLeast), (dI v1.1.1.fMost)])]⟩ (by kernel_rfl) ?_
 rcases brk_some h with ⟨r108, er108, h⟩ | ⟨y107, ey107, h⟩
 ·refine hLx106 _ v1.1.2 v1.2.fL v1.2.fAt v1.1.1.fKind v1.1.1.fLabels v1.1.1.fSubs v1.1.1.fLeast v1.1.1.fMost _ _ _ er108 n (by omega) (fun r er σ hσ => ?_) (fun y fl67 fl69 ey => by cases ey)
  cases er
  refine seqQ.r ?_
  exact fnQP.r' (X45 n) (fun z => (.tuple [e24 z.1, eB z.2])) c58 h hσ
 ·refine hLx106 _ v1.1.2 v1.2.fL v1.2.fAt v1.1.1.fKind v1.1.1.fLabels v1.1.1.fSubs v1.1.1.fLeast v1.1.1.fMost _ _ _ ey107 n (by omega) (fun r er => by cases er) (fun y fl67 fl69 ey => ?_)
  cases ey
  refine seqQ.n (Wp.sq (Wp.rg (Ops.sg 4 4 (Ops.dn (seqQ.n (Wp.rt ?_))))))
  exact fnQP.r' (X45 n) (fun z => (.tuple [e24 z.1, eB z.2])) c58 h (RetOkP.mk' (.v (.tuple [(.agg [(vI y107.2.2.2.1), (.sl fl67 (List.map eI y107.2.2.2.2.1)), (.sl fl69 (List.map ep24 y107.2.2.2.2.2.1)), (vI y107.2.2.2.2.2.2.1), (vI y107.2.2.2.2.2.2.2)]), (vB y107.1)])) (by kernel_rfl) (by kernel_rfl) (by kernel_rfl) (by kernel_rfl))
noncomputable def f61_r1 (m : Nat) (K : Rec28) (a1 : Int) (v82 : (List P24)) (v83 : (List Int)) (v84 : Int) (v124 : Bool) : Option (Stp ((S24 × Bool) × S58) ((List P24) × (List Int) × Int)) :=
 cnd v124
 (bnd (K.r67 ((⟨v83, v84⟩ : S58)) a1) fun v126 =>
 cnd (!v126.1.2)
 (some (.ret (((v126.1.1, false), v126.2))))
 (bnd (app 72 v82 ([(P24.con v126.1.1)])) fun v127 =>
 some (.nxt (v127, v126.2.fL, v126.2.fAt))))
 (some (.brk (v82, v83, v84)))
noncomputable def f61_B2 (m : Nat) (K : Rec28) (a1 : Int) (v82 : (List P24)) (v83 : (List Int)) (v84 : Int) : Option (Stp ((S24 × Bool) × S58) ((List P24) × (List Int) × Int)) :=
 bnd (cnd (decide (v84 < (v83.length : Int)))
 (bnd (idx v83 v84) fun v128 =>
 cnd (decide (v128 < 128))
 (bnd (idx v83 v84) fun v131 =>
 bnd (f56 m ((⟨#[41, 93, 124, 38, 45, 42, 43, 63, 123, 125, 44]⟩ : ByteArray)) (IntKind.u8.wrap v131)) fun v132 =>
 some (!(decide (v132 ≥ 0))))
 (some (!false)))
 (some false)) fun v124 =>
 f61_r1 m K a1 v82 v83 v84 v124
noncomputable def b61 (m : Nat) (K : Rec28) (a0 : S58) (a1 : Int) : Option ((S24 × Bool) × S58) :=
 brk (iter (fun (y : (List P24) × (List Int) × Int) => f61_B2 m K a1 y.1 y.2.1 y.2.2) m ([], a0.fL, a0.fAt)) some fun y134 =>
 cnd ((y134.1.length : Int) == 0)
 (some ((((⟨0, [], [], 0, 0⟩ : S24), false), (⟨y134.2.1, y134.2.2⟩ : S58))))
 (cnd ((y134.1.length : Int) == 1)
 (bnd (idx y134.1 0) fun v136 =>
 some (((v136.vw, true), (⟨y134.2.1, y134.2.2⟩ : S58))))
 (some ((((⟨3, [], y134.1, 0, 0⟩ : S24), true), (⟨y134.2.1, y134.2.2⟩ : S58)))))
noncomputable abbrev X61 (n : Nat) : Cx := cxOf Proofs.Tryd.prog E 61 n
noncomputable def C61 : Code := bodyOf Proofs.Tryd.prog 61
noncomputable abbrev b61_0 : AObj := .cells [(dI 0), (.v (.sl .nil (List.map eI []))), (.v (.sl .nil (List.map ep24 []))), (dI 0), (dI 0)]
theorem okb61 (m : Nat) (K : Rec28) (nn : Nat) (hK : OkRec28 m K nn) (a0 : S58) (a1 : Int) (o : ((S24 × Bool) × S58)) (h : b61 m K a0 a1 = some o) (n : Nat) (hn : m + 2 ≤ n) (hk : nn + 1 ≤ n) : FnP Proofs.Tryd.prog E n 61 (c58 a0) [.v (eI a1)] (.tuple [e24 o.1.1, eB o.1.2]) (c58 o.2) := by
 obtain ⟨n, rfl⟩ : ∃ q, n = q + 1 := ⟨n - 1, by omega⟩
 unfold b61 at h
 refine FnP.of (by kernel_rfl) (by kernel_rfl) (by kernel_rfl) ⟨(.ptr 0 0)::(dI a1)::u40 (u31 []), [(.cells [(dP eI a0.fL), (dI a0.fAt)])]⟩ (by kernel_rfl) (Wp.sq (Wp.rg (Ops.sg 2 2 (Ops.dn (seqQ.n (Wp.sq (Wp.rg (Ops.sg 1 1 (Ops.dn (seqQ.n (Wp.sq (Wp.bk 0 [4, 5, 6] 2 ?_))))))))))))
 have hLx133 : ∀ (kx86 : Nat) (v82 : (List P24)) (v83 : (List Int)) (v84 : Int)  (ox85 : ((S24 × Bool) × S58) ⊕ ((List P24) × (List Int) × Int)), iter (fun (y : (List P24) × (List Int) × Int) => f61_B2 m K a1 y.1 y.2.1 y.2.2) kx86 (v82, v83, v84) = some ox85 → ∀ nx87, kx86 ≤ nx87 → (∀ r, ox85 = .inl r → ∀ σ, RetOkP (X61 n) (resOf Proofs.Tryd.prog 61) (.tuple [e24 r.1.1, eB r.1.2]) (c58 r.2) σ → (seqQ (X61 n) (cR (cR (cR C61))) (fnQP (X61 n).E.T (resOf Proofs.Tryd.prog 61) (.tuple [e24 o.1.1, eB o.1.2]) (c58 o.2))) .ret σ) → (∀ (y : (List P24) × (List Int) × Int) , ox85 = .inr y → (seqQ (X61 n) (cR (cR (cR C61))) (fnQP (X61 n).E.T (resOf Proofs.Tryd.prog 61) (.tuple [e24 o.1.1, eB o.1.2]) (c58 o.2))) .normal ⟨Zs48 y.1 (q40 (q26 [])), [(.cells [(dP eI y.2.1), (dI y.2.2)]), b61_0, (appO 5 (List.map ep24 y.1))]⟩) → Lp (X61 n) [0, 1, 4, 5, 6] 2 (cL (cL (cL (cR (cR C61))))) nx87 ⟨Zs9 a1 ((appD 2 (List.map ep24 v82))::q40 (q26 [])), [(.cells [(dP eI v83), (dI v84)]), b61_0, (appO 5 (List.map ep24 v82))]⟩ (blkQ (X61 n) 0 [4, 5, 6] 2 (seqQ (X61 n) (cR (cR (cR C61))) (fnQP (X61 n).E.T (resOf Proofs.Tryd.prog 61) (.tuple [e24 o.1.1, eB o.1.2]) (c58 o.2)))) := by
  intro kx86
  induction kx86 with
  | zero => intro v82 v83 v84  ox85 h; exact (iter_zero h).elim
  | succ kx86 ihx88 =>
   intro v82 v83 v84  ox85 h nx87 hnx91 hrx89 hxx90
   obtain ⟨nx87, rfl⟩ : ∃ q, nx87 = q + 1 := ⟨nx87 - 1, by omega⟩
   obtain ⟨sx92, h, hsx93⟩ := iter_some h
   have h : f61_B2 m K a1 v82 v83 v84 = some sx92 := h
   unfold f61_B2 at h
   refine Lp.succ (Wp.sq (Wp.sq (Wp.rg (Ops.sg 8 8 ?_))))
   refine Ops.on 9 (fun h0 e0 => (len_r (T := T) h0 22 3 .plain eI v83 (by kernel_rfl))) ?_
   refine Ops.sg 2 11 ?_
   refine Ops.hv (fun KQ => ∀ (d96 d97 d98 d99 d100 d101 d102 d103 d104 d105 d106 d107 d108 d109 d110 d111 d112 d113 d114 d115 d116 d117 d118 d119 d120 d121 d122 : D) (v123 v124 : Bool), f61_r1 m K a1 v82 v83 v84 v124 = some sx92 → KQ 39 ⟨Zs9 a1 ((appD 2 (List.map ep24 v82))::q2 ((.ptr 0 0)::(.ptr 0 0)::(.ptr 0 1)::(dI v84)::(.ptr 0 0)::(.ptr 0 0)::(.ptr 0 0)::(dP eI v83)::(dI (v83.length : Int))::(dB v123)::(dB v123)::d96::d97::d98::d99::d100::d101::d102::d103::d104::d105::d106::d107::d108::d109::d110::d111::d112::d113::d114::d115::d116::d117::d118::d119::d120::d121::d122::(dB v124)::q25 [])), [(.cells [(dP eI v83), (dI v84)]), b61_0, (appO 5 (List.map ep24 v82))]⟩) ?_ fun J61j125 => ?_
   ·intro d96 d97 d98 d99 d100 d101 d102 d103 d104 d105 d106 d107 d108 d109 d110 d111 d112 d113 d114 d115 d116 d117 d118 d119 d120 d121 d122 v123 v124 h
    unfold f61_r1 at h
    refine Ops.dn (seqQ.n ?_)
    refine Wp.cd h [0, 1, 4, 5, 6] 3 (fun h => ?_) (fun h => ?_)
    ·refine Wp.sk (sqQ.n ⟨Zs9 a1 ((appD 3 (List.map ep24 v82))::q40 (q26 [])), [(.cells [(dP eI v83), (dI v84)]), b61_0, .dead, (appO 5 (List.map ep24 v82))]⟩ (by generalize v82 = z0; cases z0 <;> kernel_rfl) (seqQ.n (Wp.bk 1 [0, 1, 4, 5, 6] 4 (Wp.sq (Wp.rg (Ops.sg 2 2 ?_))))))
     obtain ⟨v126, ev126, h⟩ := bnd_some h
     refine Ops.on 3 (fun h0 e0 => (call_ptr (E' := E) (h := h0) (q := 0) (cs := c58 ((⟨v83, v84⟩ : S58))) (by kernel_rfl) (by kernel_rfl) (by kernel_rfl) (hq_of e0 (by kernel_rfl)) (by kernel_rfl) (Args.v (vI a1) (eI a1) (by kernel_rfl) Args.nil) (hK.ok67 ((⟨v83, v84⟩ : S58)) a1 v126 ev126 n (by omega)))) ?_
     refine Ops.sg 6 9 (Ops.dn (seqQ.n (Wp.sq (Wp.sq (Wp.rg (Ops.sg 2 2 (Ops.dn (seqQ.n ?_))))))))
     refine Wp.cd h [0, 1, 4, 5, 6, 7] 5 (fun h => ?_) (fun h => ?_)
     ·refine Wp.sq (Wp.rg (Ops.sg 3 3 (Ops.dn (seqQ.n (Wp.rt (sqQ.r (seqQ.r (blkQ.r ?_))))))))
      cases h
      refine lpQ.r (blkQ.r ?_)
      exact hrx89 _ hsx93 _ (RetOkP.forget [0, 1, 4, 5, 6] (by kernel_rfl) (RetOkP.mk' (.v (.tuple [(.agg [(vI v126.1.1.fKind), (vP eI v126.1.1.fLabels), (vP ep24 v126.1.1.fSubs), (vI v126.1.1.fLeast), (vI v126.1.1.fMost)]), (vB false)])) (by kernel_rfl) (by kernel_rfl) (by kernel_rfl) (by kernel_rfl)))
     ·refine Wp.sk (sqQ.n ⟨Zs9 a1 ((appD 5 (List.map ep24 v82))::(.ptr 4 0)::q40 (q25 [])), [(.cells [(dP eI v126.2.fL), (dI v126.2.fAt)]), b61_0, .dead, .dead, (.cells [(dI v126.1.1.fKind), (dP eI v126.1.1.fLabels), (dP ep24 v126.1.1.fSubs), (dI v126.1.1.fLeast), (dI v126.1.1.fMost)]), (appO 5 (List.map ep24 v82))]⟩ (by generalize v82 = z0; cases z0 <;> kernel_rfl) (seqQ.n (Wp.rg (Ops.sg 3 3 ?_))))
      obtain ⟨v127, ev127, h⟩ := bnd_some h
      refine Ops.on 4 (fun h0 e0 => (app_r (T := T) (g := .nil) h0 23 25 5 5 ti25 .nonfull ep24 v82 ([(P24.con v126.1.1)]) v127 ev127 (by kernel_rfl) (by kernel_rfl) (by kernel_rfl) (by kernel_rfl) ep24_len (hq_of e0 (by kernel_rfl)))) ?_
      refine Ops.sg 1 5 (Ops.dn (blkQ.n ⟨Zs9 a1 ((appD 4 (List.map ep24 v127))::q40 (q26 [])), [(.cells [(dP eI v126.2.fL), (dI v126.2.fAt)]), b61_0, .dead, .dead, (appO 5 (List.map ep24 v127))]⟩ (by generalize v127 = z0; cases z0 <;> kernel_rfl) (lpQ.n ⟨Zs9 a1 ((appD 2 (List.map ep24 v127))::q40 (q26 [])), [(.cells [(dP eI v126.2.fL), (dI v126.2.fAt)]), b61_0, (appO 5 (List.map ep24 v127))]⟩ (by generalize v127 = z0; cases z0 <;> kernel_rfl) ?_)))
      cases h
      exact ihx88 v127 v126.2.fL v126.2.fAt  _ hsx93 _ (by omega) hrx89 hxx90
    ·refine Wp.ex 0 (sqQ.x (seqQ.x ?_))
     cases h
     refine lpQ.x (blkQ.x ⟨Zs48 v82 (q40 (q26 [])), [(.cells [(dP eI v83), (dI v84)]), b61_0, (appO 5 (List.map ep24 v82))]⟩ (by generalize v82 = z0; cases z0 <;> kernel_rfl) ?_)
     exact hxx90 (v82, v83, v84)  hsx93
   obtain ⟨v124, ev124, h⟩ := bnd_some h
   refine Ops.hv (fun KQ => ∀ v94 : Bool, (cnd v94 (bnd (idx v83 v84) fun v128 => cnd (decide (v128 < 128)) (bnd (idx v83 v84) fun v131 => bnd (f56 m ((⟨#[41, 93, 124, 38, 45, 42, 43, 63, 123, 125, 44]⟩ : ByteArray)) (IntKind.u8.wrap v131)) fun v132 => some (!(decide (v132 ≥ 0)))) (some (!false))) (some false)) = some v124 → KQ 11 ⟨Zs9 a1 ((appD 2 (List.map ep24 v82))::q2 ((.ptr 0 0)::(.ptr 0 0)::(.ptr 0 1)::(dI v84)::(.ptr 0 0)::(.ptr 0 0)::(.ptr 0 0)::(dP eI v83)::(dI (v83.length : Int))::(dB v94)::(dB v94)::q40 (q13 []))), [(.cells [(dP eI v83), (dI v84)]), b61_0, (appO 5 (List.map ep24 v82))]⟩) ?_ fun G61g95 => Ops.sx (G61g95 (decide (v84 < (v83.length : Int))) ev124)
   intro v94 ev124
   cases v94
   ·have ev124 := cnd_f ev124
    refine Ops.sg 28 39 ?_
    exact Ops.sx (J61j125 U U U U U U U U U U U U U U U U U U U U U U U U U U U false false (some_sub (fun v124 => f61_r1 m K a1 v82 v83 v84 v124 = some sx92) ev124 h))
   ·have ev124 := cnd_t ev124
    refine Ops.sg 8 19 ?_
    obtain ⟨v128, ev128, ev124⟩ := bnd_some ev124
    refine Ops.on 20 (fun h0 e0 => (ix_r (T := T) h0 22 3 1 .plain eI v83 v84 v128 ev128 (by kernel_rfl) (by kernel_rfl) (fun _ => rfl))) ?_
    refine Ops.sg 3 23 ?_
    refine Ops.hv (fun KQ => ∀ v129 : Bool, (cnd v129 (bnd (idx v83 v84) fun v131 => bnd (f56 m ((⟨#[41, 93, 124, 38, 45, 42, 43, 63, 123, 125, 44]⟩ : ByteArray)) (IntKind.u8.wrap v131)) fun v132 => some (!(decide (v132 ≥ 0)))) (some (!false))) = some v124 → KQ 23 ⟨Zs9 a1 ((appD 2 (List.map ep24 v82))::q2 ((.ptr 0 0)::(.ptr 0 0)::(.ptr 0 1)::(dI v84)::(.ptr 0 0)::(.ptr 0 0)::(.ptr 0 0)::(dP eI v83)::(dI (v83.length : Int))::(dB true)::(dB true)::(.ptr 0 0)::(.ptr 0 0)::(.ptr 0 0)::(dP eI v83)::(.ptr 0 0)::(.ptr 0 0)::(.ptr 0 1)::(dI v84)::(.vptr [(vI v128)])::(dI v128)::(dB v129)::(dB v129)::q40 (q1 []))), [(.cells [(dP eI v83), (dI v84)]), b61_0, (appO 5 (List.map ep24 v82))]⟩) ?_ fun G61g130 => Ops.sx (G61g130 (decide (v128 < 128)) ev124)
    intro v129 ev124
    cases v129
    ·have ev124 := cnd_f ev124
     refine Ops.sg 16 39 ?_
     exact Ops.sx (J61j125 (.ptr 0 0) (.ptr 0 0) (.ptr 0 0) (dP eI v83) (.ptr 0 0) (.ptr 0 0) (.ptr 0 1) (dI v84) (.vptr [(vI v128)]) (dI v128) (dB false) (dB false) U U U U U U U U U U U U U (dB false) (dB (!false)) true (!false) (some_sub (fun v124 => f61_r1 m K a1 v82 v83 v84 v124 = some sx92) ev124 h))
    ·have ev124 := cnd_t ev124
     refine Ops.sg 8 31 ?_
     obtain ⟨v131, ev131, ev124⟩ := bnd_some ev124
     refine Ops.on 32 (fun h0 e0 => (ix_r (T := T) h0 22 3 1 .plain eI v83 v84 v131 ev131 (by kernel_rfl) (by kernel_rfl) (fun _ => rfl))) ?_
     refine Ops.sg 2 34 ?_
     obtain ⟨v132, ev132, ev124⟩ := bnd_some ev124
     refine Ops.on 35 (fun h0 e0 => (call_ok (E' := E) (h := h0) (by kernel_rfl) (Args.v (.str ((⟨#[41, 93, 124, 38, 45, 42, 43, 63, 123, 125, 44]⟩ : ByteArray))) (eS ((⟨#[41, 93, 124, 38, 45, 42, 43, 63, 123, 125, 44]⟩ : ByteArray))) (by kernel_rfl) (Args.v (.int .u8 (IntKind.u8.wrap v131)) ((eK .u8) (IntKind.u8.wrap v131)) (by kernel_rfl) Args.nil)) (ok56 m ((⟨#[41, 93, 124, 38, 45, 42, 43, 63, 123, 125, 44]⟩ : ByteArray)) (IntKind.u8.wrap v131) v132 ev132 n (by omega)))) ?_
     refine Ops.sg 4 39 ?_
     exact Ops.sx (J61j125 (.ptr 0 0) (.ptr 0 0) (.ptr 0 0) (dP eI v83) (.ptr 0 0) (.ptr 0 0) (.ptr 0 1) (dI v84) (.vptr [(vI v128)]) (dI v128) (dB true) (dB true) (.ptr 0 0) (.ptr 0 0) (.ptr 0 0) (dP eI v83) (.ptr 0 0) (.ptr 0 0) (.ptr 0 1) (dI v84) (.vptr [(vI v131)]) (dI v131) (.v (.int .u8 (IntKind.u8.wrap v131))) (dI v132) (dB (decide (v132 ≥ 0))) (dB (decide (v132 ≥ 0))) (dB (!(decide (v132 ≥ 0)))) true (!(decide (v132 ≥ 0))) (some_sub (fun v124 => f61_r1 m K a1 v82 v83 v84 v124 = some sx92) ev124 h))
 refine Wp.loop' [0, 1, 4, 5, 6] 2 (by kernel_rfl) ⟨Zs9 a1 ((appD 2 (List.map ep24 []))::q40 (q26 [])), [(.cells [(dP eI a0.fL), (dI a0.fAt)]), b61_0, .dead]⟩ (by kernel_rfl) ?_
 rcases brk_some h with ⟨r135, er135, h⟩ | ⟨y134, ey134, h⟩
 ·refine hLx133 _ [] a0.fL a0.fAt  _ er135 n (by omega) (fun r er σ hσ => ?_) (fun y  ey => by cases ey)
  cases er
  refine seqQ.r ?_
  exact fnQP.r' (X61 n) (fun z => (.tuple [e24 z.1, eB z.2])) c58 h hσ
 ·refine hLx133 _ [] a0.fL a0.fAt  _ ey134 n (by omega) (fun r er => by cases er) (fun y  ey => ?_)
  cases ey
  refine seqQ.n (Wp.sq (Wp.sq (Wp.rg (Ops.sg 1 1 ?_))))
  refine Ops.on 2 (fun h0 e0 => (len_a (T := T) (g := .nil) h0 23 25 2 ep24 y134.1 (by kernel_rfl))) ?_
  refine Ops.dn (seqQ.n (Wp.bk 2 [4, 5, 6] 3 (Wp.sq (Wp.rg (Ops.sg 2 2 (Ops.dn (seqQ.n ?_)))))))
  refine Wp.cd h [4, 5, 6] 3 (fun h => ?_) (fun h => ?_)
  ·refine Wp.sq (Wp.rg (Ops.sg 3 3 (Ops.dn (seqQ.n (Wp.rt (sqQ.r (blkQ.r (seqQ.r ?_))))))))
   exact fnQP.r' (X61 n) (fun z => (.tuple [e24 z.1, eB z.2])) c58 h (RetOkP.mk' (.v (.tuple [(.agg [(vI 0), (.sl .nil (List.map eI [])), (.sl .nil (List.map ep24 [])), (vI 0), (vI 0)]), (vB false)])) (by kernel_rfl) (by kernel_rfl) (by kernel_rfl) (by kernel_rfl))
  ·refine Wp.sq (Wp.rg (Ops.sg 2 2 (Ops.dn (seqQ.n ?_))))
   refine Wp.cd h [4, 5, 6] 3 (fun h => ?_) (fun h => ?_)
   ·refine Wp.sq (Wp.rg (Ops.sg 1 1 ?_))
    obtain ⟨v136, ev136, h⟩ := bnd_some h
    refine Ops.on 2 (fun h0 e0 => (ixb24 (ix_a (T := T) (g := .nil) h0 23 25 5 2 ep24 y134.1 0 v136 ev136 (by kernel_rfl) (by kernel_rfl) ep24_len))) ?_
    refine Ops.sg 3 5 (Ops.dn (seqQ.n (Wp.rt (sqQ.r (sqQ.r (blkQ.r (seqQ.r ?_)))))))
    exact fnQP.r' (X61 n) (fun z => (.tuple [e24 z.1, eB z.2])) c58 h (RetOkP.mk' (.v (.tuple [(.agg [(vI v136.vw.fKind), (vP eI v136.vw.fLabels), (vP ep24 v136.vw.fSubs), (vI v136.vw.fLeast), (vI v136.vw.fMost)]), (vB true)])) (by kernel_rfl) (by kernel_rfl) (by kernel_rfl) (by kernel_rfl))
   ·refine Wp.sk (sqQ.n ⟨Zs43 y134.1 (q40 (q26 [])), [(.cells [(dP eI y134.2.1), (dI y134.2.2)]), b61_0, .dead, (appO 5 (List.map ep24 y134.1))]⟩ (by generalize y134.1 = z0; cases z0 <;> kernel_rfl) (sqQ.n ⟨Zs43 y134.1 (q40 (q26 [])), [(.cells [(dP eI y134.2.1), (dI y134.2.2)]), b61_0, .dead, (appO 5 (List.map ep24 y134.1))]⟩ (by generalize y134.1 = z0; cases z0 <;> kernel_rfl) (blkQ.n ⟨Zs43 y134.1 (q40 (q26 [])), [(.cells [(dP eI y134.2.1), (dI y134.2.2)]), b61_0, .dead, (appO 5 (List.map ep24 y134.1))]⟩ (by generalize y134.1 = z0; cases z0 <;> kernel_rfl) (seqQ.n (Wp.sq (Wp.rg (Ops.sg 1 1 (Ops.seg 1 2 (by kernel_rfl) ⟨Zs43 y134.1 (q40 (q24 ((appD 3 (List.map ep24 y134.1))::(.v (.agg [(vI 3), (.sl .nil (List.map eI [])), (.sl (dfl (appD 3 (List.map ep24 y134.1))) (List.map ep24 y134.1)), (vI 0), (vI 0)]))::[]))), [(.cells [(dP eI y134.2.1), (dI y134.2.2)]), b61_0, .dead, (appO 5 (List.map ep24 y134.1))]⟩ (by generalize y134.1 = z0; cases z0 <;> kernel_rfl) (Ops.sg 2 4 (Ops.dn (seqQ.n (Wp.rt ?_))))))))))))
    exact fnQP.r' (X61 n) (fun z => (.tuple [e24 z.1, eB z.2])) c58 h (RetOkP.mk' (.v (.tuple [(.agg [(vI 3), (.sl .nil (List.map eI [])), (.sl (dfl (appD 3 (List.map ep24 y134.1))) (List.map ep24 y134.1)), (vI 0), (vI 0)]), (vB true)])) (by kernel_rfl) (by kernel_rfl) (by kernel_rfl) (by kernel_rfl))
noncomputable def f67_j1 (m : Nat) (K : Rec28) (v641 : Int) (v642 : (List Int)) (v644 : (List P24)) (v646 v647 : Int) (v677 : Bool) (v737 : (List Int)) (v738 v739 v740 : Int) : Option (Stp ((S24 × Bool) × S58) (Bool × (List Int) × Int × Int × (List Int) × (List P24) × Int × Int)) :=
 some (.nxt (v677, v737, v738, 5, [], [(P24.con ((⟨v641, v642, v644, v646, v647⟩ : S24)))], v739, v740))
noncomputable def f67_j2 (m : Nat) (K : Rec28) (v641 : Int) (v642 : (List Int)) (v644 : (List P24)) (v646 v647 : Int) (v742 : Bool) (v802 : (List Int)) (v803 v804 v805 : Int) : Option (Stp ((S24 × Bool) × S58) (Bool × (List Int) × Int × Int × (List Int) × (List P24) × Int × Int)) :=
 f67_j1 m K v641 v642 v644 v646 v647 v742 v802 v803 v804 v805
noncomputable def f67_j3 (m : Nat) (K : Rec28) (v641 : Int) (v642 : (List Int)) (v644 : (List P24)) (v646 v647 : Int) (v807 : Bool) (v864 : (List Int)) (v865 v866 v867 : Int) : Option (Stp ((S24 × Bool) × S58) (Bool × (List Int) × Int × Int × (List Int) × (List P24) × Int × Int)) :=
 f67_j2 m K v641 v642 v644 v646 v647 v807 v864 v865 v866 v867
noncomputable def f67_j4 (m : Nat) (K : Rec28) (v641 : Int) (v642 : (List Int)) (v644 : (List P24)) (v646 v647 : Int) (v869 : Bool) (v923 : (List Int)) (v924 v925 v926 : Int) : Option (Stp ((S24 × Bool) × S58) (Bool × (List Int) × Int × Int × (List Int) × (List P24) × Int × Int)) :=
 f67_j3 m K v641 v642 v644 v646 v647 v869 v923 v924 v925 v926
noncomputable def f67_j5 (m : Nat) (K : Rec28) (v641 : Int) (v642 : (List Int)) (v644 : (List P24)) (v646 v647 : Int) (v928 : ((Int × Bool) × S58)) (v931 : Bool) (v954 : (List Int)) (v955 v956 : Int) : Option (Stp ((S24 × Bool) × S58) (Bool × (List Int) × Int × Int × (List Int) × (List P24) × Int × Int)) :=
 bnd (f46 m ((⟨v954, v955⟩ : S58)) 125) fun v958 =>
 cnd (!v958)
 (some (.ret ((((⟨v641, v642, v644, v646, v647⟩ : S24), false), (⟨v954, v955⟩ : S58)))))
 (f67_j4 m K v641 v642 v644 v646 v647 v931 v954 (w64 (v955 + 1)) v928.1.1 v956)
noncomputable def f67_r6 (m : Nat) (K : Rec28) (v639 : (List Int)) (v640 v641 : Int) (v642 : (List Int)) (v644 : (List P24)) (v646 v647 : Int) (v673 v674 : Bool) : Option (Stp ((S24 × Bool) × S58) (Bool × (List Int) × Int × Int × (List Int) × (List P24) × Int × Int)) :=
 cnd v674
 (bnd (idx v639 v640) fun v676 =>
 cnd (v676 == 43)
 (f67_j2 m K v641 v642 v644 v646 v647 v673 v639 (w64 (v640 + 1)) 1 (-1))
 (cnd (v676 == 63)
 (f67_j3 m K v641 v642 v644 v646 v647 v673 v639 (w64 (v640 + 1)) 0 1)
 (cnd (v676 == 123)
 (bnd (f75 m ((⟨v639, w64 (v640 + 1)⟩ : S58))) fun v928 =>
 cnd (!v928.1.2)
 (some (.ret ((((⟨v641, v642, v644, v646, v647⟩ : S24), false), v928.2))))
 (bnd (f46 m v928.2 44) fun v929 =>
 cnd (!v929)
 (some (.ret ((((⟨v641, v642, v644, v646, v647⟩ : S24), false), v928.2))))
 (bnd (f46 m ((⟨v928.2.fL, w64 (v928.2.fAt + 1)⟩ : S58)) 125) fun v930 =>
 cnd (!v930)
 (bnd (f75 m ((⟨v928.2.fL, w64 (v928.2.fAt + 1)⟩ : S58))) fun v959 =>
 cnd (!v959.1.2)
 (some (.ret ((((⟨v641, v642, v644, v646, v647⟩ : S24), false), v959.2))))
 (f67_j5 m K v641 v642 v644 v646 v647 v928 v959.1.2 v959.2.fL v959.2.fAt v959.1.1))
 (f67_j5 m K v641 v642 v644 v646 v647 v928 v928.1.2 v928.2.fL (w64 (v928.2.fAt + 1)) (-1)))))
 (f67_j4 m K v641 v642 v644 v646 v647 v673 v639 (w64 (v640 + 1)) 0 (-1)))))
 (some (.brk (v673, v639, v640, v641, v642, v644, v646, v647)))
noncomputable def f67_B7 (m : Nat) (K : Rec28) (v638 : Bool) (v639 : (List Int)) (v640 v641 : Int) (v642 : (List Int)) (v644 : (List P24)) (v646 v647 : Int) : Option (Stp ((S24 × Bool) × S58) (Bool × (List Int) × Int × Int × (List Int) × (List P24) × Int × Int)) :=
 bnd (cnd v638
 (bnd (f46 m ((⟨v639, v640⟩ : S58)) 42) fun v960 =>
 cnd v960
 (some true)
 (bnd (f46 m ((⟨v639, v640⟩ : S58)) 43) fun v963 =>
 cnd v963
 (some true)
 (bnd (f46 m ((⟨v639, v640⟩ : S58)) 63) fun v966 =>
 cnd v966
 (some true)
 (bnd (f46 m ((⟨v639, v640⟩ : S58)) 123) fun v969 =>
 some v969))))
 (some false)) fun v674 =>
 f67_r6 m K v639 v640 v641 v642 v644 v646 v647 v638 v674
noncomputable def b67 (m : Nat) (K : Rec28) (a0 : S58) (a1 : Int) : Option ((S24 × Bool) × S58) :=
 bnd (K.r74 a0 a1) fun v1 =>
 brk (iter (fun (y : Bool × (List Int) × Int × Int × (List Int) × (List P24) × Int × Int) => f67_B7 m K y.1 y.2.1 y.2.2.1 y.2.2.2.1 y.2.2.2.2.1 y.2.2.2.2.2.1 y.2.2.2.2.2.2.1 y.2.2.2.2.2.2.2) m (v1.1.2, v1.2.fL, v1.2.fAt, v1.1.1.fKind, v1.1.1.fLabels, v1.1.1.fSubs, v1.1.1.fLeast, v1.1.1.fMost)) some fun y971 =>
 some ((((⟨y971.2.2.2.1, y971.2.2.2.2.1, y971.2.2.2.2.2.1, y971.2.2.2.2.2.2.1, y971.2.2.2.2.2.2.2⟩ : S24), y971.1), (⟨y971.2.1, y971.2.2.1⟩ : S58)))
noncomputable abbrev X67 (n : Nat) : Cx := cxOf Proofs.Tryd.prog E 67 n
noncomputable def C67 : Code := bodyOf Proofs.Tryd.prog 67
noncomputable abbrev p67_0 : Code := cR (cR (cR C67))
noncomputable abbrev p67_1 : Code := cL (cL (cL (cR (cR C67))))
noncomputable abbrev p67_2 : Code := cR (cR (cR (cR (cL (cR p67_1)))))
noncomputable abbrev p67_3 : Code := cR (cR (cR (cR (cL (cR (cR (cR (cR (cR (cL (cR (cL (cR (cR (cR (cL (cR p67_1)))))))))))))))))
noncomputable abbrev b67_0 : AObj := .cells [(dI 0), (.v (.sl .nil (List.map eI []))), (.v (.sl .nil (List.map ep24 []))), (dI 0), (dI 0)]
noncomputable abbrev b67_1 (w0 : (List Int)) (w1 : Int) : AObj := .cells [(dP eI w0), (dI w1)]
noncomputable abbrev b67_2 (w0 : Int) (w1 : (List Int)) (w2 : (List P24)) (w3 w4 w5 w6 : Int) : AObj := .cells [(dI 5), (.v (.sl .nil (List.map eI []))), (.v (.sl .nonfull (List.map ep24 ([(P24.con ((⟨w0, w1, w2, w3, w4⟩ : S24)))])))), (dI w5), (dI w6)]
noncomputable abbrev k67_0 : List Nat := [0, 4, 5, 6, 7]
noncomputable abbrev k67_1 : List Nat := [0, 4, 5, 6, 7, 8]
theorem f67_hLx970 (m : Nat) (K : Rec28) (nn : Nat) (hK : OkRec28 m K nn) (a0 : S58) (a1 : Int) (o : ((S24 × Bool) × S58)) (n : Nat) (hn : m + 2 ≤ n + 1) (hk : nn + 1 ≤ n + 1)  : ∀ (kx649 : Nat) (v638 : Bool) (v639 : (List Int)) (v640 v641 : Int) (v642 : (List Int)) (v644 : (List P24)) (v646 v647 : Int) (fl643 fl645 : SFlag) (ox648 : ((S24 × Bool) × S58) ⊕ (Bool × (List Int) × Int × Int × (List Int) × (List P24) × Int × Int)), iter (fun (y : Bool × (List Int) × Int × Int × (List Int) × (List P24) × Int × Int) => f67_B7 m K y.1 y.2.1 y.2.2.1 y.2.2.2.1 y.2.2.2.2.1 y.2.2.2.2.2.1 y.2.2.2.2.2.2.1 y.2.2.2.2.2.2.2) kx649 (v638, v639, v640, v641, v642, v644, v646, v647) = some ox648 → ∀ nx650, kx649 ≤ nx650 → (∀ r, ox648 = .inl r → ∀ σ, RetOkP (X67 n) (resOf Proofs.Tryd.prog 67) (.tuple [e24 r.1.1, eB r.1.2]) (c58 r.2) σ → (seqQ (X67 n) p67_0 (fnQP (X67 n).E.T (resOf Proofs.Tryd.prog 67) (.tuple [e24 o.1.1, eB o.1.2]) (c58 o.2))) .ret σ) → (∀ (y : Bool × (List Int) × Int × Int × (List Int) × (List P24) × Int × Int) (fl643 fl645 : SFlag), ox648 = .inr y → (seqQ (X67 n) p67_0 (fnQP (X67 n).E.T (resOf Proofs.Tryd.prog 67) (.tuple [e24 o.1.1, eB o.1.2]) (c58 o.2))) .normal ⟨Zs15 ((.ptr 2 0)::(dB y.1)::q40 (q40 (q20 []))), [(.cells [(dP eI y.2.1), (dI y.2.2.1)]), b67_0, (.cells [(dI y.2.2.2.1), (.v (.sl fl643 (List.map eI y.2.2.2.2.1))), (.v (.sl fl645 (List.map ep24 y.2.2.2.2.2.1))), (dI y.2.2.2.2.2.2.1), (dI y.2.2.2.2.2.2.2)])]⟩) → Lp (X67 n) k67_0 3 p67_1 nx650 ⟨Zs15 ((.ptr 2 0)::(dB v638)::q40 (q40 (q20 []))), [(b67_1 v639 v640), b67_0, (.cells [(dI v641), (.v (.sl fl643 (List.map eI v642))), (.v (.sl fl645 (List.map ep24 v644))), (dI v646), (dI v647)])]⟩ (blkQ (X67 n) 0 [4, 5, 6, 7] 3 (seqQ (X67 n) p67_0 (fnQP (X67 n).E.T (resOf Proofs.Tryd.prog 67) (.tuple [e24 o.1.1, eB o.1.2]) (c58 o.2)))) := by
 intro kx649
 induction kx649 with
 | zero => intro v638 v639 v640 v641 v642 v644 v646 v647 fl643 fl645 ox648 h; exact (iter_zero h).elim
 | succ kx649 ihx651 =>
  intro v638 v639 v640 v641 v642 v644 v646 v647 fl643 fl645 ox648 h nx650 hnx654 hrx652 hxx653
  obtain ⟨nx650, rfl⟩ : ∃ q, nx650 = q + 1 := ⟨nx650 - 1, by omega⟩
  obtain ⟨sx655, h, hsx656⟩ := iter_some h
  have h : f67_B7 m K v638 v639 v640 v641 v642 v644 v646 v647 = some sx655 := h
  unfold f67_B7 at h
  refine Lp.succ (Wp.sq (Wp.sq (Wp.rg (Ops.sg 2 2 ?_))))
  refine Ops.hv (fun KQ => ∀ (d659 d660 d661 d662 d663 d664 d665 d666 d667 d668 d669 d670 d671 d672 : D) (v673 v674 : Bool), f67_r6 m K v639 v640 v641 v642 v644 v646 v647 v673 v674 = some sx655 → KQ 17 ⟨Zs15 ((.ptr 2 0)::(dB v673)::q8 ((dB v673)::(dB v673)::d659::d660::d661::d662::d663::d664::d665::d666::d667::d668::d669::d670::d671::d672::(dB v674)::q40 (q35 []))), [(b67_1 v639 v640), b67_0, (.cells [(dI v641), (.v (.sl fl643 (List.map eI v642))), (.v (.sl fl645 (List.map ep24 v644))), (dI v646), (dI v647)])]⟩) ?_ fun J67j675 => ?_
  ·intro d659 d660 d661 d662 d663 d664 d665 d666 d667 d668 d669 d670 d671 d672 v673 v674 h
   unfold f67_r6 at h
   refine Ops.dn (seqQ.n ?_)
   refine Wp.cd h k67_0 3 (fun h => ?_) (fun h => ?_)
   ·refine Wp.sk (sqQ.n' (seqQ.n (Wp.bk 1 k67_0 3 (Wp.sq (Wp.rg (Ops.sg 5 5 (Ops.dn (seqQ.n (Wp.sq (Wp.rg (Ops.sg 8 8 ?_)))))))))))
    obtain ⟨v676, ev676, h⟩ := bnd_some h
    refine Ops.on 9 (fun h0 e0 => (ix_r (T := T) h0 22 3 1 .plain eI v639 v640 v676 ev676 (by kernel_rfl) (by kernel_rfl) (fun _ => rfl))) ?_
    refine Ops.sg 2 11 (Ops.dn (seqQ.n (Wp.sq (Wp.rg (Ops.sg 8 8 (Ops.dn (seqQ.n (Wp.sq (Wp.sq (Wp.rg (Ops.sg 1 1 (Ops.dn (seqQ.n ?_)))))))))))))
    have J67j741 : ∀ (v677 : Bool) (v737 : (List Int)) (v738 v739 v740 : Int) (d678 d679 d680 d681 d682 d683 d684 d685 d686 d687 d688 d689 d690 d691 d692 d693 d694 d695 d696 d697 d698 d699 d700 d701 d702 d703 d704 d705 d706 d707 d708 d709 d710 d711 d712 d713 d714 d715 d716 d717 d718 d719 d720 d721 d722 d723 d724 d725 d726 d727 d728 d729 d730 d731 d732 d733 d734 d735 d736 : D), f67_j1 m K v641 v642 v644 v646 v647 v677 v737 v738 v739 v740 = some sx655 → (seqQ (X67 n) p67_2 (blkQ (X67 n) 1 k67_0 3 (lpQ (X67 n) k67_0 3 p67_1 nx650 (blkQ (X67 n) 0 [4, 5, 6, 7] 3 (seqQ (X67 n) p67_0 (fnQP (X67 n).E.T (resOf Proofs.Tryd.prog 67) (.tuple [e24 o.1.1, eB o.1.2]) (c58 o.2))))))) .normal ⟨Zs3 v677 v676 v673 d678 d679 d680 d681 d682 d683 d684 d685 d686 d687 d688 d689 d690 d691 v674 (.v (.agg [(vI v641), (.sl fl643 (List.map eI v642)), (.sl fl645 (List.map ep24 v644)), (vI v646), (vI v647)])) (.v (.sl .nonfull (List.map ep24 ([(P24.con ((⟨v641, v642, v644, v646, v647⟩ : S24)))])))) (.v (.agg [(vI 5), (.sl .nil (List.map eI [])), (.sl .nonfull (List.map ep24 ([(P24.con ((⟨v641, v642, v644, v646, v647⟩ : S24)))]))), (vI 0), (vI (-1))])) v639 v640 (.vptr [(vI v676)]) (w64 (v640 + 1)) (v676 == 43) (d692::d693::d694::d695::d696::d697::d698::d699::d700::d701::d702::d703::d704::d705::q1 (d706::d707::d708::q1 (d709::d710::d711::d712::d713::d714::d715::d716::d717::d718::d719::d720::d721::d722::d723::d724::d725::d726::q1 (d727::d728::d729::q1 (d730::d731::d732::d733::d734::d735::d736::q3 []))))), [(b67_1 v737 v738), b67_0, (.cells [(dI v641), (.v (.sl fl643 (List.map eI v642))), (.v (.sl fl645 (List.map ep24 v644))), (dI v646), (dI v647)]), (b67_2 v641 v642 v644 v646 v647 v739 v740)]⟩ := by
     intro v677 v737 v738 v739 v740 d678 d679 d680 d681 d682 d683 d684 d685 d686 d687 d688 d689 d690 d691 d692 d693 d694 d695 d696 d697 d698 d699 d700 d701 d702 d703 d704 d705 d706 d707 d708 d709 d710 d711 d712 d713 d714 d715 d716 d717 d718 d719 d720 d721 d722 d723 d724 d725 d726 d727 d728 d729 d730 d731 d732 d733 d734 d735 d736 h
     unfold f67_j1 at h
     refine seqQ.n (Wp.rg (Ops.sg 2 2 (Ops.dn (blkQ.n' (lpQ.m ⟨Zs15 ((.ptr 2 0)::(dB v677)::q40 (q40 (q20 []))), [(b67_1 v737 v738), b67_0, (b67_2 v641 v642 v644 v646 v647 v739 v740)]⟩ ?_)))))
     cases h
     exact ihx651 v677 v737 v738 5 [] ([(P24.con ((⟨v641, v642, v644, v646, v647⟩ : S24)))]) v739 v740 _ _ _ hsx656 _ (by omega) hrx652 hxx653
    refine Wp.bk 2 k67_1 4 (Wp.sq (Wp.rg (Ops.sg 2 2 (Ops.dn (seqQ.n ?_)))))
    have J67j806 : ∀ (v742 : Bool) (v802 : (List Int)) (v803 v804 v805 : Int) (d743 d744 d745 d746 d747 d748 d749 d750 d751 d752 d753 d754 d755 d756 d757 d758 d759 d760 d761 d762 d763 d764 d765 d766 d767 d768 d769 d770 d771 d772 d773 d774 d775 d776 d777 d778 d779 d780 d781 d782 d783 d784 d785 d786 d787 d788 d789 d790 d791 d792 d793 d794 d795 d796 d797 d798 d799 d800 d801 : D), f67_j2 m K v641 v642 v644 v646 v647 v742 v802 v803 v804 v805 = some sx655 → (blkQ (X67 n) 2 k67_1 4 (seqQ (X67 n) p67_2 (blkQ (X67 n) 1 k67_0 3 (lpQ (X67 n) k67_0 3 p67_1 nx650 (blkQ (X67 n) 0 [4, 5, 6, 7] 3 (seqQ (X67 n) p67_0 (fnQP (X67 n).E.T (resOf Proofs.Tryd.prog 67) (.tuple [e24 o.1.1, eB o.1.2]) (c58 o.2)))))))) .normal ⟨Zs3 v742 v676 v673 d743 d744 d745 d746 d747 d748 d749 d750 d751 d752 d753 d754 d755 d756 v674 (.v (.agg [(vI v641), (.sl fl643 (List.map eI v642)), (.sl fl645 (List.map ep24 v644)), (vI v646), (vI v647)])) (.v (.sl .nonfull (List.map ep24 ([(P24.con ((⟨v641, v642, v644, v646, v647⟩ : S24)))])))) (.v (.agg [(vI 5), (.sl .nil (List.map eI [])), (.sl .nonfull (List.map ep24 ([(P24.con ((⟨v641, v642, v644, v646, v647⟩ : S24)))]))), (vI 0), (vI (-1))])) v639 v640 (.vptr [(vI v676)]) (w64 (v640 + 1)) (v676 == 43) (d757::d758::d759::d760::d761::d762::d763::d764::d765::d766::d767::d768::d769::d770::q1 (d771::d772::d773::q1 (d774::d775::d776::d777::d778::d779::d780::d781::d782::d783::d784::d785::d786::d787::d788::d789::d790::d791::q1 (d792::d793::d794::q1 (d795::d796::d797::d798::d799::d800::d801::q3 []))))), [(b67_1 v802 v803), b67_0, (.cells [(dI v641), (.v (.sl fl643 (List.map eI v642))), (.v (.sl fl645 (List.map ep24 v644))), (dI v646), (dI v647)]), (b67_2 v641 v642 v644 v646 v647 v804 v805)]⟩ := by
     intro v742 v802 v803 v804 v805 d743 d744 d745 d746 d747 d748 d749 d750 d751 d752 d753 d754 d755 d756 d757 d758 d759 d760 d761 d762 d763 d764 d765 d766 d767 d768 d769 d770 d771 d772 d773 d774 d775 d776 d777 d778 d779 d780 d781 d782 d783 d784 d785 d786 d787 d788 d789 d790 d791 d792 d793 d794 d795 d796 d797 d798 d799 d800 d801 h
     unfold f67_j2 at h
     refine blkQ.m ⟨Zs3 v742 v676 v673 d743 d744 d745 d746 d747 d748 d749 d750 d751 d752 d753 d754 d755 d756 v674 (.v (.agg [(vI v641), (.sl fl643 (List.map eI v642)), (.sl fl645 (List.map ep24 v644)), (vI v646), (vI v647)])) (.v (.sl .nonfull (List.map ep24 ([(P24.con ((⟨v641, v642, v644, v646, v647⟩ : S24)))])))) (.v (.agg [(vI 5), (.sl .nil (List.map eI [])), (.sl .nonfull (List.map ep24 ([(P24.con ((⟨v641, v642, v644, v646, v647⟩ : S24)))]))), (vI 0), (vI (-1))])) v639 v640 (.vptr [(vI v676)]) (w64 (v640 + 1)) (v676 == 43) (d757::d758::d759::d760::d761::d762::d763::d764::d765::d766::d767::d768::d769::d770::q1 (d771::d772::d773::q1 (d774::d775::d776::d777::d778::d779::d780::d781::d782::d783::d784::d785::d786::d787::d788::d789::d790::d791::q1 (d792::d793::d794::q1 (d795::d796::d797::d798::d799::d800::d801::q3 []))))), [(b67_1 v802 v803), b67_0, (.cells [(dI v641), (.v (.sl fl643 (List.map eI v642))), (.v (.sl fl645 (List.map ep24 v644))), (dI v646), (dI v647)]), (b67_2 v641 v642 v644 v646 v647 v804 v805)]⟩ ?_
     exact J67j741 v742 v802 v803 v804 v805 _ _ _ _ _ _ _ _ _ _ _ _ _ _ _ _ _ _ _ _ _ _ _ _ _ _ _ _ _ _ _ _ _ _ _ _ _ _ _ _ _ _ _ _ _ _ _ _ _ _ _ _ _ _ _ _ _ _ _ h
    refine Wp.cd h k67_1 4 (fun h => ?_) (fun h => ?_)
    ·refine Wp.rg (Ops.sg 2 2 (Ops.dn (sqQ.m ⟨Zs15 ((.ptr 2 0)::(dB v673)::(.ptr 3 0)::(dI v676)::q6 ((dB v673)::(dB v673)::d659::d660::d661::d662::d663::d664::d665::d666::d667::d668::d669::d670::d671::d672::(dB v674)::(.v (.agg [(vI v641), (.sl fl643 (List.map eI v642)), (.sl fl645 (List.map ep24 v644)), (vI v646), (vI v647)]))::(.v (.sl .nonfull (List.map ep24 ([(P24.con ((⟨v641, v642, v644, v646, v647⟩ : S24)))]))))::(.v (.agg [(vI 5), (.sl .nil (List.map eI [])), (.sl .nonfull (List.map ep24 ([(P24.con ((⟨v641, v642, v644, v646, v647⟩ : S24)))]))), (vI 0), (vI (-1))]))::(.ptr 0 0)::(.ptr 0 0)::(.ptr 0 0)::(dP eI v639)::(.ptr 0 0)::(.ptr 0 0)::(.ptr 0 1)::(dI v640)::(.vptr [(vI v676)])::(dI v676)::(.ptr 0 0)::(.ptr 0 0)::(.ptr 0 1)::(dI v640)::(dI (w64 (v640 + 1)))::(.ptr 0 0)::(.ptr 0 1)::(dI v676)::(dB (v676 == 43))::(dB (v676 == 43))::(.ptr 3 3)::q40 (q11 []))), [(.cells [(dP eI v639), (dI (w64 (v640 + 1)))]), b67_0, (.cells [(dI v641), (.v (.sl fl643 (List.map eI v642))), (.v (.sl fl645 (List.map ep24 v644))), (dI v646), (dI v647)]), (.cells [(dI 5), (.v (.sl .nil (List.map eI []))), (.v (.sl .nonfull (List.map ep24 ([(P24.con ((⟨v641, v642, v644, v646, v647⟩ : S24)))])))), (dI 1), (dI (-1))])]⟩ ?_)))
     exact J67j806 v673 v639 (w64 (v640 + 1)) 1 (-1) _ _ _ _ _ _ _ _ _ _ _ _ _ _ _ _ _ _ _ _ _ _ _ _ _ _ _ _ _ _ _ _ _ _ _ _ _ _ _ _ _ _ _ _ _ _ _ _ _ _ _ _ _ _ _ _ _ _ _ h
    ·refine Wp.sq (Wp.rg (Ops.sg 2 2 (Ops.dn (seqQ.n ?_))))
     have J67j868 : ∀ (v807 : Bool) (v864 : (List Int)) (v865 v866 v867 : Int) (d808 d809 d810 d811 d812 d813 d814 d815 d816 d817 d818 d819 d820 d821 d822 d823 d824 d825 d826 d827 d828 d829 d830 d831 d832 d833 d834 d835 d836 d837 d838 d839 d840 d841 d842 d843 d844 d845 d846 d847 d848 d849 d850 d851 d852 d853 d854 d855 d856 d857 d858 d859 d860 d861 d862 d863 : D), f67_j3 m K v641 v642 v644 v646 v647 v807 v864 v865 v866 v867 = some sx655 → (sqQ (X67 n) k67_1 4 (blkQ (X67 n) 2 k67_1 4 (seqQ (X67 n) p67_2 (blkQ (X67 n) 1 k67_0 3 (lpQ (X67 n) k67_0 3 p67_1 nx650 (blkQ (X67 n) 0 [4, 5, 6, 7] 3 (seqQ (X67 n) p67_0 (fnQP (X67 n).E.T (resOf Proofs.Tryd.prog 67) (.tuple [e24 o.1.1, eB o.1.2]) (c58 o.2))))))))) .normal ⟨Zs3 v807 v676 v673 d808 d809 d810 d811 d812 d813 d814 d815 d816 d817 d818 d819 d820 d821 v674 (.v (.agg [(vI v641), (.sl fl643 (List.map eI v642)), (.sl fl645 (List.map ep24 v644)), (vI v646), (vI v647)])) (.v (.sl .nonfull (List.map ep24 ([(P24.con ((⟨v641, v642, v644, v646, v647⟩ : S24)))])))) (.v (.agg [(vI 5), (.sl .nil (List.map eI [])), (.sl .nonfull (List.map ep24 ([(P24.con ((⟨v641, v642, v644, v646, v647⟩ : S24)))]))), (vI 0), (vI (-1))])) v639 v640 (.vptr [(vI v676)]) (w64 (v640 + 1)) (v676 == 43) (q1 ((dB (v676 == 63))::(dB (v676 == 63))::d822::d823::d824::d825::d826::d827::d828::d829::d830::d831::d832::q1 (d833::d834::d835::q1 (d836::d837::d838::d839::d840::d841::d842::d843::d844::d845::d846::d847::d848::d849::d850::d851::d852::d853::q1 (d854::d855::d856::q1 (d857::d858::d859::d860::d861::d862::d863::q3 [])))))), [(b67_1 v864 v865), b67_0, (.cells [(dI v641), (.v (.sl fl643 (List.map eI v642))), (.v (.sl fl645 (List.map ep24 v644))), (dI v646), (dI v647)]), (b67_2 v641 v642 v644 v646 v647 v866 v867)]⟩ := by
      intro v807 v864 v865 v866 v867 d808 d809 d810 d811 d812 d813 d814 d815 d816 d817 d818 d819 d820 d821 d822 d823 d824 d825 d826 d827 d828 d829 d830 d831 d832 d833 d834 d835 d836 d837 d838 d839 d840 d841 d842 d843 d844 d845 d846 d847 d848 d849 d850 d851 d852 d853 d854 d855 d856 d857 d858 d859 d860 d861 d862 d863 h
      unfold f67_j3 at h
      refine sqQ.m ⟨Zs3 v807 v676 v673 d808 d809 d810 d811 d812 d813 d814 d815 d816 d817 d818 d819 d820 d821 v674 (.v (.agg [(vI v641), (.sl fl643 (List.map eI v642)), (.sl fl645 (List.map ep24 v644)), (vI v646), (vI v647)])) (.v (.sl .nonfull (List.map ep24 ([(P24.con ((⟨v641, v642, v644, v646, v647⟩ : S24)))])))) (.v (.agg [(vI 5), (.sl .nil (List.map eI [])), (.sl .nonfull (List.map ep24 ([(P24.con ((⟨v641, v642, v644, v646, v647⟩ : S24)))]))), (vI 0), (vI (-1))])) v639 v640 (.vptr [(vI v676)]) (w64 (v640 + 1)) (v676 == 43) (q1 ((dB (v676 == 63))::(dB (v676 == 63))::d822::d823::d824::d825::d826::d827::d828::d829::d830::d831::d832::q1 (d833::d834::d835::q1 (d836::d837::d838::d839::d840::d841::d842::d843::d844::d845::d846::d847::d848::d849::d850::d851::d852::d853::q1 (d854::d855::d856::q1 (d857::d858::d859::d860::d861::d862::d863::q3 [])))))), [(b67_1 v864 v865), b67_0, (.cells [(dI v641), (.v (.sl fl643 (List.map eI v642))), (.v (.sl fl645 (List.map ep24 v644))), (dI v646), (dI v647)]), (b67_2 v641 v642 v644 v646 v647 v866 v867)]⟩ ?_
      exact J67j806 v807 v864 v865 v866 v867 _ _ _ _ _ _ _ _ _ _ _ _ _ _ _ _ _ _ _ _ _ _ _ _ _ _ _ _ _ _ _ _ _ _ _ _ _ _ _ _ _ _ _ _ _ _ _ _ _ _ _ _ _ _ _ _ _ _ _ h
     refine Wp.cd h k67_1 4 (fun h => ?_) (fun h => ?_)
     ·refine Wp.rg (Ops.sg 2 2 (Ops.dn (sqQ.m ⟨Zs15 ((.ptr 2 0)::(dB v673)::(.ptr 3 0)::(dI v676)::q6 ((dB v673)::(dB v673)::d659::d660::d661::d662::d663::d664::d665::d666::d667::d668::d669::d670::d671::d672::(dB v674)::(.v (.agg [(vI v641), (.sl fl643 (List.map eI v642)), (.sl fl645 (List.map ep24 v644)), (vI v646), (vI v647)]))::(.v (.sl .nonfull (List.map ep24 ([(P24.con ((⟨v641, v642, v644, v646, v647⟩ : S24)))]))))::(.v (.agg [(vI 5), (.sl .nil (List.map eI [])), (.sl .nonfull (List.map ep24 ([(P24.con ((⟨v641, v642, v644, v646, v647⟩ : S24)))]))), (vI 0), (vI (-1))]))::(.ptr 0 0)::(.ptr 0 0)::(.ptr 0 0)::(dP eI v639)::(.ptr 0 0)::(.ptr 0 0)::(.ptr 0 1)::(dI v640)::(.vptr [(vI v676)])::(dI v676)::(.ptr 0 0)::(.ptr 0 0)::(.ptr 0 1)::(dI v640)::(dI (w64 (v640 + 1)))::(.ptr 0 0)::(.ptr 0 1)::(dI v676)::(dB (v676 == 43))::(dB (v676 == 43))::q1 ((dB (v676 == 63))::(dB (v676 == 63))::(.ptr 3 4)::q40 (q8 [])))), [(.cells [(dP eI v639), (dI (w64 (v640 + 1)))]), b67_0, (.cells [(dI v641), (.v (.sl fl643 (List.map eI v642))), (.v (.sl fl645 (List.map ep24 v644))), (dI v646), (dI v647)]), (.cells [(dI 5), (.v (.sl .nil (List.map eI []))), (.v (.sl .nonfull (List.map ep24 ([(P24.con ((⟨v641, v642, v644, v646, v647⟩ : S24)))])))), (dI 0), (dI 1)])]⟩ ?_)))
      exact J67j868 v673 v639 (w64 (v640 + 1)) 0 1 _ _ _ _ _ _ _ _ _ _ _ _ _ _ _ _ _ _ _ _ _ _ _ _ _ _ _ _ _ _ _ _ _ _ _ _ _ _ _ _ _ _ _ _ _ _ _ _ _ _ _ _ _ _ _ _ h
     ·refine Wp.sq (Wp.rg (Ops.sg 2 2 (Ops.dn (seqQ.n ?_))))
      have J67j927 : ∀ (v869 : Bool) (v923 : (List Int)) (v924 v925 v926 : Int) (d870 d871 d872 d873 d874 d875 d876 d877 d878 d879 d880 d881 d882 d883 d884 d885 d886 d887 d888 d889 d890 d891 d892 d893 d894 d895 d896 d897 d898 d899 d900 d901 d902 d903 d904 d905 d906 d907 d908 d909 d910 d911 d912 d913 d914 d915 d916 d917 d918 d919 d920 d921 d922 : D), f67_j4 m K v641 v642 v644 v646 v647 v869 v923 v924 v925 v926 = some sx655 → (sqQ (X67 n) k67_1 4 (sqQ (X67 n) k67_1 4 (blkQ (X67 n) 2 k67_1 4 (seqQ (X67 n) p67_2 (blkQ (X67 n) 1 k67_0 3 (lpQ (X67 n) k67_0 3 p67_1 nx650 (blkQ (X67 n) 0 [4, 5, 6, 7] 3 (seqQ (X67 n) p67_0 (fnQP (X67 n).E.T (resOf Proofs.Tryd.prog 67) (.tuple [e24 o.1.1, eB o.1.2]) (c58 o.2)))))))))) .normal ⟨Zs3 v869 v676 v673 d870 d871 d872 d873 d874 d875 d876 d877 d878 d879 d880 d881 d882 d883 v674 (.v (.agg [(vI v641), (.sl fl643 (List.map eI v642)), (.sl fl645 (List.map ep24 v644)), (vI v646), (vI v647)])) (.v (.sl .nonfull (List.map ep24 ([(P24.con ((⟨v641, v642, v644, v646, v647⟩ : S24)))])))) (.v (.agg [(vI 5), (.sl .nil (List.map eI [])), (.sl .nonfull (List.map ep24 ([(P24.con ((⟨v641, v642, v644, v646, v647⟩ : S24)))]))), (vI 0), (vI (-1))])) v639 v640 (.vptr [(vI v676)]) (w64 (v640 + 1)) (v676 == 43) (q1 ((dB (v676 == 63))::(dB (v676 == 63))::q1 ((dB (v676 == 123))::(dB (v676 == 123))::d884::d885::d886::d887::d888::d889::d890::d891::q1 (d892::d893::d894::q1 (d895::d896::d897::d898::d899::d900::d901::d902::d903::d904::d905::d906::d907::d908::d909::d910::d911::d912::q1 (d913::d914::d915::q1 (d916::d917::d918::d919::d920::d921::d922::q3 []))))))), [(b67_1 v923 v924), b67_0, (.cells [(dI v641), (.v (.sl fl643 (List.map eI v642))), (.v (.sl fl645 (List.map ep24 v644))), (dI v646), (dI v647)]), (b67_2 v641 v642 v644 v646 v647 v925 v926)]⟩ := by
       intro v869 v923 v924 v925 v926 d870 d871 d872 d873 d874 d875 d876 d877 d878 d879 d880 d881 d882 d883 d884 d885 d886 d887 d888 d889 d890 d891 d892 d893 d894 d895 d896 d897 d898 d899 d900 d901 d902 d903 d904 d905 d906 d907 d908 d909 d910 d911 d912 d913 d914 d915 d916 d917 d918 d919 d920 d921 d922 h
       unfold f67_j4 at h
       refine sqQ.m ⟨Zs3 v869 v676 v673 d870 d871 d872 d873 d874 d875 d876 d877 d878 d879 d880 d881 d882 d883 v674 (.v (.agg [(vI v641), (.sl fl643 (List.map eI v642)), (.sl fl645 (List.map ep24 v644)), (vI v646), (vI v647)])) (.v (.sl .nonfull (List.map ep24 ([(P24.con ((⟨v641, v642, v644, v646, v647⟩ : S24)))])))) (.v (.agg [(vI 5), (.sl .nil (List.map eI [])), (.sl .nonfull (List.map ep24 ([(P24.con ((⟨v641, v642, v644, v646, v647⟩ : S24)))]))), (vI 0), (vI (-1))])) v639 v640 (.vptr [(vI v676)]) (w64 (v640 + 1)) (v676 == 43) (q1 ((dB (v676 == 63))::(dB (v676 == 63))::q1 ((dB (v676 == 123))::(dB (v676 == 123))::d884::d885::d886::d887::d888::d889::d890::d891::q1 (d892::d893::d894::q1 (d895::d896::d897::d898::d899::d900::d901::d902::d903::d904::d905::d906::d907::d908::d909::d910::d911::d912::q1 (d913::d914::d915::q1 (d916::d917::d918::d919::d920::d921::d922::q3 []))))))), [(b67_1 v923 v924), b67_0, (.cells [(dI v641), (.v (.sl fl643 (List.map eI v642))), (.v (.sl fl645 (List.map ep24 v644))), (dI v646), (dI v647)]), (b67_2 v641 v642 v644 v646 v647 v925 v926)]⟩ ?_
       exact J67j868 v869 v923 v924 v925 v926 _ _ _ _ _ _ _ _ _ _ _ _ _ _ _ _ _ _ _ _ _ _ _ _ _ _ _ _ _ _ _ _ _ _ _ _ _ _ _ _ _ _ _ _ _ _ _ _ _ _ _ _ _ _ _ _ h
      refine Wp.cd h k67_1 4 (fun h => ?_) (fun h => ?_)
      ·refine Wp.sq (Wp.sq (Wp.rg (Ops.sg 1 1 ?_)))
       obtain ⟨v928, ev928, h⟩ := bnd_some h
       refine Ops.on 2 (fun h0 e0 => (call_ptr (E' := E) (h := h0) (q := 0) (cs := c58 ((⟨v639, w64 (v640 + 1)⟩ : S58))) (by kernel_rfl) (by kernel_rfl) (by kernel_rfl) (hq_of e0 (by kernel_rfl)) (by kernel_rfl) Args.nil (ok75 m ((⟨v639, w64 (v640 + 1)⟩ : S58)) v928 ev928 n (by omega)))) ?_
       refine Ops.sg 6 8 (Ops.dn (seqQ.n (Wp.sq (Wp.rg (Ops.sg 2 2 (Ops.dn (seqQ.n ?_)))))))
       refine Wp.cd h k67_1 4 (fun h => ?_) (fun h => ?_)
       ·refine Wp.sq (Wp.rg (Ops.sg 3 3 (Ops.dn (seqQ.n (Wp.rt (sqQ.r (seqQ.r (sqQ.r (sqQ.r (sqQ.r (blkQ.r (seqQ.r (blkQ.r ?_)))))))))))))
        cases h
        refine lpQ.r (blkQ.r ?_)
        exact hrx652 _ hsx656 _ (RetOkP.forget k67_0 (by kernel_rfl) (RetOkP.mk' (.v (.tuple [(.agg [(vI v641), (.sl fl643 (List.map eI v642)), (.sl fl645 (List.map ep24 v644)), (vI v646), (vI v647)]), (vB false)])) (by kernel_rfl) (by kernel_rfl) (by kernel_rfl) (by kernel_rfl)))
       ·refine Wp.sk (sqQ.n' (seqQ.n (Wp.sq (Wp.sq (Wp.rg (Ops.sg 1 1 ?_))))))
        obtain ⟨v929, ev929, h⟩ := bnd_some h
        refine Ops.on 2 (fun h0 e0 => (call_ptr (E' := E) (h := h0) (q := 0) (cs := c58 v928.2) (by kernel_rfl) (by kernel_rfl) (by kernel_rfl) (hq_of e0 (by kernel_rfl)) (by kernel_rfl) (Args.v (vI 44) (eI 44) (by kernel_rfl) Args.nil) (ok46 m v928.2 44 v929 ev929 n (by omega)))) ?_
        refine Ops.sg 1 3 (Ops.dn (seqQ.n ?_))
        refine Wp.cd h k67_1 4 (fun h => ?_) (fun h => ?_)
        ·refine Wp.sq (Wp.rg (Ops.sg 3 3 (Ops.dn (seqQ.n (Wp.rt (sqQ.r (seqQ.r (sqQ.r (sqQ.r (sqQ.r (blkQ.r (seqQ.r (blkQ.r ?_)))))))))))))
         cases h
         refine lpQ.r (blkQ.r ?_)
         exact hrx652 _ hsx656 _ (RetOkP.forget k67_0 (by kernel_rfl) (RetOkP.mk' (.v (.tuple [(.agg [(vI v641), (.sl fl643 (List.map eI v642)), (.sl fl645 (List.map ep24 v644)), (vI v646), (vI v647)]), (vB false)])) (by kernel_rfl) (by kernel_rfl) (by kernel_rfl) (by kernel_rfl)))
        ·refine Wp.sk (sqQ.n' (seqQ.n (Wp.sq (Wp.rg (Ops.sg 8 8 (Ops.dn (seqQ.n (Wp.sq (Wp.sq (Wp.rg (Ops.sg 1 1 ?_)))))))))))
         obtain ⟨v930, ev930, h⟩ := bnd_some h
         refine Ops.on 2 (fun h0 e0 => (call_ptr (E' := E) (h := h0) (q := 0) (cs := c58 ((⟨v928.2.fL, w64 (v928.2.fAt + 1)⟩ : S58))) (by kernel_rfl) (by kernel_rfl) (by kernel_rfl) (hq_of e0 (by kernel_rfl)) (by kernel_rfl) (Args.v (vI 125) (eI 125) (by kernel_rfl) Args.nil) (ok46 m ((⟨v928.2.fL, w64 (v928.2.fAt + 1)⟩ : S58)) 125 v930 ev930 n (by omega)))) ?_
         refine Ops.sg 1 3 (Ops.dn (seqQ.n ?_))
         have J67j957 : ∀ (v931 : Bool) (v954 : (List Int)) (v955 v956 : Int) (d932 d933 d934 d935 d936 d937 d938 d939 d940 d941 d942 d943 d944 d945 d946 d947 d948 d949 d950 d951 d952 d953 : D), f67_j5 m K v641 v642 v644 v646 v647 v928 v931 v954 v955 v956 = some sx655 → (seqQ (X67 n) p67_3 (sqQ (X67 n) k67_1 4 (sqQ (X67 n) k67_1 4 (sqQ (X67 n) k67_1 4 (blkQ (X67 n) 2 k67_1 4 (seqQ (X67 n) p67_2 (blkQ (X67 n) 1 k67_0 3 (lpQ (X67 n) k67_0 3 p67_1 nx650 (blkQ (X67 n) 0 [4, 5, 6, 7] 3 (seqQ (X67 n) p67_0 (fnQP (X67 n).E.T (resOf Proofs.Tryd.prog 67) (.tuple [e24 o.1.1, eB o.1.2]) (c58 o.2)))))))))))) .normal ⟨Zs3 v931 v676 v673 d932 d933 d934 d935 d936 d937 d938 d939 d940 d941 d942 d943 d944 d945 v674 (.v (.agg [(vI v641), (.sl fl643 (List.map eI v642)), (.sl fl645 (List.map ep24 v644)), (vI v646), (vI v647)])) (.v (.sl .nonfull (List.map ep24 ([(P24.con ((⟨v641, v642, v644, v646, v647⟩ : S24)))])))) (.v (.agg [(vI 5), (.sl .nil (List.map eI [])), (.sl .nonfull (List.map ep24 ([(P24.con ((⟨v641, v642, v644, v646, v647⟩ : S24)))]))), (vI 0), (vI (-1))])) v639 v640 (.vptr [(vI v676)]) (w64 (v640 + 1)) (v676 == 43) (q1 ((dB (v676 == 63))::(dB (v676 == 63))::q1 ((dB (v676 == 123))::(dB (v676 == 123))::(.v (.tuple [(vI v928.1.1), (vB v928.1.2)]))::(.ptr 0 0)::(.v (.tuple [(vI v928.1.1), (vB v928.1.2)]))::(dI v928.1.1)::(dB v928.1.2)::(.ptr 3 3)::(dB v928.1.2)::(dB (!v928.1.2))::q1 ((.ptr 0 0)::(dB v929)::(dB (!v929))::q1 ((.ptr 0 0)::(.ptr 0 0)::(.ptr 0 1)::(dI v928.2.fAt)::(dI (w64 (v928.2.fAt + 1)))::(.ptr 0 0)::(.ptr 0 1)::(.ptr 0 0)::(dB v930)::(dB (!v930))::d946::d947::d948::d949::d950::d951::d952::d953::q15 []))))), [(b67_1 v954 v955), b67_0, (.cells [(dI v641), (.v (.sl fl643 (List.map eI v642))), (.v (.sl fl645 (List.map ep24 v644))), (dI v646), (dI v647)]), (.cells [(dI 5), (.v (.sl .nil (List.map eI []))), (.v (.sl .nonfull (List.map ep24 ([(P24.con ((⟨v641, v642, v644, v646, v647⟩ : S24)))])))), (dI v928.1.1), (dI v956)])]⟩ := by
          intro v931 v954 v955 v956 d932 d933 d934 d935 d936 d937 d938 d939 d940 d941 d942 d943 d944 d945 d946 d947 d948 d949 d950 d951 d952 d953 h
          unfold f67_j5 at h
          refine seqQ.n (Wp.sq (Wp.sq (Wp.rg (Ops.sg 1 1 ?_))))
          obtain ⟨v958, ev958, h⟩ := bnd_some h
          refine Ops.on 2 (fun h0 e0 => (call_ptr (E' := E) (h := h0) (q := 0) (cs := c58 ((⟨v954, v955⟩ : S58))) (by kernel_rfl) (by kernel_rfl) (by kernel_rfl) (hq_of e0 (by kernel_rfl)) (by kernel_rfl) (Args.v (vI 125) (eI 125) (by kernel_rfl) Args.nil) (ok46 m ((⟨v954, v955⟩ : S58)) 125 v958 ev958 n (by omega)))) ?_
          refine Ops.sg 1 3 (Ops.dn (seqQ.n ?_))
          refine Wp.cd h k67_1 4 (fun h => ?_) (fun h => ?_)
          ·refine Wp.sq (Wp.rg (Ops.sg 3 3 (Ops.dn (seqQ.n (Wp.rt (sqQ.r (seqQ.r (sqQ.r (sqQ.r (sqQ.r (blkQ.r (seqQ.r (blkQ.r ?_)))))))))))))
           cases h
           refine lpQ.r (blkQ.r ?_)
           exact hrx652 _ hsx656 _ (RetOkP.forget k67_0 (by kernel_rfl) (RetOkP.mk' (.v (.tuple [(.agg [(vI v641), (.sl fl643 (List.map eI v642)), (.sl fl645 (List.map ep24 v644)), (vI v646), (vI v647)]), (vB false)])) (by kernel_rfl) (by kernel_rfl) (by kernel_rfl) (by kernel_rfl)))
          ·refine Wp.sk (sqQ.n' (seqQ.n (Wp.rg (Ops.sg 8 8 (Ops.dn (sqQ.m ⟨Zs3 v931 v676 v673 d932 d933 d934 d935 d936 d937 d938 d939 d940 d941 d942 d943 d944 d945 v674 (.v (.agg [(vI v641), (.sl fl643 (List.map eI v642)), (.sl fl645 (List.map ep24 v644)), (vI v646), (vI v647)])) (.v (.sl .nonfull (List.map ep24 ([(P24.con ((⟨v641, v642, v644, v646, v647⟩ : S24)))])))) (.v (.agg [(vI 5), (.sl .nil (List.map eI [])), (.sl .nonfull (List.map ep24 ([(P24.con ((⟨v641, v642, v644, v646, v647⟩ : S24)))]))), (vI 0), (vI (-1))])) v639 v640 (.vptr [(vI v676)]) (w64 (v640 + 1)) (v676 == 43) (q1 ((dB (v676 == 63))::(dB (v676 == 63))::q1 ((dB (v676 == 123))::(dB (v676 == 123))::(.v (.tuple [(vI v928.1.1), (vB v928.1.2)]))::(.ptr 0 0)::(.v (.tuple [(vI v928.1.1), (vB v928.1.2)]))::(dI v928.1.1)::(dB v928.1.2)::(.ptr 3 3)::(dB v928.1.2)::(dB (!v928.1.2))::q1 ((.ptr 0 0)::(dB v929)::(dB (!v929))::q1 ((.ptr 0 0)::(.ptr 0 0)::(.ptr 0 1)::(dI v928.2.fAt)::(dI (w64 (v928.2.fAt + 1)))::(.ptr 0 0)::(.ptr 0 1)::(.ptr 0 0)::(dB v930)::(dB (!v930))::d946::d947::d948::d949::d950::d951::d952::d953::q1 ((.ptr 0 0)::(dB v958)::(dB (!v958))::q1 ((.ptr 0 0)::(.ptr 0 0)::(.ptr 0 1)::(dI v955)::(dI (w64 (v955 + 1)))::(.ptr 0 0)::(.ptr 0 1)::q3 []))))))), [(.cells [(dP eI v954), (dI (w64 (v955 + 1)))]), b67_0, (.cells [(dI v641), (.v (.sl fl643 (List.map eI v642))), (.v (.sl fl645 (List.map ep24 v644))), (dI v646), (dI v647)]), (.cells [(dI 5), (.v (.sl .nil (List.map eI []))), (.v (.sl .nonfull (List.map ep24 ([(P24.con ((⟨v641, v642, v644, v646, v647⟩ : S24)))])))), (dI v928.1.1), (dI v956)])]⟩ ?_))))))
           exact J67j927 v931 v954 (w64 (v955 + 1)) v928.1.1 v956 _ _ _ _ _ _ _ _ _ _ _ _ _ _ _ _ _ _ _ _ _ _ _ _ _ _ _ _ _ _ _ _ _ _ _ _ _ _ _ _ _ _ _ _ _ _ _ _ _ _ _ _ _ h
         refine Wp.cd h k67_1 4 (fun h => ?_) (fun h => ?_)
         ·refine Wp.sq (Wp.rg (Ops.sg 1 1 ?_))
          obtain ⟨v959, ev959, h⟩ := bnd_some h
          refine Ops.on 2 (fun h0 e0 => (call_ptr (E' := E) (h := h0) (q := 0) (cs := c58 ((⟨v928.2.fL, w64 (v928.2.fAt + 1)⟩ : S58))) (by kernel_rfl) (by kernel_rfl) (by kernel_rfl) (hq_of e0 (by kernel_rfl)) (by kernel_rfl) Args.nil (ok75 m ((⟨v928.2.fL, w64 (v928.2.fAt + 1)⟩ : S58)) v959 ev959 n (by omega)))) ?_
          refine Ops.sg 6 8 (Ops.dn (seqQ.n (Wp.sq (Wp.rg (Ops.sg 2 2 (Ops.dn (seqQ.n ?_)))))))
          refine Wp.cd h k67_1 4 (fun h => ?_) (fun h => ?_)
          ·refine Wp.sq (Wp.rg (Ops.sg 3 3 (Ops.dn (seqQ.n (Wp.rt (sqQ.r (sqQ.r (seqQ.r (sqQ.r (sqQ.r (sqQ.r (blkQ.r (seqQ.r (blkQ.r ?_))))))))))))))
           cases h
           refine lpQ.r (blkQ.r ?_)
           exact hrx652 _ hsx656 _ (RetOkP.forget k67_0 (by kernel_rfl) (RetOkP.mk' (.v (.tuple [(.agg [(vI v641), (.sl fl643 (List.map eI v642)), (.sl fl645 (List.map ep24 v644)), (vI v646), (vI v647)]), (vB false)])) (by kernel_rfl) (by kernel_rfl) (by kernel_rfl) (by kernel_rfl)))
          ·refine Wp.sk (sqQ.n' (sqQ.m ⟨Zs3 v959.1.2 v676 v673 d659 d660 d661 d662 d663 d664 d665 d666 d667 d668 d669 d670 d671 d672 v674 (.v (.agg [(vI v641), (.sl fl643 (List.map eI v642)), (.sl fl645 (List.map ep24 v644)), (vI v646), (vI v647)])) (.v (.sl .nonfull (List.map ep24 ([(P24.con ((⟨v641, v642, v644, v646, v647⟩ : S24)))])))) (.v (.agg [(vI 5), (.sl .nil (List.map eI [])), (.sl .nonfull (List.map ep24 ([(P24.con ((⟨v641, v642, v644, v646, v647⟩ : S24)))]))), (vI 0), (vI (-1))])) v639 v640 (.vptr [(vI v676)]) (w64 (v640 + 1)) (v676 == 43) (q1 ((dB (v676 == 63))::(dB (v676 == 63))::q1 ((dB (v676 == 123))::(dB (v676 == 123))::(.v (.tuple [(vI v928.1.1), (vB v928.1.2)]))::(.ptr 0 0)::(.v (.tuple [(vI v928.1.1), (vB v928.1.2)]))::(dI v928.1.1)::(dB v928.1.2)::(.ptr 3 3)::(dB v928.1.2)::(dB (!v928.1.2))::q1 ((.ptr 0 0)::(dB v929)::(dB (!v929))::q1 ((.ptr 0 0)::(.ptr 0 0)::(.ptr 0 1)::(dI v928.2.fAt)::(dI (w64 (v928.2.fAt + 1)))::(.ptr 0 0)::(.ptr 0 1)::(.ptr 0 0)::(dB v930)::(dB (!v930))::(.v (.tuple [(vI v959.1.1), (vB v959.1.2)]))::(.ptr 0 0)::(.v (.tuple [(vI v959.1.1), (vB v959.1.2)]))::(dI v959.1.1)::(dB v959.1.2)::(.ptr 3 4)::(dB v959.1.2)::(dB (!v959.1.2))::q15 []))))), [(.cells [(dP eI v959.2.fL), (dI v959.2.fAt)]), b67_0, (.cells [(dI v641), (.v (.sl fl643 (List.map eI v642))), (.v (.sl fl645 (List.map ep24 v644))), (dI v646), (dI v647)]), (.cells [(dI 5), (.v (.sl .nil (List.map eI []))), (.v (.sl .nonfull (List.map ep24 ([(P24.con ((⟨v641, v642, v644, v646, v647⟩ : S24)))])))), (dI v928.1.1), (dI v959.1.1)])]⟩ ?_))
           exact J67j957 v959.1.2 v959.2.fL v959.2.fAt v959.1.1 _ _ _ _ _ _ _ _ _ _ _ _ _ _ _ _ _ _ _ _ _ _ h
         ·refine Wp.sk (sqQ.m ⟨Zs3 v928.1.2 v676 v673 d659 d660 d661 d662 d663 d664 d665 d666 d667 d668 d669 d670 d671 d672 v674 (.v (.agg [(vI v641), (.sl fl643 (List.map eI v642)), (.sl fl645 (List.map ep24 v644)), (vI v646), (vI v647)])) (.v (.sl .nonfull (List.map ep24 ([(P24.con ((⟨v641, v642, v644, v646, v647⟩ : S24)))])))) (.v (.agg [(vI 5), (.sl .nil (List.map eI [])), (.sl .nonfull (List.map ep24 ([(P24.con ((⟨v641, v642, v644, v646, v647⟩ : S24)))]))), (vI 0), (vI (-1))])) v639 v640 (.vptr [(vI v676)]) (w64 (v640 + 1)) (v676 == 43) (q1 ((dB (v676 == 63))::(dB (v676 == 63))::q1 ((dB (v676 == 123))::(dB (v676 == 123))::(.v (.tuple [(vI v928.1.1), (vB v928.1.2)]))::(.ptr 0 0)::(.v (.tuple [(vI v928.1.1), (vB v928.1.2)]))::(dI v928.1.1)::(dB v928.1.2)::(.ptr 3 3)::(dB v928.1.2)::(dB (!v928.1.2))::q1 ((.ptr 0 0)::(dB v929)::(dB (!v929))::q1 ((.ptr 0 0)::(.ptr 0 0)::(.ptr 0 1)::(dI v928.2.fAt)::(dI (w64 (v928.2.fAt + 1)))::(.ptr 0 0)::(.ptr 0 1)::(.ptr 0 0)::(dB v930)::(dB (!v930))::q23 []))))), [(.cells [(dP eI v928.2.fL), (dI (w64 (v928.2.fAt + 1)))]), b67_0, (.cells [(dI v641), (.v (.sl fl643 (List.map eI v642))), (.v (.sl fl645 (List.map ep24 v644))), (dI v646), (dI v647)]), (.cells [(dI 5), (.v (.sl .nil (List.map eI []))), (.v (.sl .nonfull (List.map ep24 ([(P24.con ((⟨v641, v642, v644, v646, v647⟩ : S24)))])))), (dI v928.1.1), (dI (-1))])]⟩ ?_)
          exact J67j957 v928.1.2 v928.2.fL (w64 (v928.2.fAt + 1)) (-1) _ _ _ _ _ _ _ _ _ _ _ _ _ _ _ _ _ _ _ _ _ _ h
      ·refine Wp.sk (sqQ.m ⟨Zs15 ((.ptr 2 0)::(dB v673)::(.ptr 3 0)::(dI v676)::q6 ((dB v673)::(dB v673)::d659::d660::d661::d662::d663::d664::d665::d666::d667::d668::d669::d670::d671::d672::(dB v674)::(.v (.agg [(vI v641), (.sl fl643 (List.map eI v642)), (.sl fl645 (List.map ep24 v644)), (vI v646), (vI v647)]))::(.v (.sl .nonfull (List.map ep24 ([(P24.con ((⟨v641, v642, v644, v646, v647⟩ : S24)))]))))::(.v (.agg [(vI 5), (.sl .nil (List.map eI [])), (.sl .nonfull (List.map ep24 ([(P24.con ((⟨v641, v642, v644, v646, v647⟩ : S24)))]))), (vI 0), (vI (-1))]))::(.ptr 0 0)::(.ptr 0 0)::(.ptr 0 0)::(dP eI v639)::(.ptr 0 0)::(.ptr 0 0)::(.ptr 0 1)::(dI v640)::(.vptr [(vI v676)])::(dI v676)::(.ptr 0 0)::(.ptr 0 0)::(.ptr 0 1)::(dI v640)::(dI (w64 (v640 + 1)))::(.ptr 0 0)::(.ptr 0 1)::(dI v676)::(dB (v676 == 43))::(dB (v676 == 43))::q1 ((dB (v676 == 63))::(dB (v676 == 63))::q1 ((dB (v676 == 123))::(dB (v676 == 123))::q40 (q6 []))))), [(.cells [(dP eI v639), (dI (w64 (v640 + 1)))]), b67_0, (.cells [(dI v641), (.v (.sl fl643 (List.map eI v642))), (.v (.sl fl645 (List.map ep24 v644))), (dI v646), (dI v647)]), (.cells [(dI 5), (.v (.sl .nil (List.map eI []))), (.v (.sl .nonfull (List.map ep24 ([(P24.con ((⟨v641, v642, v644, v646, v647⟩ : S24)))])))), (dI 0), (dI (-1))])]⟩ ?_)
       exact J67j927 v673 v639 (w64 (v640 + 1)) 0 (-1) _ _ _ _ _ _ _ _ _ _ _ _ _ _ _ _ _ _ _ _ _ _ _ _ _ _ _ _ _ _ _ _ _ _ _ _ _ _ _ _ _ _ _ _ _ _ _ _ _ _ _ _ _ h
   ·refine Wp.ex 0 (sqQ.x (seqQ.x ?_))
    cases h
    refine lpQ.x (blkQ.w ⟨Zs15 ((.ptr 2 0)::(dB v673)::q40 (q40 (q20 []))), [(b67_1 v639 v640), b67_0, (.cells [(dI v641), (.v (.sl fl643 (List.map eI v642))), (.v (.sl fl645 (List.map ep24 v644))), (dI v646), (dI v647)])]⟩ ?_)
    exact hxx653 (v673, v639, v640, v641, v642, v644, v646, v647) _ _ hsx656
  obtain ⟨v674, ev674, h⟩ := bnd_some h
  refine Ops.hv (fun KQ => ∀ v657 : Bool, (cnd v657 (bnd (f46 m ((⟨v639, v640⟩ : S58)) 42) fun v960 => cnd v960 (some true) (bnd (f46 m ((⟨v639, v640⟩ : S58)) 43) fun v963 => cnd v963 (some true) (bnd (f46 m ((⟨v639, v640⟩ : S58)) 63) fun v966 => cnd v966 (some true) (bnd (f46 m ((⟨v639, v640⟩ : S58)) 123) fun v969 => some v969)))) (some false)) = some v674 → f67_r6 m K v639 v640 v641 v642 v644 v646 v647 v657 v674 = some sx655 → KQ 2 ⟨Zs15 ((.ptr 2 0)::(dB v657)::q8 ((dB v657)::(dB v657)::q40 (q40 (q10 [])))), [(b67_1 v639 v640), b67_0, (.cells [(dI v641), (.v (.sl fl643 (List.map eI v642))), (.v (.sl fl645 (List.map ep24 v644))), (dI v646), (dI v647)])]⟩) ?_ fun G67g658 => Ops.sx (G67g658 v638 ev674 h)
  intro v657 ev674 h
  cases v657
  ·have ev674 := cnd_f ev674
   refine Ops.sg 15 17 ?_
   exact Ops.sx (J67j675 U U U U U U U U U U U U U U false false (some_sub (fun v674 => f67_r6 m K v639 v640 v641 v642 v644 v646 v647 false v674 = some sx655) ev674 h))
  ·have ev674 := cnd_t ev674
   refine Ops.sg 1 3 ?_
   obtain ⟨v960, ev960, ev674⟩ := bnd_some ev674
   refine Ops.on 4 (fun h0 e0 => (call_ptr (E' := E) (h := h0) (q := 0) (cs := c58 ((⟨v639, v640⟩ : S58))) (by kernel_rfl) (by kernel_rfl) (by kernel_rfl) (hq_of e0 (by kernel_rfl)) (by kernel_rfl) (Args.v (vI 42) (eI 42) (by kernel_rfl) Args.nil) (ok46 m ((⟨v639, v640⟩ : S58)) 42 v960 ev960 n (by omega)))) ?_
   refine Ops.sg 1 5 ?_
   refine Ops.hv (fun KQ => ∀ v961 : Bool, (cnd v961 (some true) (bnd (f46 m ((⟨v639, v640⟩ : S58)) 43) fun v963 => cnd v963 (some true) (bnd (f46 m ((⟨v639, v640⟩ : S58)) 63) fun v966 => cnd v966 (some true) (bnd (f46 m ((⟨v639, v640⟩ : S58)) 123) fun v969 => some v969)))) = some v674 → KQ 5 ⟨Zs15 ((.ptr 2 0)::(dB true)::q8 ((dB true)::(dB true)::(.ptr 0 0)::(dB v961)::(dB v961)::q40 (q40 (q7 [])))), [(b67_1 v639 v640), b67_0, (.cells [(dI v641), (.v (.sl fl643 (List.map eI v642))), (.v (.sl fl645 (List.map ep24 v644))), (dI v646), (dI v647)])]⟩) ?_ fun G67g962 => Ops.sx (G67g962 v960 ev674)
   intro v961 ev674
   cases v961
   ·have ev674 := cnd_f ev674
    refine Ops.sg 1 6 ?_
    obtain ⟨v963, ev963, ev674⟩ := bnd_some ev674
    refine Ops.on 7 (fun h0 e0 => (call_ptr (E' := E) (h := h0) (q := 0) (cs := c58 ((⟨v639, v640⟩ : S58))) (by kernel_rfl) (by kernel_rfl) (by kernel_rfl) (hq_of e0 (by kernel_rfl)) (by kernel_rfl) (Args.v (vI 43) (eI 43) (by kernel_rfl) Args.nil) (ok46 m ((⟨v639, v640⟩ : S58)) 43 v963 ev963 n (by omega)))) ?_
    refine Ops.sg 2 9 ?_
    refine Ops.hv (fun KQ => ∀ v964 : Bool, (cnd v964 (some true) (bnd (f46 m ((⟨v639, v640⟩ : S58)) 63) fun v966 => cnd v966 (some true) (bnd (f46 m ((⟨v639, v640⟩ : S58)) 123) fun v969 => some v969))) = some v674 → KQ 9 ⟨Zs15 ((.ptr 2 0)::(dB true)::q8 ((dB true)::(dB true)::(.ptr 0 0)::(dB false)::(dB false)::(.ptr 0 0)::(dB v964)::(dB v964)::(dB v964)::q40 (q40 (q3 [])))), [(b67_1 v639 v640), b67_0, (.cells [(dI v641), (.v (.sl fl643 (List.map eI v642))), (.v (.sl fl645 (List.map ep24 v644))), (dI v646), (dI v647)])]⟩) ?_ fun G67g965 => Ops.sx (G67g965 v963 ev674)
    intro v964 ev674
    cases v964
    ·have ev674 := cnd_f ev674
     refine Ops.sg 1 10 ?_
     obtain ⟨v966, ev966, ev674⟩ := bnd_some ev674
     refine Ops.on 11 (fun h0 e0 => (call_ptr (E' := E) (h := h0) (q := 0) (cs := c58 ((⟨v639, v640⟩ : S58))) (by kernel_rfl) (by kernel_rfl) (by kernel_rfl) (hq_of e0 (by kernel_rfl)) (by kernel_rfl) (Args.v (vI 63) (eI 63) (by kernel_rfl) Args.nil) (ok46 m ((⟨v639, v640⟩ : S58)) 63 v966 ev966 n (by omega)))) ?_
     refine Ops.sg 2 13 ?_
     refine Ops.hv (fun KQ => ∀ v967 : Bool, (cnd v967 (some true) (bnd (f46 m ((⟨v639, v640⟩ : S58)) 123) fun v969 => some v969)) = some v674 → KQ 13 ⟨Zs15 ((.ptr 2 0)::(dB true)::q8 ((dB true)::(dB true)::(.ptr 0 0)::(dB false)::(dB false)::(.ptr 0 0)::(dB false)::(dB false)::(dB false)::(.ptr 0 0)::(dB v967)::(dB v967)::(dB v967)::q40 (q39 []))), [(b67_1 v639 v640), b67_0, (.cells [(dI v641), (.v (.sl fl643 (List.map eI v642))), (.v (.sl fl645 (List.map ep24 v644))), (dI v646), (dI v647)])]⟩) ?_ fun G67g968 => Ops.sx (G67g968 v966 ev674)
     intro v967 ev674
     cases v967
     ·have ev674 := cnd_f ev674
      refine Ops.sg 1 14 ?_
      obtain ⟨v969, ev969, ev674⟩ := bnd_some ev674
      refine Ops.on 15 (fun h0 e0 => (call_ptr (E' := E) (h := h0) (q := 0) (cs := c58 ((⟨v639, v640⟩ : S58))) (by kernel_rfl) (by kernel_rfl) (by kernel_rfl) (hq_of e0 (by kernel_rfl)) (by kernel_rfl) (Args.v (vI 123) (eI 123) (by kernel_rfl) Args.nil) (ok46 m ((⟨v639, v640⟩ : S58)) 123 v969 ev969 n (by omega)))) ?_
      refine Ops.sg 2 17 ?_
      exact Ops.sx (J67j675 (.ptr 0 0) (dB false) (dB false) (.ptr 0 0) (dB false) (dB false) (dB false) (.ptr 0 0) (dB false) (dB false) (dB false) (.ptr 0 0) (dB v969) (dB v969) true v969 (some_sub (fun v674 => f67_r6 m K v639 v640 v641 v642 v644 v646 v647 true v674 = some sx655) ev674 h))
     ·have ev674 := cnd_t ev674
      refine Ops.sg 4 17 ?_
      exact Ops.sx (J67j675 (.ptr 0 0) (dB false) (dB false) (.ptr 0 0) (dB false) (dB false) (dB false) (.ptr 0 0) (dB true) (dB true) (dB true) U U (dB true) true true (some_sub (fun v674 => f67_r6 m K v639 v640 v641 v642 v644 v646 v647 true v674 = some sx655) ev674 h))
    ·have ev674 := cnd_t ev674
     refine Ops.sg 8 17 ?_
     exact Ops.sx (J67j675 (.ptr 0 0) (dB false) (dB false) (.ptr 0 0) (dB true) (dB true) (dB true) U U (dB true) (dB true) U U (dB true) true true (some_sub (fun v674 => f67_r6 m K v639 v640 v641 v642 v644 v646 v647 true v674 = some sx655) ev674 h))
   ·have ev674 := cnd_t ev674
    refine Ops.sg 12 17 ?_
    exact Ops.sx (J67j675 (.ptr 0 0) (dB true) (dB true) U U (dB true) (dB true) U U (dB true) (dB true) U U (dB true) true true (some_sub (fun v674 => f67_r6 m K v639 v640 v641 v642 v644 v646 v647 true v674 = some sx655) ev674 h))
theorem okb67 (m : Nat) (K : Rec28) (nn : Nat) (hK : OkRec28 m K nn) (a0 : S58) (a1 : Int) (o : ((S24 × Bool) × S58)) (h : b67 m K a0 a1 = some o) (n : Nat) (hn : m + 2 ≤ n) (hk : nn + 1 ≤ n) : FnP Proofs.Tryd.prog E n 67 (c58 a0) [.v (eI a1)] (.tuple [e24 o.1.1, eB o.1.2]) (c58 o.2) := by
 obtain ⟨n, rfl⟩ : ∃ q, n = q + 1 := ⟨n - 1, by omega⟩
 unfold b67 at h
 refine FnP.of (by kernel_rfl) (by kernel_rfl) (by kernel_rfl) ⟨(.ptr 0 0)::(dI a1)::u40 (u40 (u26 [])), [(.cells [(dP eI a0.fL), (dI a0.fAt)])]⟩ (by kernel_rfl) (Wp.sq (Wp.rg (Ops.sg 2 2 (Ops.dn (seqQ.n (Wp.sq (Wp.rg (Ops.sg 2 2 ?_))))))))
 obtain ⟨v1, ev1, h⟩ := bnd_some h
 refine Ops.on 3 (fun h0 e0 => (call_ptr (E' := E) (h := h0) (q := 0) (cs := c58 a0) (by kernel_rfl) (by kernel_rfl) (by kernel_rfl) (hq_of e0 (by kernel_rfl)) (by kernel_rfl) (Args.v (vI a1) (eI a1) (by kernel_rfl) Args.nil) (hK.ok74 a0 a1 v1 ev1 n (by omega)))) ?_
 refine Ops.sg 6 9 (Ops.dn (seqQ.n (Wp.sq (Wp.bk 0 [4, 5, 6, 7] 3 ?_))))
 have hLx970 := f67_hLx970 m K nn hK a0 a1 o n hn hk
 refine Wp.loop' k67_0 3 (by kernel_rfl) ⟨Zs15 ((.ptr 2 0)::(dB v1.1.2)::q40 (q40 (q20 []))), [(.cells [(dP eI v1.2.fL), (dI v1.2.fAt)]), b67_0, (.cells [(dI v1.1.1.fKind), (dP eI v1.1.1.fLabels), (dP ep24 v1.1.1.fSubs), (dI v1.1.1.fLeast), (dI v1.1.1.fMost)])]⟩ (by kernel_rfl) ?_
 rcases brk_some h with ⟨r972, er972, h⟩ | ⟨y971, ey971, h⟩
 ·refine hLx970 _ v1.1.2 v1.2.fL v1.2.fAt v1.1.1.fKind v1.1.1.fLabels v1.1.1.fSubs v1.1.1.fLeast v1.1.1.fMost _ _ _ er972 n (by omega) (fun r er σ hσ => ?_) (fun y fl643 fl645 ey => by cases ey)
  cases er
  refine seqQ.r ?_
  exact fnQP.r' (X67 n) (fun z => (.tuple [e24 z.1, eB z.2])) c58 h hσ
 ·refine hLx970 _ v1.1.2 v1.2.fL v1.2.fAt v1.1.1.fKind v1.1.1.fLabels v1.1.1.fSubs v1.1.1.fLeast v1.1.1.fMost _ _ _ ey971 n (by omega) (fun r er => by cases er) (fun y fl643 fl645 ey => ?_)
  cases ey
  refine seqQ.n (Wp.sq (Wp.rg (Ops.sg 4 4 (Ops.dn (seqQ.n (Wp.rt ?_))))))
  exact fnQP.r' (X67 n) (fun z => (.tuple [e24 z.1, eB z.2])) c58 h (RetOkP.mk' (.v (.tuple [(.agg [(vI y971.2.2.2.1), (.sl fl643 (List.map eI y971.2.2.2.2.1)), (.sl fl645 (List.map ep24 y971.2.2.2.2.2.1)), (vI y971.2.2.2.2.2.2.1), (vI y971.2.2.2.2.2.2.2)]), (vB y971.1)])) (by kernel_rfl) (by kernel_rfl) (by kernel_rfl) (by kernel_rfl))
noncomputable def f74_r1 (m : Nat) (K : Rec28) (v3 : ((S24 × Bool) × S58)) (v10 : Bool) : Option ((S24 × Bool) × S58) :=
 cnd v10
 (some (((v3.1.1, false), v3.2)))
 (some (((v3.1.1, true), (⟨v3.2.fL, w64 (v3.2.fAt + 1)⟩ : S58))))
noncomputable def f74_B2 (m : Nat) (K : Rec28) (v23 v24 : (List Int)) (v25 : Int) : Option (Stp ((S24 × Bool) × S58) ((List Int) × (List Int) × Int)) :=
 bnd (f46 m ((⟨v24, v25⟩ : S58)) 93) fun v35 =>
 cnd (!v35)
 (bnd (f81 m ((⟨v24, v25⟩ : S58))) fun v36 =>
 cnd (!v36.1.2)
 (some (.ret ((((⟨0, [], [], 0, 0⟩ : S24), false), v36.2))))
 (bnd (app 8 v23 [v36.1.1]) fun v37 =>
 some (.nxt (v37, v36.2.fL, v36.2.fAt))))
 (some (.brk (v23, v24, v25)))
noncomputable def b74 (m : Nat) (K : Rec28) (a0 : S58) (a1 : Int) : Option ((S24 × Bool) × S58) :=
 bnd (f46 m a0 40) fun v1 =>
 cnd v1
 (cnd (decide (a1 > 80))
 (some ((((⟨0, [], [], 0, 0⟩ : S24), false), a0)))
 (bnd (f46 m ((⟨a0.fL, w64 (a0.fAt + 1)⟩ : S58)) 41) fun v2 =>
 cnd v2
 (some ((((⟨1, [], [], 0, 0⟩ : S24), true), (⟨a0.fL, w64 (w64 (a0.fAt + 1) + 1)⟩ : S58))))
 (bnd (K.r28 ((⟨a0.fL, w64 (a0.fAt + 1)⟩ : S58)) (w64 (a1 + 1))) fun v3 =>
 bnd (cnd (!v3.1.2)
 (some true)
 (bnd (f46 m v3.2 41) fun v12 =>
 some (!v12))) fun v10 =>
 f74_r1 m K v3 v10)))
 (bnd (f46 m a0 91) fun v13 =>
 cnd v13
 (brk (iter (fun (y : (List Int) × (List Int) × Int) => f74_B2 m K y.1 y.2.1 y.2.2) m ([], a0.fL, w64 (a0.fAt + 1))) some fun y39 =>
 cnd ((y39.1.length : Int) == 0)
 (some ((((⟨0, [], [], 0, 0⟩ : S24), false), (⟨y39.2.1, y39.2.2⟩ : S58))))
 (bnd (srtI y39.1) fun v41 =>
 some ((((⟨2, (compactI v41), [], 0, 0⟩ : S24), true), (⟨y39.2.1, w64 (y39.2.2 + 1)⟩ : S58)))))
 (bnd (f81 m a0) fun v42 =>
 some ((((⟨2, [v42.1.1], [], 0, 0⟩ : S24), v42.1.2), v42.2))))
noncomputable abbrev X74 (n : Nat) : Cx := cxOf Proofs.Tryd.prog E 74 n
noncomputable def C74 : Code := bodyOf Proofs.Tryd.prog 74
noncomputable abbrev p74_0 : Code := cR (cR (cR (cL (cR (cR (cR (cL (cL (cR C74)))))))))
noncomputable abbrev b74_0 : AObj := .cells [(dI 0), (.v (.sl .nil (List.map eI []))), (.v (.sl .nil (List.map ep24 []))), (dI 0), (dI 0)]
theorem okb74 (m : Nat) (K : Rec28) (nn : Nat) (hK : OkRec28 m K nn) (a0 : S58) (a1 : Int) (o : ((S24 × Bool) × S58)) (h : b74 m K a0 a1 = some o) (n : Nat) (hn : m + 3 ≤ n) (hk : nn + 1 ≤ n) : FnP Proofs.Tryd.prog E n 74 (c58 a0) [.v (eI a1)] (.tuple [e24 o.1.1, eB o.1.2]) (c58 o.2) := by
 obtain ⟨n, rfl⟩ : ∃ q, n = q + 1 := ⟨n - 1, by omega⟩
 unfold b74 at h
 refine FnP.of (by kernel_rfl) (by kernel_rfl) (by kernel_rfl) ⟨(.ptr 0 0)::(dI a1)::u40 (u40 (u27 [])), [(.cells [(dP eI a0.fL), (dI a0.fAt)])]⟩ (by kernel_rfl) (Wp.sq (Wp.rg (Ops.sg 2 2 (Ops.dn (seqQ.n (Wp.sq (Wp.bk 0 [0, 4, 5] 2 (Wp.sq (Wp.rg (Ops.sg 1 1 ?_))))))))))
 obtain ⟨v1, ev1, h⟩ := bnd_some h
 refine Ops.on 2 (fun h0 e0 => (call_ptr (E' := E) (h := h0) (q := 0) (cs := c58 a0) (by kernel_rfl) (by kernel_rfl) (by kernel_rfl) (hq_of e0 (by kernel_rfl)) (by kernel_rfl) (Args.v (vI 40) (eI 40) (by kernel_rfl) Args.nil) (ok46 m a0 40 v1 ev1 n (by omega)))) ?_
 refine Ops.sg 1 3 (Ops.dn (seqQ.n ?_))
 refine Wp.cd h [0, 4, 5] 2 (fun h => ?_) (fun h => ?_)
 ·refine Wp.sq (Wp.sq (Wp.rg (Ops.sg 2 2 (Ops.dn (seqQ.n ?_)))))
  refine Wp.cd h [0, 1, 4, 5] 2 (fun h => ?_) (fun h => ?_)
  ·refine Wp.sq (Wp.rg (Ops.sg 3 3 (Ops.dn (seqQ.n (Wp.rt (sqQ.r (seqQ.r (sqQ.r (blkQ.r (seqQ.r ?_))))))))))
   exact fnQP.r' (X74 n) (fun z => (.tuple [e24 z.1, eB z.2])) c58 h (RetOkP.mk' (.v (.tuple [(.agg [(vI 0), (.sl .nil (List.map eI [])), (.sl .nil (List.map ep24 [])), (vI 0), (vI 0)]), (vB false)])) (by kernel_rfl) (by kernel_rfl) (by kernel_rfl) (by kernel_rfl))
  ·refine Wp.sk (sqQ.n' (seqQ.n (Wp.sq (Wp.rg (Ops.sg 8 8 (Ops.dn (seqQ.n (Wp.sq (Wp.sq (Wp.rg (Ops.sg 1 1 ?_)))))))))))
   obtain ⟨v2, ev2, h⟩ := bnd_some h
   refine Ops.on 2 (fun h0 e0 => (call_ptr (E' := E) (h := h0) (q := 0) (cs := c58 ((⟨a0.fL, w64 (a0.fAt + 1)⟩ : S58))) (by kernel_rfl) (by kernel_rfl) (by kernel_rfl) (hq_of e0 (by kernel_rfl)) (by kernel_rfl) (Args.v (vI 41) (eI 41) (by kernel_rfl) Args.nil) (ok46 m ((⟨a0.fL, w64 (a0.fAt + 1)⟩ : S58)) 41 v2 ev2 n (by omega)))) ?_
   refine Ops.dn (seqQ.n ?_)
   refine Wp.cd h [0, 1, 4, 5] 3 (fun h => ?_) (fun h => ?_)
   ·refine Wp.sq (Wp.rg (Ops.sg 8 8 (Ops.dn (seqQ.n (Wp.sq (Wp.rg (Ops.sg 3 3 (Ops.dn (seqQ.n (Wp.rt (sqQ.r (seqQ.r (sqQ.r (blkQ.r (seqQ.r ?_)))))))))))))))
    exact fnQP.r' (X74 n) (fun z => (.tuple [e24 z.1, eB z.2])) c58 h (RetOkP.mk' (.v (.tuple [(.agg [(vI 1), (.sl .nil (List.map eI [])), (.sl .nil (List.map ep24 [])), (vI 0), (vI 0)]), (vB true)])) (by kernel_rfl) (by kernel_rfl) (by kernel_rfl) (by kernel_rfl))
   ·refine Wp.sk (sqQ.n' (seqQ.n (Wp.sq (Wp.rg (Ops.sg 3 3 ?_)))))
    obtain ⟨v3, ev3, h⟩ := bnd_some h
    refine Ops.on 4 (fun h0 e0 => (call_ptr (E' := E) (h := h0) (q := 0) (cs := c58 ((⟨a0.fL, w64 (a0.fAt + 1)⟩ : S58))) (by kernel_rfl) (by kernel_rfl) (by kernel_rfl) (hq_of e0 (by kernel_rfl)) (by kernel_rfl) (Args.v (vI (w64 (a1 + 1))) (eI (w64 (a1 + 1))) (by kernel_rfl) Args.nil) (hK.ok28 ((⟨a0.fL, w64 (a0.fAt + 1)⟩ : S58)) (w64 (a1 + 1)) v3 ev3 n (by omega)))) ?_
    refine Ops.sg 6 10 (Ops.dn (seqQ.n (Wp.sq (Wp.sq (Wp.rg (Ops.sg 3 3 ?_))))))
    refine Ops.hv (fun KQ => ∀ (d6 d7 d8 : D) (v9 v10 : Bool), f74_r1 m K v3 v10 = some o → KQ 7 ⟨Zs9 a1 ((.ptr 4 0)::(dB v3.1.2)::q28 ((.v (.tuple [(.agg [(vI v3.1.1.fKind), (vP eI v3.1.1.fLabels), (vP ep24 v3.1.1.fSubs), (vI v3.1.1.fLeast), (vI v3.1.1.fMost)]), (vB v3.1.2)]))::(.ptr 0 0)::(dI a1)::(dI (w64 (a1 + 1)))::(.v (.tuple [(.agg [(vI v3.1.1.fKind), (vP eI v3.1.1.fLabels), (vP ep24 v3.1.1.fSubs), (vI v3.1.1.fLeast), (vI v3.1.1.fMost)]), (vB v3.1.2)]))::(.v (.agg [(vI v3.1.1.fKind), (vP eI v3.1.1.fLabels), (vP ep24 v3.1.1.fSubs), (vI v3.1.1.fLeast), (vI v3.1.1.fMost)]))::(dB v3.1.2)::(dB v3.1.2)::(dB v9)::(dB v9)::d6::d7::d8::(dB v10)::q40 (q19 []))), [(.cells [(dP eI v3.2.fL), (dI v3.2.fAt)]), b74_0, .dead, .dead, (.cells [(dI v3.1.1.fKind), (dP eI v3.1.1.fLabels), (dP ep24 v3.1.1.fSubs), (dI v3.1.1.fLeast), (dI v3.1.1.fMost)])]⟩) ?_ fun J74j11 => ?_
    ·intro d6 d7 d8 v9 v10 h
     unfold f74_r1 at h
     refine Ops.dn (seqQ.n ?_)
     refine Wp.cd h [0, 4, 5, 6] 5 (fun h => ?_) (fun h => ?_)
     ·refine Wp.sq (Wp.rg (Ops.sg 3 3 (Ops.dn (seqQ.n (Wp.rt (sqQ.r (seqQ.r (sqQ.r (blkQ.r (seqQ.r ?_))))))))))
      exact fnQP.r' (X74 n) (fun z => (.tuple [e24 z.1, eB z.2])) c58 h (RetOkP.mk' (.v (.tuple [(.agg [(vI v3.1.1.fKind), (vP eI v3.1.1.fLabels), (vP ep24 v3.1.1.fSubs), (vI v3.1.1.fLeast), (vI v3.1.1.fMost)]), (vB false)])) (by kernel_rfl) (by kernel_rfl) (by kernel_rfl) (by kernel_rfl))
     ·refine Wp.sk (sqQ.n' (seqQ.n (Wp.sq (Wp.rg (Ops.sg 8 8 (Ops.dn (seqQ.n (Wp.sq (Wp.rg (Ops.sg 3 3 (Ops.dn (seqQ.n (Wp.rt (sqQ.r (blkQ.r (seqQ.r ?_))))))))))))))))
      exact fnQP.r' (X74 n) (fun z => (.tuple [e24 z.1, eB z.2])) c58 h (RetOkP.mk' (.v (.tuple [(.agg [(vI v3.1.1.fKind), (vP eI v3.1.1.fLabels), (vP ep24 v3.1.1.fSubs), (vI v3.1.1.fLeast), (vI v3.1.1.fMost)]), (vB true)])) (by kernel_rfl) (by kernel_rfl) (by kernel_rfl) (by kernel_rfl))
    obtain ⟨v10, ev10, h⟩ := bnd_some h
    refine Ops.hv (fun KQ => ∀ v4 : Bool, (cnd v4 (some true) (bnd (f46 m v3.2 41) fun v12 => some (!v12))) = some v10 → KQ 3 ⟨Zs9 a1 ((.ptr 4 0)::(dB v3.1.2)::q28 ((.v (.tuple [(.agg [(vI v3.1.1.fKind), (vP eI v3.1.1.fLabels), (vP ep24 v3.1.1.fSubs), (vI v3.1.1.fLeast), (vI v3.1.1.fMost)]), (vB v3.1.2)]))::(.ptr 0 0)::(dI a1)::(dI (w64 (a1 + 1)))::(.v (.tuple [(.agg [(vI v3.1.1.fKind), (vP eI v3.1.1.fLabels), (vP ep24 v3.1.1.fSubs), (vI v3.1.1.fLeast), (vI v3.1.1.fMost)]), (vB v3.1.2)]))::(.v (.agg [(vI v3.1.1.fKind), (vP eI v3.1.1.fLabels), (vP ep24 v3.1.1.fSubs), (vI v3.1.1.fLeast), (vI v3.1.1.fMost)]))::(dB v3.1.2)::(dB v3.1.2)::(dB v4)::(dB v4)::q40 (q23 []))), [(.cells [(dP eI v3.2.fL), (dI v3.2.fAt)]), b74_0, .dead, .dead, (.cells [(dI v3.1.1.fKind), (dP eI v3.1.1.fLabels), (dP ep24 v3.1.1.fSubs), (dI v3.1.1.fLeast), (dI v3.1.1.fMost)])]⟩) ?_ fun G74g5 => Ops.sx (G74g5 (!v3.1.2) ev10)
    intro v4 ev10
    cases v4
    ·have ev10 := cnd_f ev10
     refine Ops.sg 1 4 ?_
     obtain ⟨v12, ev12, ev10⟩ := bnd_some ev10
     refine Ops.on 5 (fun h0 e0 => (call_ptr (E' := E) (h := h0) (q := 0) (cs := c58 v3.2) (by kernel_rfl) (by kernel_rfl) (by kernel_rfl) (hq_of e0 (by kernel_rfl)) (by kernel_rfl) (Args.v (vI 41) (eI 41) (by kernel_rfl) Args.nil) (ok46 m v3.2 41 v12 ev12 n (by omega)))) ?_
     refine Ops.sg 2 7 ?_
     exact Ops.sx (J74j11 (.ptr 0 0) (dB v12) (dB (!v12)) false (!v12) (some_sub (fun v10 => f74_r1 m K v3 v10 = some o) ev10 h))
    ·have ev10 := cnd_t ev10
     refine Ops.sg 4 7 ?_
     exact Ops.sx (J74j11 U U U true true (some_sub (fun v10 => f74_r1 m K v3 v10 = some o) ev10 h))
 ·refine Wp.sq (Wp.rg (Ops.sg 1 1 ?_))
  obtain ⟨v13, ev13, h⟩ := bnd_some h
  refine Ops.on 2 (fun h0 e0 => (call_ptr (E' := E) (h := h0) (q := 0) (cs := c58 a0) (by kernel_rfl) (by kernel_rfl) (by kernel_rfl) (hq_of e0 (by kernel_rfl)) (by kernel_rfl) (Args.v (vI 91) (eI 91) (by kernel_rfl) Args.nil) (ok46 m a0 91 v13 ev13 n (by omega)))) ?_
  refine Ops.sg 1 3 (Ops.dn (seqQ.n ?_))
  refine Wp.cd h [0, 4, 5] 2 (fun h => ?_) (fun h => ?_)
  ·refine Wp.sq (Wp.rg (Ops.sg 8 8 (Ops.dn (seqQ.n (Wp.sq (Wp.rg (Ops.sg 1 1 (Ops.dn (seqQ.n (Wp.sq (Wp.bk 1 [0, 4, 5, 8] 2 ?_)))))))))))
   have hLx38 : ∀ (kx27 : Nat) (v23 v24 : (List Int)) (v25 : Int)  (ox26 : ((S24 × Bool) × S58) ⊕ ((List Int) × (List Int) × Int)), iter (fun (y : (List Int) × (List Int) × Int) => f74_B2 m K y.1 y.2.1 y.2.2) kx27 (v23, v24, v25) = some ox26 → ∀ nx28, kx27 ≤ nx28 → (∀ r, ox26 = .inl r → ∀ σ, RetOkP (X74 n) (resOf Proofs.Tryd.prog 74) (.tuple [e24 r.1.1, eB r.1.2]) (c58 r.2) σ → (seqQ (X74 n) p74_0 (sqQ (X74 n) [0, 4, 5] 2 (sqQ (X74 n) [0, 4, 5] 2 (blkQ (X74 n) 0 [0, 4, 5] 2 (seqQ (X74 n) (cR (cR C74)) (fnQP (X74 n).E.T (resOf Proofs.Tryd.prog 74) (.tuple [e24 o.1.1, eB o.1.2]) (c58 o.2))))))) .ret σ) → (∀ (y : (List Int) × (List Int) × Int) , ox26 = .inr y → (seqQ (X74 n) p74_0 (sqQ (X74 n) [0, 4, 5] 2 (sqQ (X74 n) [0, 4, 5] 2 (blkQ (X74 n) 0 [0, 4, 5] 2 (seqQ (X74 n) (cR (cR C74)) (fnQP (X74 n).E.T (resOf Proofs.Tryd.prog 74) (.tuple [e24 o.1.1, eB o.1.2]) (c58 o.2))))))) .normal ⟨Zs15 (q2 ((rowF .nil 2 (List.map eI y.1))::q40 (q40 (q20 [])))), [(.cells [(dP eI y.2.1), (dI y.2.2)]), b74_0, (rowO 1 (List.map eI y.1))]⟩) → Lp (X74 n) [0, 4, 5, 8] 2 (cL (cL (cL (cR (cR (cL (cR (cR (cR (cL (cL (cR C74)))))))))))) nx28 ⟨Zs15 (q2 ((rowF .nil 2 (List.map eI v23))::q40 (q40 (q20 [])))), [(.cells [(dP eI v24), (dI v25)]), b74_0, (rowO 1 (List.map eI v23))]⟩ (blkQ (X74 n) 1 [0, 4, 5, 8] 2 (seqQ (X74 n) p74_0 (sqQ (X74 n) [0, 4, 5] 2 (sqQ (X74 n) [0, 4, 5] 2 (blkQ (X74 n) 0 [0, 4, 5] 2 (seqQ (X74 n) (cR (cR C74)) (fnQP (X74 n).E.T (resOf Proofs.Tryd.prog 74) (.tuple [e24 o.1.1, eB o.1.2]) (c58 o.2)))))))) := by
    intro kx27
    induction kx27 with
    | zero => intro v23 v24 v25  ox26 h; exact (iter_zero h).elim
    | succ kx27 ihx29 =>
     intro v23 v24 v25  ox26 h nx28 hnx32 hrx30 hxx31
     obtain ⟨nx28, rfl⟩ : ∃ q, nx28 = q + 1 := ⟨nx28 - 1, by omega⟩
     obtain ⟨sx33, h, hsx34⟩ := iter_some h
     have h : f74_B2 m K v23 v24 v25 = some sx33 := h
     unfold f74_B2 at h
     refine Lp.succ (Wp.sq (Wp.sq (Wp.rg (Ops.sg 1 1 ?_))))
     obtain ⟨v35, ev35, h⟩ := bnd_some h
     refine Ops.on 2 (fun h0 e0 => (call_ptr (E' := E) (h := h0) (q := 0) (cs := c58 ((⟨v24, v25⟩ : S58))) (by kernel_rfl) (by kernel_rfl) (by kernel_rfl) (hq_of e0 (by kernel_rfl)) (by kernel_rfl) (Args.v (vI 93) (eI 93) (by kernel_rfl) Args.nil) (ok46 m ((⟨v24, v25⟩ : S58)) 93 v35 ev35 n (by omega)))) ?_
     refine Ops.sg 1 3 (Ops.dn (seqQ.n ?_))
     refine Wp.cd h [0, 4, 5, 8] 3 (fun h => ?_) (fun h => ?_)
     ·refine Wp.sk (sqQ.n ⟨Zs15 (q2 ((rowF .nil 3 (List.map eI v23))::q40 (q40 (q20 [])))), [(.cells [(dP eI v24), (dI v25)]), b74_0, .dead, (rowO 1 (List.map eI v23))]⟩ (by generalize v23 = z0; cases z0 <;> kernel_rfl) (seqQ.n (Wp.bk 2 [0, 4, 5, 8] 4 (Wp.sq (Wp.rg (Ops.sg 1 1 ?_))))))
      obtain ⟨v36, ev36, h⟩ := bnd_some h
      refine Ops.on 2 (fun h0 e0 => (call_ptr (E' := E) (h := h0) (q := 0) (cs := c58 ((⟨v24, v25⟩ : S58))) (by kernel_rfl) (by kernel_rfl) (by kernel_rfl) (hq_of e0 (by kernel_rfl)) (by kernel_rfl) Args.nil (ok81 m ((⟨v24, v25⟩ : S58)) v36 ev36 n (by omega)))) ?_
      refine Ops.sg 5 7 (Ops.dn (seqQ.n (Wp.sq (Wp.sq (Wp.rg (Ops.sg 2 2 (Ops.dn (seqQ.n ?_))))))))
      refine Wp.cd h [0, 4, 5, 8, 9] 4 (fun h => ?_) (fun h => ?_)
      ·refine Wp.sq (Wp.rg (Ops.sg 3 3 (Ops.dn (seqQ.n (Wp.rt (sqQ.r (seqQ.r (blkQ.r ?_))))))))
       cases h
       refine lpQ.r (blkQ.r ?_)
       exact hrx30 _ hsx34 _ (RetOkP.forget [0, 4, 5, 8] (by kernel_rfl) (RetOkP.mk' (.v (.tuple [(.agg [(vI 0), (.sl .nil (List.map eI [])), (.sl .nil (List.map ep24 [])), (vI 0), (vI 0)]), (vB false)])) (by kernel_rfl) (by kernel_rfl) (by kernel_rfl) (by kernel_rfl)))
      ·refine Wp.sk (sqQ.n ⟨Zs15 (q2 ((rowF .nil 4 (List.map eI v23))::(dI v36.1.1)::q40 (q40 (q19 [])))), [(.cells [(dP eI v36.2.fL), (dI v36.2.fAt)]), b74_0, .dead, .dead, (rowO 1 (List.map eI v23))]⟩ (by generalize v23 = z0; cases z0 <;> kernel_rfl) (seqQ.n (Wp.rg (Ops.sg 3 3 ?_))))
       obtain ⟨v37, ev37, h⟩ := bnd_some h
       refine Ops.on 4 (fun h0 e0 => (row_app (T := T) (g := .nil) h0 22 3 4 ti3 .nonfull eI v23 [v36.1.1] v37 ev37 (by kernel_rfl) (by kernel_rfl) (by kernel_rfl) (by kernel_rfl) (fun _ => rfl) (hq_of e0 (by kernel_rfl)))) ?_
       refine Ops.sg 1 5 (Ops.dn (blkQ.n ⟨Zs15 (q2 ((rowF .nil 4 (List.map eI v37))::q40 (q40 (q20 [])))), [(.cells [(dP eI v36.2.fL), (dI v36.2.fAt)]), b74_0, .dead, .dead, (rowO 1 (List.map eI v37))]⟩ (by generalize v37 = z0; cases z0 <;> kernel_rfl) (lpQ.n ⟨Zs15 (q2 ((rowF .nil 2 (List.map eI v37))::q40 (q40 (q20 [])))), [(.cells [(dP eI v36.2.fL), (dI v36.2.fAt)]), b74_0, (rowO 1 (List.map eI v37))]⟩ (by generalize v37 = z0; cases z0 <;> kernel_rfl) ?_)))
       cases h
       exact ihx29 v37 v36.2.fL v36.2.fAt  _ hsx34 _ (by omega) hrx30 hxx31
     ·refine Wp.ex 1 (sqQ.x (seqQ.x ?_))
      cases h
      refine lpQ.x (blkQ.x ⟨Zs15 (q2 ((rowF .nil 2 (List.map eI v23))::q40 (q40 (q20 [])))), [(.cells [(dP eI v24), (dI v25)]), b74_0, (rowO 1 (List.map eI v23))]⟩ (by generalize v23 = z0; cases z0 <;> kernel_rfl) ?_)
      exact hxx31 (v23, v24, v25)  hsx34
   refine Wp.loop' [0, 4, 5, 8] 2 (by kernel_rfl) ⟨Zs15 (q2 ((rowF .nil 2 (List.map eI []))::q40 (q40 (q20 [])))), [(.cells [(dP eI a0.fL), (dI (w64 (a0.fAt + 1)))]), b74_0, (rowO 1 (List.map eI []))]⟩ (by kernel_rfl) ?_
   rcases brk_some h with ⟨r40, er40, h⟩ | ⟨y39, ey39, h⟩
   ·refine hLx38 _ [] a0.fL (w64 (a0.fAt + 1))  _ er40 n (by omega) (fun r er σ hσ => ?_) (fun y  ey => by cases ey)
    cases er
    refine seqQ.r (sqQ.r (sqQ.r (blkQ.r (seqQ.r ?_))))
    exact fnQP.r' (X74 n) (fun z => (.tuple [e24 z.1, eB z.2])) c58 h hσ
   ·refine hLx38 _ [] a0.fL (w64 (a0.fAt + 1))  _ ey39 n (by omega) (fun r er => by cases er) (fun y  ey => ?_)
    cases ey
    refine seqQ.n (Wp.sq (Wp.sq (Wp.rg (Ops.sg 1 1 ?_))))
    refine Ops.on 2 (fun h0 e0 => (len_w (T := T) (g := .nil) h0 22 3 2 eI y39.1 (by kernel_rfl))) ?_
    refine Ops.sg 1 3 (Ops.dn (seqQ.n ?_))
    refine Wp.cd h [0, 4, 5, 8] 3 (fun h => ?_) (fun h => ?_)
    ·refine Wp.sq (Wp.rg (Ops.sg 3 3 (Ops.dn (seqQ.n (Wp.rt (sqQ.r (seqQ.r (sqQ.r (sqQ.r (blkQ.r (seqQ.r ?_)))))))))))
     exact fnQP.r' (X74 n) (fun z => (.tuple [e24 z.1, eB z.2])) c58 h (RetOkP.mk' (.v (.tuple [(.agg [(vI 0), (.sl .nil (List.map eI [])), (.sl .nil (List.map ep24 [])), (vI 0), (vI 0)]), (vB false)])) (by kernel_rfl) (by kernel_rfl) (by kernel_rfl) (by kernel_rfl))
    ·refine Wp.sk (sqQ.n ⟨Zs15 (q2 ((rowF .nil 3 (List.map eI y39.1))::q40 (q40 (q20 [])))), [(.cells [(dP eI y39.2.1), (dI y39.2.2)]), b74_0, .dead, (rowO 1 (List.map eI y39.1))]⟩ (by generalize y39.1 = z0; cases z0 <;> kernel_rfl) (seqQ.n (Wp.sq (Wp.rg (Ops.sg 8 8 (Ops.dn (seqQ.n (Wp.sq (Wp.rg (Ops.sg 1 1 ?_))))))))))
     obtain ⟨v41, ev41, h⟩ := bnd_some h
     refine Ops.on 2 (fun h0 e0 => (callD_own (P := Proofs.Tryd.prog) (E := E) (E' := E) (n := n) (f := 82) (by kernel_rfl) (by kernel_rfl) (by kernel_rfl) (row_sortI h0 3 y39.1 v41 ev41 (hq_of e0 (by kernel_rfl))) (by omega))) ?_
     refine Ops.st ⟨Zs15 (q2 ((rowF .nil 3 (List.map eI y39.1))::q40 (q39 ((.ptr 0 0)::(.ptr 0 0)::(.ptr 0 1)::(dI y39.2.2)::(dI (w64 (y39.2.2 + 1)))::(.ptr 0 0)::(.ptr 0 1)::(rowF .nil 3 (List.map eI y39.1))::u1 (q12 []))))), [(.cells [(dP eI y39.2.1), (dI (w64 (y39.2.2 + 1)))]), b74_0, .dead, (rowO 1 (List.map eI v41))]⟩ (by kernel_rfl) ?_
     rw [srtI_row 3 ev41]
     refine Ops.dn (seqQ.n (Wp.sq (Wp.rg (Ops.sg 1 1 ?_))))
     refine Ops.on 2 (fun h0 e0 => (callD_own (P := Proofs.Tryd.prog) (E := E) (E' := E) (n := n) (f := 83) (by kernel_rfl) (by kernel_rfl) (by kernel_rfl) (row_compactI h0 3 v41 (hq_of e0 (by kernel_rfl))) (by omega))) ?_
     refine Ops.seg 1 3 (by kernel_rfl) ⟨Zs15 (q2 ((rowF .nil 3 (List.map eI v41))::q40 (q39 ((.ptr 0 0)::(.ptr 0 0)::(.ptr 0 1)::(dI y39.2.2)::(dI (w64 (y39.2.2 + 1)))::(.ptr 0 0)::(.ptr 0 1)::(rowF .nil 3 (List.map eI v41))::u1 ((rowF .nil 3 (List.map eI v41))::(rowF .nil 3 (List.map eI (compactI v41)))::(mkAgg [(dI 2), (rowF .nil 3 (List.map eI (compactI v41))), (.v (.sl .nil (List.map ep24 []))), (dI 0), (dI 0)])::q9 []))))), [(.cells [(dP eI y39.2.1), (dI (w64 (y39.2.2 + 1)))]), b74_0, .dead, (rowO 1 (List.map eI (compactI v41)))]⟩ (by generalize (compactI v41) = z0; cases z0 <;> kernel_rfl) ?_
     refine Ops.on 4 (fun h0 e0 => (st_s (i := ti25) (h := h0) (r := 1) (off := 0) (cs := [(dI 0), (.v (.sl .nil (List.map eI []))), (.v (.sl .nil (List.map ep24 []))), (dI 0), (dI 0)]) (cs' := [(dI 2), (rowF .nil 3 (List.map eI (compactI v41))), (.v (.sl .nil (List.map ep24 []))), (dI 0), (dI 0)]) (ds := [(dI 2), (rowF .nil 3 (List.map eI (compactI v41))), (.v (.sl .nil (List.map ep24 []))), (dI 0), (dI 0)]) (hq_of (g := [(.cells [(dP eI y39.2.1), (dI (w64 (y39.2.2 + 1)))]), b74_0, .dead, (rowO 1 (List.map eI (compactI v41)))]) (e0.trans (by kernel_rfl)) rfl) (by kernel_rfl) (all_sc rfl (all_sc (rowF_sc _ _ _) (all_sc rfl (all_sc rfl (all_sc rfl rfl))))) (by rfl))) ?_
     refine Ops.sg 1 5 (Ops.dn (seqQ.n (Wp.rt (sqQ.r (sqQ.r (blkQ.r (seqQ.r ?_)))))))
     exact fnQP.r' (X74 n) (fun z => (.tuple [e24 z.1, eB z.2])) c58 h (RetOkP.mk' (mkTuple [(mkAgg [(dI 2), (rowF .nil 3 (List.map eI (compactI v41))), (.v (.sl .nil (List.map ep24 []))), (dI 0), (dI 0)]), (dB true)]) (by kernel_rfl) (by kernel_rfl) (by kernel_rfl) (tup_frz [(mkAgg [(dI 2), (rowF .nil 3 (List.map eI (compactI v41))), (.v (.sl .nil (List.map ep24 []))), (dI 0), (dI 0)]), (dB true)] (.d (mkAgg [(dI 2), (rowF .nil 3 (List.map eI (compactI v41))), (.v (.sl .nil (List.map ep24 []))), (dI 0), (dI 0)]) _ (mkAgg_frz (.cons (dI 2) _ (by kernel_rfl) (by kernel_rfl) (.cons (rowF .nil 3 (List.map eI (compactI v41))) _ (row_frz _ _ 3 1 _ (by kernel_rfl)) (rowF_na _ _ _) (.cons (.v (.sl .nil (List.map ep24 []))) _ (by kernel_rfl) (by kernel_rfl) (.cons (dI 0) _ (by kernel_rfl) (by kernel_rfl) (.cons (dI 0) _ (by kernel_rfl) (by kernel_rfl) .nil)))))) (mkAgg_nt _) (.v (vB true) _ (by kernel_rfl) (by kernel_rfl) .nil))))
  ·refine Wp.sk (sqQ.n' (sqQ.n' (blkQ.n' (seqQ.n (Wp.sq (Wp.rg (Ops.sg 1 1 ?_)))))))
   obtain ⟨v42, ev42, h⟩ := bnd_some h
   refine Ops.on 2 (fun h0 e0 => (call_ptr (E' := E) (h := h0) (q := 0) (cs := c58 a0) (by kernel_rfl) (by kernel_rfl) (by kernel_rfl) (hq_of e0 (by kernel_rfl)) (by kernel_rfl) Args.nil (ok81 m a0 v42 ev42 n (by omega)))) ?_
   refine Ops.sg 5 7 (Ops.dn (seqQ.n (Wp.sq (Wp.rg (Ops.sg 6 6 (Ops.dn (seqQ.n (Wp.rt ?_))))))))
   exact fnQP.r' (X74 n) (fun z => (.tuple [e24 z.1, eB z.2])) c58 h (RetOkP.mk' (.v (.tuple [(.agg [(vI 2), (.sl .nonfull (List.map eI [v42.1.1])), (.sl .nil (List.map ep24 [])), (vI 0), (vI 0)]), (vB v42.1.2)])) (by kernel_rfl) (by kernel_rfl) (by kernel_rfl) (by kernel_rfl))
noncomputable def K28 (m : Nat) : Nat → Rec28
 | 0 => ⟨fun _ _ => none, fun _ _ => none, fun _ _ => none, fun _ _ => none, fun _ _ => none⟩
 | r + 1 => ⟨fun a0 a1 => b28 m (K28 m r) a0 a1, fun a0 a1 => b45 m (K28 m r) a0 a1, fun a0 a1 => b61 m (K28 m r) a0 a1, fun a0 a1 => b67 m (K28 m r) a0 a1, fun a0 a1 => b74 m (K28 m r) a0 a1⟩
theorem okK28 (m : Nat) : ∀ r, OkRec28 m (K28 m r) (m + 3 + r)
 | 0 => ⟨fun _ _ o h => (by cases h), fun _ _ o h => (by cases h), fun _ _ o h => (by cases h), fun _ _ o h => (by cases h), fun _ _ o h => (by cases h)⟩
 | r + 1 => ⟨fun a0 a1 o h n hn => okb28 m (K28 m r) (m + 3 + r) (okK28 m r) a0 a1 o h n (by omega) (by omega), fun a0 a1 o h n hn => okb45 m (K28 m r) (m + 3 + r) (okK28 m r) a0 a1 o h n (by omega) (by omega), fun a0 a1 o h n hn => okb61 m (K28 m r) (m + 3 + r) (okK28 m r) a0 a1 o h n (by omega) (by omega), fun a0 a1 o h n hn => okb67 m (K28 m r) (m + 3 + r) (okK28 m r) a0 a1 o h n (by omega) (by omega), fun a0 a1 o h n hn => okb74 m (K28 m r) (m + 3 + r) (okK28 m r) a0 a1 o h n (by omega) (by omega)⟩
noncomputable def f28 (m : Nat) (a0 : S58) (a1 : Int) : Option ((S24 × Bool) × S58) := (K28 m m).r28 a0 a1
theorem ok28 (m : Nat) (a0 : S58) (a1 : Int) (o : ((S24 × Bool) × S58)) (h : f28 m a0 a1 = some o) (n : Nat) (hn : 2 * m + 3 ≤ n) : FnP Proofs.Tryd.prog E n 28 (c58 a0) [.v (eI a1)] (.tuple [e24 o.1.1, eB o.1.2]) (c58 o.2) := (okK28 m m).ok28 a0 a1 o h n (by omega)
noncomputable def f45 (m : Nat) (a0 : S58) (a1 : Int) : Option ((S24 × Bool) × S58) := (K28 m m).r45 a0 a1
theorem ok45 (m : Nat) (a0 : S58) (a1 : Int) (o : ((S24 × Bool) × S58)) (h : f45 m a0 a1 = some o) (n : Nat) (hn : 2 * m + 3 ≤ n) : FnP Proofs.Tryd.prog E n 45 (c58 a0) [.v (eI a1)] (.tuple [e24 o.1.1, eB o.1.2]) (c58 o.2) := (okK28 m m).ok45 a0 a1 o h n (by omega)
noncomputable def f61 (m : Nat) (a0 : S58) (a1 : Int) : Option ((S24 × Bool) × S58) := (K28 m m).r61 a0 a1
theorem ok61 (m : Nat) (a0 : S58) (a1 : Int) (o : ((S24 × Bool) × S58)) (h : f61 m a0 a1 = some o) (n : Nat) (hn : 2 * m + 3 ≤ n) : FnP Proofs.Tryd.prog E n 61 (c58 a0) [.v (eI a1)] (.tuple [e24 o.1.1, eB o.1.2]) (c58 o.2) := (okK28 m m).ok61 a0 a1 o h n (by omega)
noncomputable def f67 (m : Nat) (a0 : S58) (a1 : Int) : Option ((S24 × Bool) × S58) := (K28 m m).r67 a0 a1
theorem ok67 (m : Nat) (a0 : S58) (a1 : Int) (o : ((S24 × Bool) × S58)) (h : f67 m a0 a1 = some o) (n : Nat) (hn : 2 * m + 3 ≤ n) : FnP Proofs.Tryd.prog E n 67 (c58 a0) [.v (eI a1)] (.tuple [e24 o.1.1, eB o.1.2]) (c58 o.2) := (okK28 m m).ok67 a0 a1 o h n (by omega)
noncomputable def f74 (m : Nat) (a0 : S58) (a1 : Int) : Option ((S24 × Bool) × S58) := (K28 m m).r74 a0 a1
theorem ok74 (m : Nat) (a0 : S58) (a1 : Int) (o : ((S24 × Bool) × S58)) (h : f74 m a0 a1 = some o) (n : Nat) (hn : 2 * m + 3 ≤ n) : FnP Proofs.Tryd.prog E n 74 (c58 a0) [.v (eI a1)] (.tuple [e24 o.1.1, eB o.1.2]) (c58 o.2) := (okK28 m m).ok74 a0 a1 o h n (by omega)
noncomputable def f23 (m : Nat) (a0 a1 : Int) : Option S27 :=
 some ((⟨a0, a1⟩ : S27))
noncomputable abbrev X23 (n : Nat) : Cx := cxOf Proofs.Tryd.prog E 23 n
theorem ok23 (m : Nat) (a0 a1 : Int) (o : S27) (h : f23 m a0 a1 = some o) (n : Nat) (hn : m + 1 ≤ n) : Fn Proofs.Tryd.prog E n 23 [.v (eI a0), .v (eI a1)] (e27 o) := by
 obtain ⟨n, rfl⟩ : ∃ q, n = q + 1 := ⟨n - 1, by omega⟩
 unfold f23 at h
 refine Fn.of (by kernel_rfl) (by kernel_rfl) (by kernel_rfl) ⟨(dI a0)::(dI a1)::u6 [], []⟩ (by kernel_rfl) (Wp.sq (Wp.rg (Ops.sg 1 1 (Ops.dn (seqQ.n (Wp.sq (Wp.rg (Ops.sg 4 4 (Ops.dn (seqQ.n (Wp.rt ?_)))))))))))
 exact fnQ.r' (X23 n) (fun z => (e27 z)) h (RetOk.mk' (.v (.agg [(vI a0), (vI a1)])) (by kernel_rfl) (by kernel_rfl))
noncomputable def f37_r1 (m : Nat) (v17 : Bool) : Option Bool :=
 some v17
noncomputable def f37_r2 (m : Nat) (a0 : Int) (v6 : Bool) : Option Bool :=
 f37_r1 m (v6 && ((decide (a0 < 55296)) || (decide (a0 > 57343))))
noncomputable def f37 (m : Nat) (a0 : Int) : Option Bool :=
 f37_r2 m a0 ((decide (a0 ≥ 1)) && (decide (a0 ≤ 1114111)))
noncomputable abbrev X37 (n : Nat) : Cx := cxOf Proofs.Tryd.prog E 37 n
theorem ok37 (m : Nat) (a0 : Int) (o : Bool) (h : f37 m a0 = some o) (n : Nat) (hn : m + 1 ≤ n) : Fn Proofs.Tryd.prog E n 37 [.v (eI a0)] (eB o) := by
 obtain ⟨n, rfl⟩ : ∃ q, n = q + 1 := ⟨n - 1, by omega⟩
 unfold f37 at h
 refine Fn.of (by kernel_rfl) (by kernel_rfl) (by kernel_rfl) ⟨(dI a0)::u16 [], []⟩ (by kernel_rfl) (Wp.sq (Wp.rg (Ops.sg 1 1 (Ops.dn (seqQ.n (Wp.sq (Wp.rg (Ops.sg 3 3 ?_))))))))
 refine Ops.hv (fun KQ => ∀ (d3 d4 : D) (v5 v6 : Bool), f37_r2 m a0 v6 = some o → KQ 6 ⟨Zs28 a0 v5 (d3::d4::(dB v6)::u8 []), []⟩) ?_ fun J37j7 => ?_
 ·intro d3 d4 v5 v6 h
  unfold f37_r2 at h
  refine Ops.sg 1 7 ?_
  refine Ops.hv (fun KQ => ∀ (d10 d11 d12 d13 d14 d15 : D) (v16 v17 : Bool), f37_r1 m v17 = some o → KQ 14 ⟨Zs28 a0 v5 (d3::d4::(dB v16)::(dB v16)::d10::d11::d12::d13::d14::d15::(dB v17)::[]), []⟩) ?_ fun J37j18 => ?_
  ·intro d10 d11 d12 d13 d14 d15 v16 v17 h
   unfold f37_r1 at h
   refine Ops.sg 1 15 (Ops.dn (seqQ.n (Wp.rt ?_)))
   exact fnQ.r' (X37 n) (fun z => (eB z)) h (RetOk.mk' (dB v17) (by kernel_rfl) (by kernel_rfl))
  refine Ops.hv (fun KQ => ∀ v8 : Bool, f37_r1 m (v8 && ((decide (a0 < 55296)) || (decide (a0 > 57343)))) = some o → KQ 7 ⟨Zs28 a0 v5 (d3::d4::(dB v8)::(dB v8)::u7 []), []⟩) ?_ fun G37g9 => Ops.sx (G37g9 v6 h)
  intro v8 h
  cases v8
  ·refine Ops.sg 7 14 ?_
   exact Ops.sx (J37j18 U U U U U U false false h)
  ·refine Ops.sg 3 10 ?_
   refine Ops.hv (fun KQ => ∀ v19 : Bool, (f37_r1 m (true && (v19 || (decide (a0 > 57343))))) = some o → KQ 10 ⟨Zs28 a0 v5 (d3::d4::(dB true)::(dB true)::(dI a0)::(dB v19)::(dB v19)::u4 []), []⟩) ?_ fun G37g20 => Ops.sx (G37g20 (decide (a0 < 55296)) h)
   intro v19 h
   cases v19
   ·refine Ops.sg 4 14 ?_
    exact Ops.sx (J37j18 (dI a0) (dB false) (dB false) (dI a0) (dB (decide (a0 > 57343))) (dB (decide (a0 > 57343))) true (decide (a0 > 57343)) h)
   ·refine Ops.sg 4 14 ?_
    exact Ops.sx (J37j18 (dI a0) (dB true) (dB true) U U (dB true) true true h)
 refine Ops.hv (fun KQ => ∀ v1 : Bool, f37_r2 m a0 (v1 && (decide (a0 ≤ 1114111))) = some o → KQ 3 ⟨Zs28 a0 v1 (u11 []), []⟩) ?_ fun G37g2 => Ops.sx (G37g2 (decide (a0 ≥ 1)) h)
 intro v1 h
 cases v1
 ·refine Ops.sg 3 6 ?_
  exact Ops.sx (J37j7 U U false false h)
 ·refine Ops.sg 3 6 ?_
  exact Ops.sx (J37j7 (dI a0) (dB (decide (a0 ≤ 1114111))) true (decide (a0 ≤ 1114111)) h)
structure Rec21 where
 r21 : S45 → S24 → Int → Option (S27 × S45)
structure OkRec21 (m : Nat) (K : Rec21) (nn : Nat) : Prop where
 ok21 : ∀ (a0 : S45) (a1 : S24) (a2 : Int) (o : (S27 × S45)), K.r21 a0 a1 a2 = some o → ∀ n, nn ≤ n → FnP Proofs.Tryd.prog E n 21 (c45 a0) [.v (e24 a1), .v (eI a2)] (e27 o.1) (c45 o.2)
noncomputable def f21_r1 (m : Nat) (K : Rec21) (a0 : S45) (v83 : Int) (v107 : Bool) : Option (Stp (S27 × S45) (Int)) :=
 cnd v107
 (bnd (f23 m 13 a0.fNodes) fun v109 =>
 some (.ret ((v109, (⟨w64 (a0.fNodes + 1)⟩ : S45)))))
 (some (.nxt (w64 (v83 + 1))))
noncomputable def f21_B2 (m : Nat) (K : Rec21) (a0 : S45) (a1 : S24) (v83 : Int) : Option (Stp (S27 × S45) (Int)) :=
 cnd (decide (v83 < (a1.fLabels.length : Int)))
 (bnd (idx a1.fLabels v83) fun v93 =>
 bnd (f37 m v93) fun v94 =>
 cnd (!v94)
 (bnd (f23 m 3 a0.fNodes) fun v95 =>
 some (.ret ((v95, (⟨w64 (a0.fNodes + 1)⟩ : S45)))))
 (bnd (cnd (decide (v83 > 0))
 (bnd (idx a1.fLabels (w64 (v83 - 1))) fun v110 =>
 some (decide (v110 ≥ v93)))
 (some false)) fun v107 =>
 f21_r1 m K a0 v83 v107))
 (some (.brk v83))
noncomputable def f21_B3 (m : Nat) (K : Rec21) (a1 : S24) (a2 v157 v158 : Int) : Option (Stp (S27 × S45) (Int × Int)) :=
 cnd (decide (v157 < (a1.fSubs.length : Int)))
 (bnd (idx a1.fSubs v157) fun v168 =>
 bnd (K.r21 (⟨v158⟩ : S45) v168.vw (w64 (a2 + 1))) fun v169 =>
 cnd (!((v169.1.fCode == 0) && ((v169.1.fIndex == 0) && true)))
 (some (.ret ((v169.1, v169.2))))
 (some (.nxt (w64 (v157 + 1), v169.2.fNodes))))
 (some (.brk (v157, v158)))
noncomputable def f21_j4 (m : Nat) (K : Rec21) (a0 : S45) (a1 : S24) (a2 : Int) : Option (S27 × S45) :=
 brk (iter (fun (y : Int × Int) => f21_B3 m K a1 a2 y.1 y.2) m (0, w64 (a0.fNodes + 1))) some fun y171 =>
 some (((⟨0, 0⟩ : S27), (⟨y171.2⟩ : S45)))
noncomputable def f21_r5 (m : Nat) (K : Rec21) (a0 : S45) (a1 : S24) (a2 : Int) (v206 : Bool) : Option (S27 × S45) :=
 cnd v206
 (bnd (f23 m 13 a0.fNodes) fun v208 =>
 some ((v208, (⟨w64 (a0.fNodes + 1)⟩ : S45))))
 (f21_j4 m K a0 a1 a2)
noncomputable def f21_r6 (m : Nat) (K : Rec21) (a0 : S45) (a1 : S24) (a2 : Int) (v195 : Bool) : Option (S27 × S45) :=
 cnd v195
 (bnd (f23 m 3 a0.fNodes) fun v197 =>
 some ((v197, (⟨w64 (a0.fNodes + 1)⟩ : S45))))
 (f21_r5 m K a0 a1 a2 ((decide (a1.fMost ≥ 0)) && (decide (a1.fMost < a1.fLeast))))
noncomputable def f21_r7 (m : Nat) (K : Rec21) (a0 : S45) (a1 : S24) (a2 : Int) (v187 : Bool) : Option (S27 × S45) :=
 f21_r6 m K a0 a1 a2 (v187 || (decide (a1.fMost > 9)))
noncomputable def f21_r8 (m : Nat) (K : Rec21) (a0 : S45) (a1 : S24) (a2 : Int) (v179 : Bool) : Option (S27 × S45) :=
 f21_r7 m K a0 a1 a2 (v179 || (decide (a1.fMost < (-1))))
noncomputable def f21_r9 (m : Nat) (K : Rec21) (a0 : S45) (a1 : S24) (a2 : Int) (v215 : Bool) : Option (S27 × S45) :=
 cnd v215
 (bnd (f23 m 5 a0.fNodes) fun v217 =>
 some ((v217, (⟨w64 (a0.fNodes + 1)⟩ : S45))))
 (f21_j4 m K a0 a1 a2)
noncomputable def f21_r10 (m : Nat) (K : Rec21) (a0 : S45) (a1 : S24) (a2 : Int) (v43 : Bool) : Option (S27 × S45) :=
 cnd v43
 (bnd (f23 m 9 a0.fNodes) fun v45 =>
 some ((v45, (⟨w64 (a0.fNodes + 1)⟩ : S45))))
 (brk (iter (fun (y : Int) => f21_B2 m K a0 a1 y) m 0) some fun y112 =>
 cnd (a1.fKind == 5)
 (f21_r8 m K a0 a1 a2 ((decide (a1.fLeast < 0)) || (decide (a1.fLeast > 9))))
 (f21_r9 m K a0 a1 a2 ((a1.fLeast != 0) || (a1.fMost != 0))))
noncomputable def f21_r11 (m : Nat) (K : Rec21) (a0 : S45) (a1 : S24) (a2 : Int) (v36 : Bool) : Option (S27 × S45) :=
 f21_r10 m K a0 a1 a2 (v36 || (decide ((a1.fLabels.length : Int) > 300)))
noncomputable def f21_j12 (m : Nat) (K : Rec21) (a0 : S45) (a1 : S24) (a2 v9 : Int) (v12 : Bool) : Option (S27 × S45) :=
 f21_r11 m K a0 a1 a2 (((a1.fSubs.length : Int) != v9) || (!((a1.fKind == 2) == (decide ((a1.fLabels.length : Int) > 0)))))
noncomputable def f21_j13 (m : Nat) (K : Rec21) (a0 : S45) (a1 : S24) (a2 : Int) (v220 : Bool) (v223 : Int) : Option (S27 × S45) :=
 f21_j12 m K a0 a1 a2 v223 v220
noncomputable def f21_j14 (m : Nat) (K : Rec21) (a0 : S45) (a1 : S24) (a2 : Int) (v220 : Bool) (v246 : Int) : Option (S27 × S45) :=
 f21_j13 m K a0 a1 a2 v220 v246
noncomputable def f21_j15 (m : Nat) (K : Rec21) (a0 : S45) (a1 : S24) (a2 : Int) (v220 : Bool) (v261 : Int) : Option (S27 × S45) :=
 f21_j14 m K a0 a1 a2 v220 v261
noncomputable def f21_j16 (m : Nat) (K : Rec21) (a0 : S45) (a1 : S24) (a2 : Int) (v220 v274 : Bool) : Option (S27 × S45) :=
 cnd v274
 (f21_j15 m K a0 a1 a2 v220 2)
 (bnd (f23 m 4 a0.fNodes) fun v277 =>
 some ((v277, (⟨w64 (a0.fNodes + 1)⟩ : S45))))
noncomputable def f21_j17 (m : Nat) (K : Rec21) (a0 : S45) (a1 : S24) (a2 : Int) (v220 v243 : Bool) : Option (S27 × S45) :=
 cnd v243
 (f21_j14 m K a0 a1 a2 v220 (if (a1.fSubs.length : Int) > 2 then (a1.fSubs.length : Int) else 2))
 (cnd (a1.fKind == 5)
 (f21_j15 m K a0 a1 a2 v220 1)
 (cnd (a1.fKind == 6)
 (f21_j16 m K a0 a1 a2 v220 (a1.fKind == 6))
 (f21_j16 m K a0 a1 a2 v220 (a1.fKind == 7))))
noncomputable def f21_j18 (m : Nat) (K : Rec21) (a0 : S45) (a1 : S24) (a2 : Int) (v220 : Bool) : Option (S27 × S45) :=
 cnd v220
 (f21_j13 m K a0 a1 a2 v220 0)
 (cnd (a1.fKind == 3)
 (f21_j17 m K a0 a1 a2 v220 (a1.fKind == 3))
 (f21_j17 m K a0 a1 a2 v220 (a1.fKind == 4)))
noncomputable def f21_r19 (m : Nat) (K : Rec21) (a0 : S45) (a1 : S24) (a2 : Int) (v6 : Bool) : Option (S27 × S45) :=
 cnd v6
 (bnd (f23 m 2 a0.fNodes) fun v8 =>
 some ((v8, (⟨w64 (a0.fNodes + 1)⟩ : S45))))
 (cnd (a1.fKind == 1)
 (f21_j18 m K a0 a1 a2 (a1.fKind == 1))
 (f21_j18 m K a0 a1 a2 (a1.fKind == 2)))
noncomputable def b21 (m : Nat) (K : Rec21) (a0 : S45) (a1 : S24) (a2 : Int) : Option (S27 × S45) :=
 f21_r19 m K a0 a1 a2 ((decide (w64 (a0.fNodes + 1) > 200)) || (decide (a2 > 40)))
noncomputable abbrev X21 (n : Nat) : Cx := cxOf Proofs.Tryd.prog E 21 n
noncomputable def C21 : Code := bodyOf Proofs.Tryd.prog 21
noncomputable abbrev p21_0 : Code := cR (cR (cR (cR (cR (cR C21)))))
noncomputable abbrev p21_1 : Code := cR (cR p21_0)
noncomputable abbrev p21_2 : Code := cR (cR p21_1)
noncomputable abbrev b21_0 (w0 : S45) : AObj := .cells [(dI (w64 (w0.fNodes + 1)))]
noncomputable abbrev b21_1 (w0 : S24) : AObj := .cells [(dI w0.fKind), (dP eI w0.fLabels), (dP ep24 w0.fSubs), (dI w0.fLeast), (dI w0.fMost)]
noncomputable abbrev b21_2 : AObj := .cells [(dI 0), (dI 0)]
noncomputable abbrev k21_0 : List Nat := [0, 2, 4, 6, 7, 79, 80, 81]
noncomputable abbrev k21_1 : List Nat := [0, 2, 6, 152, 153, 154]
noncomputable abbrev k21_2 : List Nat := [0, 2, 4, 6, 7, 8, 9]
noncomputable abbrev k21_3 : List Nat := [0, 2, 4, 6, 7, 8, 9, 41, 44]
noncomputable abbrev k21_4 : List Nat := [0, 2, 4, 6, 7, 8, 9, 41, 47]
theorem okb21 (m : Nat) (K : Rec21) (nn : Nat) (hK : OkRec21 m K nn) (a0 : S45) (a1 : S24) (a2 : Int) (o : (S27 × S45)) (h : b21 m K a0 a1 a2 = some o) (n : Nat) (hn : m + 2 ≤ n) (hk : nn + 1 ≤ n) : FnP Proofs.Tryd.prog E n 21 (c45 a0) [.v (e24 a1), .v (eI a2)] (e27 o.1) (c45 o.2) := by
 obtain ⟨n, rfl⟩ : ∃ q, n = q + 1 := ⟨n - 1, by omega⟩
 unfold b21 at h
 refine FnP.of (by kernel_rfl) (by kernel_rfl) (by kernel_rfl) ⟨(.ptr 0 0)::(.v (.agg [(vI a1.fKind), (vP eI a1.fLabels), (vP ep24 a1.fSubs), (vI a1.fLeast), (vI a1.fMost)]))::(dI a2)::u40 (u40 (u40 (u40 (u6 [])))), [(.cells [(dI a0.fNodes)])]⟩ (by kernel_rfl) (Wp.sq (Wp.rg (Ops.sg 2 2 (Ops.dn (seqQ.n (Wp.sq (Wp.rg (Ops.sg 5 5 (Ops.dn (seqQ.n (Wp.sq (Wp.rg (Ops.sg 8 8 (Ops.dn (seqQ.n (Wp.sq (Wp.sq (Wp.rg (Ops.sg 6 6 ?_)))))))))))))))))))
 refine Ops.hv (fun KQ => ∀ (d3 d4 : D) (v5 v6 : Bool), f21_r19 m K a0 a1 a2 v6 = some o → KQ 9 ⟨Zs36 (.v (.agg [(vI a1.fKind), (vP eI a1.fLabels), (vP ep24 a1.fSubs), (vI a1.fLeast), (vI a1.fMost)])) a2 a0.fNodes (w64 (a0.fNodes + 1)) v5 (d3::d4::(dB v6)::u40 (u40 (u40 (u14 [])))), [(b21_0 a0), (b21_1 a1), b21_2]⟩) ?_ fun J21j7 => ?_
 ·intro d3 d4 v5 v6 h
  unfold f21_r19 at h
  refine Ops.dn (seqQ.n ?_)
  refine Wp.cd h [0, 2, 4, 6, 7] 3 (fun h => ?_) (fun h => ?_)
  ·refine Wp.sq (Wp.rg (Ops.sg 1 1 ?_))
   obtain ⟨v8, ev8, h⟩ := bnd_some h
   refine Ops.on 2 (fun h0 e0 => (call_ok (E' := E) (h := h0) (by kernel_rfl) (Args.v (vI 2) (eI 2) (by kernel_rfl) (Args.v (vI a0.fNodes) (eI a0.fNodes) (by kernel_rfl) Args.nil)) (ok23 m 2 a0.fNodes v8 ev8 n (by omega)))) ?_
   refine Ops.sg 1 3 (Ops.dn (seqQ.n (Wp.rt (sqQ.r (seqQ.r ?_)))))
   exact fnQP.r' (X21 n) (fun z => (e27 z)) c45 h (RetOkP.mk' (.v (.agg [(vI v8.fCode), (vI v8.fIndex)])) (by kernel_rfl) (by kernel_rfl) (by kernel_rfl) (by kernel_rfl))
  ·refine Wp.sk (sqQ.n' (seqQ.n (Wp.sq (Wp.rg (Ops.sg 2 2 ?_)))))
   refine Ops.on 3 (fun h0 e0 => (len_r (T := T) h0 22 3 .plain eI a1.fLabels (by kernel_rfl))) ?_
   refine Ops.sg 2 5 (Ops.dn (seqQ.n (Wp.sq (Wp.sq (Wp.rg (Ops.sg 2 2 (Ops.dn (seqQ.n ?_))))))))
   have J21j26 : ∀ (v9 : Int) (v12 : Bool) (d10 d11 d13 d14 d15 d16 d17 d18 d19 d20 d21 d22 d23 d24 d25 : D), f21_j12 m K a0 a1 a2 v9 v12 = some o → (seqQ (X21 n) p21_0 (fnQP (X21 n).E.T (resOf Proofs.Tryd.prog 21) (e27 o.1) (c45 o.2))) .normal ⟨Zs1 (.v (.agg [(vI a1.fKind), (vP eI a1.fLabels), (vP ep24 a1.fSubs), (vI a1.fLeast), (vI a1.fMost)])) a2 a0.fNodes v9 (a1.fLabels.length : Int) (w64 (a0.fNodes + 1)) v5 d10 d11 v6 a1.fLabels a1.fKind v12 (a1.fKind == 1) d13 (d14::d15::d16::d17::d18::d19::d20::d21::d22::d23::d24::d25::u40 (u40 (u30 []))), [(b21_0 a0), (b21_1 a1), b21_2]⟩ := by
    intro v9 v12 d10 d11 d13 d14 d15 d16 d17 d18 d19 d20 d21 d22 d23 d24 d25 h
    unfold f21_j12 at h
    refine seqQ.n (Wp.sq (Wp.sq (Wp.rg (Ops.sg 2 2 ?_))))
    refine Ops.on 3 (fun h0 e0 => (len_r (T := T) h0 23 25 .plain ep24 a1.fSubs (by kernel_rfl))) ?_
    refine Ops.sg 3 6 ?_
    refine Ops.hv (fun KQ => ∀ (d29 d30 d31 d32 d33 d34 : D) (v35 v36 : Bool), f21_r11 m K a0 a1 a2 v36 = some o → KQ 13 ⟨Zs1 (.v (.agg [(vI a1.fKind), (vP eI a1.fLabels), (vP ep24 a1.fSubs), (vI a1.fLeast), (vI a1.fMost)])) a2 a0.fNodes v9 (a1.fLabels.length : Int) (w64 (a0.fNodes + 1)) v5 d10 d11 v6 a1.fLabels a1.fKind v12 (a1.fKind == 1) d13 (d14::d15::d16::d17::d18::d19::d20::d21::d22::d23::d24::d25::(.ptr 1 2)::(dP ep24 a1.fSubs)::(dI (a1.fSubs.length : Int))::(dI v9)::(dB v35)::(dB v35)::d29::d30::d31::d32::d33::d34::(dB v36)::u40 (u40 (u17 []))), [(b21_0 a0), (b21_1 a1), b21_2]⟩) ?_ fun J21j37 => ?_
    ·intro d29 d30 d31 d32 d33 d34 v35 v36 h
     unfold f21_r11 at h
     refine Ops.sg 1 14 ?_
     refine Ops.hv (fun KQ => ∀ (d40 d41 : D) (v42 v43 : Bool), f21_r10 m K a0 a1 a2 v43 = some o → KQ 17 ⟨Zs1 (.v (.agg [(vI a1.fKind), (vP eI a1.fLabels), (vP ep24 a1.fSubs), (vI a1.fLeast), (vI a1.fMost)])) a2 a0.fNodes v9 (a1.fLabels.length : Int) (w64 (a0.fNodes + 1)) v5 d10 d11 v6 a1.fLabels a1.fKind v12 (a1.fKind == 1) d13 (d14::d15::d16::d17::d18::d19::d20::d21::d22::d23::d24::d25::(.ptr 1 2)::(dP ep24 a1.fSubs)::(dI (a1.fSubs.length : Int))::(dI v9)::(dB v35)::(dB v35)::d29::d30::d31::d32::d33::d34::(dB v42)::(dB v42)::d40::d41::(dB v43)::u40 (u40 (u13 []))), [(b21_0 a0), (b21_1 a1), b21_2]⟩) ?_ fun J21j44 => ?_
     ·intro d40 d41 v42 v43 h
      unfold f21_r10 at h
      refine Ops.dn (seqQ.n ?_)
      refine Wp.cd h [0, 2, 4, 6, 7] 3 (fun h => ?_) (fun h => ?_)
      ·refine Wp.sq (Wp.rg (Ops.sg 1 1 ?_))
       obtain ⟨v45, ev45, h⟩ := bnd_some h
       refine Ops.on 2 (fun h0 e0 => (call_ok (E' := E) (h := h0) (by kernel_rfl) (Args.v (vI 9) (eI 9) (by kernel_rfl) (Args.v (vI a0.fNodes) (eI a0.fNodes) (by kernel_rfl) Args.nil)) (ok23 m 9 a0.fNodes v45 ev45 n (by omega)))) ?_
       refine Ops.sg 1 3 (Ops.dn (seqQ.n (Wp.rt (sqQ.r (seqQ.r ?_)))))
       exact fnQP.r' (X21 n) (fun z => (e27 z)) c45 h (RetOkP.mk' (.v (.agg [(vI v45.fCode), (vI v45.fIndex)])) (by kernel_rfl) (by kernel_rfl) (by kernel_rfl) (by kernel_rfl))
      ·refine Wp.sk (sqQ.n' (seqQ.n (Wp.sq (Wp.sq (Wp.rg (Ops.sg 2 2 ?_))))))
       refine Ops.on 3 (fun h0 e0 => (len_r (T := T) h0 22 3 .plain eI a1.fLabels (by kernel_rfl))) ?_
       refine Ops.sg 1 4 (Ops.dn (seqQ.n (Wp.bk 1 [0, 2, 4, 6, 7] 3 ?_)))
       have hLx111 : ∀ (kx85 : Nat) (v83 : Int)  (ox84 : (S27 × S45) ⊕ (Int)), iter (fun (y : Int) => f21_B2 m K a0 a1 y) kx85 v83 = some ox84 → ∀ nx86, kx85 ≤ nx86 → (∀ r, ox84 = .inl r → ∀ σ, RetOkP (X21 n) (resOf Proofs.Tryd.prog 21) (e27 r.1) (c45 r.2) σ → (seqQ (X21 n) p21_1 (fnQP (X21 n).E.T (resOf Proofs.Tryd.prog 21) (e27 o.1) (c45 o.2))) .ret σ) → (∀ (y : Int) , ox84 = .inr y → (seqQ (X21 n) p21_1 (fnQP (X21 n).E.T (resOf Proofs.Tryd.prog 21) (e27 o.1) (c45 o.2))) .normal ⟨Zs7 a2 a0.fNodes a1.fLabels (a1.fLabels.length : Int) y (q40 (q40 (q7 []))), [(b21_0 a0), (b21_1 a1), b21_2]⟩) → Lp (X21 n) k21_0 3 (cL (cL (cR (cL (cR p21_0))))) nx86 ⟨Zs7 a2 a0.fNodes a1.fLabels (a1.fLabels.length : Int) v83 (q40 (q40 (q7 []))), [(b21_0 a0), (b21_1 a1), b21_2]⟩ (blkQ (X21 n) 1 [0, 2, 4, 6, 7] 3 (seqQ (X21 n) p21_1 (fnQP (X21 n).E.T (resOf Proofs.Tryd.prog 21) (e27 o.1) (c45 o.2)))) := by
        intro kx85
        induction kx85 with
        | zero => intro v83  ox84 h; exact (iter_zero h).elim
        | succ kx85 ihx87 =>
         intro v83  ox84 h nx86 hnx90 hrx88 hxx89
         obtain ⟨nx86, rfl⟩ : ∃ q, nx86 = q + 1 := ⟨nx86 - 1, by omega⟩
         obtain ⟨sx91, h, hsx92⟩ := iter_some h
         have h : f21_B2 m K a0 a1 v83 = some sx91 := h
         unfold f21_B2 at h
         refine Lp.succ (Wp.sq (Wp.rg (Ops.sg 1 1 (Ops.dn (seqQ.n (Wp.sq ?_))))))
         refine Wp.cd h k21_0 3 (fun h => ?_) (fun h => ?_)
         ·refine Wp.sk (sqQ.n' (seqQ.n (Wp.sq (Wp.bk 2 k21_0 3 (Wp.sq (Wp.rg (Ops.sg 1 1 ?_)))))))
          obtain ⟨v93, ev93, h⟩ := bnd_some h
          refine Ops.on 2 (fun h0 e0 => (ix_r (T := T) h0 22 3 1 .plain eI a1.fLabels v83 v93 ev93 (by kernel_rfl) (by kernel_rfl) (fun _ => rfl))) ?_
          refine Ops.sg 3 5 (Ops.dn (seqQ.n (Wp.sq (Wp.sq (Wp.rg (Ops.sg 1 1 ?_))))))
          obtain ⟨v94, ev94, h⟩ := bnd_some h
          refine Ops.on 2 (fun h0 e0 => (call_ok (E' := E) (h := h0) (by kernel_rfl) (Args.v (vI v93) (eI v93) (by kernel_rfl) Args.nil) (ok37 m v93 v94 ev94 n (by omega)))) ?_
          refine Ops.sg 1 3 (Ops.dn (seqQ.n ?_))
          refine Wp.cd h [0, 2, 4, 6, 7, 10, 11, 79, 80, 81] 3 (fun h => ?_) (fun h => ?_)
          ·refine Wp.sq (Wp.rg (Ops.sg 1 1 ?_))
           obtain ⟨v95, ev95, h⟩ := bnd_some h
           refine Ops.on 2 (fun h0 e0 => (call_ok (E' := E) (h := h0) (by kernel_rfl) (Args.v (vI 3) (eI 3) (by kernel_rfl) (Args.v (vI a0.fNodes) (eI a0.fNodes) (by kernel_rfl) Args.nil)) (ok23 m 3 a0.fNodes v95 ev95 n (by omega)))) ?_
           refine Ops.sg 1 3 (Ops.dn (seqQ.n (Wp.rt (sqQ.r (seqQ.r (blkQ.r (seqQ.r ?_)))))))
           cases h
           refine lpQ.r (blkQ.r ?_)
           exact hrx88 _ hsx92 _ (RetOkP.forget k21_0 (by kernel_rfl) (RetOkP.mk' (.v (.agg [(vI v95.fCode), (vI v95.fIndex)])) (by kernel_rfl) (by kernel_rfl) (by kernel_rfl) (by kernel_rfl)))
          ·refine Wp.sk (sqQ.n' (seqQ.n (Wp.sq (Wp.rg (Ops.sg 3 3 ?_)))))
           refine Ops.hv (fun KQ => ∀ (d98 d99 d100 d101 d102 d103 d104 d105 : D) (v106 v107 : Bool), f21_r1 m K a0 v83 v107 = some sx91 → KQ 12 ⟨Zs47 a2 a0.fNodes v83 v93 a1.fLabels (a1.fLabels.length : Int) (decide (v83 < (a1.fLabels.length : Int))) (.vptr [(vI v93)]) v94 (!v94) v106 (d98::d99::d100::d101::d102::d103::d104::d105::(dB v107)::q40 (q26 [])), [(b21_0 a0), (b21_1 a1), b21_2]⟩) ?_ fun J21j108 => ?_
           ·intro d98 d99 d100 d101 d102 d103 d104 d105 v106 v107 h
            unfold f21_r1 at h
            refine Ops.dn (seqQ.n ?_)
            refine Wp.cd h k21_0 3 (fun h => ?_) (fun h => ?_)
            ·refine Wp.sq (Wp.rg (Ops.sg 1 1 ?_))
             obtain ⟨v109, ev109, h⟩ := bnd_some h
             refine Ops.on 2 (fun h0 e0 => (call_ok (E' := E) (h := h0) (by kernel_rfl) (Args.v (vI 13) (eI 13) (by kernel_rfl) (Args.v (vI a0.fNodes) (eI a0.fNodes) (by kernel_rfl) Args.nil)) (ok23 m 13 a0.fNodes v109 ev109 n (by omega)))) ?_
             refine Ops.sg 1 3 (Ops.dn (seqQ.n (Wp.rt (sqQ.r (blkQ.r (seqQ.r ?_))))))
             cases h
             refine lpQ.r (blkQ.r ?_)
             exact hrx88 _ hsx92 _ (RetOkP.forget k21_0 (by kernel_rfl) (RetOkP.mk' (.v (.agg [(vI v109.fCode), (vI v109.fIndex)])) (by kernel_rfl) (by kernel_rfl) (by kernel_rfl) (by kernel_rfl)))
            ·refine Wp.sk (sqQ.n' (blkQ.n' (seqQ.n (Wp.rg (Ops.sg 2 2 (Ops.dn (lpQ.m ⟨Zs7 a2 a0.fNodes a1.fLabels (a1.fLabels.length : Int) (w64 (v83 + 1)) (q40 (q40 (q7 []))), [(b21_0 a0), (b21_1 a1), b21_2]⟩ ?_)))))))
             cases h
             exact ihx87 (w64 (v83 + 1))  _ hsx92 _ (by omega) hrx88 hxx89
           obtain ⟨v107, ev107, h⟩ := bnd_some h
           refine Ops.hv (fun KQ => ∀ v96 : Bool, (cnd v96 (bnd (idx a1.fLabels (w64 (v83 - 1))) fun v110 => some (decide (v110 ≥ v93))) (some false)) = some v107 → KQ 3 ⟨Zs47 a2 a0.fNodes v83 v93 a1.fLabels (a1.fLabels.length : Int) (decide (v83 < (a1.fLabels.length : Int))) (.vptr [(vI v93)]) v94 (!v94) v96 (q40 (q35 [])), [(b21_0 a0), (b21_1 a1), b21_2]⟩) ?_ fun G21g97 => Ops.sx (G21g97 (decide (v83 > 0)) ev107)
           intro v96 ev107
           cases v96
           ·have ev107 := cnd_f ev107
            refine Ops.sg 9 12 ?_
            exact Ops.sx (J21j108 U U U U U U U U false false (some_sub (fun v107 => f21_r1 m K a0 v83 v107 = some sx91) ev107 h))
           ·have ev107 := cnd_t ev107
            refine Ops.sg 4 7 ?_
            obtain ⟨v110, ev110, ev107⟩ := bnd_some ev107
            refine Ops.on 8 (fun h0 e0 => (ix_r (T := T) h0 22 3 1 .plain eI a1.fLabels (w64 (v83 - 1)) v110 ev110 (by kernel_rfl) (by kernel_rfl) (fun _ => rfl))) ?_
            refine Ops.sg 4 12 ?_
            exact Ops.sx (J21j108 (.ptr 1 1) (dP eI a1.fLabels) (dI v83) (dI (w64 (v83 - 1))) (.vptr [(vI v110)]) (dI v110) (dI v93) (dB (decide (v110 ≥ v93))) true (decide (v110 ≥ v93)) (some_sub (fun v107 => f21_r1 m K a0 v83 v107 = some sx91) ev107 h))
         ·refine Wp.ex 1 (sqQ.x (seqQ.x ?_))
          cases h
          refine lpQ.x (blkQ.w ⟨Zs7 a2 a0.fNodes a1.fLabels (a1.fLabels.length : Int) v83 (q40 (q40 (q7 []))), [(b21_0 a0), (b21_1 a1), b21_2]⟩ ?_)
          exact hxx89 v83  hsx92
       refine Wp.loop' k21_0 3 (by kernel_rfl) ⟨(.ptr 0 0)::q1 ((dI a2)::q1 ((.ptr 1 0)::q1 ((.ptr 2 0)::(dI a0.fNodes)::q40 (q31 ((dP eI a1.fLabels)::(dI (a1.fLabels.length : Int))::(dI 0)::q40 (q40 (q7 []))))))), [(b21_0 a0), (b21_1 a1), b21_2]⟩ (by kernel_rfl) ?_
       rcases brk_some h with ⟨r113, er113, h⟩ | ⟨y112, ey112, h⟩
       ·refine hLx111 _ 0  _ er113 n (by omega) (fun r er σ hσ => ?_) (fun y  ey => by cases ey)
        cases er
        refine seqQ.r ?_
        exact fnQP.r' (X21 n) (fun z => (e27 z)) c45 h hσ
       ·refine hLx111 _ 0  _ ey112 n (by omega) (fun r er => by cases er) (fun y  ey => ?_)
        cases ey
        refine seqQ.n (Wp.sq (Wp.sq (Wp.rg (Ops.sg 3 3 (Ops.dn (seqQ.n ?_))))))
        have J21j150 : ∀  (d114 d115 d116 d117 d118 d119 d120 d121 d122 d123 d124 d125 d126 d127 d128 d129 d130 d131 d132 d133 d134 d135 d136 d137 d138 d139 d140 d141 d142 d143 d144 d145 d146 d147 d148 d149 : D), f21_j4 m K a0 a1 a2 = some o → (seqQ (X21 n) (cR p21_1) (fnQP (X21 n).E.T (resOf Proofs.Tryd.prog 21) (e27 o.1) (c45 o.2))) .normal ⟨Zs7 a2 a0.fNodes a1.fLabels (a1.fLabels.length : Int) y112 (q24 ((.ptr 1 0)::(dI a1.fKind)::(dB (a1.fKind == 5))::d114::d115::d116::d117::d118::d119::d120::d121::d122::d123::d124::d125::d126::d127::d128::d129::d130::d131::q2 (d132::d133::d134::d135::d136::d137::d138::d139::d140::d141::q2 (d142::d143::d144::d145::d146::d147::d148::d149::q20 [])))), [(b21_0 a0), (b21_1 a1), b21_2]⟩ := by
         intro  d114 d115 d116 d117 d118 d119 d120 d121 d122 d123 d124 d125 d126 d127 d128 d129 d130 d131 d132 d133 d134 d135 d136 d137 d138 d139 d140 d141 d142 d143 d144 d145 d146 d147 d148 d149 h
         unfold f21_j4 at h
         refine seqQ.n (Wp.sq (Wp.sq (Wp.rg (Ops.sg 2 2 ?_))))
         refine Ops.on 3 (fun h0 e0 => (len_r (T := T) h0 23 25 .plain ep24 a1.fSubs (by kernel_rfl))) ?_
         refine Ops.sg 1 4 (Ops.dn (seqQ.n (Wp.bk 3 [6] 3 ?_)))
         have hLx170 : ∀ (kx160 : Nat) (v157 v158 : Int)  (ox159 : (S27 × S45) ⊕ (Int × Int)), iter (fun (y : Int × Int) => f21_B3 m K a1 a2 y.1 y.2) kx160 (v157, v158) = some ox159 → ∀ nx161, kx160 ≤ nx161 → (∀ r, ox159 = .inl r → ∀ σ, RetOkP (X21 n) (resOf Proofs.Tryd.prog 21) (e27 r.1) (c45 r.2) σ → (seqQ (X21 n) p21_2 (fnQP (X21 n).E.T (resOf Proofs.Tryd.prog 21) (e27 o.1) (c45 o.2))) .ret σ) → (∀ (y : Int × Int) , ox159 = .inr y → (seqQ (X21 n) p21_2 (fnQP (X21 n).E.T (resOf Proofs.Tryd.prog 21) (e27 o.1) (c45 o.2))) .normal ⟨Zs37 a2 a1.fSubs (a1.fSubs.length : Int) ((dI y.1)::q14 []), [(.cells [(dI y.2)]), (b21_1 a1), b21_2]⟩) → Lp (X21 n) k21_1 3 (cL (cL (cR (cL (cR p21_1))))) nx161 ⟨Zs37 a2 a1.fSubs (a1.fSubs.length : Int) ((dI v157)::q14 []), [(.cells [(dI v158)]), (b21_1 a1), b21_2]⟩ (blkQ (X21 n) 3 [6] 3 (seqQ (X21 n) p21_2 (fnQP (X21 n).E.T (resOf Proofs.Tryd.prog 21) (e27 o.1) (c45 o.2)))) := by
          intro kx160
          induction kx160 with
          | zero => intro v157 v158  ox159 h; exact (iter_zero h).elim
          | succ kx160 ihx162 =>
           intro v157 v158  ox159 h nx161 hnx165 hrx163 hxx164
           obtain ⟨nx161, rfl⟩ : ∃ q, nx161 = q + 1 := ⟨nx161 - 1, by omega⟩
           obtain ⟨sx166, h, hsx167⟩ := iter_some h
           have h : f21_B3 m K a1 a2 v157 v158 = some sx166 := h
           unfold f21_B3 at h
           refine Lp.succ (Wp.sq (Wp.rg (Ops.sg 1 1 (Ops.dn (seqQ.n (Wp.sq ?_))))))
           refine Wp.cd h k21_1 3 (fun h => ?_) (fun h => ?_)
           ·refine Wp.sk (sqQ.n' (seqQ.n (Wp.sq (Wp.bk 4 k21_1 3 (Wp.sq (Wp.rg ?_))))))
            obtain ⟨v168, ev168, h⟩ := bnd_some h
            refine Ops.on 1 (fun h0 e0 => (ixb24 (ix_r (T := T) h0 23 25 5 .plain ep24 a1.fSubs v157 v168 ev168 (by kernel_rfl) (by kernel_rfl) ep24_len))) ?_
            refine Ops.sg 3 4 (Ops.dn (seqQ.n (Wp.sq (Wp.rg (Ops.sg 4 4 ?_)))))
            obtain ⟨v169, ev169, h⟩ := bnd_some h
            refine Ops.on 5 (fun h0 e0 => (call_ptr (E' := E) (h := h0) (q := 0) (cs := c45 (⟨v158⟩ : S45)) (by kernel_rfl) (by kernel_rfl) (by kernel_rfl) (hq_of e0 (by kernel_rfl)) (by kernel_rfl) (Args.v (.agg [(vI v168.vw.fKind), (vP eI v168.vw.fLabels), (vP ep24 v168.vw.fSubs), (vI v168.vw.fLeast), (vI v168.vw.fMost)]) (e24 v168.vw) (by kernel_rfl) (Args.v (vI (w64 (a2 + 1))) (eI (w64 (a2 + 1))) (by kernel_rfl) Args.nil)) (hK.ok21 (⟨v158⟩ : S45) v168.vw (w64 (a2 + 1)) v169 ev169 n (by omega)))) ?_
            refine Ops.sg 2 7 (Ops.dn (seqQ.n (Wp.sq (Wp.rg (Ops.sg 3 3 (Ops.dn (seqQ.n ?_)))))))
            refine Wp.cd h k21_1 5 (fun h => ?_) (fun h => ?_)
            ·refine Wp.sq (Wp.rg (Ops.sg 2 2 (Ops.dn (seqQ.n (Wp.rt (sqQ.r (blkQ.r (seqQ.r ?_))))))))
             cases h
             refine lpQ.r (blkQ.r ?_)
             exact hrx163 _ hsx167 _ (RetOkP.forget k21_1 (by kernel_rfl) (RetOkP.mk' (.v (.agg [(vI v169.1.fCode), (vI v169.1.fIndex)])) (by kernel_rfl) (by kernel_rfl) (by kernel_rfl) (by kernel_rfl)))
            ·refine Wp.sk (sqQ.n' (blkQ.n' (seqQ.n (Wp.rg (Ops.sg 2 2 (Ops.dn (lpQ.m ⟨Zs37 a2 a1.fSubs (a1.fSubs.length : Int) ((dI (w64 (v157 + 1)))::q14 []), [(.cells [(dI v169.2.fNodes)]), (b21_1 a1), b21_2]⟩ ?_)))))))
             cases h
             exact ihx162 (w64 (v157 + 1)) v169.2.fNodes  _ hsx167 _ (by omega) hrx163 hxx164
           ·refine Wp.ex 3 (sqQ.x (seqQ.x ?_))
            cases h
            refine lpQ.x (blkQ.w ⟨Zs37 a2 a1.fSubs (a1.fSubs.length : Int) ((dI v157)::q14 []), [(.cells [(dI v158)]), (b21_1 a1), b21_2]⟩ ?_)
            exact hxx164 (v157, v158)  hsx167
         refine Wp.loop' k21_1 3 (by kernel_rfl) ⟨Zs37 a2 a1.fSubs (a1.fSubs.length : Int) ((dI 0)::q14 []), [(b21_0 a0), (b21_1 a1), b21_2]⟩ (by kernel_rfl) ?_
         rcases brk_some h with ⟨r172, er172, h⟩ | ⟨y171, ey171, h⟩
         ·refine hLx170 _ 0 (w64 (a0.fNodes + 1))  _ er172 n (by omega) (fun r er σ hσ => ?_) (fun y  ey => by cases ey)
          cases er
          refine seqQ.r ?_
          exact fnQP.r' (X21 n) (fun z => (e27 z)) c45 h hσ
         ·refine hLx170 _ 0 (w64 (a0.fNodes + 1))  _ ey171 n (by omega) (fun r er => by cases er) (fun y  ey => ?_)
          cases ey
          refine seqQ.n (Wp.sq (Wp.rg (Ops.sg 2 2 (Ops.dn (seqQ.n (Wp.rt ?_))))))
          exact fnQP.r' (X21 n) (fun z => (e27 z)) c45 h (RetOkP.mk' (.v (.agg [(vI 0), (vI 0)])) (by kernel_rfl) (by kernel_rfl) (by kernel_rfl) (by kernel_rfl))
        refine Wp.cd h [0, 2, 4, 6] 3 (fun h => ?_) (fun h => ?_)
        ·refine Wp.sq (Wp.sq (Wp.rg (Ops.sg 4 4 ?_)))
         refine Ops.hv (fun KQ => ∀ (d175 d176 d177 : D) (v178 v179 : Bool), f21_r8 m K a0 a1 a2 v179 = some o → KQ 8 ⟨Zs7 a2 a0.fNodes a1.fLabels (a1.fLabels.length : Int) y112 (q24 ((.ptr 1 0)::(dI a1.fKind)::(dB (a1.fKind == 5))::(.ptr 1 3)::(dI a1.fLeast)::(dB v178)::(dB v178)::d175::d176::d177::(dB v179)::q40 (q12 []))), [(b21_0 a0), (b21_1 a1), b21_2]⟩) ?_ fun J21j180 => ?_
         ·intro d175 d176 d177 v178 v179 h
          unfold f21_r8 at h
          refine Ops.sg 1 9 ?_
          refine Ops.hv (fun KQ => ∀ (d183 d184 d185 : D) (v186 v187 : Bool), f21_r7 m K a0 a1 a2 v187 = some o → KQ 13 ⟨Zs7 a2 a0.fNodes a1.fLabels (a1.fLabels.length : Int) y112 (q24 ((.ptr 1 0)::(dI a1.fKind)::(dB (a1.fKind == 5))::(.ptr 1 3)::(dI a1.fLeast)::(dB v178)::(dB v178)::d175::d176::d177::(dB v186)::(dB v186)::d183::d184::d185::(dB v187)::q40 (q7 []))), [(b21_0 a0), (b21_1 a1), b21_2]⟩) ?_ fun J21j188 => ?_
          ·intro d183 d184 d185 v186 v187 h
           unfold f21_r7 at h
           refine Ops.sg 1 14 ?_
           refine Ops.hv (fun KQ => ∀ (d191 d192 d193 : D) (v194 v195 : Bool), f21_r6 m K a0 a1 a2 v195 = some o → KQ 18 ⟨Zs7 a2 a0.fNodes a1.fLabels (a1.fLabels.length : Int) y112 (q24 ((.ptr 1 0)::(dI a1.fKind)::(dB (a1.fKind == 5))::(.ptr 1 3)::(dI a1.fLeast)::(dB v178)::(dB v178)::d175::d176::d177::(dB v186)::(dB v186)::d183::d184::d185::(dB v194)::(dB v194)::d191::d192::d193::(dB v195)::q40 (q2 []))), [(b21_0 a0), (b21_1 a1), b21_2]⟩) ?_ fun J21j196 => ?_
           ·intro d191 d192 d193 v194 v195 h
            unfold f21_r6 at h
            refine Ops.dn (seqQ.n ?_)
            refine Wp.cd h [0, 2, 4, 6, 7] 3 (fun h => ?_) (fun h => ?_)
            ·refine Wp.sq (Wp.rg (Ops.sg 1 1 ?_))
             obtain ⟨v197, ev197, h⟩ := bnd_some h
             refine Ops.on 2 (fun h0 e0 => (call_ok (E' := E) (h := h0) (by kernel_rfl) (Args.v (vI 3) (eI 3) (by kernel_rfl) (Args.v (vI a0.fNodes) (eI a0.fNodes) (by kernel_rfl) Args.nil)) (ok23 m 3 a0.fNodes v197 ev197 n (by omega)))) ?_
             refine Ops.sg 1 3 (Ops.dn (seqQ.n (Wp.rt (sqQ.r (seqQ.r (sqQ.r (seqQ.r ?_)))))))
             exact fnQP.r' (X21 n) (fun z => (e27 z)) c45 h (RetOkP.mk' (.v (.agg [(vI v197.fCode), (vI v197.fIndex)])) (by kernel_rfl) (by kernel_rfl) (by kernel_rfl) (by kernel_rfl))
            ·refine Wp.sk (sqQ.n' (seqQ.n (Wp.sq (Wp.rg (Ops.sg 4 4 ?_)))))
             refine Ops.hv (fun KQ => ∀ (d200 d201 d202 d203 d204 : D) (v205 v206 : Bool), f21_r5 m K a0 a1 a2 v206 = some o → KQ 10 ⟨Zs7 a2 a0.fNodes a1.fLabels (a1.fLabels.length : Int) y112 (q24 ((.ptr 1 0)::(dI a1.fKind)::(dB (a1.fKind == 5))::(.ptr 1 3)::(dI a1.fLeast)::(dB v178)::(dB v178)::d175::d176::d177::(dB v186)::(dB v186)::d183::d184::d185::(dB v194)::(dB v194)::d191::d192::d193::(dB v195)::q2 ((.ptr 1 4)::(dI a1.fMost)::(dB v205)::(dB v205)::d200::d201::d202::d203::d204::(dB v206)::q30 []))), [(b21_0 a0), (b21_1 a1), b21_2]⟩) ?_ fun J21j207 => ?_
             ·intro d200 d201 d202 d203 d204 v205 v206 h
              unfold f21_r5 at h
              refine Ops.dn (seqQ.n ?_)
              refine Wp.cd h [0, 2, 4, 6] 3 (fun h => ?_) (fun h => ?_)
              ·refine Wp.sq (Wp.rg (Ops.sg 1 1 ?_))
               obtain ⟨v208, ev208, h⟩ := bnd_some h
               refine Ops.on 2 (fun h0 e0 => (call_ok (E' := E) (h := h0) (by kernel_rfl) (Args.v (vI 13) (eI 13) (by kernel_rfl) (Args.v (vI a0.fNodes) (eI a0.fNodes) (by kernel_rfl) Args.nil)) (ok23 m 13 a0.fNodes v208 ev208 n (by omega)))) ?_
               refine Ops.sg 1 3 (Ops.dn (seqQ.n (Wp.rt (sqQ.r (sqQ.r (seqQ.r ?_))))))
               exact fnQP.r' (X21 n) (fun z => (e27 z)) c45 h (RetOkP.mk' (.v (.agg [(vI v208.fCode), (vI v208.fIndex)])) (by kernel_rfl) (by kernel_rfl) (by kernel_rfl) (by kernel_rfl))
              ·refine Wp.sk (sqQ.n' (sqQ.m ⟨Zs7 a2 a0.fNodes a1.fLabels (a1.fLabels.length : Int) y112 (q24 ((.ptr 1 0)::(dI a1.fKind)::(dB (a1.fKind == 5))::(.ptr 1 3)::(dI a1.fLeast)::(dB v178)::(dB v178)::d175::d176::d177::(dB v186)::(dB v186)::d183::d184::d185::(dB v194)::(dB v194)::d191::d192::d193::(dB v195)::q2 ((.ptr 1 4)::(dI a1.fMost)::(dB v205)::(dB v205)::d200::d201::d202::d203::d204::(dB v206)::q30 []))), [(b21_0 a0), (b21_1 a1), b21_2]⟩ ?_))
               exact J21j150  _ _ _ _ _ _ _ _ _ _ _ _ _ _ _ _ _ _ _ _ _ _ _ _ _ _ _ _ _ _ _ _ _ _ _ _ h
             refine Ops.hv (fun KQ => ∀ v198 : Bool, f21_r5 m K a0 a1 a2 (v198 && (decide (a1.fMost < a1.fLeast))) = some o → KQ 4 ⟨Zs7 a2 a0.fNodes a1.fLabels (a1.fLabels.length : Int) y112 (q24 ((.ptr 1 0)::(dI a1.fKind)::(dB (a1.fKind == 5))::(.ptr 1 3)::(dI a1.fLeast)::(dB v178)::(dB v178)::d175::d176::d177::(dB v186)::(dB v186)::d183::d184::d185::(dB v194)::(dB v194)::d191::d192::d193::(dB v195)::q2 ((.ptr 1 4)::(dI a1.fMost)::(dB v198)::(dB v198)::q36 []))), [(b21_0 a0), (b21_1 a1), b21_2]⟩) ?_ fun G21g199 => Ops.sx (G21g199 (decide (a1.fMost ≥ 0)) h)
             intro v198 h
             cases v198
             ·refine Ops.sg 6 10 ?_
              exact Ops.sx (J21j207 U U U U U false false h)
             ·refine Ops.sg 6 10 ?_
              exact Ops.sx (J21j207 (.ptr 1 4) (dI a1.fMost) (.ptr 1 3) (dI a1.fLeast) (dB (decide (a1.fMost < a1.fLeast))) true (decide (a1.fMost < a1.fLeast)) h)
           refine Ops.hv (fun KQ => ∀ v189 : Bool, f21_r6 m K a0 a1 a2 (v189 || (decide (a1.fMost > 9))) = some o → KQ 14 ⟨Zs7 a2 a0.fNodes a1.fLabels (a1.fLabels.length : Int) y112 (q24 ((.ptr 1 0)::(dI a1.fKind)::(dB (a1.fKind == 5))::(.ptr 1 3)::(dI a1.fLeast)::(dB v178)::(dB v178)::d175::d176::d177::(dB v186)::(dB v186)::d183::d184::d185::(dB v189)::(dB v189)::q40 (q6 []))), [(b21_0 a0), (b21_1 a1), b21_2]⟩) ?_ fun G21g190 => Ops.sx (G21g190 v187 h)
           intro v189 h
           cases v189
           ·refine Ops.sg 4 18 ?_
            exact Ops.sx (J21j196 (.ptr 1 4) (dI a1.fMost) (dB (decide (a1.fMost > 9))) false (decide (a1.fMost > 9)) h)
           ·refine Ops.sg 4 18 ?_
            exact Ops.sx (J21j196 U U U true true h)
          refine Ops.hv (fun KQ => ∀ v181 : Bool, f21_r7 m K a0 a1 a2 (v181 || (decide (a1.fMost < (-1)))) = some o → KQ 9 ⟨Zs7 a2 a0.fNodes a1.fLabels (a1.fLabels.length : Int) y112 (q24 ((.ptr 1 0)::(dI a1.fKind)::(dB (a1.fKind == 5))::(.ptr 1 3)::(dI a1.fLeast)::(dB v178)::(dB v178)::d175::d176::d177::(dB v181)::(dB v181)::q40 (q11 []))), [(b21_0 a0), (b21_1 a1), b21_2]⟩) ?_ fun G21g182 => Ops.sx (G21g182 v179 h)
          intro v181 h
          cases v181
          ·refine Ops.sg 4 13 ?_
           exact Ops.sx (J21j188 (.ptr 1 4) (dI a1.fMost) (dB (decide (a1.fMost < (-1)))) false (decide (a1.fMost < (-1))) h)
          ·refine Ops.sg 4 13 ?_
           exact Ops.sx (J21j188 U U U true true h)
         refine Ops.hv (fun KQ => ∀ v173 : Bool, f21_r8 m K a0 a1 a2 (v173 || (decide (a1.fLeast > 9))) = some o → KQ 4 ⟨Zs7 a2 a0.fNodes a1.fLabels (a1.fLabels.length : Int) y112 (q24 ((.ptr 1 0)::(dI a1.fKind)::(dB (a1.fKind == 5))::(.ptr 1 3)::(dI a1.fLeast)::(dB v173)::(dB v173)::q40 (q16 []))), [(b21_0 a0), (b21_1 a1), b21_2]⟩) ?_ fun G21g174 => Ops.sx (G21g174 (decide (a1.fLeast < 0)) h)
         intro v173 h
         cases v173
         ·refine Ops.sg 4 8 ?_
          exact Ops.sx (J21j180 (.ptr 1 3) (dI a1.fLeast) (dB (decide (a1.fLeast > 9))) false (decide (a1.fLeast > 9)) h)
         ·refine Ops.sg 4 8 ?_
          exact Ops.sx (J21j180 U U U true true h)
        ·refine Wp.sq (Wp.rg (Ops.sg 4 4 ?_))
         refine Ops.hv (fun KQ => ∀ (d211 d212 d213 : D) (v214 v215 : Bool), f21_r9 m K a0 a1 a2 v215 = some o → KQ 8 ⟨Zs7 a2 a0.fNodes a1.fLabels (a1.fLabels.length : Int) y112 (q24 ((.ptr 1 0)::(dI a1.fKind)::(dB (a1.fKind == 5))::q32 ((.ptr 1 3)::(dI a1.fLeast)::(dB v214)::(dB v214)::d211::d212::d213::(dB v215)::q20 []))), [(b21_0 a0), (b21_1 a1), b21_2]⟩) ?_ fun J21j216 => ?_
         ·intro d211 d212 d213 v214 v215 h
          unfold f21_r9 at h
          refine Ops.dn (seqQ.n ?_)
          refine Wp.cd h [0, 2, 4, 6] 3 (fun h => ?_) (fun h => ?_)
          ·refine Wp.sq (Wp.rg (Ops.sg 1 1 ?_))
           obtain ⟨v217, ev217, h⟩ := bnd_some h
           refine Ops.on 2 (fun h0 e0 => (call_ok (E' := E) (h := h0) (by kernel_rfl) (Args.v (vI 5) (eI 5) (by kernel_rfl) (Args.v (vI a0.fNodes) (eI a0.fNodes) (by kernel_rfl) Args.nil)) (ok23 m 5 a0.fNodes v217 ev217 n (by omega)))) ?_
           refine Ops.sg 1 3 (Ops.dn (seqQ.n (Wp.rt (sqQ.r (sqQ.r (seqQ.r ?_))))))
           exact fnQP.r' (X21 n) (fun z => (e27 z)) c45 h (RetOkP.mk' (.v (.agg [(vI v217.fCode), (vI v217.fIndex)])) (by kernel_rfl) (by kernel_rfl) (by kernel_rfl) (by kernel_rfl))
          ·refine Wp.sk (sqQ.n' (sqQ.m ⟨Zs7 a2 a0.fNodes a1.fLabels (a1.fLabels.length : Int) y112 (q24 ((.ptr 1 0)::(dI a1.fKind)::(dB (a1.fKind == 5))::q32 ((.ptr 1 3)::(dI a1.fLeast)::(dB v214)::(dB v214)::d211::d212::d213::(dB v215)::q20 []))), [(b21_0 a0), (b21_1 a1), b21_2]⟩ ?_))
           exact J21j150  _ _ _ _ _ _ _ _ _ _ _ _ _ _ _ _ _ _ _ _ _ _ _ _ _ _ _ _ _ _ _ _ _ _ _ _ h
         refine Ops.hv (fun KQ => ∀ v209 : Bool, f21_r9 m K a0 a1 a2 (v209 || (a1.fMost != 0)) = some o → KQ 4 ⟨Zs7 a2 a0.fNodes a1.fLabels (a1.fLabels.length : Int) y112 (q24 ((.ptr 1 0)::(dI a1.fKind)::(dB (a1.fKind == 5))::q32 ((.ptr 1 3)::(dI a1.fLeast)::(dB v209)::(dB v209)::q24 []))), [(b21_0 a0), (b21_1 a1), b21_2]⟩) ?_ fun G21g210 => Ops.sx (G21g210 (a1.fLeast != 0) h)
         intro v209 h
         cases v209
         ·refine Ops.sg 4 8 ?_
          exact Ops.sx (J21j216 (.ptr 1 4) (dI a1.fMost) (dB (a1.fMost != 0)) false (a1.fMost != 0) h)
         ·refine Ops.sg 4 8 ?_
          exact Ops.sx (J21j216 U U U true true h)
     refine Ops.hv (fun KQ => ∀ v38 : Bool, f21_r10 m K a0 a1 a2 (v38 || (decide ((a1.fLabels.length : Int) > 300))) = some o → KQ 14 ⟨Zs1 (.v (.agg [(vI a1.fKind), (vP eI a1.fLabels), (vP ep24 a1.fSubs), (vI a1.fLeast), (vI a1.fMost)])) a2 a0.fNodes v9 (a1.fLabels.length : Int) (w64 (a0.fNodes + 1)) v5 d10 d11 v6 a1.fLabels a1.fKind v12 (a1.fKind == 1) d13 (d14::d15::d16::d17::d18::d19::d20::d21::d22::d23::d24::d25::(.ptr 1 2)::(dP ep24 a1.fSubs)::(dI (a1.fSubs.length : Int))::(dI v9)::(dB v35)::(dB v35)::d29::d30::d31::d32::d33::d34::(dB v38)::(dB v38)::u40 (u40 (u16 []))), [(b21_0 a0), (b21_1 a1), b21_2]⟩) ?_ fun G21g39 => Ops.sx (G21g39 v36 h)
     intro v38 h
     cases v38
     ·refine Ops.sg 3 17 ?_
      exact Ops.sx (J21j44 (dI (a1.fLabels.length : Int)) (dB (decide ((a1.fLabels.length : Int) > 300))) false (decide ((a1.fLabels.length : Int) > 300)) h)
     ·refine Ops.sg 3 17 ?_
      exact Ops.sx (J21j44 U U true true h)
    refine Ops.hv (fun KQ => ∀ v27 : Bool, f21_r11 m K a0 a1 a2 (v27 || (!((a1.fKind == 2) == (decide ((a1.fLabels.length : Int) > 0))))) = some o → KQ 6 ⟨Zs1 (.v (.agg [(vI a1.fKind), (vP eI a1.fLabels), (vP ep24 a1.fSubs), (vI a1.fLeast), (vI a1.fMost)])) a2 a0.fNodes v9 (a1.fLabels.length : Int) (w64 (a0.fNodes + 1)) v5 d10 d11 v6 a1.fLabels a1.fKind v12 (a1.fKind == 1) d13 (d14::d15::d16::d17::d18::d19::d20::d21::d22::d23::d24::d25::(.ptr 1 2)::(dP ep24 a1.fSubs)::(dI (a1.fSubs.length : Int))::(dI v9)::(dB v27)::(dB v27)::u40 (u40 (u24 []))), [(b21_0 a0), (b21_1 a1), b21_2]⟩) ?_ fun G21g28 => Ops.sx (G21g28 ((a1.fSubs.length : Int) != v9) h)
    intro v27 h
    cases v27
    ·refine Ops.sg 7 13 ?_
     exact Ops.sx (J21j37 (.ptr 1 0) (dI a1.fKind) (dB (a1.fKind == 2)) (dI (a1.fLabels.length : Int)) (dB (decide ((a1.fLabels.length : Int) > 0))) (dB (!((a1.fKind == 2) == (decide ((a1.fLabels.length : Int) > 0))))) false (!((a1.fKind == 2) == (decide ((a1.fLabels.length : Int) > 0)))) h)
    ·refine Ops.sg 7 13 ?_
     exact Ops.sx (J21j37 U U U U U U true true h)
   refine Wp.bk 0 k21_2 3 (Wp.sq (Wp.sq (Wp.rg (Ops.sg 2 2 (Ops.dn (seqQ.n ?_))))))
   have J21j222 : ∀ (v220 : Bool) (d218 d219 d221 : D), f21_j18 m K a0 a1 a2 v220 = some o → (seqQ (X21 n) (cR (cL (cR (cL (cR (cR (cR (cR (cR C21))))))))) (blkQ (X21 n) 0 k21_2 3 (seqQ (X21 n) p21_0 (fnQP (X21 n).E.T (resOf Proofs.Tryd.prog 21) (e27 o.1) (c45 o.2))))) .normal ⟨Zs2 (.v (.agg [(vI a1.fKind), (vP eI a1.fLabels), (vP ep24 a1.fSubs), (vI a1.fLeast), (vI a1.fMost)])) a2 a0.fNodes (a1.fLabels.length : Int) (w64 (a0.fNodes + 1)) v5 d218 d219 v6 a1.fLabels a1.fKind v220 ((dB (a1.fKind == 1))::d221::u40 (u40 (u40 (u2 [])))), [(b21_0 a0), (b21_1 a1), b21_2]⟩ := by
    intro v220 d218 d219 d221 h
    unfold f21_j18 at h
    refine seqQ.n ?_
    have J21j239 : ∀ (v223 : Int) (d224 d225 d226 d227 d228 d229 d230 d231 d232 d233 d234 d235 d236 d237 d238 : D), f21_j13 m K a0 a1 a2 v220 v223 = some o → (blkQ (X21 n) 0 k21_2 3 (seqQ (X21 n) p21_0 (fnQP (X21 n).E.T (resOf Proofs.Tryd.prog 21) (e27 o.1) (c45 o.2)))) .normal ⟨Zs1 (.v (.agg [(vI a1.fKind), (vP eI a1.fLabels), (vP ep24 a1.fSubs), (vI a1.fLeast), (vI a1.fMost)])) a2 a0.fNodes v223 (a1.fLabels.length : Int) (w64 (a0.fNodes + 1)) v5 d224 d225 v6 a1.fLabels a1.fKind v220 (a1.fKind == 1) d226 (d227::d228::d229::d230::d231::d232::d233::d234::d235::d236::d237::d238::u40 (u40 (u30 []))), [(b21_0 a0), (b21_1 a1), b21_2]⟩ := by
     intro v223 d224 d225 d226 d227 d228 d229 d230 d231 d232 d233 d234 d235 d236 d237 d238 h
     unfold f21_j13 at h
     refine blkQ.m ⟨Zs1 (.v (.agg [(vI a1.fKind), (vP eI a1.fLabels), (vP ep24 a1.fSubs), (vI a1.fLeast), (vI a1.fMost)])) a2 a0.fNodes v223 (a1.fLabels.length : Int) (w64 (a0.fNodes + 1)) v5 d224 d225 v6 a1.fLabels a1.fKind v220 (a1.fKind == 1) d226 (d227::d228::d229::d230::d231::d232::d233::d234::d235::d236::d237::d238::u40 (u40 (u30 []))), [(b21_0 a0), (b21_1 a1), b21_2]⟩ ?_
     exact J21j26 v223 v220 _ _ _ _ _ _ _ _ _ _ _ _ _ _ _ h
    refine Wp.cd h k21_3 3 (fun h => ?_) (fun h => ?_)
    ·refine Wp.sk (sqQ.m ⟨Zs2 (.v (.agg [(vI a1.fKind), (vP eI a1.fLabels), (vP ep24 a1.fSubs), (vI a1.fLeast), (vI a1.fMost)])) a2 a0.fNodes (a1.fLabels.length : Int) (w64 (a0.fNodes + 1)) v5 d218 d219 v6 a1.fLabels a1.fKind v220 ((dB (a1.fKind == 1))::d221::u40 (u40 (u40 (u2 [])))), [(b21_0 a0), (b21_1 a1), b21_2]⟩ ?_)
     exact J21j239 0 _ _ _ _ _ _ _ _ _ _ _ _ _ _ _ h
    ·refine Wp.sq (Wp.sq (Wp.rg (Ops.sg 2 2 (Ops.dn (seqQ.n ?_)))))
     have J21j245 : ∀ (v243 : Bool) (d240 d241 d242 d244 : D), f21_j17 m K a0 a1 a2 v220 v243 = some o → (seqQ (X21 n) (cR (cR (cR (cL (cR (cL (cR (cR (cR (cR (cR C21))))))))))) (sqQ (X21 n) k21_3 3 (blkQ (X21 n) 0 k21_2 3 (seqQ (X21 n) p21_0 (fnQP (X21 n).E.T (resOf Proofs.Tryd.prog 21) (e27 o.1) (c45 o.2)))))) .normal ⟨Zs2 (.v (.agg [(vI a1.fKind), (vP eI a1.fLabels), (vP ep24 a1.fSubs), (vI a1.fLeast), (vI a1.fMost)])) a2 a0.fNodes (a1.fLabels.length : Int) (w64 (a0.fNodes + 1)) v5 d240 d241 v6 a1.fLabels a1.fKind v220 ((dB (a1.fKind == 1))::d242::(dB v243)::(dB (a1.fKind == 3))::d244::u40 (u40 (u39 []))), [(b21_0 a0), (b21_1 a1), b21_2]⟩ := by
      intro v243 d240 d241 d242 d244 h
      unfold f21_j17 at h
      refine seqQ.n ?_
      have J21j260 : ∀ (v246 : Int) (d247 d248 d249 d250 d251 d252 d253 d254 d255 d256 d257 d258 d259 : D), f21_j14 m K a0 a1 a2 v220 v246 = some o → (sqQ (X21 n) k21_3 3 (blkQ (X21 n) 0 k21_2 3 (seqQ (X21 n) p21_0 (fnQP (X21 n).E.T (resOf Proofs.Tryd.prog 21) (e27 o.1) (c45 o.2))))) .normal ⟨Zs1 (.v (.agg [(vI a1.fKind), (vP eI a1.fLabels), (vP ep24 a1.fSubs), (vI a1.fLeast), (vI a1.fMost)])) a2 a0.fNodes v246 (a1.fLabels.length : Int) (w64 (a0.fNodes + 1)) v5 d247 d248 v6 a1.fLabels a1.fKind v220 (a1.fKind == 1) d249 ((dB v243)::(dB (a1.fKind == 3))::d250::d251::d252::d253::d254::d255::d256::d257::d258::d259::u40 (u40 (u30 []))), [(b21_0 a0), (b21_1 a1), b21_2]⟩ := by
       intro v246 d247 d248 d249 d250 d251 d252 d253 d254 d255 d256 d257 d258 d259 h
       unfold f21_j14 at h
       refine sqQ.m ⟨Zs1 (.v (.agg [(vI a1.fKind), (vP eI a1.fLabels), (vP ep24 a1.fSubs), (vI a1.fLeast), (vI a1.fMost)])) a2 a0.fNodes v246 (a1.fLabels.length : Int) (w64 (a0.fNodes + 1)) v5 d247 d248 v6 a1.fLabels a1.fKind v220 (a1.fKind == 1) d249 ((dB v243)::(dB (a1.fKind == 3))::d250::d251::d252::d253::d254::d255::d256::d257::d258::d259::u40 (u40 (u30 []))), [(b21_0 a0), (b21_1 a1), b21_2]⟩ ?_
       exact J21j239 v246 _ _ _ _ _ _ _ _ _ _ _ _ _ _ _ h
      refine Wp.cd h k21_4 3 (fun h => ?_) (fun h => ?_)
      ·refine Wp.rg (Ops.sg 2 2 ?_)
       refine Ops.on 3 (fun h0 e0 => (len_r (T := T) h0 23 25 .plain ep24 a1.fSubs (by kernel_rfl))) ?_
       refine Ops.sg 2 5 (Ops.dn (sqQ.m ⟨Zs1 (.v (.agg [(vI a1.fKind), (vP eI a1.fLabels), (vP ep24 a1.fSubs), (vI a1.fLeast), (vI a1.fMost)])) a2 a0.fNodes (if (a1.fSubs.length : Int) > 2 then (a1.fSubs.length : Int) else 2) (a1.fLabels.length : Int) (w64 (a0.fNodes + 1)) v5 d240 d241 v6 a1.fLabels a1.fKind v220 (a1.fKind == 1) d242 ((dB v243)::(dB (a1.fKind == 3))::d244::(.ptr 1 2)::(dP ep24 a1.fSubs)::(dI (a1.fSubs.length : Int))::(dI (if (a1.fSubs.length : Int) > 2 then (a1.fSubs.length : Int) else 2))::u40 (u40 (u35 []))), [(b21_0 a0), (b21_1 a1), b21_2]⟩ ?_))
       exact J21j260 (if (a1.fSubs.length : Int) > 2 then (a1.fSubs.length : Int) else 2) _ _ _ _ _ _ _ _ _ _ _ _ _ h
      ·refine Wp.sq (Wp.rg (Ops.sg 2 2 (Ops.dn (seqQ.n ?_))))
       have J21j269 : ∀ (v261 : Int) (d262 d263 d264 d265 d266 d267 d268 : D), f21_j15 m K a0 a1 a2 v220 v261 = some o → (sqQ (X21 n) k21_4 3 (sqQ (X21 n) k21_3 3 (blkQ (X21 n) 0 k21_2 3 (seqQ (X21 n) p21_0 (fnQP (X21 n).E.T (resOf Proofs.Tryd.prog 21) (e27 o.1) (c45 o.2)))))) .normal ⟨Zs1 (.v (.agg [(vI a1.fKind), (vP eI a1.fLabels), (vP ep24 a1.fSubs), (vI a1.fLeast), (vI a1.fMost)])) a2 a0.fNodes v261 (a1.fLabels.length : Int) (w64 (a0.fNodes + 1)) v5 d262 d263 v6 a1.fLabels a1.fKind v220 (a1.fKind == 1) d264 ((dB v243)::(dB (a1.fKind == 3))::d265::u4 ((dB (a1.fKind == 5))::(dB (a1.fKind == 5))::d266::d267::d268::u40 (u40 (u30 [])))), [(b21_0 a0), (b21_1 a1), b21_2]⟩ := by
        intro v261 d262 d263 d264 d265 d266 d267 d268 h
        unfold f21_j15 at h
        refine sqQ.m ⟨Zs1 (.v (.agg [(vI a1.fKind), (vP eI a1.fLabels), (vP ep24 a1.fSubs), (vI a1.fLeast), (vI a1.fMost)])) a2 a0.fNodes v261 (a1.fLabels.length : Int) (w64 (a0.fNodes + 1)) v5 d262 d263 v6 a1.fLabels a1.fKind v220 (a1.fKind == 1) d264 ((dB v243)::(dB (a1.fKind == 3))::d265::u4 ((dB (a1.fKind == 5))::(dB (a1.fKind == 5))::d266::d267::d268::u40 (u40 (u30 [])))), [(b21_0 a0), (b21_1 a1), b21_2]⟩ ?_
        exact J21j260 v261 _ _ _ _ _ _ _ _ _ _ _ _ _ h
       refine Wp.cd h k21_2 3 (fun h => ?_) (fun h => ?_)
       ·refine Wp.rg (Ops.sg 1 1 (Ops.dn (sqQ.m ⟨(.ptr 0 0)::(.v (.agg [(vI a1.fKind), (vP eI a1.fLabels), (vP ep24 a1.fSubs), (vI a1.fLeast), (vI a1.fMost)]))::(dI a2)::u1 ((.ptr 1 0)::u1 ((.ptr 2 0)::(dI a0.fNodes)::(dI 1)::(dI (a1.fLabels.length : Int))::u5 ((.ptr 0 0)::(.ptr 0 0)::(.ptr 0 0)::(dI a0.fNodes)::(.ptr 0 0)::(.ptr 0 0)::(.ptr 0 0)::(dI a0.fNodes)::(dI (w64 (a0.fNodes + 1)))::(.ptr 0 0)::(.ptr 0 0)::(.ptr 0 0)::(.ptr 0 0)::(.ptr 0 0)::(dI (w64 (a0.fNodes + 1)))::(dB v5)::(dB v5)::d240::d241::(dB v6)::u2 ((.ptr 1 1)::(dP eI a1.fLabels)::(dI (a1.fLabels.length : Int))::(.ptr 1 0)::(dI a1.fKind)::u2 ((dB v220)::(dB (a1.fKind == 1))::d242::(dB v243)::(dB (a1.fKind == 3))::d244::u4 ((dB (a1.fKind == 5))::(dB (a1.fKind == 5))::u40 (u40 (u33 [])))))))), [(b21_0 a0), (b21_1 a1), b21_2]⟩ ?_)))
        exact J21j269 1 _ _ _ _ _ _ _ h
       ·refine Wp.sq (Wp.sq (Wp.rg (Ops.sg 2 2 (Ops.dn (seqQ.n ?_)))))
        have J21j276 : ∀ (v274 : Bool) (d270 d271 d272 d273 d275 : D), f21_j16 m K a0 a1 a2 v220 v274 = some o → (seqQ (X21 n) (cR (cR (cR (cR (cR (cR (cR (cL (cR (cL (cR (cR (cR (cR (cR C21))))))))))))))) (sqQ (X21 n) k21_2 3 (sqQ (X21 n) k21_4 3 (sqQ (X21 n) k21_3 3 (blkQ (X21 n) 0 k21_2 3 (seqQ (X21 n) p21_0 (fnQP (X21 n).E.T (resOf Proofs.Tryd.prog 21) (e27 o.1) (c45 o.2)))))))) .normal ⟨Zs2 (.v (.agg [(vI a1.fKind), (vP eI a1.fLabels), (vP ep24 a1.fSubs), (vI a1.fLeast), (vI a1.fMost)])) a2 a0.fNodes (a1.fLabels.length : Int) (w64 (a0.fNodes + 1)) v5 d270 d271 v6 a1.fLabels a1.fKind v220 ((dB (a1.fKind == 1))::d272::(dB v243)::(dB (a1.fKind == 3))::d273::u4 ((dB (a1.fKind == 5))::(dB (a1.fKind == 5))::(dB v274)::(dB (a1.fKind == 6))::d275::u40 (u40 (u30 [])))), [(b21_0 a0), (b21_1 a1), b21_2]⟩ := by
         intro v274 d270 d271 d272 d273 d275 h
         unfold f21_j16 at h
         refine seqQ.n ?_
         refine Wp.cd h [0, 2, 4, 6, 7, 8, 9, 56] 3 (fun h => ?_) (fun h => ?_)
         ·refine Wp.rg (Ops.sg 1 1 (Ops.dn (sqQ.n' (sqQ.m ⟨(.ptr 0 0)::(.v (.agg [(vI a1.fKind), (vP eI a1.fLabels), (vP ep24 a1.fSubs), (vI a1.fLeast), (vI a1.fMost)]))::(dI a2)::u1 ((.ptr 1 0)::u1 ((.ptr 2 0)::(dI a0.fNodes)::(dI 2)::(dI (a1.fLabels.length : Int))::u5 ((.ptr 0 0)::(.ptr 0 0)::(.ptr 0 0)::(dI a0.fNodes)::(.ptr 0 0)::(.ptr 0 0)::(.ptr 0 0)::(dI a0.fNodes)::(dI (w64 (a0.fNodes + 1)))::(.ptr 0 0)::(.ptr 0 0)::(.ptr 0 0)::(.ptr 0 0)::(.ptr 0 0)::(dI (w64 (a0.fNodes + 1)))::(dB v5)::(dB v5)::d270::d271::(dB v6)::u2 ((.ptr 1 1)::(dP eI a1.fLabels)::(dI (a1.fLabels.length : Int))::(.ptr 1 0)::(dI a1.fKind)::u2 ((dB v220)::(dB (a1.fKind == 1))::d272::(dB v243)::(dB (a1.fKind == 3))::d273::u4 ((dB (a1.fKind == 5))::(dB (a1.fKind == 5))::(dB v274)::(dB (a1.fKind == 6))::d275::u40 (u40 (u30 [])))))))), [(b21_0 a0), (b21_1 a1), b21_2]⟩ ?_))))
          exact J21j269 2 _ _ _ _ _ _ _ h
         ·refine Wp.sq (Wp.rg (Ops.sg 1 1 ?_))
          obtain ⟨v277, ev277, h⟩ := bnd_some h
          refine Ops.on 2 (fun h0 e0 => (call_ok (E' := E) (h := h0) (by kernel_rfl) (Args.v (vI 4) (eI 4) (by kernel_rfl) (Args.v (vI a0.fNodes) (eI a0.fNodes) (by kernel_rfl) Args.nil)) (ok23 m 4 a0.fNodes v277 ev277 n (by omega)))) ?_
          refine Ops.sg 1 3 (Ops.dn (seqQ.n (Wp.rt (sqQ.r (sqQ.r (sqQ.r (sqQ.r (blkQ.r (seqQ.r ?_)))))))))
          exact fnQP.r' (X21 n) (fun z => (e27 z)) c45 h (RetOkP.mk' (.v (.agg [(vI v277.fCode), (vI v277.fIndex)])) (by kernel_rfl) (by kernel_rfl) (by kernel_rfl) (by kernel_rfl))
        refine Wp.cd h [0, 2, 4, 6, 7, 8, 9, 56] 3 (fun h => ?_) (fun h => ?_)
        ·refine Wp.sk (sqQ.m ⟨Zs2 (.v (.agg [(vI a1.fKind), (vP eI a1.fLabels), (vP ep24 a1.fSubs), (vI a1.fLeast), (vI a1.fMost)])) a2 a0.fNodes (a1.fLabels.length : Int) (w64 (a0.fNodes + 1)) v5 d240 d241 v6 a1.fLabels a1.fKind v220 ((dB (a1.fKind == 1))::d242::(dB v243)::(dB (a1.fKind == 3))::d244::u4 ((dB (a1.fKind == 5))::(dB (a1.fKind == 5))::(dB (a1.fKind == 6))::(dB (a1.fKind == 6))::u40 (u40 (u31 [])))), [(b21_0 a0), (b21_1 a1), b21_2]⟩ ?_)
         exact J21j276 (a1.fKind == 6) _ _ _ _ _ h
        ·refine Wp.rg (Ops.sg 2 2 (Ops.dn (sqQ.m ⟨Zs2 (.v (.agg [(vI a1.fKind), (vP eI a1.fLabels), (vP ep24 a1.fSubs), (vI a1.fLeast), (vI a1.fMost)])) a2 a0.fNodes (a1.fLabels.length : Int) (w64 (a0.fNodes + 1)) v5 d240 d241 v6 a1.fLabels a1.fKind v220 ((dB (a1.fKind == 1))::d242::(dB v243)::(dB (a1.fKind == 3))::d244::u4 ((dB (a1.fKind == 5))::(dB (a1.fKind == 5))::(dB (a1.fKind == 7))::(dB (a1.fKind == 6))::(dB (a1.fKind == 7))::u40 (u40 (u30 [])))), [(b21_0 a0), (b21_1 a1), b21_2]⟩ ?_)))
         exact J21j276 (a1.fKind == 7) _ _ _ _ _ h
     refine Wp.cd h k21_4 3 (fun h => ?_) (fun h => ?_)
     ·refine Wp.sk (sqQ.m ⟨Zs2 (.v (.agg [(vI a1.fKind), (vP eI a1.fLabels), (vP ep24 a1.fSubs), (vI a1.fLeast), (vI a1.fMost)])) a2 a0.fNodes (a1.fLabels.length : Int) (w64 (a0.fNodes + 1)) v5 d218 d219 v6 a1.fLabels a1.fKind v220 ((dB (a1.fKind == 1))::d221::(dB (a1.fKind == 3))::(dB (a1.fKind == 3))::u40 (u40 (u40 []))), [(b21_0 a0), (b21_1 a1), b21_2]⟩ ?_)
      exact J21j245 (a1.fKind == 3) _ _ _ _ h
     ·refine Wp.rg (Ops.sg 2 2 (Ops.dn (sqQ.m ⟨Zs2 (.v (.agg [(vI a1.fKind), (vP eI a1.fLabels), (vP ep24 a1.fSubs), (vI a1.fLeast), (vI a1.fMost)])) a2 a0.fNodes (a1.fLabels.length : Int) (w64 (a0.fNodes + 1)) v5 d218 d219 v6 a1.fLabels a1.fKind v220 ((dB (a1.fKind == 1))::d221::(dB (a1.fKind == 4))::(dB (a1.fKind == 3))::(dB (a1.fKind == 4))::u40 (u40 (u39 []))), [(b21_0 a0), (b21_1 a1), b21_2]⟩ ?_)))
      exact J21j245 (a1.fKind == 4) _ _ _ _ h
   refine Wp.cd h k21_3 3 (fun h => ?_) (fun h => ?_)
   ·refine Wp.sk (sqQ.m ⟨Zs2 (.v (.agg [(vI a1.fKind), (vP eI a1.fLabels), (vP ep24 a1.fSubs), (vI a1.fLeast), (vI a1.fMost)])) a2 a0.fNodes (a1.fLabels.length : Int) (w64 (a0.fNodes + 1)) v5 d3 d4 v6 a1.fLabels a1.fKind (a1.fKind == 1) ((dB (a1.fKind == 1))::u40 (u40 (u40 (u3 [])))), [(b21_0 a0), (b21_1 a1), b21_2]⟩ ?_)
    exact J21j222 (a1.fKind == 1) _ _ _ h
   ·refine Wp.rg (Ops.sg 2 2 (Ops.dn (sqQ.m ⟨Zs2 (.v (.agg [(vI a1.fKind), (vP eI a1.fLabels), (vP ep24 a1.fSubs), (vI a1.fLeast), (vI a1.fMost)])) a2 a0.fNodes (a1.fLabels.length : Int) (w64 (a0.fNodes + 1)) v5 d3 d4 v6 a1.fLabels a1.fKind (a1.fKind == 2) ((dB (a1.fKind == 1))::(dB (a1.fKind == 2))::u40 (u40 (u40 (u2 [])))), [(b21_0 a0), (b21_1 a1), b21_2]⟩ ?_)))
    exact J21j222 (a1.fKind == 2) _ _ _ h
 refine Ops.hv (fun KQ => ∀ v1 : Bool, f21_r19 m K a0 a1 a2 (v1 || (decide (a2 > 40))) = some o → KQ 6 ⟨Zs36 (.v (.agg [(vI a1.fKind), (vP eI a1.fLabels), (vP ep24 a1.fSubs), (vI a1.fLeast), (vI a1.fMost)])) a2 a0.fNodes (w64 (a0.fNodes + 1)) v1 (u40 (u40 (u40 (u17 [])))), [(b21_0 a0), (b21_1 a1), b21_2]⟩) ?_ fun G21g2 => Ops.sx (G21g2 (decide (w64 (a0.fNodes + 1) > 200)) h)
 intro v1 h
 cases v1
 ·refine Ops.sg 3 9 ?_
  exact Ops.sx (J21j7 (dI a2) (dB (decide (a2 > 40))) false (decide (a2 > 40)) h)
 ·refine Ops.sg 3 9 ?_
  exact Ops.sx (J21j7 U U true true h)
noncomputable def K21 (m : Nat) : Nat → Rec21
 | 0 => ⟨fun _ _ _ => none⟩
 | r + 1 => ⟨fun a0 a1 a2 => b21 m (K21 m r) a0 a1 a2⟩
theorem okK21 (m : Nat) : ∀ r, OkRec21 m (K21 m r) (m + 2 + r)
 | 0 => ⟨fun _ _ _ o h => (by cases h)⟩
 | r + 1 => ⟨fun a0 a1 a2 o h n hn => okb21 m (K21 m r) (m + 2 + r) (okK21 m r) a0 a1 a2 o h n (by omega) (by omega)⟩
noncomputable def f21 (m : Nat) (a0 : S45) (a1 : S24) (a2 : Int) : Option (S27 × S45) := (K21 m m).r21 a0 a1 a2
theorem ok21 (m : Nat) (a0 : S45) (a1 : S24) (a2 : Int) (o : (S27 × S45)) (h : f21 m a0 a1 a2 = some o) (n : Nat) (hn : 2 * m + 2 ≤ n) : FnP Proofs.Tryd.prog E n 21 (c45 a0) [.v (e24 a1), .v (eI a2)] (e27 o.1) (c45 o.2) := (okK21 m m).ok21 a0 a1 a2 o h n (by omega)
noncomputable def f9 (m : Nat) (a0 : S24) : Option S27 :=
 bnd (f21 m (⟨0⟩ : S45) a0 1) fun v1 =>
 some v1.1
noncomputable abbrev X9 (n : Nat) : Cx := cxOf Proofs.Tryd.prog E 9 n
theorem ok9 (m : Nat) (a0 : S24) (o : S27) (h : f9 m a0 = some o) (n : Nat) (hn : 2 * m + 3 ≤ n) : Fn Proofs.Tryd.prog E n 9 [.v (e24 a0)] (e27 o) := by
 obtain ⟨n, rfl⟩ : ∃ q, n = q + 1 := ⟨n - 1, by omega⟩
 unfold f9 at h
 refine Fn.of (by kernel_rfl) (by kernel_rfl) (by kernel_rfl) ⟨(.v (.agg [(vI a0.fKind), (vP eI a0.fLabels), (vP ep24 a0.fSubs), (vI a0.fLeast), (vI a0.fMost)]))::u6 [], []⟩ (by kernel_rfl) (Wp.sq (Wp.rg (Ops.sg 2 2 (Ops.dn (seqQ.n (Wp.sq (Wp.rg (Ops.sg 3 3 ?_))))))))
 obtain ⟨v1, ev1, h⟩ := bnd_some h
 refine Ops.on 4 (fun h0 e0 => (call_ptr (E' := E) (h := h0) (q := 2) (cs := c45 (⟨0⟩ : S45)) (by kernel_rfl) (by kernel_rfl) (by kernel_rfl) (hq_of e0 (by kernel_rfl)) (by kernel_rfl) (Args.v (.agg [(vI a0.fKind), (vP eI a0.fLabels), (vP ep24 a0.fSubs), (vI a0.fLeast), (vI a0.fMost)]) (e24 a0) (by kernel_rfl) (Args.v (vI 1) (eI 1) (by kernel_rfl) Args.nil)) (ok21 m (⟨0⟩ : S45) a0 1 v1 ev1 n (by omega)))) ?_
 refine Ops.sg 1 5 (Ops.dn (seqQ.n (Wp.rt ?_)))
 exact fnQ.r' (X9 n) (fun z => (e27 z)) h (RetOk.mk' (.v (.agg [(vI v1.1.fCode), (vI v1.1.fIndex)])) (by kernel_rfl) (by kernel_rfl))
noncomputable def f13_r1 (m : Nat) (v2 : ((S24 × Bool) × S58)) (v13 : Bool) : Option (S24 × S27) :=
 cnd v13
 (bnd (f23 m 11 v2.2.fAt) fun v15 =>
 some (((⟨0, [], [], 0, 0⟩ : S24), v15)))
 (bnd (f9 m v2.1.1) fun v16 =>
 cnd (!((v16.fCode == 0) && ((v16.fIndex == 0) && true)))
 (some (((⟨0, [], [], 0, 0⟩ : S24), v16)))
 (some ((v2.1.1, (⟨0, 0⟩ : S27)))))
noncomputable def f13 (m : Nat) (a0 : ByteArray) : Option (S24 × S27) :=
 bnd (f27 m a0) fun v1 =>
 cnd (!((v1.2.fCode == 0) && ((v1.2.fIndex == 0) && true)))
 (some (((⟨0, [], [], 0, 0⟩ : S24), v1.2)))
 (bnd (f28 m ((⟨v1.1, 0⟩ : S58)) 1) fun v2 =>
 f13_r1 m v2 ((!v2.1.2) || (decide (v2.2.fAt < (v1.1.length : Int)))))
noncomputable abbrev X13 (n : Nat) : Cx := cxOf Proofs.Tryd.prog E 13 n
theorem ok13 (m : Nat) (a0 : ByteArray) (o : (S24 × S27)) (h : f13 m a0 = some o) (n : Nat) (hn : 2 * m + 4 ≤ n) : Fn Proofs.Tryd.prog E n 13 [.v (eS a0)] (.tuple [e24 o.1, e27 o.2]) := by
 obtain ⟨n, rfl⟩ : ∃ q, n = q + 1 := ⟨n - 1, by omega⟩
 unfold f13 at h
 refine Fn.of (by kernel_rfl) (by kernel_rfl) (by kernel_rfl) ⟨(.v (.str a0))::u40 (u13 []), []⟩ (by kernel_rfl) (Wp.sq (Wp.rg (Ops.sg 2 2 (Ops.dn (seqQ.n (Wp.sq (Wp.rg (Ops.sg 1 1 ?_))))))))
 obtain ⟨v1, ev1, h⟩ := bnd_some h
 refine Ops.on 2 (fun h0 e0 => (call_ok (E' := E) (h := h0) (by kernel_rfl) (Args.v (.str a0) (eS a0) (by kernel_rfl) Args.nil) (ok27 m a0 v1 ev1 n (by omega)))) ?_
 refine Ops.sg 6 8 (Ops.dn (seqQ.n (Wp.sq (Wp.sq (Wp.rg (Ops.sg 3 3 (Ops.dn (seqQ.n ?_))))))))
 refine Wp.cd h [2, 3, 4] 3 (fun h => ?_) (fun h => ?_)
 ·refine Wp.sq (Wp.regionF (by kernel_rfl) (Ops.sg 4 4 (Ops.dn (seqQ.n (Wp.rt (sqQ.r (seqQ.r ?_)))))))
  exact fnQ.r' (X13 n) (fun z => (.tuple [e24 z.1, e27 z.2])) h (RetOk.mk' (.v (.tuple [(.agg [(vI 0), (.sl .nil (List.map eI [])), (.sl .nil (List.map ep24 [])), (vI 0), (vI 0)]), (.agg [(vI v1.2.fCode), (vI v1.2.fIndex)])])) (by kernel_rfl) (by kernel_rfl))
 ·refine Wp.sk (sqQ.n' (seqQ.n (Wp.sq (Wp.rg (Ops.sg 4 4 (Ops.dn (seqQ.n (Wp.sq (Wp.rg (Ops.sg 1 1 ?_))))))))))
  obtain ⟨v2, ev2, h⟩ := bnd_some h
  refine Ops.on 2 (fun h0 e0 => (call_ptr (E' := E) (h := h0) (q := 3) (cs := c58 ((⟨v1.1, 0⟩ : S58))) (by kernel_rfl) (by kernel_rfl) (by kernel_rfl) (hq_of e0 (by kernel_rfl)) (by kernel_rfl) (Args.v (vI 1) (eI 1) (by kernel_rfl) Args.nil) (ok28 m ((⟨v1.1, 0⟩ : S58)) 1 v2 ev2 n (by omega)))) ?_
  refine Ops.sg 6 8 (Ops.dn (seqQ.n (Wp.sq (Wp.sq (Wp.rg (Ops.sg 3 3 ?_))))))
  refine Ops.hv (fun KQ => ∀ (d5 d6 d7 d8 d9 d10 d11 : D) (v12 v13 : Bool), f13_r1 m v2 v13 = some o → KQ 11 ⟨Zs18 a0 v1.1 v2.1.2 (.v (.tuple [(vP eI v1.1), (.agg [(vI v1.2.fCode), (vI v1.2.fIndex)])])) (.v (.agg [(vI v1.2.fCode), (vI v1.2.fIndex)])) (.v (.agg [(vI 0), (vI 0)])) (!((v1.2.fCode == 0) && ((v1.2.fIndex == 0) && true))) (.v (.agg [(vP eI v1.1), (vI 0)])) (.v (.tuple [(.agg [(vI v2.1.1.fKind), (vP eI v2.1.1.fLabels), (vP ep24 v2.1.1.fSubs), (vI v2.1.1.fLeast), (vI v2.1.1.fMost)]), (vB v2.1.2)])) (.v (.agg [(vI v2.1.1.fKind), (vP eI v2.1.1.fLabels), (vP ep24 v2.1.1.fSubs), (vI v2.1.1.fLeast), (vI v2.1.1.fMost)])) v12 (d5::d6::d7::d8::d9::d10::d11::(dB v13)::u15 []), [(.cells [(dI 0), (.v (.sl .nil (List.map eI []))), (.v (.sl .nil (List.map ep24 []))), (dI 0), (dI 0)]), (.cells [(dI 0), (dI 0)]), (.cells [(dI v1.2.fCode), (dI v1.2.fIndex)]), (.cells [(dP eI v2.2.fL), (dI v2.2.fAt)]), (.cells [(dI v2.1.1.fKind), (dP eI v2.1.1.fLabels), (dP ep24 v2.1.1.fSubs), (dI v2.1.1.fLeast), (dI v2.1.1.fMost)])]⟩) ?_ fun J13j14 => ?_
  ·intro d5 d6 d7 d8 d9 d10 d11 v12 v13 h
   unfold f13_r1 at h
   refine Ops.dn (seqQ.n ?_)
   refine Wp.cd h [2, 3, 7] 5 (fun h => ?_) (fun h => ?_)
   ·refine Wp.sq (Wp.rg (Ops.sg 5 5 ?_))
    obtain ⟨v15, ev15, h⟩ := bnd_some h
    refine Ops.on 6 (fun h0 e0 => (call_ok (E' := E) (h := h0) (by kernel_rfl) (Args.v (vI 11) (eI 11) (by kernel_rfl) (Args.v (vI v2.2.fAt) (eI v2.2.fAt) (by kernel_rfl) Args.nil)) (ok23 m 11 v2.2.fAt v15 ev15 n (by omega)))) ?_
    refine Ops.sg 2 8 (Ops.dn (seqQ.n (Wp.rt (sqQ.r (seqQ.r ?_)))))
    exact fnQ.r' (X13 n) (fun z => (.tuple [e24 z.1, e27 z.2])) h (RetOk.mk' (.v (.tuple [(.agg [(vI 0), (.sl .nil (List.map eI [])), (.sl .nil (List.map ep24 [])), (vI 0), (vI 0)]), (.agg [(vI v15.fCode), (vI v15.fIndex)])])) (by kernel_rfl) (by kernel_rfl))
   ·refine Wp.sk (sqQ.n' (seqQ.n (Wp.sq (Wp.sq (Wp.rg (Ops.sg 1 1 ?_))))))
    obtain ⟨v16, ev16, h⟩ := bnd_some h
    refine Ops.on 2 (fun h0 e0 => (call_ok (E' := E) (h := h0) (by kernel_rfl) (Args.v (.agg [(vI v2.1.1.fKind), (vP eI v2.1.1.fLabels), (vP ep24 v2.1.1.fSubs), (vI v2.1.1.fLeast), (vI v2.1.1.fMost)]) (e24 v2.1.1) (by kernel_rfl) Args.nil) (ok9 m v2.1.1 v16 ev16 n (by omega)))) ?_
    refine Ops.sg 2 4 (Ops.dn (seqQ.n (Wp.sq (Wp.rg (Ops.sg 3 3 (Ops.dn (seqQ.n ?_)))))))
    refine Wp.cd h [2, 3, 7] 6 (fun h => ?_) (fun h => ?_)
    ·refine Wp.sq (Wp.regionF (by kernel_rfl) (Ops.sg 4 4 (Ops.dn (seqQ.n (Wp.rt (sqQ.r (seqQ.r ?_)))))))
     exact fnQ.r' (X13 n) (fun z => (.tuple [e24 z.1, e27 z.2])) h (RetOk.mk' (.v (.tuple [(.agg [(vI 0), (.sl .nil (List.map eI [])), (.sl .nil (List.map ep24 [])), (vI 0), (vI 0)]), (.agg [(vI v16.fCode), (vI v16.fIndex)])])) (by kernel_rfl) (by kernel_rfl))
    ·refine Wp.sk (sqQ.n' (seqQ.n (Wp.sq (Wp.rg (Ops.sg 4 4 (Ops.dn (seqQ.n (Wp.rt ?_))))))))
     exact fnQ.r' (X13 n) (fun z => (.tuple [e24 z.1, e27 z.2])) h (RetOk.mk' (.v (.tuple [(.agg [(vI v2.1.1.fKind), (vP eI v2.1.1.fLabels), (vP ep24 v2.1.1.fSubs), (vI v2.1.1.fLeast), (vI v2.1.1.fMost)]), (.agg [(vI 0), (vI 0)])])) (by kernel_rfl) (by kernel_rfl))
  refine Ops.hv (fun KQ => ∀ v3 : Bool, f13_r1 m v2 (v3 || (decide (v2.2.fAt < (v1.1.length : Int)))) = some o → KQ 3 ⟨Zs18 a0 v1.1 v2.1.2 (.v (.tuple [(vP eI v1.1), (.agg [(vI v1.2.fCode), (vI v1.2.fIndex)])])) (.v (.agg [(vI v1.2.fCode), (vI v1.2.fIndex)])) (.v (.agg [(vI 0), (vI 0)])) (!((v1.2.fCode == 0) && ((v1.2.fIndex == 0) && true))) (.v (.agg [(vP eI v1.1), (vI 0)])) (.v (.tuple [(.agg [(vI v2.1.1.fKind), (vP eI v2.1.1.fLabels), (vP ep24 v2.1.1.fSubs), (vI v2.1.1.fLeast), (vI v2.1.1.fMost)]), (vB v2.1.2)])) (.v (.agg [(vI v2.1.1.fKind), (vP eI v2.1.1.fLabels), (vP ep24 v2.1.1.fSubs), (vI v2.1.1.fLeast), (vI v2.1.1.fMost)])) v3 (u23 []), [(.cells [(dI 0), (.v (.sl .nil (List.map eI []))), (.v (.sl .nil (List.map ep24 []))), (dI 0), (dI 0)]), (.cells [(dI 0), (dI 0)]), (.cells [(dI v1.2.fCode), (dI v1.2.fIndex)]), (.cells [(dP eI v2.2.fL), (dI v2.2.fAt)]), (.cells [(dI v2.1.1.fKind), (dP eI v2.1.1.fLabels), (dP ep24 v2.1.1.fSubs), (dI v2.1.1.fLeast), (dI v2.1.1.fMost)])]⟩) ?_ fun G13g4 => Ops.sx (G13g4 (!v2.1.2) h)
  intro v3 h
  cases v3
  ·refine Ops.sg 5 8 ?_
   refine Ops.on 9 (fun h0 e0 => (len_r (T := T) h0 22 3 .plain eI v1.1 (by kernel_rfl))) ?_
   refine Ops.sg 2 11 ?_
   exact Ops.sx (J13j14 (.ptr 3 0) (.ptr 3 0) (.ptr 3 1) (dI v2.2.fAt) (dP eI v1.1) (dI (v1.1.length : Int)) (dB (decide (v2.2.fAt < (v1.1.length : Int)))) false (decide (v2.2.fAt < (v1.1.length : Int))) h)
  ·refine Ops.sg 8 11 ?_
   exact Ops.sx (J13j14 U U U U U U U true true h)
noncomputable def f34 (m : Nat) (a0 a1 : Int) : Option S27 :=
 some ((⟨a0, a1⟩ : S27))
noncomputable abbrev X34 (n : Nat) : Cx := cxOf Proofs.Tryd.prog E 34 n
theorem ok34 (m : Nat) (a0 a1 : Int) (o : S27) (h : f34 m a0 a1 = some o) (n : Nat) (hn : m + 1 ≤ n) : Fn Proofs.Tryd.prog E n 34 [.v (eI a0), .v (eI a1)] (e27 o) := by
 obtain ⟨n, rfl⟩ : ∃ q, n = q + 1 := ⟨n - 1, by omega⟩
 unfold f34 at h
 refine Fn.of (by kernel_rfl) (by kernel_rfl) (by kernel_rfl) ⟨(dI a0)::(dI a1)::u6 [], []⟩ (by kernel_rfl) (Wp.sq (Wp.rg (Ops.sg 1 1 (Ops.dn (seqQ.n (Wp.sq (Wp.rg (Ops.sg 4 4 (Ops.dn (seqQ.n (Wp.rt ?_)))))))))))
 exact fnQ.r' (X34 n) (fun z => (e27 z)) h (RetOk.mk' (.v (.agg [(vI a0), (vI a1)])) (by kernel_rfl) (by kernel_rfl))
noncomputable def f42_r1 (m : Nat) (v17 : Bool) : Option Bool :=
 some v17
noncomputable def f42_r2 (m : Nat) (a0 : Int) (v6 : Bool) : Option Bool :=
 f42_r1 m (v6 || ((decide (a0 > 57343)) && (decide (a0 ≤ 1114111))))
noncomputable def f42 (m : Nat) (a0 : Int) : Option Bool :=
 f42_r2 m a0 ((decide (a0 ≥ 0)) && (decide (a0 < 55296)))
noncomputable abbrev X42 (n : Nat) : Cx := cxOf Proofs.Tryd.prog E 42 n
theorem ok42 (m : Nat) (a0 : Int) (o : Bool) (h : f42 m a0 = some o) (n : Nat) (hn : m + 1 ≤ n) : Fn Proofs.Tryd.prog E n 42 [.v (eI a0)] (eB o) := by
 obtain ⟨n, rfl⟩ : ∃ q, n = q + 1 := ⟨n - 1, by omega⟩
 unfold f42 at h
 refine Fn.of (by kernel_rfl) (by kernel_rfl) (by kernel_rfl) ⟨(dI a0)::u16 [], []⟩ (by kernel_rfl) (Wp.sq (Wp.rg (Ops.sg 1 1 (Ops.dn (seqQ.n (Wp.sq (Wp.rg (Ops.sg 3 3 ?_))))))))
 refine Ops.hv (fun KQ => ∀ (d3 d4 : D) (v5 v6 : Bool), f42_r2 m a0 v6 = some o → KQ 6 ⟨Zs28 a0 v5 (d3::d4::(dB v6)::u8 []), []⟩) ?_ fun J42j7 => ?_
 ·intro d3 d4 v5 v6 h
  unfold f42_r2 at h
  refine Ops.sg 1 7 ?_
  refine Ops.hv (fun KQ => ∀ (d10 d11 d12 d13 d14 d15 : D) (v16 v17 : Bool), f42_r1 m v17 = some o → KQ 14 ⟨Zs28 a0 v5 (d3::d4::(dB v16)::(dB v16)::d10::d11::d12::d13::d14::d15::(dB v17)::[]), []⟩) ?_ fun J42j18 => ?_
  ·intro d10 d11 d12 d13 d14 d15 v16 v17 h
   unfold f42_r1 at h
   refine Ops.sg 1 15 (Ops.dn (seqQ.n (Wp.rt ?_)))
   exact fnQ.r' (X42 n) (fun z => (eB z)) h (RetOk.mk' (dB v17) (by kernel_rfl) (by kernel_rfl))
  refine Ops.hv (fun KQ => ∀ v8 : Bool, f42_r1 m (v8 || ((decide (a0 > 57343)) && (decide (a0 ≤ 1114111)))) = some o → KQ 7 ⟨Zs28 a0 v5 (d3::d4::(dB v8)::(dB v8)::u7 []), []⟩) ?_ fun G42g9 => Ops.sx (G42g9 v6 h)
  intro v8 h
  cases v8
  ·refine Ops.sg 3 10 ?_
   refine Ops.hv (fun KQ => ∀ v19 : Bool, (f42_r1 m (false || (v19 && (decide (a0 ≤ 1114111))))) = some o → KQ 10 ⟨Zs28 a0 v5 (d3::d4::(dB false)::(dB false)::(dI a0)::(dB v19)::(dB v19)::u4 []), []⟩) ?_ fun G42g20 => Ops.sx (G42g20 (decide (a0 > 57343)) h)
   intro v19 h
   cases v19
   ·refine Ops.sg 4 14 ?_
    exact Ops.sx (J42j18 (dI a0) (dB false) (dB false) U U (dB false) false false h)
   ·refine Ops.sg 4 14 ?_
    exact Ops.sx (J42j18 (dI a0) (dB true) (dB true) (dI a0) (dB (decide (a0 ≤ 1114111))) (dB (decide (a0 ≤ 1114111))) false (decide (a0 ≤ 1114111)) h)
  ·refine Ops.sg 7 14 ?_
   exact Ops.sx (J42j18 U U U U U U true true h)
 refine Ops.hv (fun KQ => ∀ v1 : Bool, f42_r2 m a0 (v1 && (decide (a0 < 55296))) = some o → KQ 3 ⟨Zs28 a0 v1 (u11 []), []⟩) ?_ fun G42g2 => Ops.sx (G42g2 (decide (a0 ≥ 0)) h)
 intro v1 h
 cases v1
 ·refine Ops.sg 3 6 ?_
  exact Ops.sx (J42j7 U U false false h)
 ·refine Ops.sg 3 6 ?_
  exact Ops.sx (J42j7 (dI a0) (dB (decide (a0 < 55296))) true (decide (a0 < 55296)) h)
noncomputable def f48 (m : Nat) (a0 : Int) : Option Int :=
 cnd (decide (a0 < 128))
 (some 1)
 (cnd (decide (a0 < 2048))
 (some 2)
 (cnd (decide (a0 < 65536))
 (some 3)
 (some 4)))
noncomputable abbrev X48 (n : Nat) : Cx := cxOf Proofs.Tryd.prog E 48 n
theorem ok48 (m : Nat) (a0 o : Int) (h : f48 m a0 = some o) (n : Nat) (hn : m + 1 ≤ n) : Fn Proofs.Tryd.prog E n 48 [.v (eI a0)] (eI o) := by
 obtain ⟨n, rfl⟩ : ∃ q, n = q + 1 := ⟨n - 1, by omega⟩
 unfold f48 at h
 refine Fn.of (by kernel_rfl) (by kernel_rfl) (by kernel_rfl) ⟨(dI a0)::u8 [], []⟩ (by kernel_rfl) (Wp.sq (Wp.rg (Ops.sg 1 1 (Ops.dn (seqQ.n (Wp.sq (Wp.sq (Wp.rg (Ops.sg 2 2 (Ops.dn (seqQ.n ?_)))))))))))
 refine Wp.cd h [0, 2] 0 (fun h => ?_) (fun h => ?_)
 ·refine Wp.sq (Wp.rg (Ops.sg 1 1 (Ops.dn (seqQ.n (Wp.rt (sqQ.r (seqQ.r ?_)))))))
  exact fnQ.r' (X48 n) (fun z => (eI z)) h (RetOk.mk' (dI 1) (by kernel_rfl) (by kernel_rfl))
 ·refine Wp.sk (sqQ.n' (seqQ.n (Wp.sq (Wp.sq (Wp.rg (Ops.sg 2 2 (Ops.dn (seqQ.n ?_))))))))
  refine Wp.cd h [0, 2] 0 (fun h => ?_) (fun h => ?_)
  ·refine Wp.sq (Wp.rg (Ops.sg 1 1 (Ops.dn (seqQ.n (Wp.rt (sqQ.r (seqQ.r ?_)))))))
   exact fnQ.r' (X48 n) (fun z => (eI z)) h (RetOk.mk' (dI 2) (by kernel_rfl) (by kernel_rfl))
  ·refine Wp.sk (sqQ.n' (seqQ.n (Wp.sq (Wp.sq (Wp.rg (Ops.sg 2 2 (Ops.dn (seqQ.n ?_))))))))
   refine Wp.cd h [2] 0 (fun h => ?_) (fun h => ?_)
   ·refine Wp.sq (Wp.rg (Ops.sg 1 1 (Ops.dn (seqQ.n (Wp.rt (sqQ.r (seqQ.r ?_)))))))
    exact fnQ.r' (X48 n) (fun z => (eI z)) h (RetOk.mk' (dI 3) (by kernel_rfl) (by kernel_rfl))
   ·refine Wp.sk (sqQ.n' (seqQ.n (Wp.sq (Wp.rg (Ops.sg 1 1 (Ops.dn (seqQ.n (Wp.rt ?_))))))))
    exact fnQ.r' (X48 n) (fun z => (eI z)) h (RetOk.mk' (dI 4) (by kernel_rfl) (by kernel_rfl))
end Go.Abs
