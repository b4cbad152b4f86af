import Derived.Test.YthjhdnonlkooiaaDoorWF2
namespace Go.Abs
set_option linter.unusedVariables false
set_option maxRecDepth 100000
set_option maxHeartbeats 4000000

/-! ### 29 glosswright/glosswrightref6.EntriesOf -/
def f29_j1 (m : Nat) (v2418 : Int) (v2420 : Int) (v2430 : (List S61)) (v2432 : (List S92)) : Option (Stp ((List S61) × Bool) ((List S61) × Int × (List S92) × Int)) :=
  some (.nxt (v2430, w64 (v2418 + 1), v2432, w64 (v2420 + 1)))
def f29_r2 (m : Nat) (v2467 : Int) (v2486 : Bool) : Option (Stp ((List S61) × Bool) (Int)) :=
  cnd v2486
  (some (.nxt (w64 (v2467 + 1))))
  (some (.brk v2467))
def f29_B3 (m : Nat) (v2245 : S92) (v2416 : (List S61)) (v2434 : S90) (v2435 : ByteArray) (v2436 : ByteArray) (v2438 : (List ByteArray)) (v2467 : Int) : Option (Stp ((List S61) × Bool) (Int)) :=
  bnd (cnd (decide (v2467 < (v2416.length : Int)))
  (bnd (idx v2416 v2467) fun v2488 =>
  bnd (f59 m v2488 ((⟨v2435, v2436, v2438, w64 (v2245.fE.fWeight + v2434.fWeight)⟩ : S61))) fun v2489 =>
  some v2489)
  (some false)) fun v2486 =>
  f29_r2 m v2467 v2486
def f29_r4 (m : Nat) (v2245 : S92) (v2416 : (List S61)) (v2418 : Int) (v2419 : (List S92)) (v2420 : Int) (v2434 : S90) (v2435 : ByteArray) (v2436 : ByteArray) (v2438 : (List ByteArray)) (y2491 : Int) (v2503 : Bool) : Option (Stp ((List S61) × Bool) ((List S61) × Int × (List S92) × Int)) :=
  cnd v2503
  (f29_j1 m v2418 v2420 v2416 v2419)
  (bnd (sub v2416 0 y2491) fun v2505 =>
  bnd (app 64 [] v2505) fun v2506 =>
  bnd (app 64 v2506 ([(⟨v2435, v2436, v2438, w64 (v2245.fE.fWeight + v2434.fWeight)⟩ : S61)])) fun v2507 =>
  bnd (sub v2416 y2491 (v2416.length : Int)) fun v2508 =>
  bnd (app 64 v2507 v2508) fun v2509 =>
  f29_j1 m v2418 v2420 v2509 v2419)
def f29_B5 (m : Nat) (v2245 : S92) (v2246 : S88) (v2416 : (List S61)) (v2418 : Int) (v2419 : (List S92)) (v2420 : Int) : Option (Stp ((List S61) × Bool) ((List S61) × Int × (List S92) × Int)) :=
  cnd (decide (v2420 < (v2246.fItems.length : Int)))
  (bnd (idx v2246.fItems v2420) fun v2434 =>
  cnd (decide (w64 (v2418 + 1) > 600))
  (some (.ret (([], false))))
  (bnd (scat v2245.fE.fBase v2434.fBase) fun v2435 =>
  bnd (scat v2245.fE.fForm v2434.fForm) fun v2436 =>
  bnd (app 16 [] v2245.fE.fTags) fun v2437 =>
  bnd (app 16 v2437 v2434.fTags) fun v2438 =>
  cnd (decide (v2434.fNext ≥ 0))
  (bnd (app 72 v2419 ([(⟨v2434.fNext, (⟨v2435, v2436, v2438, w64 (v2245.fE.fWeight + v2434.fWeight)⟩ : S61)⟩ : S92)])) fun v2439 =>
  f29_j1 m v2418 v2420 v2416 v2439)
  (brk (iter (fun (y : Int) => f29_B3 m v2245 v2416 v2434 v2435 v2436 v2438 y) m 0) (fun r => some (.ret r)) fun y2491 =>
  bnd (cnd (decide (y2491 < (v2416.length : Int)))
  (bnd (idx v2416 y2491) fun v2510 =>
  bnd (f59 m ((⟨v2435, v2436, v2438, w64 (v2245.fE.fWeight + v2434.fWeight)⟩ : S61)) v2510) fun v2511 =>
  some (!v2511))
  (some false)) fun v2503 =>
  f29_r4 m v2245 v2416 v2418 v2419 v2420 v2434 v2435 v2436 v2438 y2491 v2503)))
  (some (.brk (v2416, v2418, v2419, v2420)))
def f29_B6 (m : Nat) (a0 : S51) (v1671 : (List S92)) (v2231 : (List S61)) (v2233 : Int) (v2234 : (List S92)) (v2235 : Int) : Option (Stp ((List S61) × Bool) ((List S61) × Int × (List S92) × Int)) :=
  cnd (decide (v2235 < (v1671.length : Int)))
  (bnd (idx v1671 v2235) fun v2245 =>
  bnd (idx a0.fClasses v2245.fClass) fun v2246 =>
  brk (iter (fun (y : (List S61) × Int × (List S92) × Int) => f29_B5 m v2245 v2246 y.1 y.2.1 y.2.2.1 y.2.2.2) m (v2231, v2233, v2234, 0)) (fun r => some (.ret r)) fun y2513 =>
  some (.nxt (y2513.1, y2513.2.1, y2513.2.2.1, w64 (v2235 + 1))))
  (some (.brk (v2231, v2233, v2234, v2235)))
def f29_B7 (m : Nat) (a0 : S51) (a1 : Int) (v1671 : (List S92)) (v1673 : (List S61)) (v1675 : Int) (v1676 : Int) : Option (Stp ((List S61) × Bool) ((List S92) × (List S61) × Int × Int)) :=
  cnd (decide (v1676 < a1))
  (brk (iter (fun (y : (List S61) × Int × (List S92) × Int) => f29_B6 m a0 v1671 y.1 y.2.1 y.2.2.1 y.2.2.2) m (v1673, v1675, [], 0)) (fun r => some (.ret r)) fun y2516 =>
  some (.nxt (y2516.2.2.1, y2516.1, y2516.2.1, w64 (v1676 + 1))))
  (some (.brk (v1671, v1673, v1675, v1676)))
def f29 (m : Nat) (a0 : S51) (a1 : Int) : Option ((List S61) × Bool) :=
  brk (iter (fun (y : (List S92) × (List S61) × Int × Int) => f29_B7 m a0 a1 y.1 y.2.1 y.2.2.1 y.2.2.2) m ([(⟨0, (⟨ByteArray.empty, ByteArray.empty, [], 0⟩ : S61)⟩ : S92)], [], 0, 0)) some fun y2519 =>
  some ((y2519.2.1, true))
noncomputable abbrev X29 (n : Nat) : Cx := cxOf Proofs.Tryd.prog EG 29 n
noncomputable def C29 : Code := bodyOf Proofs.Tryd.prog 29
theorem f29_hLx2490 (m : Nat) (a0 : S51) (a1 : Int) (o : ((List S61) × Bool)) (n : Nat) (hn : m + 3 ≤ n + 1) (v2245 : S92) (v2416 : (List S61)) (v2434 : S90) (v2435 : ByteArray) (v2436 : ByteArray) (v2438 : (List ByteArray)) (nx2423 : Nat) (nx2238 : Nat) (nx1679 : Nat) (ag2417 : AG) (v2418 : Int) (v2419 : (List S92)) (v1676 : Int) (ar1672 : AR) (v1671 : (List S92)) (v2235 : Int) (v2246 : S88) (v2420 : Int) : ∀ (kx2469 : Nat) (v2467 : Int)  (ox2468 : ((List S61) × Bool) ⊕ (Int)), iter (fun (y : Int) => f29_B3 m v2245 v2416 v2434 v2435 v2436 v2438 y) kx2469 v2467 = some ox2468 → ∀ nx2470, kx2469 ≤ nx2470 → (∀ r, ox2468 = .inl r → ∀ σ, RetOk (X29 n) (resOf Proofs.Tryd.prog 29) (.tuple [(eL e61) r.1, eB r.2]) σ → (seqQ (X29 n) (cR (cR (cR (cR (cR (cR (cR (cL (cL (cR (cR (cL (cL (cR (cR (cL (cL (cR (cR (cL (cL (cR (cL (cR (cL (cL (cR (cR (cL (cL (cR (cL (cR (cR (cR (cR C29)))))))))))))))))))))))))))))))))))) (blkQ (X29 n) 5 [2, 4, 5, 7, 8, 9, 11, 18, 19, 21, 22, 23, 33, 34, 35] 32 (seqQ (X29 n) (cR (cR (cR (cL (cL (cR (cR (cL (cL (cR (cR (cL (cL (cR (cL (cR (cL (cL (cR (cR (cL (cL (cR (cL (cR (cR (cR (cR C29)))))))))))))))))))))))))))) (lpQ (X29 n) [2, 4, 5, 7, 8, 9, 11, 18, 19, 21, 22, 23, 33, 34, 35] 22 (cL (cL (cR (cR (cL (cL (cR (cR (cL (cL (cR (cL (cR (cL (cL (cR (cR (cL (cL (cR (cL (cR (cR (cR (cR C29))))))))))))))))))))))))) nx2423 (blkQ (X29 n) 4 [2, 4, 5, 7, 8, 9, 18, 19, 21, 22, 23] 22 (blkQ (X29 n) 3 [2, 4, 5, 7, 8, 9, 18, 19, 21, 22, 23] 21 (seqQ (X29 n) (cR (cR (cR (cL (cL (cR (cL (cR (cL (cL (cR (cR (cL (cL (cR (cL (cR (cR (cR (cR C29)))))))))))))))))))) (lpQ (X29 n) [2, 4, 5, 7, 8, 9, 18, 19, 21, 22, 23] 11 (cL (cL (cR (cL (cR (cL (cL (cR (cR (cL (cL (cR (cL (cR (cR (cR (cR C29))))))))))))))))) nx2238 (blkQ (X29 n) 2 [2, 4, 5, 7, 8, 9, 18, 19] 11 (seqQ (X29 n) (cR (cR (cL (cL (cR (cR (cL (cL (cR (cL (cR (cR (cR (cR C29)))))))))))))) (blkQ (X29 n) 1 [2, 4, 5, 6, 7, 8, 18, 19] 11 (seqQ (X29 n) (cR (cR (cR (cL (cL (cR (cL (cR (cR (cR (cR C29))))))))))) (lpQ (X29 n) [2, 4, 5, 6, 7, 8, 18, 19] 1 (cL (cL (cR (cL (cR (cR (cR (cR C29)))))))) nx1679 (blkQ (X29 n) 0 [4, 5, 7] 1 (seqQ (X29 n) (cR (cR (cR (cR (cR C29))))) (fnQ (X29 n).E.T (resOf Proofs.Tryd.prog 29) (.tuple [(eL e61) o.1, eB o.2]))))))))))))))))) .ret σ) → (∀ (y : Int) , ox2468 = .inr y → (seqQ (X29 n) (cR (cR (cR (cR (cR (cR (cR (cL (cL (cR (cR (cL (cL (cR (cR (cL (cL (cR (cR (cL (cL (cR (cL (cR (cL (cL (cR (cR (cL (cL (cR (cL (cR (cR (cR (cR C29)))))))))))))))))))))))))))))))))))) (blkQ (X29 n) 5 [2, 4, 5, 7, 8, 9, 11, 18, 19, 21, 22, 23, 33, 34, 35] 32 (seqQ (X29 n) (cR (cR (cR (cL (cL (cR (cR (cL (cL (cR (cR (cL (cL (cR (cL (cR (cL (cL (cR (cR (cL (cL (cR (cL (cR (cR (cR (cR C29)))))))))))))))))))))))))))) (lpQ (X29 n) [2, 4, 5, 7, 8, 9, 11, 18, 19, 21, 22, 23, 33, 34, 35] 22 (cL (cL (cR (cR (cL (cL (cR (cR (cL (cL (cR (cL (cR (cL (cL (cR (cR (cL (cL (cR (cL (cR (cR (cR (cR C29))))))))))))))))))))))))) nx2423 (blkQ (X29 n) 4 [2, 4, 5, 7, 8, 9, 18, 19, 21, 22, 23] 22 (blkQ (X29 n) 3 [2, 4, 5, 7, 8, 9, 18, 19, 21, 22, 23] 21 (seqQ (X29 n) (cR (cR (cR (cL (cL (cR (cL (cR (cL (cL (cR (cR (cL (cL (cR (cL (cR (cR (cR (cR C29)))))))))))))))))))) (lpQ (X29 n) [2, 4, 5, 7, 8, 9, 18, 19, 21, 22, 23] 11 (cL (cL (cR (cL (cR (cL (cL (cR (cR (cL (cL (cR (cL (cR (cR (cR (cR C29))))))))))))))))) nx2238 (blkQ (X29 n) 2 [2, 4, 5, 7, 8, 9, 18, 19] 11 (seqQ (X29 n) (cR (cR (cL (cL (cR (cR (cL (cL (cR (cL (cR (cR (cR (cR C29)))))))))))))) (blkQ (X29 n) 1 [2, 4, 5, 6, 7, 8, 18, 19] 11 (seqQ (X29 n) (cR (cR (cR (cL (cL (cR (cL (cR (cR (cR (cR C29))))))))))) (lpQ (X29 n) [2, 4, 5, 6, 7, 8, 18, 19] 1 (cL (cL (cR (cL (cR (cR (cR (cR C29)))))))) nx1679 (blkQ (X29 n) 0 [4, 5, 7] 1 (seqQ (X29 n) (cR (cR (cR (cR (cR C29))))) (fnQ (X29 n).E.T (resOf Proofs.Tryd.prog 29) (.tuple [(eL e61) o.1, eB o.2]))))))))))))))))) .normal ⟨q2 ((.ptr 0 0) :: q1 ((appD 46 (List.map e61 [])) :: (dB false) :: q1 ((AG.d ag2417 48 (List.map e61 v2416)) :: (dI (w64 (v2418 + 1))) :: (appD 49 (List.map e92 v2419)) :: q1 ((.ptr 21 0) :: q2 ((.ptr 38 0) :: (dI y) :: q2 ((dI a1) :: (dI v1676) :: q1 ((AR.d ar1672 50 (List.map e92 v1671)) :: (dI (v1671.length : Int)) :: (dI v2235) :: q9 ((dP e90 v2246.fItems) :: (dI (v2246.fItems.length : Int)) :: (dI v2420) :: q40 (q40 (q9 [])))))))))), [(.cells [(dP e88 a0.fClasses)]), .dead, .dead, .dead, .dead, .dead, .dead, .dead, .dead, .dead, .dead, .dead, .dead, .dead, .dead, .dead, .dead, .dead, .dead, .dead, .dead, (.cells [(dI v2245.fClass), (.v (.str v2245.fE.fBase)), (.v (.str v2245.fE.fForm)), (dP eS v2245.fE.fTags), (dI v2245.fE.fWeight)]), .dead, .dead, .dead, .dead, .dead, .dead, .dead, .dead, .dead, .dead, (.cells [(.v (.str v2434.fBase)), (.v (.str v2434.fForm)), (dP eS v2434.fTags), (dI v2434.fNext), (dI v2434.fWeight)]), .dead, .dead, .dead, .dead, .dead, (.cells [(.v (.str v2435)), (.v (.str v2436)), (dP eS v2438), (dI (w64 (v2245.fE.fWeight + v2434.fWeight)))]), .dead, (appO 1 (List.map eS v2438)), .dead, .dead, .dead, .dead, .dead, .dead, .dead, (AG.o ag2417 4 (List.map e61 v2416)), (appO 5 (List.map e92 v2419)), (AR.o ar1672 5 (List.map e92 v1671))]⟩) → Lp (X29 n) [2, 4, 5, 7, 8, 9, 11, 14, 15, 18, 19, 21, 22, 23, 33, 34, 35] 46 (cL (cL (cL (cR (cR (cR (cR (cR (cR (cL (cL (cR (cR (cL (cL (cR (cR (cL (cL (cR (cR (cL (cL (cR (cL (cR (cL (cL (cR (cR (cL (cL (cR (cL (cR (cR (cR (cR C29)))))))))))))))))))))))))))))))))))))) nx2470 ⟨q2 ((.ptr 0 0) :: q1 ((appD 46 (List.map e61 [])) :: (dB false) :: q1 ((AG.d ag2417 48 (List.map e61 v2416)) :: (dI (w64 (v2418 + 1))) :: (appD 49 (List.map e92 v2419)) :: q1 ((.ptr 21 0) :: q2 ((.ptr 38 0) :: (dI v2467) :: q2 ((dI a1) :: (dI v1676) :: q1 ((AR.d ar1672 50 (List.map e92 v1671)) :: (dI (v1671.length : Int)) :: (dI v2235) :: q9 ((dP e90 v2246.fItems) :: (dI (v2246.fItems.length : Int)) :: (dI v2420) :: q40 (q40 (q9 [])))))))))), [(.cells [(dP e88 a0.fClasses)]), .dead, .dead, .dead, .dead, .dead, .dead, .dead, .dead, .dead, .dead, .dead, .dead, .dead, .dead, .dead, .dead, .dead, .dead, .dead, .dead, (.cells [(dI v2245.fClass), (.v (.str v2245.fE.fBase)), (.v (.str v2245.fE.fForm)), (dP eS v2245.fE.fTags), (dI v2245.fE.fWeight)]), .dead, .dead, .dead, .dead, .dead, .dead, .dead, .dead, .dead, .dead, (.cells [(.v (.str v2434.fBase)), (.v (.str v2434.fForm)), (dP eS v2434.fTags), (dI v2434.fNext), (dI v2434.fWeight)]), .dead, .dead, .dead, .dead, .dead, (.cells [(.v (.str v2435)), (.v (.str v2436)), (dP eS v2438), (dI (w64 (v2245.fE.fWeight + v2434.fWeight)))]), .dead, (appO 1 (List.map eS v2438)), .dead, .dead, .dead, .dead, .dead, .dead, .dead, (AG.o ag2417 4 (List.map e61 v2416)), (appO 5 (List.map e92 v2419)), (AR.o ar1672 5 (List.map e92 v1671))]⟩ (blkQ (X29 n) 6 [2, 4, 5, 7, 8, 9, 11, 14, 15, 18, 19, 21, 22, 23, 33, 34, 35] 46 (seqQ (X29 n) (cR (cR (cR (cR (cR (cR (cR (cL (cL (cR (cR (cL (cL (cR (cR (cL (cL (cR (cR (cL (cL (cR (cL (cR (cL (cL (cR (cR (cL (cL (cR (cL (cR (cR (cR (cR C29)))))))))))))))))))))))))))))))))))) (blkQ (X29 n) 5 [2, 4, 5, 7, 8, 9, 11, 18, 19, 21, 22, 23, 33, 34, 35] 32 (seqQ (X29 n) (cR (cR (cR (cL (cL (cR (cR (cL (cL (cR (cR (cL (cL (cR (cL (cR (cL (cL (cR (cR (cL (cL (cR (cL (cR (cR (cR (cR C29)))))))))))))))))))))))))))) (lpQ (X29 n) [2, 4, 5, 7, 8, 9, 11, 18, 19, 21, 22, 23, 33, 34, 35] 22 (cL (cL (cR (cR (cL (cL (cR (cR (cL (cL (cR (cL (cR (cL (cL (cR (cR (cL (cL (cR (cL (cR (cR (cR (cR C29))))))))))))))))))))))))) nx2423 (blkQ (X29 n) 4 [2, 4, 5, 7, 8, 9, 18, 19, 21, 22, 23] 22 (blkQ (X29 n) 3 [2, 4, 5, 7, 8, 9, 18, 19, 21, 22, 23] 21 (seqQ (X29 n) (cR (cR (cR (cL (cL (cR (cL (cR (cL (cL (cR (cR (cL (cL (cR (cL (cR (cR (cR (cR C29)))))))))))))))))))) (lpQ (X29 n) [2, 4, 5, 7, 8, 9, 18, 19, 21, 22, 23] 11 (cL (cL (cR (cL (cR (cL (cL (cR (cR (cL (cL (cR (cL (cR (cR (cR (cR C29))))))))))))))))) nx2238 (blkQ (X29 n) 2 [2, 4, 5, 7, 8, 9, 18, 19] 11 (seqQ (X29 n) (cR (cR (cL (cL (cR (cR (cL (cL (cR (cL (cR (cR (cR (cR C29)))))))))))))) (blkQ (X29 n) 1 [2, 4, 5, 6, 7, 8, 18, 19] 11 (seqQ (X29 n) (cR (cR (cR (cL (cL (cR (cL (cR (cR (cR (cR C29))))))))))) (lpQ (X29 n) [2, 4, 5, 6, 7, 8, 18, 19] 1 (cL (cL (cR (cL (cR (cR (cR (cR C29)))))))) nx1679 (blkQ (X29 n) 0 [4, 5, 7] 1 (seqQ (X29 n) (cR (cR (cR (cR (cR C29))))) (fnQ (X29 n).E.T (resOf Proofs.Tryd.prog 29) (.tuple [(eL e61) o.1, eB o.2])))))))))))))))))) := by
  intro kx2469
  induction kx2469 with
  | zero => intro v2467  ox2468 h; exact (iter_zero h).elim
  | succ kx2469 ihx2471 =>
    intro v2467  ox2468 h nx2470 hnx2474 hrx2472 hxx2473
    obtain ⟨nx2470, rfl⟩ : ∃ q, nx2470 = q + 1 := ⟨nx2470 - 1, by omega⟩
    obtain ⟨sx2475, h, hsx2476⟩ := iter_some h
    have h : f29_B3 m v2245 v2416 v2434 v2435 v2436 v2438 v2467 = some sx2475 := h
    unfold f29_B3 at h
    refine Lp.succ ?_
    refine Wp.seq' (by kernel_rfl) ?_
    refine Wp.seq' (by kernel_rfl) ?_
    refine Wp.region (by kernel_rfl) ?_
    refine Ops.seg' 2 2 (by kernel_rfl) ?_
    refine Ops.one' 3 (fun h0 e0 => (len_g (T := T) h0 53 62 48 ag2417 e61 v2416 (by kernel_rfl))) (by kernel_rfl) (by kernel_rfl) ?_
    refine Ops.seg' 2 5 (by kernel_rfl) ?_
    refine Ops.hv (fun K => ∀ (d2479 d2480 d2481 d2482 d2483 d2484 : D) (v2485 : Bool) (v2486 : Bool), f29_r2 m v2467 v2486 = some sx2475 → K 12 ⟨q2 ((.ptr 0 0) :: q1 ((appD 46 (List.map e61 [])) :: (dB false) :: q1 ((AG.d ag2417 48 (List.map e61 v2416)) :: (dI (w64 (v2418 + 1))) :: (appD 49 (List.map e92 v2419)) :: q1 ((.ptr 21 0) :: q2 ((.ptr 38 0) :: (dI v2467) :: q2 ((dI a1) :: (dI v1676) :: q1 ((AR.d ar1672 50 (List.map e92 v1671)) :: (dI (v1671.length : Int)) :: (dI v2235) :: q9 ((dP e90 v2246.fItems) :: (dI (v2246.fItems.length : Int)) :: (dI v2420) :: q40 (q5 ((dI v2467) :: (AG.d ag2417 48 (List.map e61 v2416)) :: (dI (v2416.length : Int)) :: (dB v2485) :: (dB v2485) :: d2479 :: d2480 :: d2481 :: d2482 :: d2483 :: d2484 :: (dB v2486) :: q32 [])))))))))), [(.cells [(dP e88 a0.fClasses)]), .dead, .dead, .dead, .dead, .dead, .dead, .dead, .dead, .dead, .dead, .dead, .dead, .dead, .dead, .dead, .dead, .dead, .dead, .dead, .dead, (.cells [(dI v2245.fClass), (.v (.str v2245.fE.fBase)), (.v (.str v2245.fE.fForm)), (dP eS v2245.fE.fTags), (dI v2245.fE.fWeight)]), .dead, .dead, .dead, .dead, .dead, .dead, .dead, .dead, .dead, .dead, (.cells [(.v (.str v2434.fBase)), (.v (.str v2434.fForm)), (dP eS v2434.fTags), (dI v2434.fNext), (dI v2434.fWeight)]), .dead, .dead, .dead, .dead, .dead, (.cells [(.v (.str v2435)), (.v (.str v2436)), (dP eS v2438), (dI (w64 (v2245.fE.fWeight + v2434.fWeight)))]), .dead, (appO 1 (List.map eS v2438)), .dead, .dead, .dead, .dead, .dead, .dead, .dead, (AG.o ag2417 4 (List.map e61 v2416)), (appO 5 (List.map e92 v2419)), (AR.o ar1672 5 (List.map e92 v1671))]⟩) ?_ fun J29j2487 => ?_
    · intro d2479 d2480 d2481 d2482 d2483 d2484 v2485 v2486 h
      unfold f29_r2 at h
      refine Ops.done (by kernel_rfl) ?_
      refine seqQ.n ?_
      refine Wp.cnd h [2, 4, 5, 7, 8, 9, 11, 14, 15, 18, 19, 21, 22, 23, 33, 34, 35] 51 (by kernel_rfl) (fun h => ?_) (fun h => ?_)
      · refine Wp.skip (by kernel_rfl) ?_
        refine sqQ.n ⟨q2 ((.ptr 0 0) :: q1 ((appD 51 (List.map e61 [])) :: (dB false) :: q1 ((AG.d ag2417 53 (List.map e61 v2416)) :: (dI (w64 (v2418 + 1))) :: (appD 54 (List.map e92 v2419)) :: q1 ((.ptr 21 0) :: q2 ((.ptr 38 0) :: (dI v2467) :: q2 ((dI a1) :: (dI v1676) :: q1 ((AR.d ar1672 55 (List.map e92 v1671)) :: (dI (v1671.length : Int)) :: (dI v2235) :: q9 ((dP e90 v2246.fItems) :: (dI (v2246.fItems.length : Int)) :: (dI v2420) :: q40 (q40 (q9 [])))))))))), [(.cells [(dP e88 a0.fClasses)]), .dead, .dead, .dead, .dead, .dead, .dead, .dead, .dead, .dead, .dead, .dead, .dead, .dead, .dead, .dead, .dead, .dead, .dead, .dead, .dead, (.cells [(dI v2245.fClass), (.v (.str v2245.fE.fBase)), (.v (.str v2245.fE.fForm)), (dP eS v2245.fE.fTags), (dI v2245.fE.fWeight)]), .dead, .dead, .dead, .dead, .dead, .dead, .dead, .dead, .dead, .dead, (.cells [(.v (.str v2434.fBase)), (.v (.str v2434.fForm)), (dP eS v2434.fTags), (dI v2434.fNext), (dI v2434.fWeight)]), .dead, .dead, .dead, .dead, .dead, (.cells [(.v (.str v2435)), (.v (.str v2436)), (dP eS v2438), (dI (w64 (v2245.fE.fWeight + v2434.fWeight)))]), .dead, (appO 1 (List.map eS v2438)), .dead, .dead, .dead, .dead, .dead, .dead, .dead, .dead, .dead, .dead, .dead, .dead, (AG.o ag2417 4 (List.map e61 v2416)), (appO 5 (List.map e92 v2419)), (AR.o ar1672 5 (List.map e92 v1671))]⟩ (by generalize v2419 = z0; generalize v2438 = z1; cases ag2417 <;> rcases ar1672 with (_ | _) | _ <;> cases z0 <;> cases z1 <;> (as_aux_lemma => kernel_rfl)) ?_
        refine seqQ.n ?_
        refine Wp.block' 7 [2, 4, 5, 7, 8, 9, 11, 14, 15, 18, 19, 21, 22, 23, 33, 34, 35] 56 (by kernel_rfl) ?_
        refine Wp.region (by kernel_rfl) ?_
        refine Ops.seg' 3 3 (by kernel_rfl) ?_
        refine Ops.done (by kernel_rfl) ?_
        refine blkQ.n ⟨q2 ((.ptr 0 0) :: q1 ((appD 56 (List.map e61 [])) :: (dB false) :: q1 ((AG.d ag2417 58 (List.map e61 v2416)) :: (dI (w64 (v2418 + 1))) :: (appD 59 (List.map e92 v2419)) :: q1 ((.ptr 21 0) :: q2 ((.ptr 38 0) :: (dI (w64 (v2467 + 1))) :: q2 ((dI a1) :: (dI v1676) :: q1 ((AR.d ar1672 60 (List.map e92 v1671)) :: (dI (v1671.length : Int)) :: (dI v2235) :: q9 ((dP e90 v2246.fItems) :: (dI (v2246.fItems.length : Int)) :: (dI v2420) :: q40 (q40 (q9 [])))))))))), [(.cells [(dP e88 a0.fClasses)]), .dead, .dead, .dead, .dead, .dead, .dead, .dead, .dead, .dead, .dead, .dead, .dead, .dead, .dead, .dead, .dead, .dead, .dead, .dead, .dead, (.cells [(dI v2245.fClass), (.v (.str v2245.fE.fBase)), (.v (.str v2245.fE.fForm)), (dP eS v2245.fE.fTags), (dI v2245.fE.fWeight)]), .dead, .dead, .dead, .dead, .dead, .dead, .dead, .dead, .dead, .dead, (.cells [(.v (.str v2434.fBase)), (.v (.str v2434.fForm)), (dP eS v2434.fTags), (dI v2434.fNext), (dI v2434.fWeight)]), .dead, .dead, .dead, .dead, .dead, (.cells [(.v (.str v2435)), (.v (.str v2436)), (dP eS v2438), (dI (w64 (v2245.fE.fWeight + v2434.fWeight)))]), .dead, (appO 1 (List.map eS v2438)), .dead, .dead, .dead, .dead, .dead, .dead, .dead, .dead, .dead, .dead, .dead, .dead, .dead, .dead, .dead, .dead, .dead, (AG.o ag2417 4 (List.map e61 v2416)), (appO 5 (List.map e92 v2419)), (AR.o ar1672 5 (List.map e92 v1671))]⟩ (by generalize v2419 = z0; generalize v2438 = z1; cases ag2417 <;> rcases ar1672 with (_ | _) | _ <;> cases z0 <;> cases z1 <;> (as_aux_lemma => kernel_rfl)) ?_
        refine lpQ.n ⟨q2 ((.ptr 0 0) :: q1 ((appD 46 (List.map e61 [])) :: (dB false) :: q1 ((AG.d ag2417 48 (List.map e61 v2416)) :: (dI (w64 (v2418 + 1))) :: (appD 49 (List.map e92 v2419)) :: q1 ((.ptr 21 0) :: q2 ((.ptr 38 0) :: (dI (w64 (v2467 + 1))) :: q2 ((dI a1) :: (dI v1676) :: q1 ((AR.d ar1672 50 (List.map e92 v1671)) :: (dI (v1671.length : Int)) :: (dI v2235) :: q9 ((dP e90 v2246.fItems) :: (dI (v2246.fItems.length : Int)) :: (dI v2420) :: q40 (q40 (q9 [])))))))))), [(.cells [(dP e88 a0.fClasses)]), .dead, .dead, .dead, .dead, .dead, .dead, .dead, .dead, .dead, .dead, .dead, .dead, .dead, .dead, .dead, .dead, .dead, .dead, .dead, .dead, (.cells [(dI v2245.fClass), (.v (.str v2245.fE.fBase)), (.v (.str v2245.fE.fForm)), (dP eS v2245.fE.fTags), (dI v2245.fE.fWeight)]), .dead, .dead, .dead, .dead, .dead, .dead, .dead, .dead, .dead, .dead, (.cells [(.v (.str v2434.fBase)), (.v (.str v2434.fForm)), (dP eS v2434.fTags), (dI v2434.fNext), (dI v2434.fWeight)]), .dead, .dead, .dead, .dead, .dead, (.cells [(.v (.str v2435)), (.v (.str v2436)), (dP eS v2438), (dI (w64 (v2245.fE.fWeight + v2434.fWeight)))]), .dead, (appO 1 (List.map eS v2438)), .dead, .dead, .dead, .dead, .dead, .dead, .dead, (AG.o ag2417 4 (List.map e61 v2416)), (appO 5 (List.map e92 v2419)), (AR.o ar1672 5 (List.map e92 v1671))]⟩ (by generalize v2419 = z0; generalize v2438 = z1; cases ag2417 <;> rcases ar1672 with (_ | _) | _ <;> cases z0 <;> cases z1 <;> (as_aux_lemma => kernel_rfl)) ?_
        cases h
        exact ihx2471 (w64 (v2467 + 1))  _ hsx2476 _ (by omega) hrx2472 hxx2473
      · refine Wp.exit (id := 6) (by kernel_rfl) ?_
        refine sqQ.x ?_
        refine seqQ.x ?_
        cases h
        refine lpQ.x ?_
        refine blkQ.x ⟨q2 ((.ptr 0 0) :: q1 ((appD 46 (List.map e61 [])) :: (dB false) :: q1 ((AG.d ag2417 48 (List.map e61 v2416)) :: (dI (w64 (v2418 + 1))) :: (appD 49 (List.map e92 v2419)) :: q1 ((.ptr 21 0) :: q2 ((.ptr 38 0) :: (dI v2467) :: q2 ((dI a1) :: (dI v1676) :: q1 ((AR.d ar1672 50 (List.map e92 v1671)) :: (dI (v1671.length : Int)) :: (dI v2235) :: q9 ((dP e90 v2246.fItems) :: (dI (v2246.fItems.length : Int)) :: (dI v2420) :: q40 (q40 (q9 [])))))))))), [(.cells [(dP e88 a0.fClasses)]), .dead, .dead, .dead, .dead, .dead, .dead, .dead, .dead, .dead, .dead, .dead, .dead, .dead, .dead, .dead, .dead, .dead, .dead, .dead, .dead, (.cells [(dI v2245.fClass), (.v (.str v2245.fE.fBase)), (.v (.str v2245.fE.fForm)), (dP eS v2245.fE.fTags), (dI v2245.fE.fWeight)]), .dead, .dead, .dead, .dead, .dead, .dead, .dead, .dead, .dead, .dead, (.cells [(.v (.str v2434.fBase)), (.v (.str v2434.fForm)), (dP eS v2434.fTags), (dI v2434.fNext), (dI v2434.fWeight)]), .dead, .dead, .dead, .dead, .dead, (.cells [(.v (.str v2435)), (.v (.str v2436)), (dP eS v2438), (dI (w64 (v2245.fE.fWeight + v2434.fWeight)))]), .dead, (appO 1 (List.map eS v2438)), .dead, .dead, .dead, .dead, .dead, .dead, .dead, (AG.o ag2417 4 (List.map e61 v2416)), (appO 5 (List.map e92 v2419)), (AR.o ar1672 5 (List.map e92 v1671))]⟩ (by generalize v2419 = z0; generalize v2438 = z1; cases ag2417 <;> rcases ar1672 with (_ | _) | _ <;> cases z0 <;> cases z1 <;> (as_aux_lemma => kernel_rfl)) ?_
        exact hxx2473 v2467  hsx2476
    obtain ⟨v2486, ev2486, h⟩ := bnd_some h
    refine Ops.hv (fun K => ∀ v2477 : Bool, (cnd v2477 (bnd (idx v2416 v2467) fun v2488 => bnd (f59 m v2488 ((⟨v2435, v2436, v2438, w64 (v2245.fE.fWeight + v2434.fWeight)⟩ : S61))) fun v2489 => some v2489) (some false)) = some v2486 → K 5 ⟨q2 ((.ptr 0 0) :: q1 ((appD 46 (List.map e61 [])) :: (dB false) :: q1 ((AG.d ag2417 48 (List.map e61 v2416)) :: (dI (w64 (v2418 + 1))) :: (appD 49 (List.map e92 v2419)) :: q1 ((.ptr 21 0) :: q2 ((.ptr 38 0) :: (dI v2467) :: q2 ((dI a1) :: (dI v1676) :: q1 ((AR.d ar1672 50 (List.map e92 v1671)) :: (dI (v1671.length : Int)) :: (dI v2235) :: q9 ((dP e90 v2246.fItems) :: (dI (v2246.fItems.length : Int)) :: (dI v2420) :: q40 (q5 ((dI v2467) :: (AG.d ag2417 48 (List.map e61 v2416)) :: (dI (v2416.length : Int)) :: (dB v2477) :: (dB v2477) :: q39 [])))))))))), [(.cells [(dP e88 a0.fClasses)]), .dead, .dead, .dead, .dead, .dead, .dead, .dead, .dead, .dead, .dead, .dead, .dead, .dead, .dead, .dead, .dead, .dead, .dead, .dead, .dead, (.cells [(dI v2245.fClass), (.v (.str v2245.fE.fBase)), (.v (.str v2245.fE.fForm)), (dP eS v2245.fE.fTags), (dI v2245.fE.fWeight)]), .dead, .dead, .dead, .dead, .dead, .dead, .dead, .dead, .dead, .dead, (.cells [(.v (.str v2434.fBase)), (.v (.str v2434.fForm)), (dP eS v2434.fTags), (dI v2434.fNext), (dI v2434.fWeight)]), .dead, .dead, .dead, .dead, .dead, (.cells [(.v (.str v2435)), (.v (.str v2436)), (dP eS v2438), (dI (w64 (v2245.fE.fWeight + v2434.fWeight)))]), .dead, (appO 1 (List.map eS v2438)), .dead, .dead, .dead, .dead, .dead, .dead, .dead, (AG.o ag2417 4 (List.map e61 v2416)), (appO 5 (List.map e92 v2419)), (AR.o ar1672 5 (List.map e92 v1671))]⟩) ?_ fun G29g2478 => Ops.st _ (by kernel_rfl) (G29g2478 (decide (v2467 < (v2416.length : Int))) ev2486)
    intro v2477 ev2486
    cases v2477
    · have ev2486 := cnd_f ev2486
      refine Ops.seg' 7 12 (by kernel_rfl) ?_
      exact Ops.st _ (by kernel_rfl) (J29j2487 U U U U U U false false (some_sub (fun v2486 => f29_r2 m v2467 v2486 = some sx2475) ev2486 h))
    · have ev2486 := cnd_t ev2486
      refine Ops.seg' 2 7 (by kernel_rfl) ?_
      obtain ⟨v2488, ev2488, ev2486⟩ := bnd_some ev2486
      refine Ops.one' 8 (fun h0 e0 => (ix_g (T := T) h0 53 62 4 48 ag2417 e61 v2416 v2467 v2488 ev2488 (by kernel_rfl) (by kernel_rfl) (fun _ => rfl))) (by kernel_rfl) (by kernel_rfl) ?_
      refine Ops.seg' 2 10 (by kernel_rfl) ?_
      obtain ⟨v2489, ev2489, ev2486⟩ := bnd_some ev2486
      refine Ops.one' 11 (fun h0 e0 => (call_ok (E' := EG) (h := h0) (by kernel_rfl) (Args.v (.agg [(.str v2488.fBase), (.str v2488.fForm), (vP eS v2488.fTags), (vI v2488.fWeight)]) (e61 v2488) (by kernel_rfl) (Args.v (.agg [(.str v2435), (.str v2436), (vP eS v2438), (vI (w64 (v2245.fE.fWeight + v2434.fWeight)))]) (e61 ((⟨v2435, v2436, v2438, w64 (v2245.fE.fWeight + v2434.fWeight)⟩ : S61))) (by kernel_rfl) Args.nil)) (ok59 m v2488 ((⟨v2435, v2436, v2438, w64 (v2245.fE.fWeight + v2434.fWeight)⟩ : S61)) v2489 ev2489 n (by omega)))) (by kernel_rfl) (by kernel_rfl) ?_
      refine Ops.seg' 1 12 (by kernel_rfl) ?_
      exact Ops.st _ (by kernel_rfl) (J29j2487 (AG.d ag2417 48 (List.map e61 v2416)) (dI v2467) ((.vptr [(.str v2488.fBase), (.str v2488.fForm), (vP eS v2488.fTags), (vI v2488.fWeight)])) ((.v (.agg [(.str v2488.fBase), (.str v2488.fForm), (vP eS v2488.fTags), (vI v2488.fWeight)]))) ((.v (.agg [(.str v2435), (.str v2436), (vP eS v2438), (vI (w64 (v2245.fE.fWeight + v2434.fWeight)))]))) (dB v2489) true v2489 (some_sub (fun v2486 => f29_r2 m v2467 v2486 = some sx2475) ev2486 h))
theorem f29_hLx2512 (m : Nat) (a0 : S51) (a1 : Int) (o : ((List S61) × Bool)) (n : Nat) (hn : m + 3 ≤ n + 1) (v2245 : S92) (v2246 : S88) (nx2238 : Nat) (nx1679 : Nat) (v1676 : Int) (ar1672 : AR) (v1671 : (List S92)) (v2235 : Int) : ∀ (kx2422 : Nat) (v2416 : (List S61)) (v2418 : Int) (v2419 : (List S92)) (v2420 : Int) (ag2417 : AG) (ox2421 : ((List S61) × Bool) ⊕ ((List S61) × Int × (List S92) × Int)), iter (fun (y : (List S61) × Int × (List S92) × Int) => f29_B5 m v2245 v2246 y.1 y.2.1 y.2.2.1 y.2.2.2) kx2422 (v2416, v2418, v2419, v2420) = some ox2421 → ∀ nx2423, kx2422 ≤ nx2423 → (∀ r, ox2421 = .inl r → ∀ σ, RetOk (X29 n) (resOf Proofs.Tryd.prog 29) (.tuple [(eL e61) r.1, eB r.2]) σ → (blkQ (X29 n) 3 [2, 4, 5, 7, 8, 9, 18, 19, 21, 22, 23] 21 (seqQ (X29 n) (cR (cR (cR (cL (cL (cR (cL (cR (cL (cL (cR (cR (cL (cL (cR (cL (cR (cR (cR (cR C29)))))))))))))))))))) (lpQ (X29 n) [2, 4, 5, 7, 8, 9, 18, 19, 21, 22, 23] 11 (cL (cL (cR (cL (cR (cL (cL (cR (cR (cL (cL (cR (cL (cR (cR (cR (cR C29))))))))))))))))) nx2238 (blkQ (X29 n) 2 [2, 4, 5, 7, 8, 9, 18, 19] 11 (seqQ (X29 n) (cR (cR (cL (cL (cR (cR (cL (cL (cR (cL (cR (cR (cR (cR C29)))))))))))))) (blkQ (X29 n) 1 [2, 4, 5, 6, 7, 8, 18, 19] 11 (seqQ (X29 n) (cR (cR (cR (cL (cL (cR (cL (cR (cR (cR (cR C29))))))))))) (lpQ (X29 n) [2, 4, 5, 6, 7, 8, 18, 19] 1 (cL (cL (cR (cL (cR (cR (cR (cR C29)))))))) nx1679 (blkQ (X29 n) 0 [4, 5, 7] 1 (seqQ (X29 n) (cR (cR (cR (cR (cR C29))))) (fnQ (X29 n).E.T (resOf Proofs.Tryd.prog 29) (.tuple [(eL e61) o.1, eB o.2])))))))))))) .ret σ) → (∀ (y : (List S61) × Int × (List S92) × Int) (ag2417 : AG), ox2421 = .inr y → (blkQ (X29 n) 3 [2, 4, 5, 7, 8, 9, 18, 19, 21, 22, 23] 21 (seqQ (X29 n) (cR (cR (cR (cL (cL (cR (cL (cR (cL (cL (cR (cR (cL (cL (cR (cL (cR (cR (cR (cR C29)))))))))))))))))))) (lpQ (X29 n) [2, 4, 5, 7, 8, 9, 18, 19, 21, 22, 23] 11 (cL (cL (cR (cL (cR (cL (cL (cR (cR (cL (cL (cR (cL (cR (cR (cR (cR C29))))))))))))))))) nx2238 (blkQ (X29 n) 2 [2, 4, 5, 7, 8, 9, 18, 19] 11 (seqQ (X29 n) (cR (cR (cL (cL (cR (cR (cL (cL (cR (cL (cR (cR (cR (cR C29)))))))))))))) (blkQ (X29 n) 1 [2, 4, 5, 6, 7, 8, 18, 19] 11 (seqQ (X29 n) (cR (cR (cR (cL (cL (cR (cL (cR (cR (cR (cR C29))))))))))) (lpQ (X29 n) [2, 4, 5, 6, 7, 8, 18, 19] 1 (cL (cL (cR (cL (cR (cR (cR (cR C29)))))))) nx1679 (blkQ (X29 n) 0 [4, 5, 7] 1 (seqQ (X29 n) (cR (cR (cR (cR (cR C29))))) (fnQ (X29 n).E.T (resOf Proofs.Tryd.prog 29) (.tuple [(eL e61) o.1, eB o.2])))))))))))) .normal ⟨q2 ((.ptr 0 0) :: q1 ((appD 22 (List.map e61 [])) :: (dB false) :: q1 ((AG.d ag2417 24 (List.map e61 y.1)) :: (dI y.2.1) :: (appD 25 (List.map e92 y.2.2.1)) :: q8 ((dI a1) :: (dI v1676) :: q1 ((AR.d ar1672 26 (List.map e92 v1671)) :: (dI (v1671.length : Int)) :: (dI v2235) :: q40 (q40 (q21 []))))))), [(.cells [(dP e88 a0.fClasses)]), .dead, .dead, .dead, .dead, .dead, .dead, .dead, .dead, .dead, .dead, .dead, .dead, .dead, .dead, .dead, .dead, .dead, .dead, .dead, .dead, (.cells [(dI v2245.fClass), (.v (.str v2245.fE.fBase)), (.v (.str v2245.fE.fForm)), (dP eS v2245.fE.fTags), (dI v2245.fE.fWeight)]), .dead, .dead, (AG.o ag2417 4 (List.map e61 y.1)), (appO 5 (List.map e92 y.2.2.1)), (AR.o ar1672 5 (List.map e92 v1671))]⟩) → Lp (X29 n) [2, 4, 5, 7, 8, 9, 11, 18, 19, 21, 22, 23, 33, 34, 35] 22 (cL (cL (cR (cR (cL (cL (cR (cR (cL (cL (cR (cL (cR (cL (cL (cR (cR (cL (cL (cR (cL (cR (cR (cR (cR C29))))))))))))))))))))))))) nx2423 ⟨q2 ((.ptr 0 0) :: q1 ((appD 22 (List.map e61 [])) :: (dB false) :: q1 ((AG.d ag2417 24 (List.map e61 v2416)) :: (dI v2418) :: (appD 25 (List.map e92 v2419)) :: q1 ((.ptr 21 0) :: q6 ((dI a1) :: (dI v1676) :: q1 ((AR.d ar1672 26 (List.map e92 v1671)) :: (dI (v1671.length : Int)) :: (dI v2235) :: q9 ((dP e90 v2246.fItems) :: (dI (v2246.fItems.length : Int)) :: (dI v2420) :: q40 (q40 (q9 []))))))))), [(.cells [(dP e88 a0.fClasses)]), .dead, .dead, .dead, .dead, .dead, .dead, .dead, .dead, .dead, .dead, .dead, .dead, .dead, .dead, .dead, .dead, .dead, .dead, .dead, .dead, (.cells [(dI v2245.fClass), (.v (.str v2245.fE.fBase)), (.v (.str v2245.fE.fForm)), (dP eS v2245.fE.fTags), (dI v2245.fE.fWeight)]), .dead, .dead, (AG.o ag2417 4 (List.map e61 v2416)), (appO 5 (List.map e92 v2419)), (AR.o ar1672 5 (List.map e92 v1671))]⟩ (blkQ (X29 n) 4 [2, 4, 5, 7, 8, 9, 18, 19, 21, 22, 23] 22 (blkQ (X29 n) 3 [2, 4, 5, 7, 8, 9, 18, 19, 21, 22, 23] 21 (seqQ (X29 n) (cR (cR (cR (cL (cL (cR (cL (cR (cL (cL (cR (cR (cL (cL (cR (cL (cR (cR (cR (cR C29)))))))))))))))))))) (lpQ (X29 n) [2, 4, 5, 7, 8, 9, 18, 19, 21, 22, 23] 11 (cL (cL (cR (cL (cR (cL (cL (cR (cR (cL (cL (cR (cL (cR (cR (cR (cR C29))))))))))))))))) nx2238 (blkQ (X29 n) 2 [2, 4, 5, 7, 8, 9, 18, 19] 11 (seqQ (X29 n) (cR (cR (cL (cL (cR (cR (cL (cL (cR (cL (cR (cR (cR (cR C29)))))))))))))) (blkQ (X29 n) 1 [2, 4, 5, 6, 7, 8, 18, 19] 11 (seqQ (X29 n) (cR (cR (cR (cL (cL (cR (cL (cR (cR (cR (cR C29))))))))))) (lpQ (X29 n) [2, 4, 5, 6, 7, 8, 18, 19] 1 (cL (cL (cR (cL (cR (cR (cR (cR C29)))))))) nx1679 (blkQ (X29 n) 0 [4, 5, 7] 1 (seqQ (X29 n) (cR (cR (cR (cR (cR C29))))) (fnQ (X29 n).E.T (resOf Proofs.Tryd.prog 29) (.tuple [(eL e61) o.1, eB o.2]))))))))))))) := by
  intro kx2422
  induction kx2422 with
  | zero => intro v2416 v2418 v2419 v2420 ag2417 ox2421 h; exact (iter_zero h).elim
  | succ kx2422 ihx2424 =>
    intro v2416 v2418 v2419 v2420 ag2417 ox2421 h nx2423 hnx2427 hrx2425 hxx2426
    obtain ⟨nx2423, rfl⟩ : ∃ q, nx2423 = q + 1 := ⟨nx2423 - 1, by omega⟩
    obtain ⟨sx2428, h, hsx2429⟩ := iter_some h
    have h : f29_B5 m v2245 v2246 v2416 v2418 v2419 v2420 = some sx2428 := h
    unfold f29_B5 at h
    refine Lp.succ ?_
    refine Wp.seq' (by kernel_rfl) ?_
    refine Wp.region (by kernel_rfl) ?_
    refine Ops.seg' 1 1 (by kernel_rfl) ?_
    refine Ops.done (by kernel_rfl) ?_
    refine seqQ.n ?_
    refine Wp.seq' (by kernel_rfl) ?_
    refine Wp.cnd h [2, 4, 5, 7, 8, 9, 11, 18, 19, 21, 22, 23, 33, 34, 35] 27 (by kernel_rfl) (fun h => ?_) (fun h => ?_)
    · refine Wp.skip (by kernel_rfl) ?_
      refine sqQ.n ⟨q2 ((.ptr 0 0) :: q1 ((appD 27 (List.map e61 [])) :: (dB false) :: q1 ((AG.d ag2417 29 (List.map e61 v2416)) :: (dI v2418) :: (appD 30 (List.map e92 v2419)) :: q1 ((.ptr 21 0) :: q6 ((dI a1) :: (dI v1676) :: q1 ((AR.d ar1672 31 (List.map e92 v1671)) :: (dI (v1671.length : Int)) :: (dI v2235) :: q9 ((dP e90 v2246.fItems) :: (dI (v2246.fItems.length : Int)) :: (dI v2420) :: q40 (q40 (q9 []))))))))), [(.cells [(dP e88 a0.fClasses)]), .dead, .dead, .dead, .dead, .dead, .dead, .dead, .dead, .dead, .dead, .dead, .dead, .dead, .dead, .dead, .dead, .dead, .dead, .dead, .dead, (.cells [(dI v2245.fClass), (.v (.str v2245.fE.fBase)), (.v (.str v2245.fE.fForm)), (dP eS v2245.fE.fTags), (dI v2245.fE.fWeight)]), .dead, .dead, .dead, .dead, .dead, .dead, .dead, (AG.o ag2417 4 (List.map e61 v2416)), (appO 5 (List.map e92 v2419)), (AR.o ar1672 5 (List.map e92 v1671))]⟩ (by generalize v2419 = z0; cases ag2417 <;> rcases ar1672 with (_ | _) | _ <;> cases z0 <;> (as_aux_lemma => kernel_rfl)) ?_
      refine seqQ.n ?_
      refine Wp.seq' (by kernel_rfl) ?_
      have J29j2433 : ∀ (v2430 : (List S61)) (v2432 : (List S92)) (ag2431 : AG), f29_j1 m v2418 v2420 v2430 v2432 = some sx2428 → (seqQ (X29 n) (cR (cR (cR (cL (cL (cR (cR (cL (cL (cR (cR (cL (cL (cR (cL (cR (cL (cL (cR (cR (cL (cL (cR (cL (cR (cR (cR (cR C29)))))))))))))))))))))))))))) (lpQ (X29 n) [2, 4, 5, 7, 8, 9, 11, 18, 19, 21, 22, 23, 33, 34, 35] 22 (cL (cL (cR (cR (cL (cL (cR (cR (cL (cL (cR (cL (cR (cL (cL (cR (cR (cL (cL (cR (cL (cR (cR (cR (cR C29))))))))))))))))))))))))) nx2423 (blkQ (X29 n) 4 [2, 4, 5, 7, 8, 9, 18, 19, 21, 22, 23] 22 (blkQ (X29 n) 3 [2, 4, 5, 7, 8, 9, 18, 19, 21, 22, 23] 21 (seqQ (X29 n) (cR (cR (cR (cL (cL (cR (cL (cR (cL (cL (cR (cR (cL (cL (cR (cL (cR (cR (cR (cR C29)))))))))))))))))))) (lpQ (X29 n) [2, 4, 5, 7, 8, 9, 18, 19, 21, 22, 23] 11 (cL (cL (cR (cL (cR (cL (cL (cR (cR (cL (cL (cR (cL (cR (cR (cR (cR C29))))))))))))))))) nx2238 (blkQ (X29 n) 2 [2, 4, 5, 7, 8, 9, 18, 19] 11 (seqQ (X29 n) (cR (cR (cL (cL (cR (cR (cL (cL (cR (cL (cR (cR (cR (cR C29)))))))))))))) (blkQ (X29 n) 1 [2, 4, 5, 6, 7, 8, 18, 19] 11 (seqQ (X29 n) (cR (cR (cR (cL (cL (cR (cL (cR (cR (cR (cR C29))))))))))) (lpQ (X29 n) [2, 4, 5, 6, 7, 8, 18, 19] 1 (cL (cL (cR (cL (cR (cR (cR (cR C29)))))))) nx1679 (blkQ (X29 n) 0 [4, 5, 7] 1 (seqQ (X29 n) (cR (cR (cR (cR (cR C29))))) (fnQ (X29 n).E.T (resOf Proofs.Tryd.prog 29) (.tuple [(eL e61) o.1, eB o.2]))))))))))))))) .normal ⟨q2 ((.ptr 0 0) :: q1 ((appD 32 (List.map e61 [])) :: (dB false) :: q1 ((AG.d ag2431 34 (List.map e61 v2430)) :: (dI (w64 (v2418 + 1))) :: (appD 35 (List.map e92 v2432)) :: q1 ((.ptr 21 0) :: q6 ((dI a1) :: (dI v1676) :: q1 ((AR.d ar1672 36 (List.map e92 v1671)) :: (dI (v1671.length : Int)) :: (dI v2235) :: q9 ((dP e90 v2246.fItems) :: (dI (v2246.fItems.length : Int)) :: (dI v2420) :: q40 (q40 (q9 []))))))))), [(.cells [(dP e88 a0.fClasses)]), .dead, .dead, .dead, .dead, .dead, .dead, .dead, .dead, .dead, .dead, .dead, .dead, .dead, .dead, .dead, .dead, .dead, .dead, .dead, .dead, (.cells [(dI v2245.fClass), (.v (.str v2245.fE.fBase)), (.v (.str v2245.fE.fForm)), (dP eS v2245.fE.fTags), (dI v2245.fE.fWeight)]), .dead, .dead, .dead, .dead, .dead, .dead, .dead, .dead, .dead, .dead, .dead, .dead, (AG.o ag2431 4 (List.map e61 v2430)), (appO 5 (List.map e92 v2432)), (AR.o ar1672 5 (List.map e92 v1671))]⟩ := by
        intro v2430 v2432 ag2431 h
        unfold f29_j1 at h
        refine seqQ.n ?_
        refine Wp.region (by kernel_rfl) ?_
        refine Ops.seg' 2 2 (by kernel_rfl) ?_
        refine Ops.done (by kernel_rfl) ?_
        refine lpQ.n ⟨q2 ((.ptr 0 0) :: q1 ((appD 22 (List.map e61 [])) :: (dB false) :: q1 ((AG.d ag2431 24 (List.map e61 v2430)) :: (dI (w64 (v2418 + 1))) :: (appD 25 (List.map e92 v2432)) :: q1 ((.ptr 21 0) :: q6 ((dI a1) :: (dI v1676) :: q1 ((AR.d ar1672 26 (List.map e92 v1671)) :: (dI (v1671.length : Int)) :: (dI v2235) :: q9 ((dP e90 v2246.fItems) :: (dI (v2246.fItems.length : Int)) :: (dI (w64 (v2420 + 1))) :: q40 (q40 (q9 []))))))))), [(.cells [(dP e88 a0.fClasses)]), .dead, .dead, .dead, .dead, .dead, .dead, .dead, .dead, .dead, .dead, .dead, .dead, .dead, .dead, .dead, .dead, .dead, .dead, .dead, .dead, (.cells [(dI v2245.fClass), (.v (.str v2245.fE.fBase)), (.v (.str v2245.fE.fForm)), (dP eS v2245.fE.fTags), (dI v2245.fE.fWeight)]), .dead, .dead, (AG.o ag2431 4 (List.map e61 v2430)), (appO 5 (List.map e92 v2432)), (AR.o ar1672 5 (List.map e92 v1671))]⟩ (by generalize v2432 = z0; cases ag2431 <;> rcases ar1672 with (_ | _) | _ <;> cases z0 <;> (as_aux_lemma => kernel_rfl)) ?_
        cases h
        exact ihx2424 v2430 (w64 (v2418 + 1)) v2432 (w64 (v2420 + 1)) _ _ hsx2429 _ (by omega) hrx2425 hxx2426
      refine Wp.block' 5 [2, 4, 5, 7, 8, 9, 11, 18, 19, 21, 22, 23, 33, 34, 35] 32 (by kernel_rfl) ?_
      refine Wp.seq' (by kernel_rfl) ?_
      refine Wp.region (by kernel_rfl) ?_
      obtain ⟨v2434, ev2434, h⟩ := bnd_some h
      refine Ops.one' 1 (fun h0 e0 => (ix_r (T := T) h0 87 91 5 .plain e90 v2246.fItems v2420 v2434 ev2434 (by kernel_rfl) (by kernel_rfl) (fun _ => rfl))) (by kernel_rfl) (by kernel_rfl) ?_
      refine Ops.seg' 3 4 (by kernel_rfl) ?_
      refine Ops.done (by kernel_rfl) ?_
      refine seqQ.n ?_
      refine Wp.seq' (by kernel_rfl) ?_
      refine Wp.seq' (by kernel_rfl) ?_
      refine Wp.region (by kernel_rfl) ?_
      refine Ops.seg' 3 3 (by kernel_rfl) ?_
      refine Ops.done (by kernel_rfl) ?_
      refine seqQ.n ?_
      refine Wp.seq' (by kernel_rfl) ?_
      refine Wp.region (by kernel_rfl) ?_
      refine Ops.seg' 2 2 (by kernel_rfl) ?_
      refine Ops.done (by kernel_rfl) ?_
      refine seqQ.n ?_
      refine Wp.cnd h [2, 4, 5, 7, 8, 9, 11, 13, 18, 19, 21, 22, 23, 33, 34, 35] 33 (by kernel_rfl) (fun h => ?_) (fun h => ?_)
      · refine Wp.seq' (by kernel_rfl) ?_
        refine Wp.region (by kernel_rfl) ?_
        refine Ops.seg' 2 2 (by kernel_rfl) ?_
        refine Ops.done (by kernel_rfl) ?_
        refine seqQ.n ?_
        refine Wp.ret (by kernel_rfl) ?_
        refine sqQ.r ?_
        refine seqQ.r ?_
        refine blkQ.r ?_
        refine seqQ.r ?_
        cases h
        refine lpQ.r ?_
        refine blkQ.r ?_
        exact hrx2425 _ hsx2429 _ (RetOk.forget [2, 4, 5, 7, 8, 9, 11, 18, 19, 21, 22, 23, 33, 34, 35] (by kernel_rfl) (RetOk.mk' (.v (.tuple [(.sl .nil (List.map e61 [])), (vB false)])) (by kernel_rfl) (by kernel_rfl)))
      · refine Wp.skip (by kernel_rfl) ?_
        refine sqQ.n ⟨q2 ((.ptr 0 0) :: q1 ((appD 33 (List.map e61 [])) :: (dB false) :: q1 ((AG.d ag2417 35 (List.map e61 v2416)) :: (dI (w64 (v2418 + 1))) :: (appD 36 (List.map e92 v2419)) :: q1 ((.ptr 21 0) :: q1 ((.ptr 32 0) :: q4 ((dI a1) :: (dI v1676) :: q1 ((AR.d ar1672 37 (List.map e92 v1671)) :: (dI (v1671.length : Int)) :: (dI v2235) :: q9 ((dP e90 v2246.fItems) :: (dI (v2246.fItems.length : Int)) :: (dI v2420) :: q40 (q40 (q9 [])))))))))), [(.cells [(dP e88 a0.fClasses)]), .dead, .dead, .dead, .dead, .dead, .dead, .dead, .dead, .dead, .dead, .dead, .dead, .dead, .dead, .dead, .dead, .dead, .dead, .dead, .dead, (.cells [(dI v2245.fClass), (.v (.str v2245.fE.fBase)), (.v (.str v2245.fE.fForm)), (dP eS v2245.fE.fTags), (dI v2245.fE.fWeight)]), .dead, .dead, .dead, .dead, .dead, .dead, .dead, .dead, .dead, .dead, (.cells [(.v (.str v2434.fBase)), (.v (.str v2434.fForm)), (dP eS v2434.fTags), (dI v2434.fNext), (dI v2434.fWeight)]), .dead, .dead, (AG.o ag2417 4 (List.map e61 v2416)), (appO 5 (List.map e92 v2419)), (AR.o ar1672 5 (List.map e92 v1671))]⟩ (by generalize v2419 = z0; cases ag2417 <;> rcases ar1672 with (_ | _) | _ <;> cases z0 <;> (as_aux_lemma => kernel_rfl)) ?_
        refine seqQ.n ?_
        refine Wp.seq' (by kernel_rfl) ?_
        refine Wp.region (by kernel_rfl) ?_
        refine Ops.seg' 5 5 (by kernel_rfl) ?_
        obtain ⟨v2435, ev2435, h⟩ := bnd_some h
        refine Ops.one' 6 (fun h0 e0 => (str_cat (T := T) h0 9 v2245.fE.fBase v2434.fBase v2435 ev2435)) (by kernel_rfl) (by kernel_rfl) ?_
        refine Ops.seg' 5 11 (by kernel_rfl) ?_
        obtain ⟨v2436, ev2436, h⟩ := bnd_some h
        refine Ops.one' 12 (fun h0 e0 => (str_cat (T := T) h0 9 v2245.fE.fForm v2434.fForm v2436 ev2436)) (by kernel_rfl) (by kernel_rfl) ?_
        refine Ops.seg 9 21 (by kernel_rfl) ⟨q2 ((.ptr 0 0) :: q1 ((appD 33 (List.map e61 [])) :: (dB false) :: q1 ((AG.d ag2417 35 (List.map e61 v2416)) :: (dI (w64 (v2418 + 1))) :: (appD 36 (List.map e92 v2419)) :: q1 ((.ptr 21 0) :: q1 ((.ptr 32 0) :: (.ptr 38 0) :: q3 ((dI a1) :: (dI v1676) :: q1 ((AR.d ar1672 37 (List.map e92 v1671)) :: (dI (v1671.length : Int)) :: (dI v2235) :: q9 ((dP e90 v2246.fItems) :: (dI (v2246.fItems.length : Int)) :: (dI v2420) :: q7 ((.ptr 21 1) :: (.ptr 21 1) :: (.v (.str v2245.fE.fBase)) :: (.ptr 32 0) :: (.v (.str v2434.fBase)) :: (.v (.str v2435)) :: (.ptr 21 1) :: (.ptr 21 2) :: (.v (.str v2245.fE.fForm)) :: (.ptr 32 1) :: (.v (.str v2434.fForm)) :: (.v (.str v2436)) :: (.ptr 21 1) :: (.ptr 21 4) :: (dI v2245.fE.fWeight) :: (.ptr 32 4) :: (dI v2434.fWeight) :: (dI (w64 (v2245.fE.fWeight + v2434.fWeight))) :: (.v (.agg [(.str v2435), (.str v2436), (.sl .nil (List.map eS [])), (vI (w64 (v2245.fE.fWeight + v2434.fWeight)))])) :: q40 (q23 [])))))))))), [(.cells [(dP e88 a0.fClasses)]), .dead, .dead, .dead, .dead, .dead, .dead, .dead, .dead, .dead, .dead, .dead, .dead, .dead, .dead, .dead, .dead, .dead, .dead, .dead, .dead, (.cells [(dI v2245.fClass), (.v (.str v2245.fE.fBase)), (.v (.str v2245.fE.fForm)), (dP eS v2245.fE.fTags), (dI v2245.fE.fWeight)]), .dead, .dead, .dead, .dead, .dead, .dead, .dead, .dead, .dead, .dead, (.cells [(.v (.str v2434.fBase)), (.v (.str v2434.fForm)), (dP eS v2434.fTags), (dI v2434.fNext), (dI v2434.fWeight)]), .dead, .dead, (AG.o ag2417 4 (List.map e61 v2416)), (appO 5 (List.map e92 v2419)), (AR.o ar1672 5 (List.map e92 v1671)), (.cells [(.v (.str v2435)), (.v (.str v2436)), (.v (.sl .nil (List.map eS []))), (dI (w64 (v2245.fE.fWeight + v2434.fWeight)))])]⟩ (by kernel_rfl) ?_
        refine Ops.done (by kernel_rfl) ?_
        refine seqQ.n ?_
        refine Wp.seq' (by kernel_rfl) ?_
        refine Wp.region (by kernel_rfl) ?_
        refine Ops.seg' 4 4 (by kernel_rfl) ?_
        obtain ⟨v2437, ev2437, h⟩ := bnd_some h
        refine Ops.one' 5 (fun h0 e0 => (app_n (T := T) (g := .nonfull) h0 36 9 1 ti9 .plain eS v2245.fE.fTags v2437 ev2437 (by kernel_rfl) (by kernel_rfl) (by kernel_rfl) (by kernel_rfl) (fun _ => rfl))) (by kernel_rfl) (by kernel_rfl) ?_
        refine Ops.seg' 2 7 (by kernel_rfl) ?_
        obtain ⟨v2438, ev2438, h⟩ := bnd_some h
        refine Ops.one' 8 (fun h0 e0 => (app_r (T := T) (g := .nonfull) h0 36 9 39 1 ti9 .plain eS v2437 v2434.fTags v2438 ev2438 (by kernel_rfl) (by kernel_rfl) (by kernel_rfl) (by kernel_rfl) (fun _ => rfl) (hq_of e0 (by kernel_rfl)))) (by kernel_rfl) (by kernel_rfl) ?_
        refine Ops.seg' 1 9 (by kernel_rfl) ?_
        refine Ops.one' 10 (fun h0 e0 => (stu (i := ti36) (h := h0) (r := 38) (off := 2) (cs := [(.v (.str v2435)), (.v (.str v2436)), (.v (.sl .nil (List.map eS []))), (dI (w64 (v2245.fE.fWeight + v2434.fWeight)))]) (cs' := [(.v (.str v2435)), (.v (.str v2436)), (dP eS v2438), (dI (w64 (v2245.fE.fWeight + v2434.fWeight)))]) (x := (appF .nonfull 40 (List.map eS v2438))) (l := List.map eS v2438) (hq_of (g := [(.cells [(dP e88 a0.fClasses)]), .dead, .dead, .dead, .dead, .dead, .dead, .dead, .dead, .dead, .dead, .dead, .dead, .dead, .dead, .dead, .dead, .dead, .dead, .dead, .dead, (.cells [(dI v2245.fClass), (.v (.str v2245.fE.fBase)), (.v (.str v2245.fE.fForm)), (dP eS v2245.fE.fTags), (dI v2245.fE.fWeight)]), .dead, .dead, .dead, .dead, .dead, .dead, .dead, .dead, .dead, .dead, (.cells [(.v (.str v2434.fBase)), (.v (.str v2434.fForm)), (dP eS v2434.fTags), (dI v2434.fNext), (dI v2434.fWeight)]), .dead, .dead, (AG.o ag2417 4 (List.map e61 v2416)), (appO 5 (List.map e92 v2419)), (AR.o ar1672 5 (List.map e92 v1671)), (.cells [(.v (.str v2435)), (.v (.str v2436)), (.v (.sl .nil (List.map eS []))), (dI (w64 (v2245.fE.fWeight + v2434.fWeight)))]), .dead, (appO 1 (List.map eS v2438))]) (e0.trans (by kernel_rfl)) rfl) (appF_unp _ _ _) (by kernel_rfl) (by rfl))) (by kernel_rfl) (by kernel_rfl) ?_
        refine Ops.done (by kernel_rfl) ?_
        refine seqQ.n ?_
        refine Wp.seq' (by kernel_rfl) ?_
        refine Wp.seq' (by kernel_rfl) ?_
        refine Wp.region (by kernel_rfl) ?_
        refine Ops.seg 3 3 (by kernel_rfl) ⟨q2 ((.ptr 0 0) :: q1 ((appD 33 (List.map e61 [])) :: (dB false) :: q1 ((AG.d ag2417 35 (List.map e61 v2416)) :: (dI (w64 (v2418 + 1))) :: (appD 36 (List.map e92 v2419)) :: q1 ((.ptr 21 0) :: q1 ((.ptr 32 0) :: (.ptr 38 0) :: q3 ((dI a1) :: (dI v1676) :: q1 ((AR.d ar1672 37 (List.map e92 v1671)) :: (dI (v1671.length : Int)) :: (dI v2235) :: q9 ((dP e90 v2246.fItems) :: (dI (v2246.fItems.length : Int)) :: (dI v2420) :: q7 ((.ptr 21 1) :: (.ptr 21 1) :: (.v (.str v2245.fE.fBase)) :: (.ptr 32 0) :: (.v (.str v2434.fBase)) :: (.v (.str v2435)) :: (.ptr 21 1) :: (.ptr 21 2) :: (.v (.str v2245.fE.fForm)) :: (.ptr 32 1) :: (.v (.str v2434.fForm)) :: (.v (.str v2436)) :: (.ptr 21 1) :: (.ptr 21 4) :: (dI v2245.fE.fWeight) :: (.ptr 32 4) :: (dI v2434.fWeight) :: (dI (w64 (v2245.fE.fWeight + v2434.fWeight))) :: (.v (.agg [(.str v2435), (.str v2436), (.sl .nil (List.map eS [])), (vI (w64 (v2245.fE.fWeight + v2434.fWeight)))])) :: (.v (.sl .nonfull (List.map eS []))) :: (.ptr 21 1) :: (.ptr 21 3) :: (dP eS v2245.fE.fTags) :: (appF .nonfull 39 (List.map eS v2437)) :: (.ptr 32 2) :: (dP eS v2434.fTags) :: (appF .nonfull 40 (List.map eS v2438)) :: (.ptr 38 2) :: (.ptr 32 3) :: (dI v2434.fNext) :: (dB (decide (v2434.fNext ≥ 0))) :: q40 (q11 [])))))))))), [(.cells [(dP e88 a0.fClasses)]), .dead, .dead, .dead, .dead, .dead, .dead, .dead, .dead, .dead, .dead, .dead, .dead, .dead, .dead, .dead, .dead, .dead, .dead, .dead, .dead, (.cells [(dI v2245.fClass), (.v (.str v2245.fE.fBase)), (.v (.str v2245.fE.fForm)), (dP eS v2245.fE.fTags), (dI v2245.fE.fWeight)]), .dead, .dead, .dead, .dead, .dead, .dead, .dead, .dead, .dead, .dead, (.cells [(.v (.str v2434.fBase)), (.v (.str v2434.fForm)), (dP eS v2434.fTags), (dI v2434.fNext), (dI v2434.fWeight)]), .dead, .dead, (AG.o ag2417 4 (List.map e61 v2416)), (appO 5 (List.map e92 v2419)), (AR.o ar1672 5 (List.map e92 v1671)), (.cells [(.v (.str v2435)), (.v (.str v2436)), (dP eS v2438), (dI (w64 (v2245.fE.fWeight + v2434.fWeight)))]), .dead, (appO 1 (List.map eS v2438))]⟩ (by kernel_rfl) ?_
        refine Ops.done (by kernel_rfl) ?_
        refine seqQ.n ?_
        refine Wp.cnd h [2, 4, 5, 7, 8, 9, 11, 14, 18, 19, 21, 22, 23, 33, 34, 35] 41 (by kernel_rfl) (fun h => ?_) (fun h => ?_)
        · refine Wp.seq' (by kernel_rfl) ?_
          refine Wp.region (by kernel_rfl) ?_
          refine Ops.seg' 6 6 (by kernel_rfl) ?_
          obtain ⟨v2439, ev2439, h⟩ := bnd_some h
          refine Ops.one' 7 (fun h0 e0 => (app_r (T := T) (g := .nil) h0 94 93 36 5 ti93 .nonfull e92 v2419 ([(⟨v2434.fNext, (⟨v2435, v2436, v2438, w64 (v2245.fE.fWeight + v2434.fWeight)⟩ : S61)⟩ : S92)]) v2439 ev2439 (by kernel_rfl) (by kernel_rfl) (by kernel_rfl) (by kernel_rfl) (fun _ => rfl) (hq_of e0 (by kernel_rfl)))) (by kernel_rfl) (by kernel_rfl) ?_
          refine Ops.seg' 1 8 (by kernel_rfl) ?_
          refine Ops.done (by kernel_rfl) ?_
          refine seqQ.n ?_
          refine Wp.exit (id := 5) (by kernel_rfl) ?_
          refine sqQ.x ?_
          refine seqQ.x ?_
          refine blkQ.x ⟨q2 ((.ptr 0 0) :: q1 ((appD 32 (List.map e61 [])) :: (dB false) :: q1 ((AG.d ag2417 34 (List.map e61 v2416)) :: (dI (w64 (v2418 + 1))) :: (appD 35 (List.map e92 v2439)) :: q1 ((.ptr 21 0) :: q6 ((dI a1) :: (dI v1676) :: q1 ((AR.d ar1672 36 (List.map e92 v1671)) :: (dI (v1671.length : Int)) :: (dI v2235) :: q9 ((dP e90 v2246.fItems) :: (dI (v2246.fItems.length : Int)) :: (dI v2420) :: q40 (q40 (q9 []))))))))), [(.cells [(dP e88 a0.fClasses)]), .dead, .dead, .dead, .dead, .dead, .dead, .dead, .dead, .dead, .dead, .dead, .dead, .dead, .dead, .dead, .dead, .dead, .dead, .dead, .dead, (.cells [(dI v2245.fClass), (.v (.str v2245.fE.fBase)), (.v (.str v2245.fE.fForm)), (dP eS v2245.fE.fTags), (dI v2245.fE.fWeight)]), .dead, .dead, .dead, .dead, .dead, .dead, .dead, .dead, .dead, .dead, .dead, .dead, (AG.o ag2417 4 (List.map e61 v2416)), (appO 5 (List.map e92 v2439)), (AR.o ar1672 5 (List.map e92 v1671))]⟩ (by generalize v2439 = z0; cases ag2417 <;> rcases ar1672 with (_ | _) | _ <;> cases z0 <;> (as_aux_lemma => kernel_rfl)) ?_
          exact J29j2433 v2416 v2439 _ h
        · refine Wp.skip (by kernel_rfl) ?_
          refine sqQ.n ⟨q2 ((.ptr 0 0) :: q1 ((appD 41 (List.map e61 [])) :: (dB false) :: q1 ((AG.d ag2417 43 (List.map e61 v2416)) :: (dI (w64 (v2418 + 1))) :: (appD 44 (List.map e92 v2419)) :: q1 ((.ptr 21 0) :: q2 ((.ptr 38 0) :: q3 ((dI a1) :: (dI v1676) :: q1 ((AR.d ar1672 45 (List.map e92 v1671)) :: (dI (v1671.length : Int)) :: (dI v2235) :: q9 ((dP e90 v2246.fItems) :: (dI (v2246.fItems.length : Int)) :: (dI v2420) :: q40 (q40 (q9 [])))))))))), [(.cells [(dP e88 a0.fClasses)]), .dead, .dead, .dead, .dead, .dead, .dead, .dead, .dead, .dead, .dead, .dead, .dead, .dead, .dead, .dead, .dead, .dead, .dead, .dead, .dead, (.cells [(dI v2245.fClass), (.v (.str v2245.fE.fBase)), (.v (.str v2245.fE.fForm)), (dP eS v2245.fE.fTags), (dI v2245.fE.fWeight)]), .dead, .dead, .dead, .dead, .dead, .dead, .dead, .dead, .dead, .dead, (.cells [(.v (.str v2434.fBase)), (.v (.str v2434.fForm)), (dP eS v2434.fTags), (dI v2434.fNext), (dI v2434.fWeight)]), .dead, .dead, .dead, .dead, .dead, (.cells [(.v (.str v2435)), (.v (.str v2436)), (dP eS v2438), (dI (w64 (v2245.fE.fWeight + v2434.fWeight)))]), .dead, (appO 1 (List.map eS v2438)), .dead, .dead, (AG.o ag2417 4 (List.map e61 v2416)), (appO 5 (List.map e92 v2419)), (AR.o ar1672 5 (List.map e92 v1671))]⟩ (by generalize v2419 = z0; generalize v2438 = z1; cases ag2417 <;> rcases ar1672 with (_ | _) | _ <;> cases z0 <;> cases z1 <;> (as_aux_lemma => kernel_rfl)) ?_
          refine seqQ.n ?_
          refine Wp.seq' (by kernel_rfl) ?_
          refine Wp.region (by kernel_rfl) ?_
          refine Ops.seg' 1 1 (by kernel_rfl) ?_
          refine Ops.done (by kernel_rfl) ?_
          refine seqQ.n ?_
          refine Wp.seq' (by kernel_rfl) ?_
          refine Wp.block' 6 [2, 4, 5, 7, 8, 9, 11, 14, 15, 18, 19, 21, 22, 23, 33, 34, 35] 46 (by kernel_rfl) ?_
          have hLx2490 := f29_hLx2490 m a0 a1 o n hn v2245 v2416 v2434 v2435 v2436 v2438 nx2423 nx2238 nx1679 ag2417 v2418 v2419 v1676 ar1672 v1671 v2235 v2246 v2420
          refine Wp.loop' [2, 4, 5, 7, 8, 9, 11, 14, 15, 18, 19, 21, 22, 23, 33, 34, 35] 46 (by kernel_rfl) ⟨q2 ((.ptr 0 0) :: q1 ((appD 46 (List.map e61 [])) :: (dB false) :: q1 ((AG.d ag2417 48 (List.map e61 v2416)) :: (dI (w64 (v2418 + 1))) :: (appD 49 (List.map e92 v2419)) :: q1 ((.ptr 21 0) :: q2 ((.ptr 38 0) :: (dI 0) :: q2 ((dI a1) :: (dI v1676) :: q1 ((AR.d ar1672 50 (List.map e92 v1671)) :: (dI (v1671.length : Int)) :: (dI v2235) :: q9 ((dP e90 v2246.fItems) :: (dI (v2246.fItems.length : Int)) :: (dI v2420) :: q40 (q40 (q9 [])))))))))), [(.cells [(dP e88 a0.fClasses)]), .dead, .dead, .dead, .dead, .dead, .dead, .dead, .dead, .dead, .dead, .dead, .dead, .dead, .dead, .dead, .dead, .dead, .dead, .dead, .dead, (.cells [(dI v2245.fClass), (.v (.str v2245.fE.fBase)), (.v (.str v2245.fE.fForm)), (dP eS v2245.fE.fTags), (dI v2245.fE.fWeight)]), .dead, .dead, .dead, .dead, .dead, .dead, .dead, .dead, .dead, .dead, (.cells [(.v (.str v2434.fBase)), (.v (.str v2434.fForm)), (dP eS v2434.fTags), (dI v2434.fNext), (dI v2434.fWeight)]), .dead, .dead, .dead, .dead, .dead, (.cells [(.v (.str v2435)), (.v (.str v2436)), (dP eS v2438), (dI (w64 (v2245.fE.fWeight + v2434.fWeight)))]), .dead, (appO 1 (List.map eS v2438)), .dead, .dead, .dead, .dead, .dead, .dead, .dead, (AG.o ag2417 4 (List.map e61 v2416)), (appO 5 (List.map e92 v2419)), (AR.o ar1672 5 (List.map e92 v1671))]⟩ (by generalize v2419 = z0; generalize v2438 = z1; cases ag2417 <;> rcases ar1672 with (_ | _) | _ <;> cases z0 <;> cases z1 <;> (as_aux_lemma => kernel_rfl)) ?_
          rcases brk_some h with ⟨r2492, er2492, h⟩ | ⟨y2491, ey2491, h⟩
          · refine hLx2490 _ 0  _ er2492 n (by omega) (fun r er σ hσ => ?_) (fun y  ey => by cases ey)
            cases er
            refine seqQ.r ?_
            refine blkQ.r ?_
            refine seqQ.r ?_
            refine lpQ.r ?_
            cases h
            refine blkQ.r ?_
            exact hrx2425 _ hsx2429 _ (RetOk.forget [2, 4, 5, 7, 8, 9, 11, 18, 19, 21, 22, 23, 33, 34, 35] (by kernel_rfl) hσ)
          · refine hLx2490 _ 0  _ ey2491 n (by omega) (fun r er => by cases er) (fun y  ey => ?_)
            cases ey
            refine seqQ.n ?_
            refine Wp.seq' (by kernel_rfl) ?_
            refine Wp.seq' (by kernel_rfl) ?_
            refine Wp.region (by kernel_rfl) ?_
            refine Ops.seg' 2 2 (by kernel_rfl) ?_
            refine Ops.one' 3 (fun h0 e0 => (len_g (T := T) h0 53 62 48 ag2417 e61 v2416 (by kernel_rfl))) (by kernel_rfl) (by kernel_rfl) ?_
            refine Ops.seg' 2 5 (by kernel_rfl) ?_
            refine Ops.hv (fun K => ∀ (d2495 d2496 d2497 d2498 d2499 d2500 d2501 : D) (v2502 : Bool) (v2503 : Bool), f29_r4 m v2245 v2416 v2418 v2419 v2420 v2434 v2435 v2436 v2438 y2491 v2503 = some sx2428 → K 13 ⟨q2 ((.ptr 0 0) :: q1 ((appD 46 (List.map e61 [])) :: (dB false) :: q1 ((AG.d ag2417 48 (List.map e61 v2416)) :: (dI (w64 (v2418 + 1))) :: (appD 49 (List.map e92 v2419)) :: q1 ((.ptr 21 0) :: q2 ((.ptr 38 0) :: (dI y2491) :: q2 ((dI a1) :: (dI v1676) :: q1 ((AR.d ar1672 50 (List.map e92 v1671)) :: (dI (v1671.length : Int)) :: (dI v2235) :: q9 ((dP e90 v2246.fItems) :: (dI (v2246.fItems.length : Int)) :: (dI v2420) :: q40 (q19 ((dI y2491) :: (AG.d ag2417 48 (List.map e61 v2416)) :: (dI (v2416.length : Int)) :: (dB v2502) :: (dB v2502) :: d2495 :: d2496 :: d2497 :: d2498 :: d2499 :: d2500 :: d2501 :: (dB v2503) :: q17 [])))))))))), [(.cells [(dP e88 a0.fClasses)]), .dead, .dead, .dead, .dead, .dead, .dead, .dead, .dead, .dead, .dead, .dead, .dead, .dead, .dead, .dead, .dead, .dead, .dead, .dead, .dead, (.cells [(dI v2245.fClass), (.v (.str v2245.fE.fBase)), (.v (.str v2245.fE.fForm)), (dP eS v2245.fE.fTags), (dI v2245.fE.fWeight)]), .dead, .dead, .dead, .dead, .dead, .dead, .dead, .dead, .dead, .dead, (.cells [(.v (.str v2434.fBase)), (.v (.str v2434.fForm)), (dP eS v2434.fTags), (dI v2434.fNext), (dI v2434.fWeight)]), .dead, .dead, .dead, .dead, .dead, (.cells [(.v (.str v2435)), (.v (.str v2436)), (dP eS v2438), (dI (w64 (v2245.fE.fWeight + v2434.fWeight)))]), .dead, (appO 1 (List.map eS v2438)), .dead, .dead, .dead, .dead, .dead, .dead, .dead, (AG.o ag2417 4 (List.map e61 v2416)), (appO 5 (List.map e92 v2419)), (AR.o ar1672 5 (List.map e92 v1671))]⟩) ?_ fun J29j2504 => ?_
            · intro d2495 d2496 d2497 d2498 d2499 d2500 d2501 v2502 v2503 h
              unfold f29_r4 at h
              refine Ops.done (by kernel_rfl) ?_
              refine seqQ.n ?_
              refine Wp.cnd h [2, 4, 5, 7, 8, 9, 11, 14, 15, 18, 19, 21, 22, 23, 33, 34, 35] 51 (by kernel_rfl) (fun h => ?_) (fun h => ?_)
              · refine Wp.exit (id := 5) (by kernel_rfl) ?_
                refine sqQ.x ?_
                refine seqQ.x ?_
                refine blkQ.x ⟨q2 ((.ptr 0 0) :: q1 ((appD 32 (List.map e61 [])) :: (dB false) :: q1 ((AG.d ag2417 34 (List.map e61 v2416)) :: (dI (w64 (v2418 + 1))) :: (appD 35 (List.map e92 v2419)) :: q1 ((.ptr 21 0) :: q6 ((dI a1) :: (dI v1676) :: q1 ((AR.d ar1672 36 (List.map e92 v1671)) :: (dI (v1671.length : Int)) :: (dI v2235) :: q9 ((dP e90 v2246.fItems) :: (dI (v2246.fItems.length : Int)) :: (dI v2420) :: q40 (q40 (q9 []))))))))), [(.cells [(dP e88 a0.fClasses)]), .dead, .dead, .dead, .dead, .dead, .dead, .dead, .dead, .dead, .dead, .dead, .dead, .dead, .dead, .dead, .dead, .dead, .dead, .dead, .dead, (.cells [(dI v2245.fClass), (.v (.str v2245.fE.fBase)), (.v (.str v2245.fE.fForm)), (dP eS v2245.fE.fTags), (dI v2245.fE.fWeight)]), .dead, .dead, .dead, .dead, .dead, .dead, .dead, .dead, .dead, .dead, .dead, .dead, (AG.o ag2417 4 (List.map e61 v2416)), (appO 5 (List.map e92 v2419)), (AR.o ar1672 5 (List.map e92 v1671))]⟩ (by generalize v2419 = z0; cases ag2417 <;> rcases ar1672 with (_ | _) | _ <;> cases z0 <;> (as_aux_lemma => kernel_rfl)) ?_
                exact J29j2433 v2416 v2419 _ h
              · refine Wp.skip (by kernel_rfl) ?_
                refine sqQ.n ⟨q2 ((.ptr 0 0) :: q1 ((appD 51 (List.map e61 [])) :: (dB false) :: q1 ((AG.d ag2417 53 (List.map e61 v2416)) :: (dI (w64 (v2418 + 1))) :: (appD 54 (List.map e92 v2419)) :: q1 ((.ptr 21 0) :: q2 ((.ptr 38 0) :: (dI y2491) :: q2 ((dI a1) :: (dI v1676) :: q1 ((AR.d ar1672 55 (List.map e92 v1671)) :: (dI (v1671.length : Int)) :: (dI v2235) :: q9 ((dP e90 v2246.fItems) :: (dI (v2246.fItems.length : Int)) :: (dI v2420) :: q40 (q40 (q9 [])))))))))), [(.cells [(dP e88 a0.fClasses)]), .dead, .dead, .dead, .dead, .dead, .dead, .dead, .dead, .dead, .dead, .dead, .dead, .dead, .dead, .dead, .dead, .dead, .dead, .dead, .dead, (.cells [(dI v2245.fClass), (.v (.str v2245.fE.fBase)), (.v (.str v2245.fE.fForm)), (dP eS v2245.fE.fTags), (dI v2245.fE.fWeight)]), .dead, .dead, .dead, .dead, .dead, .dead, .dead, .dead, .dead, .dead, (.cells [(.v (.str v2434.fBase)), (.v (.str v2434.fForm)), (dP eS v2434.fTags), (dI v2434.fNext), (dI v2434.fWeight)]), .dead, .dead, .dead, .dead, .dead, (.cells [(.v (.str v2435)), (.v (.str v2436)), (dP eS v2438), (dI (w64 (v2245.fE.fWeight + v2434.fWeight)))]), .dead, (appO 1 (List.map eS v2438)), .dead, .dead, .dead, .dead, .dead, .dead, .dead, .dead, .dead, .dead, .dead, .dead, (AG.o ag2417 4 (List.map e61 v2416)), (appO 5 (List.map e92 v2419)), (AR.o ar1672 5 (List.map e92 v1671))]⟩ (by generalize v2419 = z0; generalize v2438 = z1; cases ag2417 <;> rcases ar1672 with (_ | _) | _ <;> cases z0 <;> cases z1 <;> (as_aux_lemma => kernel_rfl)) ?_
                refine seqQ.n ?_
                refine Wp.region (by kernel_rfl) ?_
                refine Ops.seg' 3 3 (by kernel_rfl) ?_
                obtain ⟨v2505, ev2505, h⟩ := bnd_some h
                refine Ops.one' 4 (fun h0 e0 => (sub_x (T := T) h0 53 62 4 (AG.d ag2417 53 (List.map e61 v2416)) e61 v2416 v2505 none (some y2491) (AG.hd _ _ _) ev2505 (by kernel_rfl) (by kernel_rfl) (fun _ => rfl))) (by kernel_rfl) (by kernel_rfl) ?_
                obtain ⟨v2506, ev2506, h⟩ := bnd_some h
                refine Ops.one' 5 (fun h0 e0 => (app_n (T := T) (g := .nonfull) h0 53 62 4 ti62 (sfl (dfl (AG.d ag2417 53 (List.map e61 v2416))) v2416.length (some y2491)) e61 v2505 v2506 ev2506 (by kernel_rfl) (by kernel_rfl) (by kernel_rfl) (by kernel_rfl) (fun _ => rfl))) (by kernel_rfl) (by kernel_rfl) ?_
                refine Ops.seg' 2 7 (by kernel_rfl) ?_
                obtain ⟨v2507, ev2507, h⟩ := bnd_some h
                refine Ops.one' 8 (fun h0 e0 => (app_r (T := T) (g := .nonfull) h0 53 62 56 4 ti62 .nonfull e61 v2506 ([(⟨v2435, v2436, v2438, w64 (v2245.fE.fWeight + v2434.fWeight)⟩ : S61)]) v2507 ev2507 (by kernel_rfl) (by kernel_rfl) (by kernel_rfl) (by kernel_rfl) (fun _ => rfl) (hq_of e0 (by kernel_rfl)))) (by kernel_rfl) (by kernel_rfl) ?_
                refine Ops.seg 2 10 (by kernel_rfl) ⟨q2 ((.ptr 0 0) :: q1 ((appD 51 (List.map e61 [])) :: (dB false) :: q1 ((AG.d ag2417 53 (List.map e61 v2416)) :: (dI (w64 (v2418 + 1))) :: (appD 54 (List.map e92 v2419)) :: q1 ((.ptr 21 0) :: q2 ((.ptr 38 0) :: (dI y2491) :: q2 ((dI a1) :: (dI v1676) :: q1 ((AR.d ar1672 55 (List.map e92 v1671)) :: (dI (v1671.length : Int)) :: (dI v2235) :: q9 ((dP e90 v2246.fItems) :: (dI (v2246.fItems.length : Int)) :: (dI v2420) :: q40 (q32 ((.v (.sl .nonfull (List.map e61 []))) :: (AG.d ag2417 53 (List.map e61 v2416)) :: (dI y2491) :: (.v (.sl (sfl (dfl (AG.d ag2417 53 (List.map e61 v2416))) v2416.length (some y2491)) (List.map e61 v2505))) :: (appF .nonfull 56 (List.map e61 v2506)) :: (.v (.agg [(.str v2435), (.str v2436), (vP eS v2438), (vI (w64 (v2245.fE.fWeight + v2434.fWeight)))])) :: (.v (.sl .nonfull (List.map e61 ([(⟨v2435, v2436, v2438, w64 (v2245.fE.fWeight + v2434.fWeight)⟩ : S61)])))) :: (appF .nonfull 57 (List.map e61 v2507)) :: (AG.d ag2417 53 (List.map e61 v2416)) :: (dI y2491) :: q7 [])))))))))), [(.cells [(dP e88 a0.fClasses)]), .dead, .dead, .dead, .dead, .dead, .dead, .dead, .dead, .dead, .dead, .dead, .dead, .dead, .dead, .dead, .dead, .dead, .dead, .dead, .dead, (.cells [(dI v2245.fClass), (.v (.str v2245.fE.fBase)), (.v (.str v2245.fE.fForm)), (dP eS v2245.fE.fTags), (dI v2245.fE.fWeight)]), .dead, .dead, .dead, .dead, .dead, .dead, .dead, .dead, .dead, .dead, (.cells [(.v (.str v2434.fBase)), (.v (.str v2434.fForm)), (dP eS v2434.fTags), (dI v2434.fNext), (dI v2434.fWeight)]), .dead, .dead, .dead, .dead, .dead, (.cells [(.v (.str v2435)), (.v (.str v2436)), (dP eS v2438), (dI (w64 (v2245.fE.fWeight + v2434.fWeight)))]), .dead, (appO 1 (List.map eS v2438)), .dead, .dead, .dead, .dead, .dead, .dead, .dead, .dead, .dead, .dead, .dead, .dead, (AG.o ag2417 4 (List.map e61 v2416)), (appO 5 (List.map e92 v2419)), (AR.o ar1672 5 (List.map e92 v1671)), .dead, (appO 4 (List.map e61 v2507))]⟩ (by kernel_rfl) ?_
                obtain ⟨v2508, ev2508, h⟩ := bnd_some h
                refine Ops.one' 11 (fun h0 e0 => (sub_x (T := T) h0 53 62 4 (AG.d ag2417 53 (List.map e61 v2416)) e61 v2416 v2508 (some y2491) none (AG.hd _ _ _) ev2508 (by kernel_rfl) (by kernel_rfl) (fun _ => rfl))) (by kernel_rfl) (by kernel_rfl) ?_
                obtain ⟨v2509, ev2509, h⟩ := bnd_some h
                refine Ops.one' 12 (fun h0 e0 => (app_r (T := T) (g := .nonfull) h0 53 62 57 4 ti62 (sfl (dfl (AG.d ag2417 53 (List.map e61 v2416))) v2416.length none) e61 v2507 v2508 v2509 ev2509 (by kernel_rfl) (by kernel_rfl) (by kernel_rfl) (by kernel_rfl) (fun _ => rfl) (hq_of e0 (by kernel_rfl)))) (by kernel_rfl) (by kernel_rfl) ?_
                refine Ops.seg' 1 13 (by kernel_rfl) ?_
                refine Ops.done (by kernel_rfl) ?_
                refine blkQ.n ⟨q2 ((.ptr 0 0) :: q1 ((appD 32 (List.map e61 [])) :: (dB false) :: q1 ((AG.d (AG.of .nonfull (List.map e61 v2509)) 34 (List.map e61 v2509)) :: (dI (w64 (v2418 + 1))) :: (appD 35 (List.map e92 v2419)) :: q1 ((.ptr 21 0) :: q6 ((dI a1) :: (dI v1676) :: q1 ((AR.d ar1672 36 (List.map e92 v1671)) :: (dI (v1671.length : Int)) :: (dI v2235) :: q9 ((dP e90 v2246.fItems) :: (dI (v2246.fItems.length : Int)) :: (dI v2420) :: q40 (q40 (q9 []))))))))), [(.cells [(dP e88 a0.fClasses)]), .dead, .dead, .dead, .dead, .dead, .dead, .dead, .dead, .dead, .dead, .dead, .dead, .dead, .dead, .dead, .dead, .dead, .dead, .dead, .dead, (.cells [(dI v2245.fClass), (.v (.str v2245.fE.fBase)), (.v (.str v2245.fE.fForm)), (dP eS v2245.fE.fTags), (dI v2245.fE.fWeight)]), .dead, .dead, .dead, .dead, .dead, .dead, .dead, .dead, .dead, .dead, .dead, .dead, (AG.o (AG.of .nonfull (List.map e61 v2509)) 4 (List.map e61 v2509)), (appO 5 (List.map e92 v2419)), (AR.o ar1672 5 (List.map e92 v1671))]⟩ (by generalize v2509 = z0; generalize v2419 = z1; rcases ar1672 with (_ | _) | _ <;> cases z0 <;> cases z1 <;> (as_aux_lemma => kernel_rfl)) ?_
                exact J29j2433 v2509 v2419 _ h
            obtain ⟨v2503, ev2503, h⟩ := bnd_some h
            refine Ops.hv (fun K => ∀ v2493 : Bool, (cnd v2493 (bnd (idx v2416 y2491) fun v2510 => bnd (f59 m ((⟨v2435, v2436, v2438, w64 (v2245.fE.fWeight + v2434.fWeight)⟩ : S61)) v2510) fun v2511 => some (!v2511)) (some false)) = some v2503 → K 5 ⟨q2 ((.ptr 0 0) :: q1 ((appD 46 (List.map e61 [])) :: (dB false) :: q1 ((AG.d ag2417 48 (List.map e61 v2416)) :: (dI (w64 (v2418 + 1))) :: (appD 49 (List.map e92 v2419)) :: q1 ((.ptr 21 0) :: q2 ((.ptr 38 0) :: (dI y2491) :: q2 ((dI a1) :: (dI v1676) :: q1 ((AR.d ar1672 50 (List.map e92 v1671)) :: (dI (v1671.length : Int)) :: (dI v2235) :: q9 ((dP e90 v2246.fItems) :: (dI (v2246.fItems.length : Int)) :: (dI v2420) :: q40 (q19 ((dI y2491) :: (AG.d ag2417 48 (List.map e61 v2416)) :: (dI (v2416.length : Int)) :: (dB v2493) :: (dB v2493) :: q25 [])))))))))), [(.cells [(dP e88 a0.fClasses)]), .dead, .dead, .dead, .dead, .dead, .dead, .dead, .dead, .dead, .dead, .dead, .dead, .dead, .dead, .dead, .dead, .dead, .dead, .dead, .dead, (.cells [(dI v2245.fClass), (.v (.str v2245.fE.fBase)), (.v (.str v2245.fE.fForm)), (dP eS v2245.fE.fTags), (dI v2245.fE.fWeight)]), .dead, .dead, .dead, .dead, .dead, .dead, .dead, .dead, .dead, .dead, (.cells [(.v (.str v2434.fBase)), (.v (.str v2434.fForm)), (dP eS v2434.fTags), (dI v2434.fNext), (dI v2434.fWeight)]), .dead, .dead, .dead, .dead, .dead, (.cells [(.v (.str v2435)), (.v (.str v2436)), (dP eS v2438), (dI (w64 (v2245.fE.fWeight + v2434.fWeight)))]), .dead, (appO 1 (List.map eS v2438)), .dead, .dead, .dead, .dead, .dead, .dead, .dead, (AG.o ag2417 4 (List.map e61 v2416)), (appO 5 (List.map e92 v2419)), (AR.o ar1672 5 (List.map e92 v1671))]⟩) ?_ fun G29g2494 => Ops.st _ (by kernel_rfl) (G29g2494 (decide (y2491 < (v2416.length : Int))) ev2503)
            intro v2493 ev2503
            cases v2493
            · have ev2503 := cnd_f ev2503
              refine Ops.seg' 8 13 (by kernel_rfl) ?_
              exact Ops.st _ (by kernel_rfl) (J29j2504 U U U U U U U false false (some_sub (fun v2503 => f29_r4 m v2245 v2416 v2418 v2419 v2420 v2434 v2435 v2436 v2438 y2491 v2503 = some sx2428) ev2503 h))
            · have ev2503 := cnd_t ev2503
              refine Ops.seg' 3 8 (by kernel_rfl) ?_
              obtain ⟨v2510, ev2510, ev2503⟩ := bnd_some ev2503
              refine Ops.one' 9 (fun h0 e0 => (ix_g (T := T) h0 53 62 4 48 ag2417 e61 v2416 y2491 v2510 ev2510 (by kernel_rfl) (by kernel_rfl) (fun _ => rfl))) (by kernel_rfl) (by kernel_rfl) ?_
              refine Ops.seg' 1 10 (by kernel_rfl) ?_
              obtain ⟨v2511, ev2511, ev2503⟩ := bnd_some ev2503
              refine Ops.one' 11 (fun h0 e0 => (call_ok (E' := EG) (h := h0) (by kernel_rfl) (Args.v (.agg [(.str v2435), (.str v2436), (vP eS v2438), (vI (w64 (v2245.fE.fWeight + v2434.fWeight)))]) (e61 ((⟨v2435, v2436, v2438, w64 (v2245.fE.fWeight + v2434.fWeight)⟩ : S61))) (by kernel_rfl) (Args.v (.agg [(.str v2510.fBase), (.str v2510.fForm), (vP eS v2510.fTags), (vI v2510.fWeight)]) (e61 v2510) (by kernel_rfl) Args.nil)) (ok59 m ((⟨v2435, v2436, v2438, w64 (v2245.fE.fWeight + v2434.fWeight)⟩ : S61)) v2510 v2511 ev2511 n (by omega)))) (by kernel_rfl) (by kernel_rfl) ?_
              refine Ops.seg' 2 13 (by kernel_rfl) ?_
              exact Ops.st _ (by kernel_rfl) (J29j2504 ((.v (.agg [(.str v2435), (.str v2436), (vP eS v2438), (vI (w64 (v2245.fE.fWeight + v2434.fWeight)))]))) (AG.d ag2417 48 (List.map e61 v2416)) (dI y2491) ((.vptr [(.str v2510.fBase), (.str v2510.fForm), (vP eS v2510.fTags), (vI v2510.fWeight)])) ((.v (.agg [(.str v2510.fBase), (.str v2510.fForm), (vP eS v2510.fTags), (vI v2510.fWeight)]))) (dB v2511) (dB (!v2511)) true (!v2511) (some_sub (fun v2503 => f29_r4 m v2245 v2416 v2418 v2419 v2420 v2434 v2435 v2436 v2438 y2491 v2503 = some sx2428) ev2503 h))
    · refine Wp.exit (id := 4) (by kernel_rfl) ?_
      refine sqQ.x ?_
      refine seqQ.x ?_
      cases h
      refine lpQ.x ?_
      refine blkQ.x ⟨q2 ((.ptr 0 0) :: q1 ((appD 22 (List.map e61 [])) :: (dB false) :: q1 ((AG.d ag2417 24 (List.map e61 v2416)) :: (dI v2418) :: (appD 25 (List.map e92 v2419)) :: q8 ((dI a1) :: (dI v1676) :: q1 ((AR.d ar1672 26 (List.map e92 v1671)) :: (dI (v1671.length : Int)) :: (dI v2235) :: q40 (q40 (q21 []))))))), [(.cells [(dP e88 a0.fClasses)]), .dead, .dead, .dead, .dead, .dead, .dead, .dead, .dead, .dead, .dead, .dead, .dead, .dead, .dead, .dead, .dead, .dead, .dead, .dead, .dead, (.cells [(dI v2245.fClass), (.v (.str v2245.fE.fBase)), (.v (.str v2245.fE.fForm)), (dP eS v2245.fE.fTags), (dI v2245.fE.fWeight)]), .dead, .dead, (AG.o ag2417 4 (List.map e61 v2416)), (appO 5 (List.map e92 v2419)), (AR.o ar1672 5 (List.map e92 v1671))]⟩ (by generalize v2419 = z0; cases ag2417 <;> rcases ar1672 with (_ | _) | _ <;> cases z0 <;> (as_aux_lemma => kernel_rfl)) ?_
      exact hxx2426 (v2416, v2418, v2419, v2420) _ hsx2429
theorem f29_hLx2515 (m : Nat) (a0 : S51) (a1 : Int) (o : ((List S61) × Bool)) (n : Nat) (hn : m + 3 ≤ n + 1) (v1671 : (List S92)) (nx1679 : Nat) (v1676 : Int) (ar1672 : AR) : ∀ (kx2237 : Nat) (v2231 : (List S61)) (v2233 : Int) (v2234 : (List S92)) (v2235 : Int) (ag2232 : AG) (ox2236 : ((List S61) × Bool) ⊕ ((List S61) × Int × (List S92) × Int)), iter (fun (y : (List S61) × Int × (List S92) × Int) => f29_B6 m a0 v1671 y.1 y.2.1 y.2.2.1 y.2.2.2) kx2237 (v2231, v2233, v2234, v2235) = some ox2236 → ∀ nx2238, kx2237 ≤ nx2238 → (∀ r, ox2236 = .inl r → ∀ σ, RetOk (X29 n) (resOf Proofs.Tryd.prog 29) (.tuple [(eL e61) r.1, eB r.2]) σ → (seqQ (X29 n) (cR (cR (cL (cL (cR (cR (cL (cL (cR (cL (cR (cR (cR (cR C29)))))))))))))) (blkQ (X29 n) 1 [2, 4, 5, 6, 7, 8, 18, 19] 11 (seqQ (X29 n) (cR (cR (cR (cL (cL (cR (cL (cR (cR (cR (cR C29))))))))))) (lpQ (X29 n) [2, 4, 5, 6, 7, 8, 18, 19] 1 (cL (cL (cR (cL (cR (cR (cR (cR C29)))))))) nx1679 (blkQ (X29 n) 0 [4, 5, 7] 1 (seqQ (X29 n) (cR (cR (cR (cR (cR C29))))) (fnQ (X29 n).E.T (resOf Proofs.Tryd.prog 29) (.tuple [(eL e61) o.1, eB o.2])))))))) .ret σ) → (∀ (y : (List S61) × Int × (List S92) × Int) (ag2232 : AG), ox2236 = .inr y → (seqQ (X29 n) (cR (cR (cL (cL (cR (cR (cL (cL (cR (cL (cR (cR (cR (cR C29)))))))))))))) (blkQ (X29 n) 1 [2, 4, 5, 6, 7, 8, 18, 19] 11 (seqQ (X29 n) (cR (cR (cR (cL (cL (cR (cL (cR (cR (cR (cR C29))))))))))) (lpQ (X29 n) [2, 4, 5, 6, 7, 8, 18, 19] 1 (cL (cL (cR (cL (cR (cR (cR (cR C29)))))))) nx1679 (blkQ (X29 n) 0 [4, 5, 7] 1 (seqQ (X29 n) (cR (cR (cR (cR (cR C29))))) (fnQ (X29 n).E.T (resOf Proofs.Tryd.prog 29) (.tuple [(eL e61) o.1, eB o.2])))))))) .normal ⟨q2 ((.ptr 0 0) :: q1 ((appD 11 (List.map e61 [])) :: (dB false) :: q1 ((AG.d ag2232 13 (List.map e61 y.1)) :: (dI y.2.1) :: (appD 14 (List.map e92 y.2.2.1)) :: q8 ((dI a1) :: (dI v1676) :: q40 (q40 (q25 [])))))), [(.cells [(dP e88 a0.fClasses)]), .dead, .dead, .dead, .dead, .dead, .dead, .dead, .dead, .dead, .dead, .dead, .dead, (AG.o ag2232 4 (List.map e61 y.1)), (appO 5 (List.map e92 y.2.2.1)), (AR.o ar1672 5 (List.map e92 v1671))]⟩) → Lp (X29 n) [2, 4, 5, 7, 8, 9, 18, 19, 21, 22, 23] 11 (cL (cL (cR (cL (cR (cL (cL (cR (cR (cL (cL (cR (cL (cR (cR (cR (cR C29))))))))))))))))) nx2238 ⟨q2 ((.ptr 0 0) :: q1 ((appD 11 (List.map e61 [])) :: (dB false) :: q1 ((AG.d ag2232 13 (List.map e61 v2231)) :: (dI v2233) :: (appD 14 (List.map e92 v2234)) :: q8 ((dI a1) :: (dI v1676) :: q1 ((AR.d ar1672 15 (List.map e92 v1671)) :: (dI (v1671.length : Int)) :: (dI v2235) :: q40 (q40 (q21 []))))))), [(.cells [(dP e88 a0.fClasses)]), .dead, .dead, .dead, .dead, .dead, .dead, .dead, .dead, .dead, .dead, .dead, .dead, (AG.o ag2232 4 (List.map e61 v2231)), (appO 5 (List.map e92 v2234)), (AR.o ar1672 5 (List.map e92 v1671))]⟩ (blkQ (X29 n) 2 [2, 4, 5, 7, 8, 9, 18, 19] 11 (seqQ (X29 n) (cR (cR (cL (cL (cR (cR (cL (cL (cR (cL (cR (cR (cR (cR C29)))))))))))))) (blkQ (X29 n) 1 [2, 4, 5, 6, 7, 8, 18, 19] 11 (seqQ (X29 n) (cR (cR (cR (cL (cL (cR (cL (cR (cR (cR (cR C29))))))))))) (lpQ (X29 n) [2, 4, 5, 6, 7, 8, 18, 19] 1 (cL (cL (cR (cL (cR (cR (cR (cR C29)))))))) nx1679 (blkQ (X29 n) 0 [4, 5, 7] 1 (seqQ (X29 n) (cR (cR (cR (cR (cR C29))))) (fnQ (X29 n).E.T (resOf Proofs.Tryd.prog 29) (.tuple [(eL e61) o.1, eB o.2]))))))))) := by
  intro kx2237
  induction kx2237 with
  | zero => intro v2231 v2233 v2234 v2235 ag2232 ox2236 h; exact (iter_zero h).elim
  | succ kx2237 ihx2239 =>
    intro v2231 v2233 v2234 v2235 ag2232 ox2236 h nx2238 hnx2242 hrx2240 hxx2241
    obtain ⟨nx2238, rfl⟩ : ∃ q, nx2238 = q + 1 := ⟨nx2238 - 1, by omega⟩
    obtain ⟨sx2243, h, hsx2244⟩ := iter_some h
    have h : f29_B6 m a0 v1671 v2231 v2233 v2234 v2235 = some sx2243 := h
    unfold f29_B6 at h
    refine Lp.succ ?_
    refine Wp.seq' (by kernel_rfl) ?_
    refine Wp.region (by kernel_rfl) ?_
    refine Ops.seg' 1 1 (by kernel_rfl) ?_
    refine Ops.done (by kernel_rfl) ?_
    refine seqQ.n ?_
    refine Wp.seq' (by kernel_rfl) ?_
    refine Wp.cnd h [2, 4, 5, 7, 8, 9, 18, 19, 21, 22, 23] 16 (by kernel_rfl) (fun h => ?_) (fun h => ?_)
    · refine Wp.skip (by kernel_rfl) ?_
      refine sqQ.n ⟨q2 ((.ptr 0 0) :: q1 ((appD 16 (List.map e61 [])) :: (dB false) :: q1 ((AG.d ag2232 18 (List.map e61 v2231)) :: (dI v2233) :: (appD 19 (List.map e92 v2234)) :: q8 ((dI a1) :: (dI v1676) :: q1 ((AR.d ar1672 20 (List.map e92 v1671)) :: (dI (v1671.length : Int)) :: (dI v2235) :: q40 (q40 (q21 []))))))), [(.cells [(dP e88 a0.fClasses)]), .dead, .dead, .dead, .dead, .dead, .dead, .dead, .dead, .dead, .dead, .dead, .dead, .dead, .dead, .dead, .dead, .dead, (AG.o ag2232 4 (List.map e61 v2231)), (appO 5 (List.map e92 v2234)), (AR.o ar1672 5 (List.map e92 v1671))]⟩ (by generalize v2234 = z0; cases ag2232 <;> rcases ar1672 with (_ | _) | _ <;> cases z0 <;> (as_aux_lemma => kernel_rfl)) ?_
      refine seqQ.n ?_
      refine Wp.seq' (by kernel_rfl) ?_
      refine Wp.block' 3 [2, 4, 5, 7, 8, 9, 18, 19, 21, 22, 23] 21 (by kernel_rfl) ?_
      refine Wp.seq' (by kernel_rfl) ?_
      refine Wp.region (by kernel_rfl) ?_
      obtain ⟨v2245, ev2245, h⟩ := bnd_some h
      refine Ops.one' 1 (fun h0 e0 => (ix_d (T := T) h0 94 93 5 (AR.d ar1672 20 (List.map e92 v1671)) e92 v1671 v2235 v2245 (AR.hd _ _ _) ev2245 (by kernel_rfl) (by kernel_rfl) (fun _ => rfl))) (by kernel_rfl) (by kernel_rfl) ?_
      refine Ops.seg' 3 4 (by kernel_rfl) ?_
      refine Ops.done (by kernel_rfl) ?_
      refine seqQ.n ?_
      refine Wp.seq' (by kernel_rfl) ?_
      refine Wp.region (by kernel_rfl) ?_
      refine Ops.seg' 4 4 (by kernel_rfl) ?_
      obtain ⟨v2246, ev2246, h⟩ := bnd_some h
      refine Ops.one' 5 (fun h0 e0 => (ix_r (T := T) h0 50 89 2 .plain e88 a0.fClasses v2245.fClass v2246 ev2246 (by kernel_rfl) (by kernel_rfl) (fun _ => rfl))) (by kernel_rfl) (by kernel_rfl) ?_
      refine Ops.seg 2 7 (by kernel_rfl) ⟨q2 ((.ptr 0 0) :: q1 ((appD 16 (List.map e61 [])) :: (dB false) :: q1 ((AG.d ag2232 18 (List.map e61 v2231)) :: (dI v2233) :: (appD 19 (List.map e92 v2234)) :: q1 ((.ptr 21 0) :: q6 ((dI a1) :: (dI v1676) :: q1 ((AR.d ar1672 20 (List.map e92 v1671)) :: (dI (v1671.length : Int)) :: (dI v2235) :: q1 ((.vptr [(vI v2245.fClass), (.str v2245.fE.fBase), (.str v2245.fE.fForm), (vP eS v2245.fE.fTags), (vI v2245.fE.fWeight)]) :: (.v (.agg [(vI v2245.fClass), (.str v2245.fE.fBase), (.str v2245.fE.fForm), (vP eS v2245.fE.fTags), (vI v2245.fE.fWeight)])) :: (.ptr 0 0) :: (dP e88 a0.fClasses) :: (.ptr 21 0) :: (dI v2245.fClass) :: (.vptr [(.str v2246.fName), (vP e90 v2246.fItems)]) :: (.vptr [(vP e90 v2246.fItems)]) :: (dP e90 v2246.fItems) :: q40 (q40 (q11 []))))))))), [(.cells [(dP e88 a0.fClasses)]), .dead, .dead, .dead, .dead, .dead, .dead, .dead, .dead, .dead, .dead, .dead, .dead, .dead, .dead, .dead, .dead, .dead, (AG.o ag2232 4 (List.map e61 v2231)), (appO 5 (List.map e92 v2234)), (AR.o ar1672 5 (List.map e92 v1671)), (.cells [(dI v2245.fClass), (.v (.str v2245.fE.fBase)), (.v (.str v2245.fE.fForm)), (dP eS v2245.fE.fTags), (dI v2245.fE.fWeight)])]⟩ (by kernel_rfl) ?_
      refine Ops.one' 8 (fun h0 e0 => (len_r (T := T) h0 87 91 .plain e90 v2246.fItems (by kernel_rfl))) (by kernel_rfl) (by kernel_rfl) ?_
      refine Ops.seg' 1 9 (by kernel_rfl) ?_
      refine Ops.done (by kernel_rfl) ?_
      refine seqQ.n ?_
      refine Wp.block' 4 [2, 4, 5, 7, 8, 9, 18, 19, 21, 22, 23] 22 (by kernel_rfl) ?_
      have hLx2512 := f29_hLx2512 m a0 a1 o n hn v2245 v2246 nx2238 nx1679 v1676 ar1672 v1671 v2235
      refine Wp.loop' [2, 4, 5, 7, 8, 9, 11, 18, 19, 21, 22, 23, 33, 34, 35] 22 (by kernel_rfl) ⟨q2 ((.ptr 0 0) :: q1 ((appD 22 (List.map e61 [])) :: (dB false) :: q1 ((AG.d ag2232 24 (List.map e61 v2231)) :: (dI v2233) :: (appD 25 (List.map e92 v2234)) :: q1 ((.ptr 21 0) :: q6 ((dI a1) :: (dI v1676) :: q1 ((AR.d ar1672 26 (List.map e92 v1671)) :: (dI (v1671.length : Int)) :: (dI v2235) :: q9 ((dP e90 v2246.fItems) :: (dI (v2246.fItems.length : Int)) :: (dI 0) :: q40 (q40 (q9 []))))))))), [(.cells [(dP e88 a0.fClasses)]), .dead, .dead, .dead, .dead, .dead, .dead, .dead, .dead, .dead, .dead, .dead, .dead, .dead, .dead, .dead, .dead, .dead, .dead, .dead, .dead, (.cells [(dI v2245.fClass), (.v (.str v2245.fE.fBase)), (.v (.str v2245.fE.fForm)), (dP eS v2245.fE.fTags), (dI v2245.fE.fWeight)]), .dead, .dead, (AG.o ag2232 4 (List.map e61 v2231)), (appO 5 (List.map e92 v2234)), (AR.o ar1672 5 (List.map e92 v1671))]⟩ (by generalize v2234 = z0; cases ag2232 <;> rcases ar1672 with (_ | _) | _ <;> cases z0 <;> (as_aux_lemma => kernel_rfl)) ?_
      rcases brk_some h with ⟨r2514, er2514, h⟩ | ⟨y2513, ey2513, h⟩
      · refine hLx2512 _ v2231 v2233 v2234 0 _ _ er2514 n (by omega) (fun r er σ hσ => ?_) (fun y ag2417 ey => by cases ey)
        cases er
        refine blkQ.r ?_
        refine seqQ.r ?_
        refine lpQ.r ?_
        cases h
        refine blkQ.r ?_
        exact hrx2240 _ hsx2244 _ (RetOk.forget [2, 4, 5, 7, 8, 9, 18, 19, 21, 22, 23] (by kernel_rfl) hσ)
      · refine hLx2512 _ v2231 v2233 v2234 0 _ _ ey2513 n (by omega) (fun r er => by cases er) (fun y ag2417 ey => ?_)
        cases ey
        refine blkQ.n ⟨q2 ((.ptr 0 0) :: q1 ((appD 21 (List.map e61 [])) :: (dB false) :: q1 ((AG.d ag2417 23 (List.map e61 y2513.1)) :: (dI y2513.2.1) :: (appD 24 (List.map e92 y2513.2.2.1)) :: q8 ((dI a1) :: (dI v1676) :: q1 ((AR.d ar1672 25 (List.map e92 v1671)) :: (dI (v1671.length : Int)) :: (dI v2235) :: q40 (q40 (q21 []))))))), [(.cells [(dP e88 a0.fClasses)]), .dead, .dead, .dead, .dead, .dead, .dead, .dead, .dead, .dead, .dead, .dead, .dead, .dead, .dead, .dead, .dead, .dead, .dead, .dead, .dead, .dead, .dead, (AG.o ag2417 4 (List.map e61 y2513.1)), (appO 5 (List.map e92 y2513.2.2.1)), (AR.o ar1672 5 (List.map e92 v1671))]⟩ (by generalize y2513.2.2.1 = z0; cases ag2417 <;> rcases ar1672 with (_ | _) | _ <;> cases z0 <;> (as_aux_lemma => kernel_rfl)) ?_
        refine seqQ.n ?_
        refine Wp.region (by kernel_rfl) ?_
        refine Ops.seg' 2 2 (by kernel_rfl) ?_
        refine Ops.done (by kernel_rfl) ?_
        refine lpQ.n ⟨q2 ((.ptr 0 0) :: q1 ((appD 11 (List.map e61 [])) :: (dB false) :: q1 ((AG.d ag2417 13 (List.map e61 y2513.1)) :: (dI y2513.2.1) :: (appD 14 (List.map e92 y2513.2.2.1)) :: q8 ((dI a1) :: (dI v1676) :: q1 ((AR.d ar1672 15 (List.map e92 v1671)) :: (dI (v1671.length : Int)) :: (dI (w64 (v2235 + 1))) :: q40 (q40 (q21 []))))))), [(.cells [(dP e88 a0.fClasses)]), .dead, .dead, .dead, .dead, .dead, .dead, .dead, .dead, .dead, .dead, .dead, .dead, (AG.o ag2417 4 (List.map e61 y2513.1)), (appO 5 (List.map e92 y2513.2.2.1)), (AR.o ar1672 5 (List.map e92 v1671))]⟩ (by generalize y2513.2.2.1 = z0; cases ag2417 <;> rcases ar1672 with (_ | _) | _ <;> cases z0 <;> (as_aux_lemma => kernel_rfl)) ?_
        cases h
        exact ihx2239 y2513.1 y2513.2.1 y2513.2.2.1 (w64 (v2235 + 1)) _ _ hsx2244 _ (by omega) hrx2240 hxx2241
    · refine Wp.exit (id := 2) (by kernel_rfl) ?_
      refine sqQ.x ?_
      refine seqQ.x ?_
      cases h
      refine lpQ.x ?_
      refine blkQ.x ⟨q2 ((.ptr 0 0) :: q1 ((appD 11 (List.map e61 [])) :: (dB false) :: q1 ((AG.d ag2232 13 (List.map e61 v2231)) :: (dI v2233) :: (appD 14 (List.map e92 v2234)) :: q8 ((dI a1) :: (dI v1676) :: q40 (q40 (q25 [])))))), [(.cells [(dP e88 a0.fClasses)]), .dead, .dead, .dead, .dead, .dead, .dead, .dead, .dead, .dead, .dead, .dead, .dead, (AG.o ag2232 4 (List.map e61 v2231)), (appO 5 (List.map e92 v2234)), (AR.o ar1672 5 (List.map e92 v1671))]⟩ (by generalize v2234 = z0; cases ag2232 <;> rcases ar1672 with (_ | _) | _ <;> cases z0 <;> (as_aux_lemma => kernel_rfl)) ?_
      exact hxx2241 (v2231, v2233, v2234, v2235) _ hsx2244
theorem f29_hLx2518 (m : Nat) (a0 : S51) (a1 : Int) (o : ((List S61) × Bool)) (n : Nat) (hn : m + 3 ≤ n + 1)  : ∀ (kx1678 : Nat) (v1671 : (List S92)) (v1673 : (List S61)) (v1675 : Int) (v1676 : Int) (ar1672 : AR) (ag1674 : AG) (ox1677 : ((List S61) × Bool) ⊕ ((List S92) × (List S61) × Int × Int)), iter (fun (y : (List S92) × (List S61) × Int × Int) => f29_B7 m a0 a1 y.1 y.2.1 y.2.2.1 y.2.2.2) kx1678 (v1671, v1673, v1675, v1676) = some ox1677 → ∀ nx1679, kx1678 ≤ nx1679 → (∀ r, ox1677 = .inl r → ∀ σ, RetOk (X29 n) (resOf Proofs.Tryd.prog 29) (.tuple [(eL e61) r.1, eB r.2]) σ → (seqQ (X29 n) (cR (cR (cR (cR (cR C29))))) (fnQ (X29 n).E.T (resOf Proofs.Tryd.prog 29) (.tuple [(eL e61) o.1, eB o.2]))) .ret σ) → (∀ (y : (List S92) × (List S61) × Int × Int) (ar1672 : AR) (ag1674 : AG), ox1677 = .inr y → (seqQ (X29 n) (cR (cR (cR (cR (cR C29))))) (fnQ (X29 n).E.T (resOf Proofs.Tryd.prog 29) (.tuple [(eL e61) o.1, eB o.2]))) .normal ⟨q4 ((appD 1 (List.map e61 [])) :: (dB false) :: q1 ((AG.d ag1674 3 (List.map e61 y.2.1)) :: q40 (q40 (q37 [])))), [(.cells [(dP e88 a0.fClasses)]), .dead, (AR.o ar1672 5 (List.map e92 y.1)), (AG.o ag1674 4 (List.map e61 y.2.1)), .dead, .dead]⟩) → Lp (X29 n) [2, 4, 5, 6, 7, 8, 18, 19] 1 (cL (cL (cR (cL (cR (cR (cR (cR C29)))))))) nx1679 ⟨q2 ((.ptr 0 0) :: q1 ((appD 1 (List.map e61 [])) :: (dB false) :: (AR.d ar1672 2 (List.map e92 v1671)) :: (AG.d ag1674 3 (List.map e61 v1673)) :: (dI v1675) :: q9 ((dI a1) :: (dI v1676) :: q40 (q40 (q25 []))))), [(.cells [(dP e88 a0.fClasses)]), .dead, (AR.o ar1672 5 (List.map e92 v1671)), (AG.o ag1674 4 (List.map e61 v1673)), .dead, .dead]⟩ (blkQ (X29 n) 0 [4, 5, 7] 1 (seqQ (X29 n) (cR (cR (cR (cR (cR C29))))) (fnQ (X29 n).E.T (resOf Proofs.Tryd.prog 29) (.tuple [(eL e61) o.1, eB o.2])))) := by
  intro kx1678
  induction kx1678 with
  | zero => intro v1671 v1673 v1675 v1676 ar1672 ag1674 ox1677 h; exact (iter_zero h).elim
  | succ kx1678 ihx1680 =>
    intro v1671 v1673 v1675 v1676 ar1672 ag1674 ox1677 h nx1679 hnx1683 hrx1681 hxx1682
    obtain ⟨nx1679, rfl⟩ : ∃ q, nx1679 = q + 1 := ⟨nx1679 - 1, by omega⟩
    obtain ⟨sx1684, h, hsx1685⟩ := iter_some h
    have h : f29_B7 m a0 a1 v1671 v1673 v1675 v1676 = some sx1684 := h
    unfold f29_B7 at h
    refine Lp.succ ?_
    refine Wp.seq' (by kernel_rfl) ?_
    refine Wp.region (by kernel_rfl) ?_
    refine Ops.seg' 1 1 (by kernel_rfl) ?_
    refine Ops.done (by kernel_rfl) ?_
    refine seqQ.n ?_
    refine Wp.seq' (by kernel_rfl) ?_
    refine Wp.cnd h [2, 4, 5, 6, 7, 8, 18, 19] 6 (by kernel_rfl) (fun h => ?_) (fun h => ?_)
    · refine Wp.skip (by kernel_rfl) ?_
      refine sqQ.n ⟨q2 ((.ptr 0 0) :: q1 ((appD 6 (List.map e61 [])) :: (dB false) :: (AR.d ar1672 7 (List.map e92 v1671)) :: (AG.d ag1674 8 (List.map e61 v1673)) :: (dI v1675) :: q9 ((dI a1) :: (dI v1676) :: q40 (q40 (q25 []))))), [(.cells [(dP e88 a0.fClasses)]), .dead, .dead, .dead, .dead, .dead, .dead, (AR.o ar1672 5 (List.map e92 v1671)), (AG.o ag1674 4 (List.map e61 v1673)), .dead, .dead]⟩ (by rcases ar1672 with (_ | _) | _ <;> cases ag1674 <;> kernel_rfl) ?_
      refine seqQ.n ?_
      refine Wp.seq' (by kernel_rfl) ?_
      refine Wp.block' 1 [2, 4, 5, 6, 7, 8, 18, 19] 11 (by kernel_rfl) ?_
      refine Wp.seq' (by kernel_rfl) ?_
      refine Wp.region (by kernel_rfl) ?_
      refine Ops.seg' 1 1 (by kernel_rfl) ?_
      refine Ops.done (by kernel_rfl) ?_
      refine seqQ.n ?_
      refine Wp.seq' (by kernel_rfl) ?_
      refine Wp.seq' (by kernel_rfl) ?_
      refine Wp.region (by kernel_rfl) ?_
      refine Ops.seg' 1 1 (by kernel_rfl) ?_
      refine Ops.one' 2 (fun h0 e0 => (len_d (T := T) h0 94 93 (AR.d ar1672 7 (List.map e92 v1671)) e92 v1671 (AR.hd _ _ _) (by kernel_rfl))) (by kernel_rfl) (by kernel_rfl) ?_
      refine Ops.seg' 1 3 (by kernel_rfl) ?_
      refine Ops.done (by kernel_rfl) ?_
      refine seqQ.n ?_
      refine Wp.block' 2 [2, 4, 5, 7, 8, 9, 18, 19] 11 (by kernel_rfl) ?_
      have hLx2515 := f29_hLx2515 m a0 a1 o n hn v1671 nx1679 v1676 ar1672
      refine Wp.loop' [2, 4, 5, 7, 8, 9, 18, 19, 21, 22, 23] 11 (by kernel_rfl) ⟨q2 ((.ptr 0 0) :: q1 ((appD 11 (List.map e61 [])) :: (dB false) :: q1 ((AG.d ag1674 13 (List.map e61 v1673)) :: (dI v1675) :: (appD 14 (List.map e92 [])) :: q8 ((dI a1) :: (dI v1676) :: q1 ((AR.d ar1672 15 (List.map e92 v1671)) :: (dI (v1671.length : Int)) :: (dI 0) :: q40 (q40 (q21 []))))))), [(.cells [(dP e88 a0.fClasses)]), .dead, .dead, .dead, .dead, .dead, .dead, .dead, .dead, .dead, .dead, .dead, .dead, (AG.o ag1674 4 (List.map e61 v1673)), .dead, (AR.o ar1672 5 (List.map e92 v1671))]⟩ (by rcases ar1672 with (_ | _) | _ <;> cases ag1674 <;> kernel_rfl) ?_
      rcases brk_some h with ⟨r2517, er2517, h⟩ | ⟨y2516, ey2516, h⟩
      · refine hLx2515 _ v1673 v1675 [] 0 _ _ er2517 n (by omega) (fun r er σ hσ => ?_) (fun y ag2232 ey => by cases ey)
        cases er
        refine seqQ.r ?_
        refine blkQ.r ?_
        refine seqQ.r ?_
        refine lpQ.r ?_
        cases h
        refine blkQ.r ?_
        exact hrx1681 _ hsx1685 _ (RetOk.forget [2, 4, 5, 6, 7, 8, 18, 19] (by kernel_rfl) hσ)
      · refine hLx2515 _ v1673 v1675 [] 0 _ _ ey2516 n (by omega) (fun r er => by cases er) (fun y ag2232 ey => ?_)
        cases ey
        refine seqQ.n ?_
        refine Wp.region (by kernel_rfl) ?_
        refine Ops.seg' 2 2 (by kernel_rfl) ?_
        refine Ops.done (by kernel_rfl) ?_
        refine blkQ.n ⟨q2 ((.ptr 0 0) :: q1 ((appD 11 (List.map e61 [])) :: (dB false) :: (appD 12 (List.map e92 y2516.2.2.1)) :: (AG.d ag2232 13 (List.map e61 y2516.1)) :: (dI y2516.2.1) :: q9 ((dI a1) :: (dI v1676) :: q40 (q40 (q25 []))))), [(.cells [(dP e88 a0.fClasses)]), .dead, .dead, .dead, .dead, .dead, .dead, .dead, .dead, .dead, .dead, .dead, (appO 5 (List.map e92 y2516.2.2.1)), (AG.o ag2232 4 (List.map e61 y2516.1)), .dead, .dead]⟩ (by generalize y2516.2.2.1 = z0; cases ag2232 <;> cases z0 <;> kernel_rfl) ?_
        refine seqQ.n ?_
        refine Wp.region (by kernel_rfl) ?_
        refine Ops.seg' 2 2 (by kernel_rfl) ?_
        refine Ops.done (by kernel_rfl) ?_
        refine lpQ.n ⟨q2 ((.ptr 0 0) :: q1 ((appD 1 (List.map e61 [])) :: (dB false) :: (AR.d (AR.ag (AG.of .nil (List.map e92 y2516.2.2.1))) 2 (List.map e92 y2516.2.2.1)) :: (AG.d ag2232 3 (List.map e61 y2516.1)) :: (dI y2516.2.1) :: q9 ((dI a1) :: (dI (w64 (v1676 + 1))) :: q40 (q40 (q25 []))))), [(.cells [(dP e88 a0.fClasses)]), .dead, (AR.o (AR.ag (AG.of .nil (List.map e92 y2516.2.2.1))) 5 (List.map e92 y2516.2.2.1)), (AG.o ag2232 4 (List.map e61 y2516.1)), .dead, .dead]⟩ (by generalize y2516.2.2.1 = z0; cases ag2232 <;> cases z0 <;> kernel_rfl) ?_
        cases h
        exact ihx1680 y2516.2.2.1 y2516.1 y2516.2.1 (w64 (v1676 + 1)) _ _ _ hsx1685 _ (by omega) hrx1681 hxx1682
    · refine Wp.exit (id := 0) (by kernel_rfl) ?_
      refine sqQ.x ?_
      refine seqQ.x ?_
      cases h
      refine lpQ.x ?_
      refine blkQ.x ⟨q4 ((appD 1 (List.map e61 [])) :: (dB false) :: q1 ((AG.d ag1674 3 (List.map e61 v1673)) :: q40 (q40 (q37 [])))), [(.cells [(dP e88 a0.fClasses)]), .dead, (AR.o ar1672 5 (List.map e92 v1671)), (AG.o ag1674 4 (List.map e61 v1673)), .dead, .dead]⟩ (by rcases ar1672 with (_ | _) | _ <;> cases ag1674 <;> kernel_rfl) ?_
      exact hxx1682 (v1671, v1673, v1675, v1676) _ _ hsx1685
theorem ok29 (m : Nat) (a0 : S51) (a1 : Int) (o : ((List S61) × Bool)) (h : f29 m a0 a1 = some o) (n : Nat) (hn : m + 3 ≤ n) : Fn Proofs.Tryd.prog EG n 29 [.v (e51 a0), .v (eI a1)] (.tuple [(eL e61) o.1, eB o.2]) := by
  obtain ⟨n, rfl⟩ : ∃ q, n = q + 1 := ⟨n - 1, by omega⟩
  unfold f29 at h
  refine Fn.of (by kernel_rfl) (by kernel_rfl) (by kernel_rfl) ⟨(.v (.agg [(vP e88 a0.fClasses)])) :: (dI a1) :: u40 (u40 (u40 (u3 []))), []⟩ (by kernel_rfl) ?_
  refine Wp.seq' (by kernel_rfl) ?_
  refine Wp.region (by kernel_rfl) ?_
  refine Ops.seg' 3 3 (by kernel_rfl) ?_
  refine Ops.done (by kernel_rfl) ?_
  refine seqQ.n ?_
  refine Wp.seq' (by kernel_rfl) ?_
  refine Wp.region (by kernel_rfl) ?_
  refine Ops.seg' 3 3 (by kernel_rfl) ?_
  refine Ops.done (by kernel_rfl) ?_
  refine seqQ.n ?_
  refine Wp.seq' (by kernel_rfl) ?_
  refine Wp.region (by kernel_rfl) ?_
  refine Ops.seg' 1 1 (by kernel_rfl) ?_
  refine Ops.done (by kernel_rfl) ?_
  refine seqQ.n ?_
  refine Wp.seq' (by kernel_rfl) ?_
  refine Wp.region (by kernel_rfl) ?_
  refine Ops.seg' 1 1 (by kernel_rfl) ?_
  refine Ops.done (by kernel_rfl) ?_
  refine seqQ.n ?_
  refine Wp.seq' (by kernel_rfl) ?_
  refine Wp.seq' (by kernel_rfl) ?_
  refine Wp.region (by kernel_rfl) ?_
  refine Ops.seg' 2 2 (by kernel_rfl) ?_
  refine Ops.done (by kernel_rfl) ?_
  refine seqQ.n ?_
  refine Wp.block' 0 [4, 5, 7] 1 (by kernel_rfl) ?_
  have hLx2518 := f29_hLx2518 m a0 a1 o n hn 
  refine Wp.loop' [2, 4, 5, 6, 7, 8, 18, 19] 1 (by kernel_rfl) ⟨q2 ((.ptr 0 0) :: q1 ((appD 1 (List.map e61 [])) :: (dB false) :: (AR.d (AR.fl .nonfull) 2 (List.map e92 ([(⟨0, (⟨ByteArray.empty, ByteArray.empty, [], 0⟩ : S61)⟩ : S92)]))) :: (AG.d (AG.of .nil (List.map e61 [])) 3 (List.map e61 [])) :: (dI 0) :: q9 ((dI a1) :: (dI 0) :: q40 (q40 (q25 []))))), [(.cells [(dP e88 a0.fClasses)]), .dead, (AR.o (AR.fl .nonfull) 5 (List.map e92 ([(⟨0, (⟨ByteArray.empty, ByteArray.empty, [], 0⟩ : S61)⟩ : S92)]))), (AG.o (AG.of .nil (List.map e61 [])) 4 (List.map e61 [])), .dead, .dead]⟩ (by kernel_rfl) ?_
  rcases brk_some h with ⟨r2520, er2520, h⟩ | ⟨y2519, ey2519, h⟩
  · refine hLx2518 _ ([(⟨0, (⟨ByteArray.empty, ByteArray.empty, [], 0⟩ : S61)⟩ : S92)]) [] 0 0 _ _ _ er2520 n (by omega) (fun r er σ hσ => ?_) (fun y ar1672 ag1674 ey => by cases ey)
    cases er
    refine seqQ.r ?_
    exact fnQ.r' (X29 n) (fun z => (.tuple [(eL e61) z.1, eB z.2])) h hσ
  · refine hLx2518 _ ([(⟨0, (⟨ByteArray.empty, ByteArray.empty, [], 0⟩ : S61)⟩ : S92)]) [] 0 0 _ _ _ ey2519 n (by omega) (fun r er => by cases er) (fun y ar1672 ag1674 ey => ?_)
    cases ey
    refine seqQ.n ?_
    refine Wp.seq' (by kernel_rfl) ?_
    refine Wp.region (by kernel_rfl) ?_
    refine Ops.seg' 3 3 (by kernel_rfl) ?_
    refine Ops.done (by kernel_rfl) ?_
    refine seqQ.n ?_
    refine Wp.ret (by kernel_rfl) ?_
    exact fnQ.r' (X29 n) (fun z => (.tuple [(eL e61) z.1, eB z.2])) h (RetOk.tup [(AG.d ag1674 3 (List.map e61 y2519.2.1)), (dB true)] (by kernel_rfl) (.d (AG.d ag1674 3 (List.map e61 y2519.2.1)) _ (AG.frz _ _ _ _ _) (AG.nt _ _ _) (.v (vB true) _ (by kernel_rfl) (by kernel_rfl) .nil)))

/-! ### 9 glosswright/glosswrightlaw6.LexiconEntriesMatchSpec -/
def f9_r1 (m : Nat) (v10 : Bool) : Option Bool :=
  some v10
def f9_r2 (m : Nat) (v25 : Bool) : Option Bool :=
  some v25
def f9_r3 (m : Nat) (v34 : Bool) : Option Bool :=
  some v34
def f9_r4 (m : Nat) (v42 : Bool) : Option Bool :=
  some v42
def f9_r5 (m : Nat) (a0 : S51) (a1 : Int) (v2 : ((List S61) × S27)) (v17 : Bool) : Option Bool :=
  cnd v17
  (f9_r2 m (((v2.2.fCode == 3) && ((v2.2.fIndex == (-2)) && true)) && ((v2.1.length : Int) == 0)))
  (bnd (f29 m a0 a1) fun v27 =>
  cnd (!v27.2)
  (some true)
  (cnd (decide ((v27.1.length : Int) > 300))
  (f9_r3 m (((v2.2.fCode == 17) && ((v2.2.fIndex == (-1)) && true)) && ((v2.1.length : Int) == 0)))
  (bnd (cnd ((v2.2.fCode == 0) && ((v2.2.fIndex == 0) && true))
  (bnd (f30 m v2.1 v27.1) fun v44 =>
  some v44)
  (some false)) fun v42 =>
  f9_r4 m v42)))
def f9 (m : Nat) (a0 : S51) (a1 : Int) : Option Bool :=
  bnd (f26 m ) fun v1 =>
  cnd (!v1)
  (some false)
  (bnd (f27 m a0 a1) fun v2 =>
  bnd (f28 m a0) fun v3 =>
  cnd (!((v3.fCode == 0) && ((v3.fIndex == 0) && true)))
  (f9_r1 m (((v2.2.fCode == v3.fCode) && ((v2.2.fIndex == v3.fIndex) && true)) && ((v2.1.length : Int) == 0)))
  (f9_r5 m a0 a1 v2 ((decide (a1 < 1)) || (decide (a1 > 30)))))
noncomputable abbrev X9 (n : Nat) : Cx := cxOf Proofs.Tryd.prog EG 9 n
noncomputable def C9 : Code := bodyOf Proofs.Tryd.prog 9
theorem ok9 (m : Nat) (a0 : S51) (a1 : Int) (o : Bool) (h : f9 m a0 a1 = some o) (n : Nat) (hn : m + 7 ≤ n) : Fn Proofs.Tryd.prog EG n 9 [.v (e51 a0), .v (eI a1)] (eB o) := by
  obtain ⟨n, rfl⟩ : ∃ q, n = q + 1 := ⟨n - 1, by omega⟩
  unfold f9 at h
  refine Fn.of (by kernel_rfl) (by kernel_rfl) (by kernel_rfl) ⟨(.v (.agg [(vP e88 a0.fClasses)])) :: (dI a1) :: u40 (u30 []), []⟩ (by kernel_rfl) ?_
  refine Wp.seq' (by kernel_rfl) ?_
  refine Wp.region (by kernel_rfl) ?_
  refine Ops.seg' 2 2 (by kernel_rfl) ?_
  refine Ops.done (by kernel_rfl) ?_
  refine seqQ.n ?_
  refine Wp.seq' (by kernel_rfl) ?_
  refine Wp.seq' (by kernel_rfl) ?_
  refine Wp.region (by kernel_rfl) ?_
  obtain ⟨v1, ev1, h⟩ := bnd_some h
  refine Ops.one' 1 (fun h0 e0 => (call_ok (E' := EG) (h := h0) (by kernel_rfl) Args.nil (ok26 m  v1 ev1 n (by omega)))) (by kernel_rfl) (by kernel_rfl) ?_
  refine Ops.seg' 1 2 (by kernel_rfl) ?_
  refine Ops.done (by kernel_rfl) ?_
  refine seqQ.n ?_
  refine Wp.cnd h [1, 2, 4] 1 (by kernel_rfl) (fun h => ?_) (fun h => ?_)
  · refine Wp.seq' (by kernel_rfl) ?_
    refine Wp.region (by kernel_rfl) ?_
    refine Ops.seg' 1 1 (by kernel_rfl) ?_
    refine Ops.done (by kernel_rfl) ?_
    refine seqQ.n ?_
    refine Wp.ret (by kernel_rfl) ?_
    refine sqQ.r ?_
    refine seqQ.r ?_
    exact fnQ.r' (X9 n) (fun z => (eB z)) h (RetOk.mk' (dB false) (by kernel_rfl) (by kernel_rfl))
  · refine Wp.skip (by kernel_rfl) ?_
    refine sqQ.n' ?_
    refine seqQ.n ?_
    refine Wp.seq' (by kernel_rfl) ?_
    refine Wp.region (by kernel_rfl) ?_
    refine Ops.seg' 2 2 (by kernel_rfl) ?_
    obtain ⟨v2, ev2, h⟩ := bnd_some h
    refine Ops.one' 3 (fun h0 e0 => (call_ok (E' := EG) (h := h0) (by kernel_rfl) (Args.v (.agg [(vP e88 a0.fClasses)]) (e51 a0) (by kernel_rfl) (Args.v (vI a1) (eI a1) (by kernel_rfl) Args.nil)) (ok27 m a0 a1 v2 ev2 n (by omega)))) (by kernel_rfl) (by kernel_rfl) ?_
    refine Ops.seg' 6 9 (by kernel_rfl) ?_
    refine Ops.done (by kernel_rfl) ?_
    refine seqQ.n ?_
    refine Wp.seq' (by kernel_rfl) ?_
    refine Wp.seq' (by kernel_rfl) ?_
    refine Wp.region (by kernel_rfl) ?_
    refine Ops.seg' 1 1 (by kernel_rfl) ?_
    obtain ⟨v3, ev3, h⟩ := bnd_some h
    refine Ops.one' 2 (fun h0 e0 => (call_ok (E' := EG) (h := h0) (by kernel_rfl) (Args.v (.agg [(vP e88 a0.fClasses)]) (e51 a0) (by kernel_rfl) Args.nil) (ok28 m a0 v3 ev3 n (by omega)))) (by kernel_rfl) (by kernel_rfl) ?_
    refine Ops.seg' 2 4 (by kernel_rfl) ?_
    refine Ops.done (by kernel_rfl) ?_
    refine seqQ.n ?_
    refine Wp.seq' (by kernel_rfl) ?_
    refine Wp.region (by kernel_rfl) ?_
    refine Ops.seg' 3 3 (by kernel_rfl) ?_
    refine Ops.done (by kernel_rfl) ?_
    refine seqQ.n ?_
    refine Wp.cnd h [1, 2, 4, 5, 6] 3 (by kernel_rfl) (fun h => ?_) (fun h => ?_)
    · refine Wp.seq' (by kernel_rfl) ?_
      refine Wp.region (by kernel_rfl) ?_
      refine Ops.seg' 4 4 (by kernel_rfl) ?_
      refine Ops.hv (fun K => ∀ (d6 d7 d8 : D) (v9 : Bool) (v10 : Bool), f9_r1 m v10 = some o → K 8 ⟨(.v (.agg [(vP e88 a0.fClasses)])) :: (dI a1) :: (.ptr 0 0) :: u1 ((dB false) :: (dP e61 v2.1) :: (.ptr 1 0) :: (.ptr 2 0) :: u2 ((dB v1) :: (dB (!v1)) :: (.v (.tuple [(vP e61 v2.1), (.agg [(vI v2.2.fCode), (vI v2.2.fIndex)])])) :: (.v (.agg [(vP e88 a0.fClasses)])) :: (dI a1) :: (.v (.tuple [(vP e61 v2.1), (.agg [(vI v2.2.fCode), (vI v2.2.fIndex)])])) :: (dP e61 v2.1) :: (.v (.agg [(vI v2.2.fCode), (vI v2.2.fIndex)])) :: (.v (.agg [(vP e88 a0.fClasses)])) :: (.v (.agg [(vI v3.fCode), (vI v3.fIndex)])) :: (.v (.agg [(vI v3.fCode), (vI v3.fIndex)])) :: (.v (.agg [(vI 0), (vI 0)])) :: (dB (!((v3.fCode == 0) && ((v3.fIndex == 0) && true)))) :: (.v (.agg [(vI v2.2.fCode), (vI v2.2.fIndex)])) :: (.v (.agg [(vI v3.fCode), (vI v3.fIndex)])) :: (dB v9) :: (dB v9) :: d6 :: d7 :: d8 :: (dB v10) :: u40 (u1 []))), [(.cells [(dP e88 a0.fClasses)]), (.cells [(dI v2.2.fCode), (dI v2.2.fIndex)]), (.cells [(dI v3.fCode), (dI v3.fIndex)])]⟩) ?_ fun J9j11 => ?_
      · intro d6 d7 d8 v9 v10 h
        unfold f9_r1 at h
        refine Ops.seg' 1 9 (by kernel_rfl) ?_
        refine Ops.done (by kernel_rfl) ?_
        refine seqQ.n ?_
        refine Wp.ret (by kernel_rfl) ?_
        refine sqQ.r ?_
        refine seqQ.r ?_
        exact fnQ.r' (X9 n) (fun z => (eB z)) h (RetOk.mk' (dB v10) (by kernel_rfl) (by kernel_rfl))
      refine Ops.hv (fun K => ∀ v4 : Bool, f9_r1 m (v4 && ((v2.1.length : Int) == 0)) = some o → K 4 ⟨(.v (.agg [(vP e88 a0.fClasses)])) :: (dI a1) :: (.ptr 0 0) :: u1 ((dB false) :: (dP e61 v2.1) :: (.ptr 1 0) :: (.ptr 2 0) :: u2 ((dB v1) :: (dB (!v1)) :: (.v (.tuple [(vP e61 v2.1), (.agg [(vI v2.2.fCode), (vI v2.2.fIndex)])])) :: (.v (.agg [(vP e88 a0.fClasses)])) :: (dI a1) :: (.v (.tuple [(vP e61 v2.1), (.agg [(vI v2.2.fCode), (vI v2.2.fIndex)])])) :: (dP e61 v2.1) :: (.v (.agg [(vI v2.2.fCode), (vI v2.2.fIndex)])) :: (.v (.agg [(vP e88 a0.fClasses)])) :: (.v (.agg [(vI v3.fCode), (vI v3.fIndex)])) :: (.v (.agg [(vI v3.fCode), (vI v3.fIndex)])) :: (.v (.agg [(vI 0), (vI 0)])) :: (dB (!((v3.fCode == 0) && ((v3.fIndex == 0) && true)))) :: (.v (.agg [(vI v2.2.fCode), (vI v2.2.fIndex)])) :: (.v (.agg [(vI v3.fCode), (vI v3.fIndex)])) :: (dB v4) :: (dB v4) :: u40 (u5 []))), [(.cells [(dP e88 a0.fClasses)]), (.cells [(dI v2.2.fCode), (dI v2.2.fIndex)]), (.cells [(dI v3.fCode), (dI v3.fIndex)])]⟩) ?_ fun G9g5 => Ops.st _ (by kernel_rfl) (G9g5 ((v2.2.fCode == v3.fCode) && ((v2.2.fIndex == v3.fIndex) && true)) h)
      intro v4 h
      cases v4
      · refine Ops.seg' 4 8 (by kernel_rfl) ?_
        exact Ops.st _ (by kernel_rfl) (J9j11 U U U false false h)
      · refine Ops.seg' 1 5 (by kernel_rfl) ?_
        refine Ops.one' 6 (fun h0 e0 => (len_r (T := T) h0 53 62 .plain e61 v2.1 (by kernel_rfl))) (by kernel_rfl) (by kernel_rfl) ?_
        refine Ops.seg' 2 8 (by kernel_rfl) ?_
        exact Ops.st _ (by kernel_rfl) (J9j11 (dP e61 v2.1) (dI (v2.1.length : Int)) (dB ((v2.1.length : Int) == 0)) true ((v2.1.length : Int) == 0) h)
    · refine Wp.skip (by kernel_rfl) ?_
      refine sqQ.n' ?_
      refine seqQ.n ?_
      refine Wp.seq' (by kernel_rfl) ?_
      refine Wp.seq' (by kernel_rfl) ?_
      refine Wp.region (by kernel_rfl) ?_
      refine Ops.seg' 3 3 (by kernel_rfl) ?_
      refine Ops.hv (fun K => ∀ (d14 d15 : D) (v16 : Bool) (v17 : Bool), f9_r5 m a0 a1 v2 v17 = some o → K 6 ⟨(.v (.agg [(vP e88 a0.fClasses)])) :: (dI a1) :: (.ptr 0 0) :: u1 ((dB false) :: (dP e61 v2.1) :: (.ptr 1 0) :: (.ptr 2 0) :: u2 ((dB v1) :: (dB (!v1)) :: (.v (.tuple [(vP e61 v2.1), (.agg [(vI v2.2.fCode), (vI v2.2.fIndex)])])) :: (.v (.agg [(vP e88 a0.fClasses)])) :: (dI a1) :: (.v (.tuple [(vP e61 v2.1), (.agg [(vI v2.2.fCode), (vI v2.2.fIndex)])])) :: (dP e61 v2.1) :: (.v (.agg [(vI v2.2.fCode), (vI v2.2.fIndex)])) :: (.v (.agg [(vP e88 a0.fClasses)])) :: (.v (.agg [(vI v3.fCode), (vI v3.fIndex)])) :: (.v (.agg [(vI v3.fCode), (vI v3.fIndex)])) :: (.v (.agg [(vI 0), (vI 0)])) :: (dB (!((v3.fCode == 0) && ((v3.fIndex == 0) && true)))) :: u8 ((dI a1) :: (dB v16) :: (dB v16) :: d14 :: d15 :: (dB v17) :: u35 []))), [(.cells [(dP e88 a0.fClasses)]), (.cells [(dI v2.2.fCode), (dI v2.2.fIndex)]), (.cells [(dI v3.fCode), (dI v3.fIndex)])]⟩) ?_ fun J9j18 => ?_
      · intro d14 d15 v16 v17 h
        unfold f9_r5 at h
        refine Ops.done (by kernel_rfl) ?_
        refine seqQ.n ?_
        refine Wp.cnd h [1, 2, 4, 5, 6] 3 (by kernel_rfl) (fun h => ?_) (fun h => ?_)
        · refine Wp.seq' (by kernel_rfl) ?_
          refine Wp.region (by kernel_rfl) ?_
          refine Ops.seg' 4 4 (by kernel_rfl) ?_
          refine Ops.hv (fun K => ∀ (d21 d22 d23 : D) (v24 : Bool) (v25 : Bool), f9_r2 m v25 = some o → K 8 ⟨(.v (.agg [(vP e88 a0.fClasses)])) :: (dI a1) :: (.ptr 0 0) :: u1 ((dB false) :: (dP e61 v2.1) :: (.ptr 1 0) :: (.ptr 2 0) :: u2 ((dB v1) :: (dB (!v1)) :: (.v (.tuple [(vP e61 v2.1), (.agg [(vI v2.2.fCode), (vI v2.2.fIndex)])])) :: (.v (.agg [(vP e88 a0.fClasses)])) :: (dI a1) :: (.v (.tuple [(vP e61 v2.1), (.agg [(vI v2.2.fCode), (vI v2.2.fIndex)])])) :: (dP e61 v2.1) :: (.v (.agg [(vI v2.2.fCode), (vI v2.2.fIndex)])) :: (.v (.agg [(vP e88 a0.fClasses)])) :: (.v (.agg [(vI v3.fCode), (vI v3.fIndex)])) :: (.v (.agg [(vI v3.fCode), (vI v3.fIndex)])) :: (.v (.agg [(vI 0), (vI 0)])) :: (dB (!((v3.fCode == 0) && ((v3.fIndex == 0) && true)))) :: u8 ((dI a1) :: (dB v16) :: (dB v16) :: d14 :: d15 :: (dB v17) :: (.v (.agg [(vI v2.2.fCode), (vI v2.2.fIndex)])) :: (.v (.agg [(vI 3), (vI (-2))])) :: (dB v24) :: (dB v24) :: d21 :: d22 :: d23 :: (dB v25) :: u27 []))), [(.cells [(dP e88 a0.fClasses)]), (.cells [(dI v2.2.fCode), (dI v2.2.fIndex)]), (.cells [(dI v3.fCode), (dI v3.fIndex)])]⟩) ?_ fun J9j26 => ?_
          · intro d21 d22 d23 v24 v25 h
            unfold f9_r2 at h
            refine Ops.seg' 1 9 (by kernel_rfl) ?_
            refine Ops.done (by kernel_rfl) ?_
            refine seqQ.n ?_
            refine Wp.ret (by kernel_rfl) ?_
            refine sqQ.r ?_
            refine seqQ.r ?_
            exact fnQ.r' (X9 n) (fun z => (eB z)) h (RetOk.mk' (dB v25) (by kernel_rfl) (by kernel_rfl))
          refine Ops.hv (fun K => ∀ v19 : Bool, f9_r2 m (v19 && ((v2.1.length : Int) == 0)) = some o → K 4 ⟨(.v (.agg [(vP e88 a0.fClasses)])) :: (dI a1) :: (.ptr 0 0) :: u1 ((dB false) :: (dP e61 v2.1) :: (.ptr 1 0) :: (.ptr 2 0) :: u2 ((dB v1) :: (dB (!v1)) :: (.v (.tuple [(vP e61 v2.1), (.agg [(vI v2.2.fCode), (vI v2.2.fIndex)])])) :: (.v (.agg [(vP e88 a0.fClasses)])) :: (dI a1) :: (.v (.tuple [(vP e61 v2.1), (.agg [(vI v2.2.fCode), (vI v2.2.fIndex)])])) :: (dP e61 v2.1) :: (.v (.agg [(vI v2.2.fCode), (vI v2.2.fIndex)])) :: (.v (.agg [(vP e88 a0.fClasses)])) :: (.v (.agg [(vI v3.fCode), (vI v3.fIndex)])) :: (.v (.agg [(vI v3.fCode), (vI v3.fIndex)])) :: (.v (.agg [(vI 0), (vI 0)])) :: (dB (!((v3.fCode == 0) && ((v3.fIndex == 0) && true)))) :: u8 ((dI a1) :: (dB v16) :: (dB v16) :: d14 :: d15 :: (dB v17) :: (.v (.agg [(vI v2.2.fCode), (vI v2.2.fIndex)])) :: (.v (.agg [(vI 3), (vI (-2))])) :: (dB v19) :: (dB v19) :: u31 []))), [(.cells [(dP e88 a0.fClasses)]), (.cells [(dI v2.2.fCode), (dI v2.2.fIndex)]), (.cells [(dI v3.fCode), (dI v3.fIndex)])]⟩) ?_ fun G9g20 => Ops.st _ (by kernel_rfl) (G9g20 ((v2.2.fCode == 3) && ((v2.2.fIndex == (-2)) && true)) h)
          intro v19 h
          cases v19
          · refine Ops.seg' 4 8 (by kernel_rfl) ?_
            exact Ops.st _ (by kernel_rfl) (J9j26 U U U false false h)
          · refine Ops.seg' 1 5 (by kernel_rfl) ?_
            refine Ops.one' 6 (fun h0 e0 => (len_r (T := T) h0 53 62 .plain e61 v2.1 (by kernel_rfl))) (by kernel_rfl) (by kernel_rfl) ?_
            refine Ops.seg' 2 8 (by kernel_rfl) ?_
            exact Ops.st _ (by kernel_rfl) (J9j26 (dP e61 v2.1) (dI (v2.1.length : Int)) (dB ((v2.1.length : Int) == 0)) true ((v2.1.length : Int) == 0) h)
        · refine Wp.skip (by kernel_rfl) ?_
          refine sqQ.n' ?_
          refine seqQ.n ?_
          refine Wp.seq' (by kernel_rfl) ?_
          refine Wp.region (by kernel_rfl) ?_
          refine Ops.seg' 2 2 (by kernel_rfl) ?_
          obtain ⟨v27, ev27, h⟩ := bnd_some h
          refine Ops.one' 3 (fun h0 e0 => (call_ok (E' := EG) (h := h0) (by kernel_rfl) (Args.v (.agg [(vP e88 a0.fClasses)]) (e51 a0) (by kernel_rfl) (Args.v (vI a1) (eI a1) (by kernel_rfl) Args.nil)) (ok29 m a0 a1 v27 ev27 n (by omega)))) (by kernel_rfl) (by kernel_rfl) ?_
          refine Ops.seg' 5 8 (by kernel_rfl) ?_
          refine Ops.done (by kernel_rfl) ?_
          refine seqQ.n ?_
          refine Wp.seq' (by kernel_rfl) ?_
          refine Wp.seq' (by kernel_rfl) ?_
          refine Wp.region (by kernel_rfl) ?_
          refine Ops.seg' 2 2 (by kernel_rfl) ?_
          refine Ops.done (by kernel_rfl) ?_
          refine seqQ.n ?_
          refine Wp.cnd h [4, 5, 6, 8] 3 (by kernel_rfl) (fun h => ?_) (fun h => ?_)
          · refine Wp.seq' (by kernel_rfl) ?_
            refine Wp.region (by kernel_rfl) ?_
            refine Ops.seg' 1 1 (by kernel_rfl) ?_
            refine Ops.done (by kernel_rfl) ?_
            refine seqQ.n ?_
            refine Wp.ret (by kernel_rfl) ?_
            refine sqQ.r ?_
            refine seqQ.r ?_
            exact fnQ.r' (X9 n) (fun z => (eB z)) h (RetOk.mk' (dB true) (by kernel_rfl) (by kernel_rfl))
          · refine Wp.skip (by kernel_rfl) ?_
            refine sqQ.n' ?_
            refine seqQ.n ?_
            refine Wp.seq' (by kernel_rfl) ?_
            refine Wp.seq' (by kernel_rfl) ?_
            refine Wp.region (by kernel_rfl) ?_
            refine Ops.seg' 1 1 (by kernel_rfl) ?_
            refine Ops.one' 2 (fun h0 e0 => (len_r (T := T) h0 53 62 .plain e61 v27.1 (by kernel_rfl))) (by kernel_rfl) (by kernel_rfl) ?_
            refine Ops.seg' 1 3 (by kernel_rfl) ?_
            refine Ops.done (by kernel_rfl) ?_
            refine seqQ.n ?_
            refine Wp.cnd h [4, 5, 6, 8] 3 (by kernel_rfl) (fun h => ?_) (fun h => ?_)
            · refine Wp.seq' (by kernel_rfl) ?_
              refine Wp.region (by kernel_rfl) ?_
              refine Ops.seg' 4 4 (by kernel_rfl) ?_
              refine Ops.hv (fun K => ∀ (d30 d31 d32 : D) (v33 : Bool) (v34 : Bool), f9_r3 m v34 = some o → K 8 ⟨(.v (.agg [(vP e88 a0.fClasses)])) :: (dI a1) :: (.ptr 0 0) :: u1 ((dB false) :: (dP e61 v2.1) :: (.ptr 1 0) :: (.ptr 2 0) :: (dP e61 v27.1) :: (dB v27.2) :: (dB v1) :: (dB (!v1)) :: (.v (.tuple [(vP e61 v2.1), (.agg [(vI v2.2.fCode), (vI v2.2.fIndex)])])) :: (.v (.agg [(vP e88 a0.fClasses)])) :: (dI a1) :: (.v (.tuple [(vP e61 v2.1), (.agg [(vI v2.2.fCode), (vI v2.2.fIndex)])])) :: (dP e61 v2.1) :: (.v (.agg [(vI v2.2.fCode), (vI v2.2.fIndex)])) :: (.v (.agg [(vP e88 a0.fClasses)])) :: (.v (.agg [(vI v3.fCode), (vI v3.fIndex)])) :: (.v (.agg [(vI v3.fCode), (vI v3.fIndex)])) :: (.v (.agg [(vI 0), (vI 0)])) :: (dB (!((v3.fCode == 0) && ((v3.fIndex == 0) && true)))) :: u8 ((dI a1) :: (dB v16) :: (dB v16) :: d14 :: d15 :: (dB v17) :: u8 ((.v (.tuple [(vP e61 v27.1), (vB v27.2)])) :: (.v (.agg [(vP e88 a0.fClasses)])) :: (dI a1) :: (.v (.tuple [(vP e61 v27.1), (vB v27.2)])) :: (dP e61 v27.1) :: (dB v27.2) :: (dB v27.2) :: (dB (!v27.2)) :: (dP e61 v27.1) :: (dI (v27.1.length : Int)) :: (dB (decide ((v27.1.length : Int) > 300))) :: (.v (.agg [(vI v2.2.fCode), (vI v2.2.fIndex)])) :: (.v (.agg [(vI 17), (vI (-1))])) :: (dB v33) :: (dB v33) :: d30 :: d31 :: d32 :: (dB v34) :: u8 []))), [(.cells [(dP e88 a0.fClasses)]), (.cells [(dI v2.2.fCode), (dI v2.2.fIndex)]), (.cells [(dI v3.fCode), (dI v3.fIndex)])]⟩) ?_ fun J9j35 => ?_
              · intro d30 d31 d32 v33 v34 h
                unfold f9_r3 at h
                refine Ops.seg' 1 9 (by kernel_rfl) ?_
                refine Ops.done (by kernel_rfl) ?_
                refine seqQ.n ?_
                refine Wp.ret (by kernel_rfl) ?_
                refine sqQ.r ?_
                refine seqQ.r ?_
                exact fnQ.r' (X9 n) (fun z => (eB z)) h (RetOk.mk' (dB v34) (by kernel_rfl) (by kernel_rfl))
              refine Ops.hv (fun K => ∀ v28 : Bool, f9_r3 m (v28 && ((v2.1.length : Int) == 0)) = some o → K 4 ⟨(.v (.agg [(vP e88 a0.fClasses)])) :: (dI a1) :: (.ptr 0 0) :: u1 ((dB false) :: (dP e61 v2.1) :: (.ptr 1 0) :: (.ptr 2 0) :: (dP e61 v27.1) :: (dB v27.2) :: (dB v1) :: (dB (!v1)) :: (.v (.tuple [(vP e61 v2.1), (.agg [(vI v2.2.fCode), (vI v2.2.fIndex)])])) :: (.v (.agg [(vP e88 a0.fClasses)])) :: (dI a1) :: (.v (.tuple [(vP e61 v2.1), (.agg [(vI v2.2.fCode), (vI v2.2.fIndex)])])) :: (dP e61 v2.1) :: (.v (.agg [(vI v2.2.fCode), (vI v2.2.fIndex)])) :: (.v (.agg [(vP e88 a0.fClasses)])) :: (.v (.agg [(vI v3.fCode), (vI v3.fIndex)])) :: (.v (.agg [(vI v3.fCode), (vI v3.fIndex)])) :: (.v (.agg [(vI 0), (vI 0)])) :: (dB (!((v3.fCode == 0) && ((v3.fIndex == 0) && true)))) :: u8 ((dI a1) :: (dB v16) :: (dB v16) :: d14 :: d15 :: (dB v17) :: u8 ((.v (.tuple [(vP e61 v27.1), (vB v27.2)])) :: (.v (.agg [(vP e88 a0.fClasses)])) :: (dI a1) :: (.v (.tuple [(vP e61 v27.1), (vB v27.2)])) :: (dP e61 v27.1) :: (dB v27.2) :: (dB v27.2) :: (dB (!v27.2)) :: (dP e61 v27.1) :: (dI (v27.1.length : Int)) :: (dB (decide ((v27.1.length : Int) > 300))) :: (.v (.agg [(vI v2.2.fCode), (vI v2.2.fIndex)])) :: (.v (.agg [(vI 17), (vI (-1))])) :: (dB v28) :: (dB v28) :: u12 []))), [(.cells [(dP e88 a0.fClasses)]), (.cells [(dI v2.2.fCode), (dI v2.2.fIndex)]), (.cells [(dI v3.fCode), (dI v3.fIndex)])]⟩) ?_ fun G9g29 => Ops.st _ (by kernel_rfl) (G9g29 ((v2.2.fCode == 17) && ((v2.2.fIndex == (-1)) && true)) h)
              intro v28 h
              cases v28
              · refine Ops.seg' 4 8 (by kernel_rfl) ?_
                exact Ops.st _ (by kernel_rfl) (J9j35 U U U false false h)
              · refine Ops.seg' 1 5 (by kernel_rfl) ?_
                refine Ops.one' 6 (fun h0 e0 => (len_r (T := T) h0 53 62 .plain e61 v2.1 (by kernel_rfl))) (by kernel_rfl) (by kernel_rfl) ?_
                refine Ops.seg' 2 8 (by kernel_rfl) ?_
                exact Ops.st _ (by kernel_rfl) (J9j35 (dP e61 v2.1) (dI (v2.1.length : Int)) (dB ((v2.1.length : Int) == 0)) true ((v2.1.length : Int) == 0) h)
            · refine Wp.skip (by kernel_rfl) ?_
              refine sqQ.n' ?_
              refine seqQ.n ?_
              refine Wp.seq' (by kernel_rfl) ?_
              refine Wp.region (by kernel_rfl) ?_
              refine Ops.seg' 4 4 (by kernel_rfl) ?_
              refine Ops.hv (fun K => ∀ (d38 d39 d40 : D) (v41 : Bool) (v42 : Bool), f9_r4 m v42 = some o → K 8 ⟨(.v (.agg [(vP e88 a0.fClasses)])) :: (dI a1) :: (.ptr 0 0) :: u1 ((dB false) :: (dP e61 v2.1) :: (.ptr 1 0) :: (.ptr 2 0) :: (dP e61 v27.1) :: (dB v27.2) :: (dB v1) :: (dB (!v1)) :: (.v (.tuple [(vP e61 v2.1), (.agg [(vI v2.2.fCode), (vI v2.2.fIndex)])])) :: (.v (.agg [(vP e88 a0.fClasses)])) :: (dI a1) :: (.v (.tuple [(vP e61 v2.1), (.agg [(vI v2.2.fCode), (vI v2.2.fIndex)])])) :: (dP e61 v2.1) :: (.v (.agg [(vI v2.2.fCode), (vI v2.2.fIndex)])) :: (.v (.agg [(vP e88 a0.fClasses)])) :: (.v (.agg [(vI v3.fCode), (vI v3.fIndex)])) :: (.v (.agg [(vI v3.fCode), (vI v3.fIndex)])) :: (.v (.agg [(vI 0), (vI 0)])) :: (dB (!((v3.fCode == 0) && ((v3.fIndex == 0) && true)))) :: u8 ((dI a1) :: (dB v16) :: (dB v16) :: d14 :: d15 :: (dB v17) :: u8 ((.v (.tuple [(vP e61 v27.1), (vB v27.2)])) :: (.v (.agg [(vP e88 a0.fClasses)])) :: (dI a1) :: (.v (.tuple [(vP e61 v27.1), (vB v27.2)])) :: (dP e61 v27.1) :: (dB v27.2) :: (dB v27.2) :: (dB (!v27.2)) :: (dP e61 v27.1) :: (dI (v27.1.length : Int)) :: (dB (decide ((v27.1.length : Int) > 300))) :: u8 ((.v (.agg [(vI v2.2.fCode), (vI v2.2.fIndex)])) :: (.v (.agg [(vI 0), (vI 0)])) :: (dB v41) :: (dB v41) :: d38 :: d39 :: d40 :: (dB v42) :: [])))), [(.cells [(dP e88 a0.fClasses)]), (.cells [(dI v2.2.fCode), (dI v2.2.fIndex)]), (.cells [(dI v3.fCode), (dI v3.fIndex)])]⟩) ?_ fun J9j43 => ?_
              · intro d38 d39 d40 v41 v42 h
                unfold f9_r4 at h
                refine Ops.seg' 1 9 (by kernel_rfl) ?_
                refine Ops.done (by kernel_rfl) ?_
                refine seqQ.n ?_
                refine Wp.ret (by kernel_rfl) ?_
                exact fnQ.r' (X9 n) (fun z => (eB z)) h (RetOk.mk' (dB v42) (by kernel_rfl) (by kernel_rfl))
              obtain ⟨v42, ev42, h⟩ := bnd_some h
              refine Ops.hv (fun K => ∀ v36 : Bool, (cnd v36 (bnd (f30 m v2.1 v27.1) fun v44 => some v44) (some false)) = some v42 → K 4 ⟨(.v (.agg [(vP e88 a0.fClasses)])) :: (dI a1) :: (.ptr 0 0) :: u1 ((dB false) :: (dP e61 v2.1) :: (.ptr 1 0) :: (.ptr 2 0) :: (dP e61 v27.1) :: (dB v27.2) :: (dB v1) :: (dB (!v1)) :: (.v (.tuple [(vP e61 v2.1), (.agg [(vI v2.2.fCode), (vI v2.2.fIndex)])])) :: (.v (.agg [(vP e88 a0.fClasses)])) :: (dI a1) :: (.v (.tuple [(vP e61 v2.1), (.agg [(vI v2.2.fCode), (vI v2.2.fIndex)])])) :: (dP e61 v2.1) :: (.v (.agg [(vI v2.2.fCode), (vI v2.2.fIndex)])) :: (.v (.agg [(vP e88 a0.fClasses)])) :: (.v (.agg [(vI v3.fCode), (vI v3.fIndex)])) :: (.v (.agg [(vI v3.fCode), (vI v3.fIndex)])) :: (.v (.agg [(vI 0), (vI 0)])) :: (dB (!((v3.fCode == 0) && ((v3.fIndex == 0) && true)))) :: u8 ((dI a1) :: (dB v16) :: (dB v16) :: d14 :: d15 :: (dB v17) :: u8 ((.v (.tuple [(vP e61 v27.1), (vB v27.2)])) :: (.v (.agg [(vP e88 a0.fClasses)])) :: (dI a1) :: (.v (.tuple [(vP e61 v27.1), (vB v27.2)])) :: (dP e61 v27.1) :: (dB v27.2) :: (dB v27.2) :: (dB (!v27.2)) :: (dP e61 v27.1) :: (dI (v27.1.length : Int)) :: (dB (decide ((v27.1.length : Int) > 300))) :: u8 ((.v (.agg [(vI v2.2.fCode), (vI v2.2.fIndex)])) :: (.v (.agg [(vI 0), (vI 0)])) :: (dB v36) :: (dB v36) :: u4 [])))), [(.cells [(dP e88 a0.fClasses)]), (.cells [(dI v2.2.fCode), (dI v2.2.fIndex)]), (.cells [(dI v3.fCode), (dI v3.fIndex)])]⟩) ?_ fun G9g37 => Ops.st _ (by kernel_rfl) (G9g37 ((v2.2.fCode == 0) && ((v2.2.fIndex == 0) && true)) ev42)
              intro v36 ev42
              cases v36
              · have ev42 := cnd_f ev42
                refine Ops.seg' 4 8 (by kernel_rfl) ?_
                exact Ops.st _ (by kernel_rfl) (J9j43 U U U false false (some_sub (fun v42 => f9_r4 m v42 = some o) ev42 h))
              · have ev42 := cnd_t ev42
                refine Ops.seg' 2 6 (by kernel_rfl) ?_
                obtain ⟨v44, ev44, ev42⟩ := bnd_some ev42
                refine Ops.one' 7 (fun h0 e0 => (call_ok (E' := EG) (h := h0) (by kernel_rfl) (Args.v (vP e61 v2.1) ((eL e61) v2.1) (by kernel_rfl) (Args.v (vP e61 v27.1) ((eL e61) v27.1) (by kernel_rfl) Args.nil)) (ok30 m v2.1 v27.1 v44 ev44 n (by omega)))) (by kernel_rfl) (by kernel_rfl) ?_
                refine Ops.seg' 1 8 (by kernel_rfl) ?_
                exact Ops.st _ (by kernel_rfl) (J9j43 (dP e61 v2.1) (dP e61 v27.1) (dB v44) true v44 (some_sub (fun v42 => f9_r4 m v42 = some o) ev42 h))
      refine Ops.hv (fun K => ∀ v12 : Bool, f9_r5 m a0 a1 v2 (v12 || (decide (a1 > 30))) = some o → K 3 ⟨(.v (.agg [(vP e88 a0.fClasses)])) :: (dI a1) :: (.ptr 0 0) :: u1 ((dB false) :: (dP e61 v2.1) :: (.ptr 1 0) :: (.ptr 2 0) :: u2 ((dB v1) :: (dB (!v1)) :: (.v (.tuple [(vP e61 v2.1), (.agg [(vI v2.2.fCode), (vI v2.2.fIndex)])])) :: (.v (.agg [(vP e88 a0.fClasses)])) :: (dI a1) :: (.v (.tuple [(vP e61 v2.1), (.agg [(vI v2.2.fCode), (vI v2.2.fIndex)])])) :: (dP e61 v2.1) :: (.v (.agg [(vI v2.2.fCode), (vI v2.2.fIndex)])) :: (.v (.agg [(vP e88 a0.fClasses)])) :: (.v (.agg [(vI v3.fCode), (vI v3.fIndex)])) :: (.v (.agg [(vI v3.fCode), (vI v3.fIndex)])) :: (.v (.agg [(vI 0), (vI 0)])) :: (dB (!((v3.fCode == 0) && ((v3.fIndex == 0) && true)))) :: u8 ((dI a1) :: (dB v12) :: (dB v12) :: u38 []))), [(.cells [(dP e88 a0.fClasses)]), (.cells [(dI v2.2.fCode), (dI v2.2.fIndex)]), (.cells [(dI v3.fCode), (dI v3.fIndex)])]⟩) ?_ fun G9g13 => Ops.st _ (by kernel_rfl) (G9g13 (decide (a1 < 1)) h)
      intro v12 h
      cases v12
      · refine Ops.seg' 3 6 (by kernel_rfl) ?_
        exact Ops.st _ (by kernel_rfl) (J9j18 (dI a1) (dB (decide (a1 > 30))) false (decide (a1 > 30)) h)
      · refine Ops.seg' 3 6 (by kernel_rfl) ?_
        exact Ops.st _ (by kernel_rfl) (J9j18 U U true true h)

end Go.Abs
