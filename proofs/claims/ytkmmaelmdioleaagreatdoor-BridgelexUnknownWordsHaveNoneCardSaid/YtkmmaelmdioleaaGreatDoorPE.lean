import Derived.Test.YtkmmaelmdioleaaGreatDoorYZ
namespace Go.Abs
set_option linter.unusedVariables false
set_option linter.unusedSimpArgs false
set_option linter.unnecessarySimpa false
set_option maxRecDepth 100000
set_option maxHeartbeats 2000000
noncomputable def f17_B1 (m : Nat) (a0 a1 : (List ByteArray)) (v6 : Int) : Option (Stp Bool (Int)) :=
 cnd (decide (v6 < (a0.length : Int)))
 (bnd (idx a0 v6) fun v16 =>
 bnd (idx a1 v6) fun v17 =>
 cnd (!(v16.toList == v17.toList))
 (some (.ret false))
 (some (.nxt (w64 (v6 + 1)))))
 (some (.brk v6))
noncomputable def f17 (m : Nat) (a0 a1 : (List ByteArray)) : Option Bool :=
 cnd ((a0.length : Int) != (a1.length : Int))
 (some false)
 (brk (iter (fun (y : Int) => f17_B1 m a0 a1 y) m 0) some fun y19 =>
 some true)
noncomputable abbrev X17 (n : Nat) : Cx := cxOf Proofs.Tryz.prog EG 17 n
noncomputable def C17 : Code := bodyOf Proofs.Tryz.prog 17
theorem ok17 (m : Nat) (a0 a1 : (List ByteArray)) (o : Bool) (h : f17 m a0 a1 = some o) (n : Nat) (hn : m + 1 ≤ n) : Fn Proofs.Tryz.prog EG n 17 [.v ((eL eS) a0), .v ((eL eS) a1)] (eB o) := by
 obtain ⟨n, rfl⟩ : ∃ q, n = q + 1 := ⟨n - 1, by omega⟩
 unfold f17 at h
 refine Fn.of (by kernel_rfl) (by kernel_rfl) (by kernel_rfl) ⟨(dP eS a0)::(dP eS a1)::u24 [], []⟩ (by kernel_rfl) (Wp.sq (Wp.rg (Ops.sg 1 1 (Ops.dn (seqQ.n (Wp.sq (Wp.sq (Wp.rg (Ops.sg 1 1 ?_)))))))))
 refine Ops.on 2 (fun h0 e0 => (len_r (T := T) h0 22 9 .plain eS a0 (by kernel_rfl))) ?_
 refine Ops.sg 1 3 ?_
 refine Ops.on 4 (fun h0 e0 => (len_r (T := T) h0 22 9 .plain eS a1 (by kernel_rfl))) ?_
 refine Ops.sg 1 5 (Ops.dn (seqQ.n ?_))
 refine Wp.cd h [0, 1, 4] 0 (fun h => ?_) (fun h => ?_)
 ·refine Wp.sq (Wp.rg (Ops.sg 1 1 (Ops.dn (seqQ.n (Wp.rt (sqQ.r (seqQ.r ?_)))))))
  exact fnQ.r' (X17 n) (fun z => (eB z)) h (RetOk.mk' (dB false) (by kernel_rfl) (by kernel_rfl))
 ·refine Wp.sk (sqQ.n' (seqQ.n (Wp.sq (Wp.sq (Wp.rg (Ops.sg 1 1 ?_))))))
  refine Ops.on 2 (fun h0 e0 => (len_r (T := T) h0 22 9 .plain eS a0 (by kernel_rfl))) ?_
  refine Ops.sg 1 3 (Ops.dn (seqQ.n (Wp.bk 0 [4] 0 ?_)))
  have hLx18 : ∀ (kx8 : Nat) (v6 : Int)  (ox7 : Bool ⊕ (Int)), iter (fun (y : Int) => f17_B1 m a0 a1 y) kx8 v6 = some ox7 → ∀ nx9, kx8 ≤ nx9 → (∀ r, ox7 = .inl r → ∀ σ, RetOk (X17 n) (resOf Proofs.Tryz.prog 17) (eB r) σ → (seqQ (X17 n) (cR (cR (cR C17))) (fnQ (X17 n).E.T (resOf Proofs.Tryz.prog 17) (eB o))) .ret σ) → (∀ (y : Int) , ox7 = .inr y → (seqQ (X17 n) (cR (cR (cR C17))) (fnQ (X17 n).E.T (resOf Proofs.Tryz.prog 17) (eB o))) .normal ⟨Zs27 a0 a1 (a0.length : Int) ((dI y)::q12 []), []⟩) → Lp (X17 n) [0, 1, 4, 12, 13] 0 (cL (cL (cR (cL (cR (cR C17)))))) nx9 ⟨Zs27 a0 a1 (a0.length : Int) ((dI v6)::q12 []), []⟩ (blkQ (X17 n) 0 [4] 0 (seqQ (X17 n) (cR (cR (cR C17))) (fnQ (X17 n).E.T (resOf Proofs.Tryz.prog 17) (eB o)))) := by
   intro kx8
   induction kx8 with
   | zero => intro v6  ox7 h; exact (iter_zero h).elim
   | succ kx8 ihx10 =>
    intro v6  ox7 h nx9 hnx13 hrx11 hxx12
    obtain ⟨nx9, rfl⟩ : ∃ q, nx9 = q + 1 := ⟨nx9 - 1, by omega⟩
    obtain ⟨sx14, h, hsx15⟩ := iter_some h
    have h : f17_B1 m a0 a1 v6 = some sx14 := h
    unfold f17_B1 at h
    refine Lp.succ (Wp.sq (Wp.rg (Ops.sg 1 1 (Ops.dn (seqQ.n (Wp.sq ?_))))))
    refine Wp.cd h [0, 1, 4, 12, 13] 0 (fun h => ?_) (fun h => ?_)
    ·refine Wp.sk (sqQ.n' (seqQ.n (Wp.sq (Wp.bk 1 [0, 1, 4, 12, 13] 0 (Wp.sq (Wp.rg (Ops.sg 2 2 (Ops.dn (seqQ.n (Wp.sq (Wp.rg (Ops.sg 2 2 ?_))))))))))))
     obtain ⟨v16, ev16, h⟩ := bnd_some h
     refine Ops.on 3 (fun h0 e0 => (ix_r (T := T) h0 22 9 1 .plain eS a0 v6 v16 ev16 (by kernel_rfl) (by kernel_rfl) (fun _ => rfl))) ?_
     refine Ops.sg 3 6 ?_
     obtain ⟨v17, ev17, h⟩ := bnd_some h
     refine Ops.on 7 (fun h0 e0 => (ix_r (T := T) h0 22 9 1 .plain eS a1 v6 v17 ev17 (by kernel_rfl) (by kernel_rfl) (fun _ => rfl))) ?_
     refine Ops.sg 2 9 (Ops.dn (seqQ.n ?_))
     refine Wp.cd h [0, 1, 4, 12, 13] 0 (fun h => ?_) (fun h => ?_)
     ·refine Wp.sq (Wp.rg (Ops.sg 1 1 (Ops.dn (seqQ.n (Wp.rt (sqQ.r (blkQ.r (seqQ.r ?_))))))))
      cases h
      refine lpQ.r (blkQ.r ?_)
      exact hrx11 _ hsx15 _ (RetOk.forget [0, 1, 4, 12, 13] (by kernel_rfl) (RetOk.mk' (dB false) (by kernel_rfl) (by kernel_rfl)))
     ·refine Wp.sk (sqQ.n' (blkQ.n' (seqQ.n (Wp.rg (Ops.sg 2 2 (Ops.dn (lpQ.m ⟨Zs27 a0 a1 (a0.length : Int) ((dI (w64 (v6 + 1)))::q12 []), []⟩ ?_)))))))
      cases h
      exact ihx10 (w64 (v6 + 1))  _ hsx15 _ (by omega) hrx11 hxx12
    ·refine Wp.ex 0 (sqQ.x (seqQ.x ?_))
     cases h
     refine lpQ.x (blkQ.w ⟨Zs27 a0 a1 (a0.length : Int) ((dI v6)::q12 []), []⟩ ?_)
     exact hxx12 v6  hsx15
  refine Wp.loop' [0, 1, 4, 12, 13] 0 (by kernel_rfl) ⟨Zs27 a0 a1 (a0.length : Int) ((dI 0)::q12 []), []⟩ (by kernel_rfl) ?_
  rcases brk_some h with ⟨r20, er20, h⟩ | ⟨y19, ey19, h⟩
  ·refine hLx18 _ 0  _ er20 n (by omega) (fun r er σ hσ => ?_) (fun y  ey => by cases ey)
   cases er
   refine seqQ.r ?_
   exact fnQ.r' (X17 n) (fun z => (eB z)) h hσ
  ·refine hLx18 _ 0  _ ey19 n (by omega) (fun r er => by cases er) (fun y  ey => ?_)
   cases ey
   refine seqQ.n (Wp.sq (Wp.rg (Ops.sg 1 1 (Ops.dn (seqQ.n (Wp.rt ?_))))))
   exact fnQ.r' (X17 n) (fun z => (eB z)) h (RetOk.mk' (dB true) (by kernel_rfl) (by kernel_rfl))
noncomputable def f41 (m : Nat) (a0 : (List S116)) : Option (List S116) := app 16 [] a0
noncomputable def f5_B1 (m : Nat) (a1 : (List ByteArray)) (v9 : Int) : Option (Stp ((List S63) × S26) (Int)) :=
 cnd (decide (v9 < (a1.length : Int)))
 (bnd (idx a1 v9) fun v19 =>
 bnd (f14 m v19) fun v20 =>
 cnd (!v20)
 (bnd (f13 m 5 v9) fun v21 =>
 some (.ret (([], v21))))
 (some (.nxt (w64 (v9 + 1)))))
 (some (.brk v9))
noncomputable def f5_B2 (m : Nat) (a2 : (List S56)) (v33 : Int) : Option (Stp ((List S63) × S26) (Int)) :=
 cnd (decide (v33 < (a2.length : Int)))
 (bnd (idx a2 v33) fun v43 =>
 bnd (f15 m v43) fun v44 =>
 cnd (v44 != 0)
 (bnd (f13 m v44 v33) fun v45 =>
 some (.ret (([], v45))))
 (some (.nxt (w64 (v33 + 1)))))
 (some (.brk v33))
noncomputable def f5_j3 (m : Nat) (v360 : Int) : Option (Stp ((List S63) × S26) (Int)) :=
 some (.nxt (w64 (v360 + 1)))
noncomputable def f5_B4 (m : Nat) (a2 : (List S56)) (v264 : Int) (v348 : S71) (v360 : Int) : Option (Stp ((List S63) × S26) (Int)) :=
 cnd (decide (v360 < (a2.length : Int)))
 (bnd (idx a2 v360) fun v371 =>
 bnd (f17 m v371.fTags v348.fTags) fun v372 =>
 cnd (!v372)
 (f5_j3 m v360)
 (cnd (decide (v348.fWeight > 1000000))
 (bnd (f13 m 18 v264) fun v373 =>
 some (.ret (([], v373))))
 (cnd (((([] : List S63)).length : Int) == 100)
 (bnd (f13 m 17 v264) fun v374 =>
 some (.ret (([], v374))))
 (none))))
 (some (.brk v360))
noncomputable def f5_B5 (m : Nat) (a2 : (List S56)) (v264 : Int) (v275 : ((List S71) × S26)) (v338 : Int) : Option (Stp ((List S63) × S26) (Int)) :=
 cnd (decide (v338 < (v275.1.length : Int)))
 (bnd (idx v275.1 v338) fun v348 =>
 brk (iter (fun (y : Int) => f5_B4 m a2 v264 v348 y) m 0) (fun r => some (.ret r)) fun y376 =>
 some (.nxt (w64 (v338 + 1))))
 (some (.brk v338))
noncomputable def f5_B6 (m : Nat) (a0 : S34) (a1 : (List ByteArray)) (a2 : (List S56)) (v264 : Int) : Option (Stp ((List S63) × S26) (Int)) :=
 cnd (decide (v264 < (a1.length : Int)))
 (bnd (idx a1 v264) fun v274 =>
 bnd (f16 m a0 v274) fun v275 =>
 cnd (!((v275.2.fCode == 0) && ((v275.2.fIndex == 0) && true)))
 (bnd (f13 m 17 v264) fun v276 =>
 some (.ret (([], v276))))
 (brk (iter (fun (y : Int) => f5_B5 m a2 v264 v275 y) m 0) (fun r => some (.ret r)) fun y379 =>
 some (.nxt (w64 (v264 + 1)))))
 (some (.brk v264))
noncomputable def f5 (m : Nat) (a0 : S34) (a1 : (List ByteArray)) (a2 : (List S56)) : Option ((List S63) × S26) :=
 cnd (decide ((a1.length : Int) > 100))
 (bnd (f13 m 2 (-2)) fun v1 =>
 some (([], v1)))
 (brk (iter (fun (y : Int) => f5_B1 m a1 y) m 0) some fun y23 =>
 cnd (decide ((a2.length : Int) > 40))
 (bnd (f13 m 2 (-3)) fun v25 =>
 some (([], v25)))
 (brk (iter (fun (y : Int) => f5_B2 m a2 y) m 0) some fun y47 =>
 brk (iter (fun (y : Int) => f5_B6 m a0 a1 a2 y) m 0) some fun y382 =>
 some (([], (⟨0, 0⟩ : S26)))))
noncomputable abbrev X5 (n : Nat) : Cx := cxOf Proofs.Tryz.prog EG 5 n
noncomputable def C5 : Code := bodyOf Proofs.Tryz.prog 5
noncomputable abbrev p5_0 : Code := cR (cR (cR (cR (cR (cR (cR C5))))))
noncomputable abbrev p5_1 : Code := cL (cL (cR (cL (cR (cR (cR (cR (cR (cR C5)))))))))
noncomputable abbrev p5_2 : Code := cR (cR (cR p5_1))
noncomputable abbrev p5_3 : Code := cL (cL (cR (cR (cR (cR (cL (cL (cR (cR p5_1)))))))))
noncomputable abbrev p5_4 : Code := cR (cR (cR p5_3))
noncomputable abbrev p5_5 : Code := cL (cL (cR (cR (cL (cL (cR (cR p5_3)))))))
noncomputable abbrev p5_6 : Code := cR (cR (cR p5_5))
noncomputable abbrev b5_0 (w0 : S34) : AObj := .cells [(dI w0.fWords.fStates), (dP e134 w0.fWords.fArcs), (dP e136 w0.fWords.fFinals), (dP eS w0.fTags)]
noncomputable abbrev b5_1 : AObj := .cells [(dI 0), (dI 0)]
noncomputable abbrev b5_2 (w0 : ((List S71) × S26)) : AObj := .cells [(dI w0.2.fCode), (dI w0.2.fIndex)]
noncomputable abbrev b5_3 (w0 : S71) : AObj := .cells [(.v (.str w0.fBase)), (dP eS w0.fTags), (dI w0.fWeight)]
noncomputable abbrev k5_0 : List Nat := [2, 3, 6, 7, 13, 14, 15, 59, 60, 61, 77, 78, 79]
noncomputable abbrev k5_1 : List Nat := [2, 3, 6, 7, 13, 59, 60, 61]
noncomputable abbrev k5_2 : List Nat := [2, 3, 6, 7, 13, 14, 15, 19, 59, 60, 61, 77, 78, 79, 83, 84, 85]
noncomputable abbrev k5_3 : List Nat := [2, 3, 6, 7, 13, 14, 15, 19, 21, 59, 60, 61, 77, 78, 79, 83, 84, 85]
noncomputable abbrev k5_4 : List Nat := [1, 2, 3, 6, 7, 27, 28, 29]
noncomputable abbrev k5_5 : List Nat := [1, 2, 3, 6, 7, 44, 45, 46]
theorem f5_hLx375 (m : Nat) (a0 : S34) (a1 : (List ByteArray)) (a2 : (List S56)) (o : ((List S63) × S26)) (n : Nat) (hn : 3 * m + 5 ≤ n + 1) (v264 : Int) (v348 : S71) (nx341 nx267 : Nat) (v274 : ByteArray) (v275 : ((List S71) × S26)) (v338 : Int) : ∀ (kx362 : Nat) (v360 : Int)  (ox361 : ((List S63) × S26) ⊕ (Int)), iter (fun (y : Int) => f5_B4 m a2 v264 v348 y) kx362 v360 = some ox361 → ∀ nx363, kx362 ≤ nx363 → (∀ r, ox361 = .inl r → ∀ σ, RetOk (X5 n) (resOf Proofs.Tryz.prog 5) (.tuple [(eL e63) r.1, e26 r.2]) σ → (blkQ (X5 n) 7 k5_0 12 (seqQ (X5 n) p5_4 (lpQ (X5 n) k5_0 10 p5_3 nx341 (blkQ (X5 n) 6 k5_1 10 (blkQ (X5 n) 5 k5_1 8 (seqQ (X5 n) p5_2 (lpQ (X5 n) k5_1 6 p5_1 nx267 (blkQ (X5 n) 4 [6, 7, 13] 6 (seqQ (X5 n) p5_0 (fnQ (X5 n).E.T (resOf Proofs.Tryz.prog 5) (.tuple [(eL e63) o.1, e26 o.2]))))))))))) .ret σ) → (∀ (y : Int) , ox361 = .inr y → (blkQ (X5 n) 7 k5_0 12 (seqQ (X5 n) p5_4 (lpQ (X5 n) k5_0 10 p5_3 nx341 (blkQ (X5 n) 6 k5_1 10 (blkQ (X5 n) 5 k5_1 8 (seqQ (X5 n) p5_2 (lpQ (X5 n) k5_1 6 p5_1 nx267 (blkQ (X5 n) 4 [6, 7, 13] 6 (seqQ (X5 n) p5_0 (fnQ (X5 n).E.T (resOf Proofs.Tryz.prog 5) (.tuple [(eL e63) o.1, e26 o.2]))))))))))) .normal ⟨Zs8 a2 (.v (.sl .nil (List.map e63 []))) ((appD 13 (List.map e63 []))::(dI v264)::(.v (.str v274))::q40 (q3 ((dP eS a1)::(dI (a1.length : Int))::(dI v264)::q15 ((dP e71 v275.1)::(dI (v275.1.length : Int))::(dI v338)::q40 (q8 []))))), [(b5_0 a0), b5_1, .dead, .dead, .dead, .dead, .dead, .dead, (b5_2 v275), .dead, .dead, .dead, (b5_3 v348), .dead]⟩) → Lp (X5 n) k5_2 13 p5_5 nx363 ⟨Zs8 a2 (.v (.sl .nil (List.map e63 []))) ((appD 13 (List.map e63 []))::(dI v264)::(.v (.str v274))::q3 ((.ptr 12 0)::q39 ((dP eS a1)::(dI (a1.length : Int))::(dI v264)::q15 ((dP e71 v275.1)::(dI (v275.1.length : Int))::(dI v338)::q3 ((dP e56 a2)::(dI (a2.length : Int))::(dI v360)::q40 (q2 [])))))), [(b5_0 a0), b5_1, .dead, .dead, .dead, .dead, .dead, .dead, (b5_2 v275), .dead, .dead, .dead, (b5_3 v348), .dead]⟩ (blkQ (X5 n) 8 k5_0 13 (blkQ (X5 n) 7 k5_0 12 (seqQ (X5 n) p5_4 (lpQ (X5 n) k5_0 10 p5_3 nx341 (blkQ (X5 n) 6 k5_1 10 (blkQ (X5 n) 5 k5_1 8 (seqQ (X5 n) p5_2 (lpQ (X5 n) k5_1 6 p5_1 nx267 (blkQ (X5 n) 4 [6, 7, 13] 6 (seqQ (X5 n) p5_0 (fnQ (X5 n).E.T (resOf Proofs.Tryz.prog 5) (.tuple [(eL e63) o.1, e26 o.2])))))))))))) := by
 intro kx362
 induction kx362 with
 | zero => intro v360  ox361 h; exact (iter_zero h).elim
 | succ kx362 ihx364 =>
  intro v360  ox361 h nx363 hnx367 hrx365 hxx366
  obtain ⟨nx363, rfl⟩ : ∃ q, nx363 = q + 1 := ⟨nx363 - 1, by omega⟩
  obtain ⟨sx368, h, hsx369⟩ := iter_some h
  have h : f5_B4 m a2 v264 v348 v360 = some sx368 := h
  unfold f5_B4 at h
  refine Lp.succ (Wp.sq (Wp.rg (Ops.sg 1 1 (Ops.dn (seqQ.n (Wp.sq ?_))))))
  refine Wp.cd h k5_2 14 (fun h => ?_) (fun h => ?_)
  ·refine Wp.sk (sqQ.n' (seqQ.n (Wp.sq ?_)))
   have J5j370 : f5_j3 m v360 = some sx368 → (seqQ (X5 n) p5_6 (lpQ (X5 n) k5_2 13 p5_5 nx363 (blkQ (X5 n) 8 k5_0 13 (blkQ (X5 n) 7 k5_0 12 (seqQ (X5 n) p5_4 (lpQ (X5 n) k5_0 10 p5_3 nx341 (blkQ (X5 n) 6 k5_1 10 (blkQ (X5 n) 5 k5_1 8 (seqQ (X5 n) p5_2 (lpQ (X5 n) k5_1 6 p5_1 nx267 (blkQ (X5 n) 4 [6, 7, 13] 6 (seqQ (X5 n) p5_0 (fnQ (X5 n).E.T (resOf Proofs.Tryz.prog 5) (.tuple [(eL e63) o.1, e26 o.2])))))))))))))) .normal ⟨Zs8 a2 (.v (.sl .nil (List.map e63 []))) ((appD 15 (List.map e63 []))::(dI v264)::(.v (.str v274))::q3 ((.ptr 12 0)::q39 ((dP eS a1)::(dI (a1.length : Int))::(dI v264)::q15 ((dP e71 v275.1)::(dI (v275.1.length : Int))::(dI v338)::q3 ((dP e56 a2)::(dI (a2.length : Int))::(dI v360)::q40 (q2 [])))))), [(b5_0 a0), b5_1, .dead, .dead, .dead, .dead, .dead, .dead, (b5_2 v275), .dead, .dead, .dead, (b5_3 v348), .dead, .dead, .dead]⟩ := by
    intro   h
    unfold f5_j3 at h
    refine seqQ.n (Wp.rg (Ops.sg 2 2 (Ops.dn (lpQ.m ⟨Zs8 a2 (.v (.sl .nil (List.map e63 []))) ((appD 13 (List.map e63 []))::(dI v264)::(.v (.str v274))::q3 ((.ptr 12 0)::q39 ((dP eS a1)::(dI (a1.length : Int))::(dI v264)::q15 ((dP e71 v275.1)::(dI (v275.1.length : Int))::(dI v338)::q3 ((dP e56 a2)::(dI (a2.length : Int))::(dI (w64 (v360 + 1)))::q40 (q2 [])))))), [(b5_0 a0), b5_1, .dead, .dead, .dead, .dead, .dead, .dead, (b5_2 v275), .dead, .dead, .dead, (b5_3 v348), .dead]⟩ ?_))))
    cases h
    exact ihx364 (w64 (v360 + 1))  _ hsx369 _ (by omega) hrx365 hxx366
   refine Wp.bk 9 k5_2 15 (Wp.sq (Wp.rg ?_))
   obtain ⟨v371, ev371, h⟩ := bnd_some h
   refine Ops.on 1 (fun h0 e0 => (ix_r (T := T) h0 23 57 8 .plain e56 a2 v360 v371 ev371 (by kernel_rfl) (by kernel_rfl) (fun _ => rfl))) ?_
   refine Ops.sg 3 4 (Ops.dn (seqQ.n (Wp.sq (Wp.sq (Wp.rg (Ops.sg 4 4 ?_))))))
   obtain ⟨v372, ev372, h⟩ := bnd_some h
   refine Ops.on 5 (fun h0 e0 => (call_ok (E' := EG) (h := h0) (by kernel_rfl) (Args.v (vP eS v371.fTags) ((eL eS) v371.fTags) (by kernel_rfl) (Args.v (vP eS v348.fTags) ((eL eS) v348.fTags) (by kernel_rfl) Args.nil)) (ok17 m v371.fTags v348.fTags v372 ev372 n (by omega)))) ?_
   refine Ops.sg 1 6 (Ops.dn (seqQ.n ?_))
   refine Wp.cd h k5_3 16 (fun h => ?_) (fun h => ?_)
   ·refine Wp.ex 9 (sqQ.x (seqQ.x (blkQ.w ⟨Zs8 a2 (.v (.sl .nil (List.map e63 []))) ((appD 15 (List.map e63 []))::(dI v264)::(.v (.str v274))::q3 ((.ptr 12 0)::q39 ((dP eS a1)::(dI (a1.length : Int))::(dI v264)::q15 ((dP e71 v275.1)::(dI (v275.1.length : Int))::(dI v338)::q3 ((dP e56 a2)::(dI (a2.length : Int))::(dI v360)::q40 (q2 [])))))), [(b5_0 a0), b5_1, .dead, .dead, .dead, .dead, .dead, .dead, (b5_2 v275), .dead, .dead, .dead, (b5_3 v348), .dead, .dead, .dead]⟩ ?_)))
    exact J5j370   h
   ·refine Wp.sk (sqQ.n' (seqQ.n (Wp.sq (Wp.sq (Wp.rg (Ops.sg 3 3 (Ops.dn (seqQ.n ?_))))))))
    refine Wp.cd h k5_3 17 (fun h => ?_) (fun h => ?_)
    ·refine Wp.sq (Wp.rg (Ops.sg 1 1 ?_))
     obtain ⟨v373, ev373, h⟩ := bnd_some h
     refine Ops.on 2 (fun h0 e0 => (call_ok (E' := EG) (h := h0) (by kernel_rfl) (Args.v (vI 18) (eI 18) (by kernel_rfl) (Args.v (vI v264) (eI v264) (by kernel_rfl) Args.nil)) (ok13g m 18 v264 v373 ev373 n (by omega)))) ?_
     refine Ops.sg 2 4 (Ops.dn (seqQ.n (Wp.rt (sqQ.r (seqQ.r (blkQ.r (seqQ.r ?_)))))))
     cases h
     refine lpQ.r (blkQ.r ?_)
     exact hrx365 _ hsx369 _ (RetOk.forget k5_2 (by kernel_rfl) (RetOk.mk' (.v (.tuple [(.sl .nil (List.map e63 [])), (.agg [(vI v373.fCode), (vI v373.fIndex)])])) (by kernel_rfl) (by kernel_rfl)))
    ·refine Wp.sk (sqQ.n' (seqQ.n (Wp.sq (Wp.sq (Wp.rg (Ops.sg 1 1 ?_))))))
     refine Ops.on 2 (fun h0 e0 => (len_a (T := T) (g := .nil) h0 25 64 17 e63 [] (by kernel_rfl))) ?_
     refine Ops.sg 1 3 (Ops.dn (seqQ.n ?_))
     refine Wp.cd h k5_3 18 (fun h => ?_) (fun h => ?_)
     ·refine Wp.sq (Wp.rg (Ops.sg 1 1 ?_))
      obtain ⟨v374, ev374, h⟩ := bnd_some h
      refine Ops.on 2 (fun h0 e0 => (call_ok (E' := EG) (h := h0) (by kernel_rfl) (Args.v (vI 17) (eI 17) (by kernel_rfl) (Args.v (vI v264) (eI v264) (by kernel_rfl) Args.nil)) (ok13g m 17 v264 v374 ev374 n (by omega)))) ?_
      refine Ops.sg 2 4 (Ops.dn (seqQ.n (Wp.rt (sqQ.r (seqQ.r (blkQ.r (seqQ.r ?_)))))))
      cases h
      refine lpQ.r (blkQ.r ?_)
      exact hrx365 _ hsx369 _ (RetOk.forget k5_2 (by kernel_rfl) (RetOk.mk' (.v (.tuple [(.sl .nil (List.map e63 [])), (.agg [(vI v374.fCode), (vI v374.fIndex)])])) (by kernel_rfl) (by kernel_rfl)))
     ·refine Wp.sk (sqQ.n' (seqQ.n (Wp.sq (Wp.rg (Ops.sg 5 5 (Ops.dn (seqQ.n ?_)))))))
      cases h
  ·refine Wp.ex 8 (sqQ.x (seqQ.x ?_))
   cases h
   refine lpQ.x (blkQ.w ⟨Zs8 a2 (.v (.sl .nil (List.map e63 []))) ((appD 13 (List.map e63 []))::(dI v264)::(.v (.str v274))::q40 (q3 ((dP eS a1)::(dI (a1.length : Int))::(dI v264)::q15 ((dP e71 v275.1)::(dI (v275.1.length : Int))::(dI v338)::q40 (q8 []))))), [(b5_0 a0), b5_1, .dead, .dead, .dead, .dead, .dead, .dead, (b5_2 v275), .dead, .dead, .dead, (b5_3 v348), .dead]⟩ ?_)
   exact hxx366 v360  hsx369
theorem f5_hLx381 (m : Nat) (a0 : S34) (a1 : (List ByteArray)) (a2 : (List S56)) (o : ((List S63) × S26)) (n : Nat) (hn : 3 * m + 5 ≤ n + 1)  : ∀ (kx266 : Nat) (v264 : Int)  (ox265 : ((List S63) × S26) ⊕ (Int)), iter (fun (y : Int) => f5_B6 m a0 a1 a2 y) kx266 v264 = some ox265 → ∀ nx267, kx266 ≤ nx267 → (∀ r, ox265 = .inl r → ∀ σ, RetOk (X5 n) (resOf Proofs.Tryz.prog 5) (.tuple [(eL e63) r.1, e26 r.2]) σ → (seqQ (X5 n) p5_0 (fnQ (X5 n).E.T (resOf Proofs.Tryz.prog 5) (.tuple [(eL e63) o.1, e26 o.2]))) .ret σ) → (∀ (y : Int) , ox265 = .inr y → (seqQ (X5 n) p5_0 (fnQ (X5 n).E.T (resOf Proofs.Tryz.prog 5) (.tuple [(eL e63) o.1, e26 o.2]))) .normal ⟨q6 ((.v (.sl .nil (List.map e63 [])))::(.ptr 1 0)::q5 ((appD 6 (List.map e63 []))::q40 (q40 (q34 [])))), [(b5_0 a0), b5_1, .dead, .dead, .dead, .dead, .dead]⟩) → Lp (X5 n) k5_1 6 p5_1 nx267 ⟨Zs8 a2 (.v (.sl .nil (List.map e63 []))) ((appD 6 (List.map e63 []))::q40 (q5 ((dP eS a1)::(dI (a1.length : Int))::(dI v264)::q40 (q26 [])))), [(b5_0 a0), b5_1, .dead, .dead, .dead, .dead, .dead]⟩ (blkQ (X5 n) 4 [6, 7, 13] 6 (seqQ (X5 n) p5_0 (fnQ (X5 n).E.T (resOf Proofs.Tryz.prog 5) (.tuple [(eL e63) o.1, e26 o.2])))) := by
 intro kx266
 induction kx266 with
 | zero => intro v264  ox265 h; exact (iter_zero h).elim
 | succ kx266 ihx268 =>
  intro v264  ox265 h nx267 hnx271 hrx269 hxx270
  obtain ⟨nx267, rfl⟩ : ∃ q, nx267 = q + 1 := ⟨nx267 - 1, by omega⟩
  obtain ⟨sx272, h, hsx273⟩ := iter_some h
  have h : f5_B6 m a0 a1 a2 v264 = some sx272 := h
  unfold f5_B6 at h
  refine Lp.succ (Wp.sq (Wp.rg (Ops.sg 1 1 (Ops.dn (seqQ.n (Wp.sq ?_))))))
  refine Wp.cd h k5_1 7 (fun h => ?_) (fun h => ?_)
  ·refine Wp.sk (sqQ.n' (seqQ.n (Wp.sq (Wp.bk 5 k5_1 8 (Wp.sq (Wp.rg (Ops.sg 1 1 ?_)))))))
   obtain ⟨v274, ev274, h⟩ := bnd_some h
   refine Ops.on 2 (fun h0 e0 => (ix_r (T := T) h0 22 9 1 .plain eS a1 v264 v274 ev274 (by kernel_rfl) (by kernel_rfl) (fun _ => rfl))) ?_
   refine Ops.sg 3 5 (Ops.dn (seqQ.n (Wp.sq (Wp.rg (Ops.sg 2 2 ?_)))))
   obtain ⟨v275, ev275, h⟩ := bnd_some h
   refine Ops.on 3 (fun h0 e0 => (call_ok (E' := EG) (h := h0) (by kernel_rfl) (Args.v (.agg [(vI a0.fWords.fStates), (vP e134 a0.fWords.fArcs), (vP e136 a0.fWords.fFinals), (vP eS a0.fTags)]) (e34 a0) (by kernel_rfl) (Args.v (.str v274) (eS v274) (by kernel_rfl) Args.nil)) (ok16 m a0 v274 v275 ev275 n (by omega)))) ?_
   refine Ops.sg 6 9 (Ops.dn (seqQ.n (Wp.sq (Wp.sq (Wp.rg (Ops.sg 3 3 (Ops.dn (seqQ.n ?_))))))))
   refine Wp.cd h [2, 3, 6, 7, 13, 14, 15, 16, 59, 60, 61] 9 (fun h => ?_) (fun h => ?_)
   ·refine Wp.sq (Wp.rg (Ops.sg 1 1 ?_))
    obtain ⟨v276, ev276, h⟩ := bnd_some h
    refine Ops.on 2 (fun h0 e0 => (call_ok (E' := EG) (h := h0) (by kernel_rfl) (Args.v (vI 17) (eI 17) (by kernel_rfl) (Args.v (vI v264) (eI v264) (by kernel_rfl) Args.nil)) (ok13g m 17 v264 v276 ev276 n (by omega)))) ?_
    refine Ops.sg 2 4 (Ops.dn (seqQ.n (Wp.rt (sqQ.r (seqQ.r (blkQ.r (seqQ.r ?_)))))))
    cases h
    refine lpQ.r (blkQ.r ?_)
    exact hrx269 _ hsx273 _ (RetOk.forget k5_1 (by kernel_rfl) (RetOk.mk' (.v (.tuple [(.sl .nil (List.map e63 [])), (.agg [(vI v276.fCode), (vI v276.fIndex)])])) (by kernel_rfl) (by kernel_rfl)))
   ·refine Wp.sk (sqQ.n' (seqQ.n (Wp.sq (Wp.rg (Ops.sg 1 1 ?_)))))
    refine Ops.on 2 (fun h0 e0 => (len_r (T := T) h0 68 72 .plain e71 v275.1 (by kernel_rfl))) ?_
    refine Ops.sg 1 3 (Ops.dn (seqQ.n (Wp.bk 6 k5_1 10 ?_)))
    have hLx378 : ∀ (kx340 : Nat) (v338 : Int)  (ox339 : ((List S63) × S26) ⊕ (Int)), iter (fun (y : Int) => f5_B5 m a2 v264 v275 y) kx340 v338 = some ox339 → ∀ nx341, kx340 ≤ nx341 → (∀ r, ox339 = .inl r → ∀ σ, RetOk (X5 n) (resOf Proofs.Tryz.prog 5) (.tuple [(eL e63) r.1, e26 r.2]) σ → (blkQ (X5 n) 5 k5_1 8 (seqQ (X5 n) p5_2 (lpQ (X5 n) k5_1 6 p5_1 nx267 (blkQ (X5 n) 4 [6, 7, 13] 6 (seqQ (X5 n) p5_0 (fnQ (X5 n).E.T (resOf Proofs.Tryz.prog 5) (.tuple [(eL e63) o.1, e26 o.2]))))))) .ret σ) → (∀ (y : Int) , ox339 = .inr y → (blkQ (X5 n) 5 k5_1 8 (seqQ (X5 n) p5_2 (lpQ (X5 n) k5_1 6 p5_1 nx267 (blkQ (X5 n) 4 [6, 7, 13] 6 (seqQ (X5 n) p5_0 (fnQ (X5 n).E.T (resOf Proofs.Tryz.prog 5) (.tuple [(eL e63) o.1, e26 o.2]))))))) .normal ⟨Zs8 a2 (.v (.sl .nil (List.map e63 []))) ((appD 10 (List.map e63 []))::q40 (q5 ((dP eS a1)::(dI (a1.length : Int))::(dI v264)::q40 (q26 [])))), [(b5_0 a0), b5_1, .dead, .dead, .dead, .dead, .dead, .dead, (b5_2 v275), .dead, .dead]⟩) → Lp (X5 n) k5_0 10 p5_3 nx341 ⟨Zs8 a2 (.v (.sl .nil (List.map e63 []))) ((appD 10 (List.map e63 []))::(dI v264)::(.v (.str v274))::q40 (q3 ((dP eS a1)::(dI (a1.length : Int))::(dI v264)::q15 ((dP e71 v275.1)::(dI (v275.1.length : Int))::(dI v338)::q40 (q8 []))))), [(b5_0 a0), b5_1, .dead, .dead, .dead, .dead, .dead, .dead, (b5_2 v275), .dead, .dead]⟩ (blkQ (X5 n) 6 k5_1 10 (blkQ (X5 n) 5 k5_1 8 (seqQ (X5 n) p5_2 (lpQ (X5 n) k5_1 6 p5_1 nx267 (blkQ (X5 n) 4 [6, 7, 13] 6 (seqQ (X5 n) p5_0 (fnQ (X5 n).E.T (resOf Proofs.Tryz.prog 5) (.tuple [(eL e63) o.1, e26 o.2])))))))) := by
     intro kx340
     induction kx340 with
     | zero => intro v338  ox339 h; exact (iter_zero h).elim
     | succ kx340 ihx342 =>
      intro v338  ox339 h nx341 hnx345 hrx343 hxx344
      obtain ⟨nx341, rfl⟩ : ∃ q, nx341 = q + 1 := ⟨nx341 - 1, by omega⟩
      obtain ⟨sx346, h, hsx347⟩ := iter_some h
      have h : f5_B5 m a2 v264 v275 v338 = some sx346 := h
      unfold f5_B5 at h
      refine Lp.succ (Wp.sq (Wp.rg (Ops.sg 1 1 (Ops.dn (seqQ.n (Wp.sq ?_))))))
      refine Wp.cd h k5_0 11 (fun h => ?_) (fun h => ?_)
      ·refine Wp.sk (sqQ.n' (seqQ.n (Wp.sq (Wp.bk 7 k5_0 12 (Wp.sq (Wp.rg ?_))))))
       obtain ⟨v348, ev348, h⟩ := bnd_some h
       refine Ops.on 1 (fun h0 e0 => (ix_r (T := T) h0 68 72 3 .plain e71 v275.1 v338 v348 ev348 (by kernel_rfl) (by kernel_rfl) (fun _ => rfl))) ?_
       refine Ops.sg 3 4 (Ops.dn (seqQ.n (Wp.sq (Wp.rg (Ops.sg 1 1 ?_)))))
       refine Ops.on 2 (fun h0 e0 => (len_r (T := T) h0 23 57 .plain e56 a2 (by kernel_rfl))) ?_
       refine Ops.sg 1 3 (Ops.dn (seqQ.n (Wp.bk 8 k5_0 13 ?_)))
       have hLx375 := f5_hLx375 m a0 a1 a2 o n hn v264 v348 nx341 nx267 v274 v275 v338
       refine Wp.loop' k5_2 13 (by kernel_rfl) ⟨Zs8 a2 (.v (.sl .nil (List.map e63 []))) ((appD 13 (List.map e63 []))::(dI v264)::(.v (.str v274))::q3 ((.ptr 12 0)::q39 ((dP eS a1)::(dI (a1.length : Int))::(dI v264)::q15 ((dP e71 v275.1)::(dI (v275.1.length : Int))::(dI v338)::q3 ((dP e56 a2)::(dI (a2.length : Int))::(dI 0)::q40 (q2 [])))))), [(b5_0 a0), b5_1, .dead, .dead, .dead, .dead, .dead, .dead, (b5_2 v275), .dead, .dead, .dead, (b5_3 v348), .dead]⟩ (by kernel_rfl) ?_
       rcases brk_some h with ⟨r377, er377, h⟩ | ⟨y376, ey376, h⟩
       ·refine hLx375 _ 0  _ er377 n (by omega) (fun r er σ hσ => ?_) (fun y  ey => by cases ey)
        cases er
        refine blkQ.r (seqQ.r (lpQ.r ?_))
        cases h
        refine blkQ.r ?_
        exact hrx343 _ hsx347 _ (RetOk.forget k5_0 (by kernel_rfl) hσ)
       ·refine hLx375 _ 0  _ ey376 n (by omega) (fun r er => by cases er) (fun y  ey => ?_)
        cases ey
        refine blkQ.n' (seqQ.n (Wp.rg (Ops.sg 2 2 (Ops.dn (lpQ.m ⟨Zs8 a2 (.v (.sl .nil (List.map e63 []))) ((appD 10 (List.map e63 []))::(dI v264)::(.v (.str v274))::q40 (q3 ((dP eS a1)::(dI (a1.length : Int))::(dI v264)::q15 ((dP e71 v275.1)::(dI (v275.1.length : Int))::(dI (w64 (v338 + 1)))::q40 (q8 []))))), [(b5_0 a0), b5_1, .dead, .dead, .dead, .dead, .dead, .dead, (b5_2 v275), .dead, .dead]⟩ ?_)))))
        cases h
        exact ihx342 (w64 (v338 + 1))  _ hsx347 _ (by omega) hrx343 hxx344
      ·refine Wp.ex 6 (sqQ.x (seqQ.x ?_))
       cases h
       refine lpQ.x (blkQ.w ⟨Zs8 a2 (.v (.sl .nil (List.map e63 []))) ((appD 10 (List.map e63 []))::q40 (q5 ((dP eS a1)::(dI (a1.length : Int))::(dI v264)::q40 (q26 [])))), [(b5_0 a0), b5_1, .dead, .dead, .dead, .dead, .dead, .dead, (b5_2 v275), .dead, .dead]⟩ ?_)
       exact hxx344 v338  hsx347
    refine Wp.loop' k5_0 10 (by kernel_rfl) ⟨Zs8 a2 (.v (.sl .nil (List.map e63 []))) ((appD 10 (List.map e63 []))::(dI v264)::(.v (.str v274))::q40 (q3 ((dP eS a1)::(dI (a1.length : Int))::(dI v264)::q15 ((dP e71 v275.1)::(dI (v275.1.length : Int))::(dI 0)::q40 (q8 []))))), [(b5_0 a0), b5_1, .dead, .dead, .dead, .dead, .dead, .dead, (b5_2 v275), .dead, .dead]⟩ (by kernel_rfl) ?_
    rcases brk_some h with ⟨r380, er380, h⟩ | ⟨y379, ey379, h⟩
    ·refine hLx378 _ 0  _ er380 n (by omega) (fun r er σ hσ => ?_) (fun y  ey => by cases ey)
     cases er
     refine blkQ.r (seqQ.r (lpQ.r ?_))
     cases h
     refine blkQ.r ?_
     exact hrx269 _ hsx273 _ (RetOk.forget k5_1 (by kernel_rfl) hσ)
    ·refine hLx378 _ 0  _ ey379 n (by omega) (fun r er => by cases er) (fun y  ey => ?_)
     cases ey
     refine blkQ.n' (seqQ.n (Wp.rg (Ops.sg 2 2 (Ops.dn (lpQ.m ⟨Zs8 a2 (.v (.sl .nil (List.map e63 []))) ((appD 6 (List.map e63 []))::q40 (q5 ((dP eS a1)::(dI (a1.length : Int))::(dI (w64 (v264 + 1)))::q40 (q26 [])))), [(b5_0 a0), b5_1, .dead, .dead, .dead, .dead, .dead]⟩ ?_)))))
     cases h
     exact ihx268 (w64 (v264 + 1))  _ hsx273 _ (by omega) hrx269 hxx270
  ·refine Wp.ex 4 (sqQ.x (seqQ.x ?_))
   cases h
   refine lpQ.x (blkQ.w ⟨q6 ((.v (.sl .nil (List.map e63 [])))::(.ptr 1 0)::q5 ((appD 6 (List.map e63 []))::q40 (q40 (q34 [])))), [(b5_0 a0), b5_1, .dead, .dead, .dead, .dead, .dead]⟩ ?_)
   exact hxx270 v264  hsx273
theorem ok5 (m : Nat) (a0 : S34) (a1 : (List ByteArray)) (a2 : (List S56)) (o : ((List S63) × S26)) (h : f5 m a0 a1 a2 = some o) (n : Nat) (hn : 3 * m + 5 ≤ n) : Fn Proofs.Tryz.prog EG n 5 [.v (e34 a0), .v ((eL eS) a1), .v ((eL e56) a2)] (.tuple [(eL e63) o.1, e26 o.2]) := by
 obtain ⟨n, rfl⟩ : ∃ q, n = q + 1 := ⟨n - 1, by omega⟩
 unfold f5 at h
 refine Fn.of (by kernel_rfl) (by kernel_rfl) (by kernel_rfl) ⟨(.v (.agg [(vI a0.fWords.fStates), (vP e134 a0.fWords.fArcs), (vP e136 a0.fWords.fFinals), (vP eS a0.fTags)]))::(dP eS a1)::(dP e56 a2)::u40 (u40 (u40 (u5 []))), []⟩ (by kernel_rfl) (Wp.sq (Wp.rg (Ops.sg 3 3 (Ops.dn (seqQ.n (Wp.sq (Wp.sq (Wp.rg (Ops.sg 1 1 ?_)))))))))
 refine Ops.on 2 (fun h0 e0 => (len_r (T := T) h0 22 9 .plain eS a1 (by kernel_rfl))) ?_
 refine Ops.sg 1 3 (Ops.dn (seqQ.n ?_))
 refine Wp.cd h [1, 2, 3, 6, 7] 2 (fun h => ?_) (fun h => ?_)
 ·refine Wp.sq (Wp.rg ?_)
  obtain ⟨v1, ev1, h⟩ := bnd_some h
  refine Ops.on 1 (fun h0 e0 => (call_ok (E' := EG) (h := h0) (by kernel_rfl) (Args.v (vI 2) (eI 2) (by kernel_rfl) (Args.v (vI (-2)) (eI (-2)) (by kernel_rfl) Args.nil)) (ok13g m 2 (-2) v1 ev1 n (by omega)))) ?_
  refine Ops.sg 2 3 (Ops.dn (seqQ.n (Wp.rt (sqQ.r (seqQ.r ?_)))))
  exact fnQ.r' (X5 n) (fun z => (.tuple [(eL e63) z.1, e26 z.2])) h (RetOk.mk' (.v (.tuple [(.sl .nil (List.map e63 [])), (.agg [(vI v1.fCode), (vI v1.fIndex)])])) (by kernel_rfl) (by kernel_rfl))
 ·refine Wp.sk (sqQ.n' (seqQ.n (Wp.sq (Wp.sq (Wp.rg (Ops.sg 1 1 ?_))))))
  refine Ops.on 2 (fun h0 e0 => (len_r (T := T) h0 22 9 .plain eS a1 (by kernel_rfl))) ?_
  refine Ops.sg 1 3 (Ops.dn (seqQ.n (Wp.bk 0 [1, 2, 3, 6, 7] 3 ?_)))
  have hLx22 : ∀ (kx11 : Nat) (v9 : Int)  (ox10 : ((List S63) × S26) ⊕ (Int)), iter (fun (y : Int) => f5_B1 m a1 y) kx11 v9 = some ox10 → ∀ nx12, kx11 ≤ nx12 → (∀ r, ox10 = .inl r → ∀ σ, RetOk (X5 n) (resOf Proofs.Tryz.prog 5) (.tuple [(eL e63) r.1, e26 r.2]) σ → (seqQ (X5 n) (cR (cR (cR C5))) (fnQ (X5 n).E.T (resOf Proofs.Tryz.prog 5) (.tuple [(eL e63) o.1, e26 o.2]))) .ret σ) → (∀ (y : Int) , ox10 = .inr y → (seqQ (X5 n) (cR (cR (cR C5))) (fnQ (X5 n).E.T (resOf Proofs.Tryz.prog 5) (.tuple [(eL e63) o.1, e26 o.2]))) .normal ⟨Zs13 a1 a2 (.v (.sl .nil (List.map e63 []))) (q40 (q40 (q40 []))), [(b5_0 a0), b5_1, .dead, .dead]⟩) → Lp (X5 n) k5_4 3 (cL (cL (cR (cL (cR (cR C5)))))) nx12 ⟨Zs13 a1 a2 (.v (.sl .nil (List.map e63 []))) (q19 ((dP eS a1)::(dI (a1.length : Int))::(dI v9)::q40 (q40 (q18 [])))), [(b5_0 a0), b5_1, .dead, .dead]⟩ (blkQ (X5 n) 0 [1, 2, 3, 6, 7] 3 (seqQ (X5 n) (cR (cR (cR C5))) (fnQ (X5 n).E.T (resOf Proofs.Tryz.prog 5) (.tuple [(eL e63) o.1, e26 o.2])))) := by
   intro kx11
   induction kx11 with
   | zero => intro v9  ox10 h; exact (iter_zero h).elim
   | succ kx11 ihx13 =>
    intro v9  ox10 h nx12 hnx16 hrx14 hxx15
    obtain ⟨nx12, rfl⟩ : ∃ q, nx12 = q + 1 := ⟨nx12 - 1, by omega⟩
    obtain ⟨sx17, h, hsx18⟩ := iter_some h
    have h : f5_B1 m a1 v9 = some sx17 := h
    unfold f5_B1 at h
    refine Lp.succ (Wp.sq (Wp.rg (Ops.sg 1 1 (Ops.dn (seqQ.n (Wp.sq ?_))))))
    refine Wp.cd h k5_4 4 (fun h => ?_) (fun h => ?_)
    ·refine Wp.sk (sqQ.n' (seqQ.n (Wp.sq (Wp.bk 1 k5_4 5 (Wp.sq (Wp.rg (Ops.sg 1 1 ?_)))))))
     obtain ⟨v19, ev19, h⟩ := bnd_some h
     refine Ops.on 2 (fun h0 e0 => (ix_r (T := T) h0 22 9 1 .plain eS a1 v9 v19 ev19 (by kernel_rfl) (by kernel_rfl) (fun _ => rfl))) ?_
     refine Ops.sg 3 5 (Ops.dn (seqQ.n (Wp.sq (Wp.rg (Ops.sg 1 1 ?_)))))
     obtain ⟨v20, ev20, h⟩ := bnd_some h
     refine Ops.on 2 (fun h0 e0 => (call_ok (E' := EG) (h := h0) (by kernel_rfl) (Args.v (.str v19) (eS v19) (by kernel_rfl) Args.nil) (ok14g m v19 v20 ev20 n (by omega)))) ?_
     refine Ops.sg 1 3 (Ops.dn (seqQ.n ?_))
     refine Wp.cd h k5_4 5 (fun h => ?_) (fun h => ?_)
     ·refine Wp.sq (Wp.rg (Ops.sg 1 1 ?_))
      obtain ⟨v21, ev21, h⟩ := bnd_some h
      refine Ops.on 2 (fun h0 e0 => (call_ok (E' := EG) (h := h0) (by kernel_rfl) (Args.v (vI 5) (eI 5) (by kernel_rfl) (Args.v (vI v9) (eI v9) (by kernel_rfl) Args.nil)) (ok13g m 5 v9 v21 ev21 n (by omega)))) ?_
      refine Ops.sg 2 4 (Ops.dn (seqQ.n (Wp.rt (sqQ.r (blkQ.r (seqQ.r ?_))))))
      cases h
      refine lpQ.r (blkQ.r ?_)
      exact hrx14 _ hsx18 _ (RetOk.forget k5_4 (by kernel_rfl) (RetOk.mk' (.v (.tuple [(.sl .nil (List.map e63 [])), (.agg [(vI v21.fCode), (vI v21.fIndex)])])) (by kernel_rfl) (by kernel_rfl)))
     ·refine Wp.sk (sqQ.n' (blkQ.n' (seqQ.n (Wp.rg (Ops.sg 2 2 (Ops.dn (lpQ.m ⟨Zs13 a1 a2 (.v (.sl .nil (List.map e63 []))) (q19 ((dP eS a1)::(dI (a1.length : Int))::(dI (w64 (v9 + 1)))::q40 (q40 (q18 [])))), [(b5_0 a0), b5_1, .dead, .dead]⟩ ?_)))))))
      cases h
      exact ihx13 (w64 (v9 + 1))  _ hsx18 _ (by omega) hrx14 hxx15
    ·refine Wp.ex 0 (sqQ.x (seqQ.x ?_))
     cases h
     refine lpQ.x (blkQ.w ⟨Zs13 a1 a2 (.v (.sl .nil (List.map e63 []))) (q40 (q40 (q40 []))), [(b5_0 a0), b5_1, .dead, .dead]⟩ ?_)
     exact hxx15 v9  hsx18
  refine Wp.loop' k5_4 3 (by kernel_rfl) ⟨Zs13 a1 a2 (.v (.sl .nil (List.map e63 []))) (q19 ((dP eS a1)::(dI (a1.length : Int))::(dI 0)::q40 (q40 (q18 [])))), [(b5_0 a0), b5_1, .dead, .dead]⟩ (by kernel_rfl) ?_
  rcases brk_some h with ⟨r24, er24, h⟩ | ⟨y23, ey23, h⟩
  ·refine hLx22 _ 0  _ er24 n (by omega) (fun r er σ hσ => ?_) (fun y  ey => by cases ey)
   cases er
   refine seqQ.r ?_
   exact fnQ.r' (X5 n) (fun z => (.tuple [(eL e63) z.1, e26 z.2])) h hσ
  ·refine hLx22 _ 0  _ ey23 n (by omega) (fun r er => by cases er) (fun y  ey => ?_)
   cases ey
   refine seqQ.n (Wp.sq (Wp.sq (Wp.rg (Ops.sg 1 1 ?_))))
   refine Ops.on 2 (fun h0 e0 => (len_r (T := T) h0 23 57 .plain e56 a2 (by kernel_rfl))) ?_
   refine Ops.sg 1 3 (Ops.dn (seqQ.n ?_))
   refine Wp.cd h [1, 2, 3, 6, 7] 4 (fun h => ?_) (fun h => ?_)
   ·refine Wp.sq (Wp.rg ?_)
    obtain ⟨v25, ev25, h⟩ := bnd_some h
    refine Ops.on 1 (fun h0 e0 => (call_ok (E' := EG) (h := h0) (by kernel_rfl) (Args.v (vI 2) (eI 2) (by kernel_rfl) (Args.v (vI (-3)) (eI (-3)) (by kernel_rfl) Args.nil)) (ok13g m 2 (-3) v25 ev25 n (by omega)))) ?_
    refine Ops.sg 2 3 (Ops.dn (seqQ.n (Wp.rt (sqQ.r (seqQ.r ?_)))))
    exact fnQ.r' (X5 n) (fun z => (.tuple [(eL e63) z.1, e26 z.2])) h (RetOk.mk' (.v (.tuple [(.sl .nil (List.map e63 [])), (.agg [(vI v25.fCode), (vI v25.fIndex)])])) (by kernel_rfl) (by kernel_rfl))
   ·refine Wp.sk (sqQ.n' (seqQ.n (Wp.sq (Wp.sq (Wp.rg (Ops.sg 1 1 ?_))))))
    refine Ops.on 2 (fun h0 e0 => (len_r (T := T) h0 23 57 .plain e56 a2 (by kernel_rfl))) ?_
    refine Ops.sg 1 3 (Ops.dn (seqQ.n (Wp.bk 2 [1, 2, 3, 6, 7] 5 ?_)))
    have hLx46 : ∀ (kx35 : Nat) (v33 : Int)  (ox34 : ((List S63) × S26) ⊕ (Int)), iter (fun (y : Int) => f5_B2 m a2 y) kx35 v33 = some ox34 → ∀ nx36, kx35 ≤ nx36 → (∀ r, ox34 = .inl r → ∀ σ, RetOk (X5 n) (resOf Proofs.Tryz.prog 5) (.tuple [(eL e63) r.1, e26 r.2]) σ → (seqQ (X5 n) (cR (cR (cR (cR (cR C5))))) (fnQ (X5 n).E.T (resOf Proofs.Tryz.prog 5) (.tuple [(eL e63) o.1, e26 o.2]))) .ret σ) → (∀ (y : Int) , ox34 = .inr y → (seqQ (X5 n) (cR (cR (cR (cR (cR C5))))) (fnQ (X5 n).E.T (resOf Proofs.Tryz.prog 5) (.tuple [(eL e63) o.1, e26 o.2]))) .normal ⟨Zs13 a1 a2 (.v (.sl .nil (List.map e63 []))) (q40 (q40 (q40 []))), [(b5_0 a0), b5_1, .dead, .dead, .dead, .dead]⟩) → Lp (X5 n) k5_5 5 (cL (cL (cR (cL (cR (cR (cR (cR C5)))))))) nx36 ⟨Zs13 a1 a2 (.v (.sl .nil (List.map e63 []))) (q36 ((dP e56 a2)::(dI (a2.length : Int))::(dI v33)::q40 (q40 (q1 [])))), [(b5_0 a0), b5_1, .dead, .dead, .dead, .dead]⟩ (blkQ (X5 n) 2 [1, 2, 3, 6, 7] 5 (seqQ (X5 n) (cR (cR (cR (cR (cR C5))))) (fnQ (X5 n).E.T (resOf Proofs.Tryz.prog 5) (.tuple [(eL e63) o.1, e26 o.2])))) := by
     intro kx35
     induction kx35 with
     | zero => intro v33  ox34 h; exact (iter_zero h).elim
     | succ kx35 ihx37 =>
      intro v33  ox34 h nx36 hnx40 hrx38 hxx39
      obtain ⟨nx36, rfl⟩ : ∃ q, nx36 = q + 1 := ⟨nx36 - 1, by omega⟩
      obtain ⟨sx41, h, hsx42⟩ := iter_some h
      have h : f5_B2 m a2 v33 = some sx41 := h
      unfold f5_B2 at h
      refine Lp.succ (Wp.sq (Wp.rg (Ops.sg 1 1 (Ops.dn (seqQ.n (Wp.sq ?_))))))
      refine Wp.cd h k5_5 6 (fun h => ?_) (fun h => ?_)
      ·refine Wp.sk (sqQ.n' (seqQ.n (Wp.sq (Wp.bk 3 k5_5 7 (Wp.sq (Wp.rg (Ops.sg 1 1 ?_)))))))
       obtain ⟨v43, ev43, h⟩ := bnd_some h
       refine Ops.on 2 (fun h0 e0 => (ix_r (T := T) h0 23 57 8 .plain e56 a2 v33 v43 ev43 (by kernel_rfl) (by kernel_rfl) (fun _ => rfl))) ?_
       refine Ops.sg 4 6 (Ops.dn (seqQ.n (Wp.sq (Wp.rg (Ops.sg 1 1 ?_)))))
       obtain ⟨v44, ev44, h⟩ := bnd_some h
       refine Ops.on 2 (fun h0 e0 => (call_ok (E' := EG) (h := h0) (by kernel_rfl) (Args.v (.agg [(vP eS v43.fTags), (vP e61 v43.fGraph.fNodes), (vI v43.fMeaning.fKind), (.str v43.fMeaning.fName), (vI v43.fMeaning.fIndex), (.str v43.fMeaning.fType.fBase), (vP ep51 v43.fMeaning.fType.fArgs), (vP ep54 v43.fMeaning.fArgs)]) (e56 v43) (by kernel_rfl) Args.nil) (ok15g m v43 v44 ev44 n (by omega)))) ?_
       refine Ops.sg 1 3 (Ops.dn (seqQ.n (Wp.sq (Wp.rg (Ops.sg 2 2 (Ops.dn (seqQ.n ?_)))))))
       refine Wp.cd h k5_5 8 (fun h => ?_) (fun h => ?_)
       ·refine Wp.sq (Wp.rg (Ops.sg 2 2 ?_))
        obtain ⟨v45, ev45, h⟩ := bnd_some h
        refine Ops.on 3 (fun h0 e0 => (call_ok (E' := EG) (h := h0) (by kernel_rfl) (Args.v (vI v44) (eI v44) (by kernel_rfl) (Args.v (vI v33) (eI v33) (by kernel_rfl) Args.nil)) (ok13g m v44 v33 v45 ev45 n (by omega)))) ?_
        refine Ops.sg 2 5 (Ops.dn (seqQ.n (Wp.rt (sqQ.r (blkQ.r (seqQ.r ?_))))))
        cases h
        refine lpQ.r (blkQ.r ?_)
        exact hrx38 _ hsx42 _ (RetOk.forget k5_5 (by kernel_rfl) (RetOk.mk' (.v (.tuple [(.sl .nil (List.map e63 [])), (.agg [(vI v45.fCode), (vI v45.fIndex)])])) (by kernel_rfl) (by kernel_rfl)))
       ·refine Wp.sk (sqQ.n' (blkQ.n' (seqQ.n (Wp.rg (Ops.sg 2 2 (Ops.dn (lpQ.m ⟨Zs13 a1 a2 (.v (.sl .nil (List.map e63 []))) (q36 ((dP e56 a2)::(dI (a2.length : Int))::(dI (w64 (v33 + 1)))::q40 (q40 (q1 [])))), [(b5_0 a0), b5_1, .dead, .dead, .dead, .dead]⟩ ?_)))))))
        cases h
        exact ihx37 (w64 (v33 + 1))  _ hsx42 _ (by omega) hrx38 hxx39
      ·refine Wp.ex 2 (sqQ.x (seqQ.x ?_))
       cases h
       refine lpQ.x (blkQ.w ⟨Zs13 a1 a2 (.v (.sl .nil (List.map e63 []))) (q40 (q40 (q40 []))), [(b5_0 a0), b5_1, .dead, .dead, .dead, .dead]⟩ ?_)
       exact hxx39 v33  hsx42
    refine Wp.loop' k5_5 5 (by kernel_rfl) ⟨Zs13 a1 a2 (.v (.sl .nil (List.map e63 []))) (q36 ((dP e56 a2)::(dI (a2.length : Int))::(dI 0)::q40 (q40 (q1 [])))), [(b5_0 a0), b5_1, .dead, .dead, .dead, .dead]⟩ (by kernel_rfl) ?_
    rcases brk_some h with ⟨r48, er48, h⟩ | ⟨y47, ey47, h⟩
    ·refine hLx46 _ 0  _ er48 n (by omega) (fun r er σ hσ => ?_) (fun y  ey => by cases ey)
     cases er
     refine seqQ.r ?_
     exact fnQ.r' (X5 n) (fun z => (.tuple [(eL e63) z.1, e26 z.2])) h hσ
    ·refine hLx46 _ 0  _ ey47 n (by omega) (fun r er => by cases er) (fun y  ey => ?_)
     cases ey
     refine seqQ.n (Wp.sq (Wp.rg (Ops.sg 1 1 (Ops.dn (seqQ.n (Wp.sq (Wp.sq (Wp.rg (Ops.sg 1 1 ?_)))))))))
     refine Ops.on 2 (fun h0 e0 => (len_r (T := T) h0 22 9 .plain eS a1 (by kernel_rfl))) ?_
     refine Ops.sg 1 3 (Ops.dn (seqQ.n (Wp.bk 4 [6, 7, 13] 6 ?_)))
     have hLx381 := f5_hLx381 m a0 a1 a2 o n hn
     refine Wp.loop' k5_1 6 (by kernel_rfl) ⟨Zs8 a2 (.v (.sl .nil (List.map e63 []))) ((appD 6 (List.map e63 []))::q40 (q5 ((dP eS a1)::(dI (a1.length : Int))::(dI 0)::q40 (q26 [])))), [(b5_0 a0), b5_1, .dead, .dead, .dead, .dead, .dead]⟩ (by kernel_rfl) ?_
     rcases brk_some h with ⟨r383, er383, h⟩ | ⟨y382, ey382, h⟩
     ·refine hLx381 _ 0  _ er383 n (by omega) (fun r er σ hσ => ?_) (fun y  ey => by cases ey)
      cases er
      refine seqQ.r ?_
      exact fnQ.r' (X5 n) (fun z => (.tuple [(eL e63) z.1, e26 z.2])) h hσ
     ·refine hLx381 _ 0  _ ey382 n (by omega) (fun r er => by cases er) (fun y  ey => ?_)
      cases ey
      refine seqQ.n (Wp.sq (Wp.rg (Ops.sg 4 4 (Ops.dn (seqQ.n (Wp.rt ?_))))))
      exact fnQ.r' (X5 n) (fun z => (.tuple [(eL e63) z.1, e26 z.2])) h (RetOk.tup [(appD 6 (List.map e63 [])), (.v (.agg [(vI 0), (vI 0)]))] (by kernel_rfl) (.d (appD 6 (List.map e63 [])) _ (appD_frz _ _ _ _) (appF_nt _ _ _) (.v (.agg [(vI 0), (vI 0)]) _ (by kernel_rfl) (by kernel_rfl) .nil)))
noncomputable def f3_r1 (m : Nat) (v15 : Bool) : Option Bool :=
 some v15
noncomputable def f3_j2 (m : Nat) (v2 : ((List S63) × S26)) (v6 v7 : Int) : Option Bool :=
 f3_r1 m (((v2.2.fCode == v6) && ((v2.2.fIndex == v7) && true)) && ((v2.1.length : Int) == 0))
noncomputable def f3 (m : Nat) (a0 : (List ByteArray)) (a1 : (List S56)) : Option Bool :=
 bnd (f4 m ) fun v1 =>
 cnd (!v1)
 (some false)
 (bnd (f5 m ((⟨(⟨0, [], []⟩ : S32), []⟩ : S34)) a0 a1) fun v2 =>
 bnd (f6 m a0) fun v3 =>
 cnd ((v3.fCode == 0) && ((v3.fIndex == 0) && true))
 (bnd (f7 m a1) fun v17 =>
 f3_j2 m v2 v17.fCode v17.fIndex)
 (f3_j2 m v2 v3.fCode v3.fIndex))
noncomputable abbrev X3 (n : Nat) : Cx := cxOf Proofs.Tryz.prog EG 3 n
noncomputable def C3 : Code := bodyOf Proofs.Tryz.prog 3
noncomputable abbrev b3_0 (w0 : ((List S63) × S26)) : AObj := .cells [(dI w0.2.fCode), (dI w0.2.fIndex)]
theorem ok3 (m : Nat) (a0 : (List ByteArray)) (a1 : (List S56)) (o : Bool) (h : f3 m a0 a1 = some o) (n : Nat) (hn : 3 * m + 6 ≤ n) : Fn Proofs.Tryz.prog EG n 3 [.v ((eL eS) a0), .v ((eL e56) a1)] (eB o) := by
 obtain ⟨n, rfl⟩ : ∃ q, n = q + 1 := ⟨n - 1, by omega⟩
 unfold f3 at h
 refine Fn.of (by kernel_rfl) (by kernel_rfl) (by kernel_rfl) ⟨(dP eS a0)::(dP e56 a1)::u30 [], []⟩ (by kernel_rfl) (Wp.sq (Wp.rg (Ops.sg 1 1 (Ops.dn (seqQ.n (Wp.sq (Wp.sq (Wp.rg ?_))))))))
 obtain ⟨v1, ev1, h⟩ := bnd_some h
 refine Ops.on 1 (fun h0 e0 => (call_ok (E' := EG) (h := h0) (by kernel_rfl) Args.nil (ok4 m  v1 ev1 n (by omega)))) ?_
 refine Ops.sg 1 2 (Ops.dn (seqQ.n ?_))
 refine Wp.cd h [0, 1, 4] 0 (fun h => ?_) (fun h => ?_)
 ·refine Wp.sq (Wp.rg (Ops.sg 1 1 (Ops.dn (seqQ.n (Wp.rt (sqQ.r (seqQ.r ?_)))))))
  exact fnQ.r' (X3 n) (fun z => (eB z)) h (RetOk.mk' (dB false) (by kernel_rfl) (by kernel_rfl))
 ·refine Wp.sk (sqQ.n' (seqQ.n (Wp.sq (Wp.rg (Ops.sg 3 3 ?_)))))
  obtain ⟨v2, ev2, h⟩ := bnd_some h
  refine Ops.on 4 (fun h0 e0 => (call_ok (E' := EG) (h := h0) (by kernel_rfl) (Args.v (.agg [(vI 0), (.sl .nil (List.map e134 [])), (.sl .nil (List.map e136 [])), (.sl .nil (List.map eS []))]) (e34 ((⟨(⟨0, [], []⟩ : S32), []⟩ : S34))) (by kernel_rfl) (Args.v (vP eS a0) ((eL eS) a0) (by kernel_rfl) (Args.v (vP e56 a1) ((eL e56) a1) (by kernel_rfl) Args.nil))) (ok5 m ((⟨(⟨0, [], []⟩ : S32), []⟩ : S34)) a0 a1 v2 ev2 n (by omega)))) ?_
  refine Ops.sg 6 10 (Ops.dn (seqQ.n (Wp.sq (Wp.rg (Ops.sg 1 1 ?_)))))
  obtain ⟨v3, ev3, h⟩ := bnd_some h
  refine Ops.on 2 (fun h0 e0 => (call_ok (E' := EG) (h := h0) (by kernel_rfl) (Args.v (vP eS a0) ((eL eS) a0) (by kernel_rfl) Args.nil) (ok6g m a0 v3 ev3 n (by omega)))) ?_
  refine Ops.sg 2 4 (Ops.dn (seqQ.n (Wp.sq (Wp.sq (Wp.rg (Ops.sg 3 3 (Ops.dn (seqQ.n ?_))))))))
  have J3j8 : ∀ (v6 v7 : Int) (d4 d5 : D), f3_j2 m v2 v6 v7 = some o → (seqQ (X3 n) (cR (cR (cR (cR (cR C3))))) (fnQ (X3 n).E.T (resOf Proofs.Tryz.prog 3) (eB o))) .normal ⟨Zs3 a0 a1 v2.1 v1 (!v1) (.v (.tuple [(vP e63 v2.1), (.agg [(vI v2.2.fCode), (vI v2.2.fIndex)])])) (.v (.agg [(vI 0), (.sl .nil (List.map e134 [])), (.sl .nil (List.map e136 [])), (.sl .nil (List.map eS []))])) (.v (.agg [(vI v2.2.fCode), (vI v2.2.fIndex)])) (.v (.agg [(vI v3.fCode), (vI v3.fIndex)])) (.v (.agg [(vI 0), (vI 0)])) ((v3.fCode == 0) && ((v3.fIndex == 0) && true)) (d4::d5::u8 []), [(b3_0 v2), (.cells [(dI v6), (dI v7)])]⟩ := by
   intro v6 v7 d4 d5 h
   unfold f3_j2 at h
   refine seqQ.n (Wp.sq (Wp.rg (Ops.sg 4 4 ?_)))
   refine Ops.hv (fun KQ => ∀ (d11 d12 d13 : D) (v14 v15 : Bool), f3_r1 m v15 = some o → KQ 8 ⟨Zs3 a0 a1 v2.1 v1 (!v1) (.v (.tuple [(vP e63 v2.1), (.agg [(vI v2.2.fCode), (vI v2.2.fIndex)])])) (.v (.agg [(vI 0), (.sl .nil (List.map e134 [])), (.sl .nil (List.map e136 [])), (.sl .nil (List.map eS []))])) (.v (.agg [(vI v2.2.fCode), (vI v2.2.fIndex)])) (.v (.agg [(vI v3.fCode), (vI v3.fIndex)])) (.v (.agg [(vI 0), (vI 0)])) ((v3.fCode == 0) && ((v3.fIndex == 0) && true)) (d4::d5::(.v (.agg [(vI v2.2.fCode), (vI v2.2.fIndex)]))::(.v (.agg [(vI v6), (vI v7)]))::(dB v14)::(dB v14)::d11::d12::d13::(dB v15)::[]), [(b3_0 v2), (.cells [(dI v6), (dI v7)])]⟩) ?_ fun J3j16 => ?_
   ·intro d11 d12 d13 v14 v15 h
    unfold f3_r1 at h
    refine Ops.sg 1 9 (Ops.dn (seqQ.n (Wp.rt ?_)))
    exact fnQ.r' (X3 n) (fun z => (eB z)) h (RetOk.mk' (dB v15) (by kernel_rfl) (by kernel_rfl))
   refine Ops.hv (fun KQ => ∀ v9 : Bool, f3_r1 m (v9 && ((v2.1.length : Int) == 0)) = some o → KQ 4 ⟨Zs3 a0 a1 v2.1 v1 (!v1) (.v (.tuple [(vP e63 v2.1), (.agg [(vI v2.2.fCode), (vI v2.2.fIndex)])])) (.v (.agg [(vI 0), (.sl .nil (List.map e134 [])), (.sl .nil (List.map e136 [])), (.sl .nil (List.map eS []))])) (.v (.agg [(vI v2.2.fCode), (vI v2.2.fIndex)])) (.v (.agg [(vI v3.fCode), (vI v3.fIndex)])) (.v (.agg [(vI 0), (vI 0)])) ((v3.fCode == 0) && ((v3.fIndex == 0) && true)) (d4::d5::(.v (.agg [(vI v2.2.fCode), (vI v2.2.fIndex)]))::(.v (.agg [(vI v6), (vI v7)]))::(dB v9)::(dB v9)::u4 []), [(b3_0 v2), (.cells [(dI v6), (dI v7)])]⟩) ?_ fun G3g10 => Ops.sx (G3g10 ((v2.2.fCode == v6) && ((v2.2.fIndex == v7) && true)) h)
   intro v9 h
   cases v9
   ·refine Ops.sg 4 8 ?_
    exact Ops.sx (J3j16 U U U false false h)
   ·refine Ops.sg 1 5 ?_
    refine Ops.on 6 (fun h0 e0 => (len_r (T := T) h0 25 64 .plain e63 v2.1 (by kernel_rfl))) ?_
    refine Ops.sg 2 8 ?_
    exact Ops.sx (J3j16 (dP e63 v2.1) (dI (v2.1.length : Int)) (dB ((v2.1.length : Int) == 0)) true ((v2.1.length : Int) == 0) h)
  refine Wp.cd h [4, 5, 6, 7] 2 (fun h => ?_) (fun h => ?_)
  ·refine Wp.rg (Ops.sg 1 1 ?_)
   obtain ⟨v17, ev17, h⟩ := bnd_some h
   refine Ops.on 2 (fun h0 e0 => (call_ok (E' := EG) (h := h0) (by kernel_rfl) (Args.v (vP e56 a1) ((eL e56) a1) (by kernel_rfl) Args.nil) (ok7g m a1 v17 ev17 n (by omega)))) ?_
   refine Ops.sg 1 3 (Ops.dn (sqQ.m ⟨Zs3 a0 a1 v2.1 v1 (!v1) (.v (.tuple [(vP e63 v2.1), (.agg [(vI v2.2.fCode), (vI v2.2.fIndex)])])) (.v (.agg [(vI 0), (.sl .nil (List.map e134 [])), (.sl .nil (List.map e136 [])), (.sl .nil (List.map eS []))])) (.v (.agg [(vI v2.2.fCode), (vI v2.2.fIndex)])) (.v (.agg [(vI v3.fCode), (vI v3.fIndex)])) (.v (.agg [(vI 0), (vI 0)])) ((v3.fCode == 0) && ((v3.fIndex == 0) && true)) ((dP e56 a1)::(.v (.agg [(vI v17.fCode), (vI v17.fIndex)]))::u8 []), [(b3_0 v2), (.cells [(dI v17.fCode), (dI v17.fIndex)])]⟩ ?_))
   exact J3j8 v17.fCode v17.fIndex _ _ h
  ·refine Wp.sk (sqQ.m ⟨Zs3 a0 a1 v2.1 v1 (!v1) (.v (.tuple [(vP e63 v2.1), (.agg [(vI v2.2.fCode), (vI v2.2.fIndex)])])) (.v (.agg [(vI 0), (.sl .nil (List.map e134 [])), (.sl .nil (List.map e136 [])), (.sl .nil (List.map eS []))])) (.v (.agg [(vI v2.2.fCode), (vI v2.2.fIndex)])) (.v (.agg [(vI v3.fCode), (vI v3.fIndex)])) (.v (.agg [(vI 0), (vI 0)])) ((v3.fCode == 0) && ((v3.fIndex == 0) && true)) (u10 []), [(b3_0 v2), (.cells [(dI v3.fCode), (dI v3.fIndex)])]⟩ ?_)
   exact J3j8 v3.fCode v3.fIndex _ _ h
def WI (n : Int) : Prop := -9223372036854775808 ≤ n ∧ n ≤ 9223372036854775807
theorem wf_int {m : Int} (h : (Lit.int .i64 m).wf = true) : WI m := by
 have h : (decide (IntKind.i64.min ≤ m) && decide (m ≤ IntKind.i64.max)) = true := h
 have e1 : IntKind.i64.min = -9223372036854775808 := by decide
 have e2 : IntKind.i64.max = 9223372036854775807 := by decide
 rw [e1, e2, Bool.and_eq_true, decide_eq_true_eq, decide_eq_true_eq] at h
 exact h
def WStr (s : ByteArray) : Prop := s.size ≤ maxLen
def WL {α : Type} (W : α → Prop) (l : List α) : Prop := l.length ≤ maxLen ∧ ∀ a ∈ l, W a
theorem dec_slice {α : Type} {f : α → V} {W : α → Prop} {e t : Nat} (hT : (T t).map (·.kind) = some (.slice e)) (h : ∀ n x, typed T n e x → ∃ a, f a = x ∧ W a) : ∀ n x, typed T n t x → ∃ l : List α, eL f l = x ∧ WL W l := by
 intro n x hx
 obtain ⟨ti, h1, h2⟩ := Option.map_eq_some_iff.1 hT
 cases n with
 | zero => exact hx.elim
 | succ n =>
  simp only [typed, h1, h2] at hx
  obtain ⟨es, rfl, hl, he⟩ := hx
  have : ∀ es : List V, (∀ y ∈ es, typed T n e y) → ∃ l : List α, l.map f = es ∧ ∀ a ∈ l, W a := by
   intro es
   induction es with
   | nil => intro _; exact ⟨[], rfl, fun a h => by cases h⟩
   | cons y r ih =>
    intro hy
    obtain ⟨l, e1, w1⟩ := ih fun z hz => hy z (List.mem_cons_of_mem _ hz)
    obtain ⟨a, e2, w2⟩ := h n y (hy y List.mem_cons_self)
    refine ⟨a :: l, by rw [List.map_cons, e1, e2], fun b hb => ?_⟩
    rcases List.mem_cons.1 hb with rfl | hb
    ·exact w2
    ·exact w1 b hb
  obtain ⟨l, e1, w1⟩ := this es he
  subst e1
  exact ⟨l, rfl, by simpa using hl, w1⟩
theorem dec9 : ∀ n x, typed T n 9 x → ∃ a : ByteArray, eS a = x ∧ WStr a := by
 intro n x h
 cases n with
 | zero => exact h.elim
 | succ n =>
  have h : ∃ b, x = .str b ∧ b.size ≤ maxLen := h
  obtain ⟨b, rfl, hb⟩ := h
  exact ⟨b, rfl, hb⟩
theorem dec22 : ∀ n x, typed T n 22 x → ∃ a : (List ByteArray), (eL eS) a = x ∧ (WL WStr) a := dec_slice (by kernel_rfl) dec9
theorem dec3 : ∀ n x, typed T n 3 x → ∃ a : Int, eI a = x ∧ WI a := by
 intro n x h
 cases n with
 | zero => exact h.elim
 | succ n =>
  have h : ∃ m, x = .int .i64 m ∧ (Lit.int .i64 m).wf = true := h
  obtain ⟨m, rfl, hm⟩ := h
  refine ⟨m, rfl, ?_⟩
  exact wf_int hm
def W117 (x : S116) : Prop := WI x.fFeat ∧ WI x.fTo
theorem dec117 : ∀ n x, typed T n 117 x → ∃ a : S116, e116 a = x ∧ W117 a := by
 intro n x h
 cases n with
 | zero => exact h.elim
 | succ n =>
  obtain ⟨xs, hx, hh⟩ : ∃ xs : List V, x = .agg (xs.flatMap V.cells) ∧ typedAll (typed T n) [(0, 3), (1, 3)] xs := h
  subst hx
  match xs, hh with
  | [x0, x1], ⟨h0, h1, _⟩ =>
   obtain ⟨a0, rfl, w0⟩ := dec3 n x0 h0
   obtain ⟨a1, rfl, w1⟩ := dec3 n x1 h1
   exact ⟨⟨a0, a1⟩, rfl, w0, w1⟩
theorem dec60 : ∀ n x, typed T n 60 x → ∃ a : (List S116), (eL e116) a = x ∧ (WL W117) a := dec_slice (by kernel_rfl) dec117
def W62 (x : S61) : Prop := WI x.fType ∧ (WL W117) x.fLinks
theorem dec62 : ∀ n x, typed T n 62 x → ∃ a : S61, e61 a = x ∧ W62 a := by
 intro n x h
 cases n with
 | zero => exact h.elim
 | succ n =>
  obtain ⟨xs, hx, hh⟩ : ∃ xs : List V, x = .agg (xs.flatMap V.cells) ∧ typedAll (typed T n) [(0, 3), (1, 60)] xs := h
  subst hx
  match xs, hh with
  | [x0, x1], ⟨h0, h1, _⟩ =>
   obtain ⟨a0, rfl, w0⟩ := dec3 n x0 h0
   obtain ⟨a1, rfl, w1⟩ := dec60 n x1 h1
   exact ⟨⟨a0, a1⟩, rfl, w0, w1⟩
theorem dec47 : ∀ n x, typed T n 47 x → ∃ a : (List S61), (eL e61) a = x ∧ (WL W62) a := dec_slice (by kernel_rfl) dec62
def W49 (x : S48) : Prop := (WL W62) x.fNodes
theorem dec49 : ∀ n x, typed T n 49 x → ∃ a : S48, e48 a = x ∧ W49 a := by
 intro n x h
 cases n with
 | zero => exact h.elim
 | succ n =>
  obtain ⟨xs, hx, hh⟩ : ∃ xs : List V, x = .agg (xs.flatMap V.cells) ∧ typedAll (typed T n) [(0, 47)] xs := h
  subst hx
  match xs, hh with
  | [x0], ⟨h0, _⟩ =>
   obtain ⟨a0, rfl, w0⟩ := dec47 n x0 h0
   exact ⟨⟨a0⟩, rfl, w0⟩
inductive WP51 : P51 → Prop where
 | mk (s : S51) (h0 : WStr s.fBase) (h1 : s.fArgs.length ≤ maxLen) (g1 : ∀ p ∈ s.fArgs, WP51 p) : WP51 (P51.con s)
def W52 (x : S51) : Prop := WStr x.fBase ∧ (x.fArgs.length ≤ maxLen ∧ ∀ p ∈ x.fArgs, WP51 p)
theorem WP51_con {s : S51} (h : W52 s) : WP51 (P51.con s) := by
 obtain ⟨h0, h1⟩ := h
 exact .mk s h0 h1.1 h1.2
theorem dec52 : ∀ n x, typed T n 52 x → ∃ a : S51, e51 a = x ∧ W52 a := by
 intro n
 induction n using Nat.strongRecOn with
 | _ n ih =>
 intro x h
 cases n with
 | zero => exact h.elim
 | succ n =>
  obtain ⟨xs, hx, hh⟩ : ∃ xs : List V, x = .agg (xs.flatMap V.cells) ∧ typedAll (typed T n) [(0, 9), (1, 50)] xs := h
  subst hx
  match xs, hh with
  | [x0, x1], ⟨h0, h1, _⟩ =>
   obtain ⟨a0, rfl, w0⟩ := dec9 n x0 h0
   obtain ⟨a1, rfl, w1⟩ : ∃ l : List P51, (eL ep51) l = x1 ∧ (l.length ≤ maxLen ∧ ∀ p ∈ l, WP51 p) := by
    cases n with
    | zero => exact h1.elim
    | succ n =>
     obtain ⟨es, rfl, hl, he⟩ : ∃ es : List V, x1 = .sl .plain es ∧ es.length ≤ maxLen ∧ ∀ y ∈ es, typed T n 52 y := h1
     have key : ∀ es : List V, (∀ y ∈ es, typed T n 52 y) → ∃ l : List P51, l.map ep51 = es ∧ ∀ p ∈ l, WP51 p := by
      intro es
      induction es with
      | nil => intro _; exact ⟨[], rfl, fun p hp => by cases hp⟩
      | cons y r ih2 =>
       intro hy
       obtain ⟨l, e1, w1⟩ := ih2 fun z hz => hy z (List.mem_cons_of_mem _ hz)
       obtain ⟨a, e2, w2⟩ := ih n (by omega) y (hy y List.mem_cons_self)
       refine ⟨P51.con a :: l, by rw [List.map_cons, e1]; exact congrArg (· :: r) e2, fun p hp => ?_⟩
       rcases List.mem_cons.1 hp with rfl | hp
       ·exact WP51_con w2
       ·exact w1 p hp
     obtain ⟨l, e1, w1⟩ := key es he
     subst e1
     exact ⟨l, rfl, by simpa using hl, w1⟩
   exact ⟨⟨a0, a1⟩, rfl, w0, w1⟩
inductive WP54 : P54 → Prop where
 | mk (s : S54) (h0 : WI s.fKind) (h1 : WStr s.fName) (h2 : WI s.fIndex) (h3 : W52 s.fType) (h4 : s.fArgs.length ≤ maxLen) (g4 : ∀ p ∈ s.fArgs, WP54 p) : WP54 (P54.con s)
def W55 (x : S54) : Prop := WI x.fKind ∧ WStr x.fName ∧ WI x.fIndex ∧ W52 x.fType ∧ (x.fArgs.length ≤ maxLen ∧ ∀ p ∈ x.fArgs, WP54 p)
theorem WP54_con {s : S54} (h : W55 s) : WP54 (P54.con s) := by
 obtain ⟨h0, h1, h2, h3, h4⟩ := h
 exact .mk s h0 h1 h2 h3 h4.1 h4.2
theorem dec55 : ∀ n x, typed T n 55 x → ∃ a : S54, e54 a = x ∧ W55 a := by
 intro n
 induction n using Nat.strongRecOn with
 | _ n ih =>
 intro x h
 cases n with
 | zero => exact h.elim
 | succ n =>
  obtain ⟨xs, hx, hh⟩ : ∃ xs : List V, x = .agg (xs.flatMap V.cells) ∧ typedAll (typed T n) [(0, 3), (1, 9), (2, 3), (3, 52), (5, 53)] xs := h
  subst hx
  match xs, hh with
  | [x0, x1, x2, x3, x4], ⟨h0, h1, h2, h3, h4, _⟩ =>
   obtain ⟨a0, rfl, w0⟩ := dec3 n x0 h0
   obtain ⟨a1, rfl, w1⟩ := dec9 n x1 h1
   obtain ⟨a2, rfl, w2⟩ := dec3 n x2 h2
   obtain ⟨a3, rfl, w3⟩ := dec52 n x3 h3
   obtain ⟨a4, rfl, w4⟩ : ∃ l : List P54, (eL ep54) l = x4 ∧ (l.length ≤ maxLen ∧ ∀ p ∈ l, WP54 p) := by
    cases n with
    | zero => exact h4.elim
    | succ n =>
     obtain ⟨es, rfl, hl, he⟩ : ∃ es : List V, x4 = .sl .plain es ∧ es.length ≤ maxLen ∧ ∀ y ∈ es, typed T n 55 y := h4
     have key : ∀ es : List V, (∀ y ∈ es, typed T n 55 y) → ∃ l : List P54, l.map ep54 = es ∧ ∀ p ∈ l, WP54 p := by
      intro es
      induction es with
      | nil => intro _; exact ⟨[], rfl, fun p hp => by cases hp⟩
      | cons y r ih2 =>
       intro hy
       obtain ⟨l, e1, w1⟩ := ih2 fun z hz => hy z (List.mem_cons_of_mem _ hz)
       obtain ⟨a, e2, w2⟩ := ih n (by omega) y (hy y List.mem_cons_self)
       refine ⟨P54.con a :: l, by rw [List.map_cons, e1]; exact congrArg (· :: r) e2, fun p hp => ?_⟩
       rcases List.mem_cons.1 hp with rfl | hp
       ·exact WP54_con w2
       ·exact w1 p hp
     obtain ⟨l, e1, w1⟩ := key es he
     subst e1
     exact ⟨l, rfl, by simpa using hl, w1⟩
   exact ⟨⟨a0, a1, a2, a3, a4⟩, rfl, w0, w1, w2, w3, w4⟩
def W57 (x : S56) : Prop := (WL WStr) x.fTags ∧ W49 x.fGraph ∧ W55 x.fMeaning
theorem dec57 : ∀ n x, typed T n 57 x → ∃ a : S56, e56 a = x ∧ W57 a := by
 intro n x h
 cases n with
 | zero => exact h.elim
 | succ n =>
  obtain ⟨xs, hx, hh⟩ : ∃ xs : List V, x = .agg (xs.flatMap V.cells) ∧ typedAll (typed T n) [(0, 22), (1, 49), (2, 55)] xs := h
  subst hx
  match xs, hh with
  | [x0, x1, x2], ⟨h0, h1, h2, _⟩ =>
   obtain ⟨a0, rfl, w0⟩ := dec22 n x0 h0
   obtain ⟨a1, rfl, w1⟩ := dec49 n x1 h1
   obtain ⟨a2, rfl, w2⟩ := dec55 n x2 h2
   exact ⟨⟨a0, a1, a2⟩, rfl, w0, w1, w2⟩
theorem dec23 : ∀ n x, typed T n 23 x → ∃ a : (List S56), (eL e56) a = x ∧ (WL W57) a := dec_slice (by kernel_rfl) dec57
def LT : List Nat := [3, 9, 22, 23, 47, 49, 50, 52, 53, 55, 57, 60, 62, 117]
theorem LT_ok : LT.all (lvl E.T LT) = true := by kernel_rfl
theorem law3 (hp : ∀ (a0 : (List ByteArray)) (a1 : (List S56)), (WL WStr) a0 → (WL W57) a1 → ∃ m, f3 m a0 a1 = some true) : ∀ xs, TypedL E.T [22, 23] xs → ∃ n, runV Proofs.Tryz.prog EG n 3 xs = some (.bool true) := by
 intro xs h
 match xs, h with
 | [x0, x1], ⟨⟨n0, h0⟩, ⟨n1, h1⟩, _⟩ =>
  obtain ⟨a0, rfl, w0⟩ := dec22 n0 x0 h0
  obtain ⟨a1, rfl, w1⟩ := dec23 n1 x1 h1
  obtain ⟨m, hm⟩ := hp a0 a1 w0 w1
  exact ⟨_, law_run (xs := [(eL eS) a0, (eL e56) a1]) (ok3 m a0 a1 true hm (3 * m + 6) (Nat.le_refl _))⟩
open Go.Sort Go.Proofs
set_option maxHeartbeats 2000000
def bad {α : Type} (c : α → Int) : Int → List α → Option (Int × Int)
 | _, [] => none
 | i, x :: r => if c x = 0 then bad c (i + 1) r else some (c x, i)
theorem scan_bad {α R : Type} (c : α → Int) (mk : Int → Int → R) : ∀ (l : List α) (i : Int), scan (fun i (_ : Unit) (x : α) => if c x = 0 then some (.inr ()) else some (.inl (mk (c x) i))) i () l = some (match bad c i l with
  | some p => .inl (mk p.1 p.2)
  | none => .inr ())
 | [], i => rfl
 | x :: r, i => by
  simp only [scan, bad]
  by_cases h : c x = 0
  ·rw [if_pos h, if_pos h]
   exact scan_bad c mk r (i + 1)
  ·rw [if_neg h, if_neg h]
theorem loop_bad {α R : Type} (c : α → Int) (mk : Int → Int → R) (xs : List α) (B : Int → Option (Stp R Int)) (m : Nat) (hm : xs.length < m)
  (hB : ∀ (k : Nat) x, xs[k]? = some x → B (k : Int) = if c x = 0 then some (.nxt ((k : Int) + 1)) else some (.ret (mk (c x) k)))
  (hE : ∀ k : Nat, ¬ k < xs.length → B (k : Int) = some (.brk (k : Int))) : iter (fun y => B y) m 0 = some (match bad c 0 xs with
  | some p => .inl (mk p.1 p.2)
  | none => .inr (xs.length : Int)) := by
 have e : iter (fun y => B y) m 0 = landed (fun (_ : Unit) (i : Int) => i) xs.length (scan (fun i (_ : Unit) (x : α) => if c x = 0 then some (.inr ()) else some (.inl (mk (c x) i))) 0 () xs) := by
  refine iter_scan xs (fun y => B y) (fun (_ : Unit) (i : Int) => i) _ (fun u k hk => ?_) m 0 () (Nat.zero_le _) (by omega)
  unfold turn
  cases hx : xs[k]? with
  | some x =>
   show B (k : Int) = _
   rw [hB k x hx]
   by_cases h : c x = 0
   ·simp [h]
   ·simp [h]
  | none =>
   exact hE k (by rw [List.getElem?_eq_none_iff] at hx; omega)
 rw [e, scan_bad]
 cases bad c 0 xs with
 | none => rfl
 | some p => rfl
theorem ltd {α : Type} {xs : List α} {k : Nat} {x : α} (h : xs[k]? = some x) : decide ((k : Int) < (xs.length : Int)) = true := by
 have := lt_of_getElem? h
 exact decide_eq_true (by omega)
theorem ged {α : Type} {xs : List α} {k : Nat} (h : ¬ k < xs.length) : decide ((k : Int) < (xs.length : Int)) = false := decide_eq_false (by omega)
theorem w64_len {α : Type} {xs : List α} {k : Nat} {x : α} (hl : xs.length ≤ 3000) (h : xs[k]? = some x) : w64 ((k : Int) + 1) = (k : Int) + 1 := by
 have := lt_of_getElem? h
 exact w64_id ⟨by omega, by omega⟩
def cW (s : ByteArray) : Int := if wordS s then 0 else 5
theorem f6_eq (a : List ByteArray) : f6 5000 a = some (if a.length > 100 then ⟨2, -2⟩ else match bad cW 0 a with
  | some p => ⟨p.1, p.2⟩
  | none => ⟨0, 0⟩) := by
 unfold f6
 by_cases hl : a.length > 100
 ·rw [if_pos hl, decide_eq_true (by omega)]; rfl
 ·rw [if_neg hl, decide_eq_false (by omega), cnd_false]
  rw [loop_bad cW (fun k j => (⟨k, j⟩ : S26)) a (f6_B1 5000 a) 5000 (by omega) (fun k x hx => by
    unfold f6_B1
    rw [ltd hx, idx_of hx]
    simp only [cnd_true, bnd_some', f20_eq 5000 x (by decide), w64_len (by omega) hx, cW]
    by_cases hw : wordS x = true <;> simp [hw]) (fun k hk => by
    unfold f6_B1
    rw [ged hk]
    rfl)]
  cases bad cW 0 a <;> rfl
theorem f5_words (a : List ByteArray) (hl : ¬ a.length > 100) : iter (fun (y : Int) => f5_B1 5000 a y) 5000 0 = some (match bad cW 0 a with
  | some p => .inl (([] : List S63), (⟨p.1, p.2⟩ : S26))
  | none => .inr (a.length : Int)) :=
 loop_bad cW (fun k j => (([] : List S63), (⟨k, j⟩ : S26))) a (f5_B1 5000 a) 5000 (by omega) (fun k x hx => by
  unfold f5_B1
  rw [ltd hx, idx_of hx]
  simp only [cnd_true, bnd_some', f14_eq 5000 x (by decide), w64_len (by omega) hx, cW, f13]
  by_cases hw : wordS x = true <;> simp [hw]) (fun k hk => by
  unfold f5_B1
  rw [ged hk]
  rfl)
theorem bad_none {α : Type} (c : α → Int) : ∀ (l : List α) (i : Int), bad c i l = none → ∀ x ∈ l, c x = 0
 | [], i, h, x, hx => nomatch hx
 | y :: r, i, h, x, hx => by
  simp only [bad] at h
  split at h
  ·rename_i h0
   rcases List.mem_cons.1 hx with rfl | hx
   ·exact h0
   ·exact bad_none c r (i + 1) h x hx
  ·cases h
theorem bad_code {α : Type} (c : α → Int) : ∀ (l : List α) (i : Int) (p : Int × Int), bad c i l = some p → p.1 ≠ 0
 | [], i, p, h => nomatch h
 | y :: r, i, p, h => by
  simp only [bad] at h
  split at h
  ·exact bad_code c r (i + 1) p h
  ·rename_i h0
   cases h
   exact h0
noncomputable def cRl (r : S56) : Int := if r.fTags.length > 4 then 2 else if !(r.fTags.all nameS) then 10 else if r.fGraph.fNodes.length > 60 then 2 else if r.fGraph.fNodes.any (fun n => decide (n.fLinks.length > 40)) then 2 else if (cntT 5000 5000 (0, false) r.fMeaning 1).2 then 2 else 0
theorem bad_iff {α : Type} (p : α → Bool) (k : Int) (hk : k ≠ 0) : ∀ (l : List α) (i : Int), (∃ j, bad (fun x => if p x then k else 0) i l = some (k, j)) ∧ l.any p = true ∨ bad (fun x => if p x then k else 0) i l = none ∧ l.any p = false
 | [], i => .inr ⟨rfl, rfl⟩
 | x :: r, i => by
  simp only [bad, List.any_cons]
  cases hp : p x with
  | true => left; simp [hk]
  | false => simpa using bad_iff p k hk r (i + 1)
theorem f15_eq (r : S56) : f15 5000 r = some (cRl r) := by
 unfold f15 cRl
 by_cases h1 : r.fTags.length > 4
 ·rw [if_pos h1, decide_eq_true (by omega)]; rfl
 ·rw [if_neg h1, decide_eq_false (by omega), cnd_false]
  rw [loop_bad (fun s => if !nameS s then 10 else 0) (fun k _ => k) r.fTags (f15_B1 5000 r) 5000 (by omega) (fun k x hx => by
    unfold f15_B1
    rw [ltd hx, idx_of hx]
    simp only [cnd_true, bnd_some', f33_eq 5000 x (by decide), w64_len (by omega) hx]
    by_cases hw : nameS x = true <;> simp [hw]) (fun k hk => by
    unfold f15_B1
    rw [ged hk]
    rfl)]
  have hn : (r.fTags.any fun s => !nameS s) = !(r.fTags.all nameS) := by rw [List.not_all_eq_any_not]
  rcases bad_iff (fun s => !nameS s) 10 (by decide) r.fTags 0 with ⟨⟨j, e⟩, h2⟩ | ⟨e, h2⟩
  ·rw [e, ← hn, h2]; rfl
  ·rw [e, ← hn, h2]
   simp only [brk_inr, Bool.false_eq_true, if_false]
   by_cases h3 : r.fGraph.fNodes.length > 60
   ·rw [if_pos h3, decide_eq_true (by omega)]; rfl
   ·rw [if_neg h3, decide_eq_false (by omega), cnd_false]
    rw [loop_bad (fun n => if decide (n.fLinks.length > 40) then 2 else 0) (fun k _ => k) r.fGraph.fNodes (f15_B2 5000 r) 5000 (by omega) (fun k x hx => by
      unfold f15_B2
      rw [ltd hx, idx_of hx]
      simp only [cnd_true, bnd_some', w64_len (by omega) hx]
      by_cases h : x.fLinks.length > 40
      ·rw [show decide ((x.fLinks.length : Int) > 40) = true from decide_eq_true (by omega)]; simp [h]
      ·rw [show decide ((x.fLinks.length : Int) > 40) = false from decide_eq_false (by omega)]; simp [h]) (fun k hk => by
      unfold f15_B2
      rw [ged hk]
      rfl)]
    rcases bad_iff (fun n : S61 => decide (n.fLinks.length > 40)) 2 (by decide) r.fGraph.fNodes 0 with ⟨⟨j, e⟩, h4⟩ | ⟨e, h4⟩
    ·rw [e, h4]; rfl
    ·rw [e, h4]
     simp only [brk_inr, Bool.false_eq_true, if_false]
     obtain ⟨v, hv⟩ := f19_K 5000 (by decide) 5000 1 r.fMeaning ByteArray.empty 0 (by decide) (by decide) (by decide) (by decide) (by decide)
     have hv : f19 5000 ⟨ByteArray.empty, 0, false⟩ r.fMeaning 1 = _ := hv
     rw [hv]
     simp only [bnd_some']
     cases (cntT 5000 5000 (0, false) r.fMeaning 1).2 <;> rfl
theorem iter_nxt {R A : Type} {B : A → Option (Stp R A)} {K : Nat} {a a' : A} (h : B a = some (.nxt a')) : iter B (K + 1) a = iter B K a' := by
 show (match B a with
  | some (.nxt a') => iter B K a'
  | some (.brk a') => some (.inr a')
  | some (.ret r) => some (.inl r)
  | none => none) = _
 rw [h]
theorem iter_brk {R A : Type} {B : A → Option (Stp R A)} {K : Nat} {a a' : A} (h : B a = some (.brk a')) : iter B (K + 1) a = some (.inr a') := by
 show (match B a with
  | some (.nxt a') => iter B K a'
  | some (.brk a') => some (.inr a')
  | some (.ret r) => some (.inl r)
  | none => none) = _
 rw [h]
theorem f7_large (r : S56) (h0 : r.fGraph.fNodes.length ≤ 60) : ∀ (K k : Nat) (b : Bool), k ≤ r.fGraph.fNodes.length → r.fGraph.fNodes.length - k + 1 < K → ∃ j, iter (fun (y : Bool × Int) => f7_B2 5000 r y.1 y.2) K (b, (k : Int)) = some (.inr (b || (r.fGraph.fNodes.drop k).any (fun n => decide (n.fLinks.length > 40)), j))
 | 0, k, b, hk, hK => by omega
 | K + 1, k, b, hk, hK => by
  cases b with
  | true =>
   have e : f7_B2 5000 r true (k : Int) = some (.brk (true, (k : Int))) := by
    unfold f7_B2
    rw [show ((decide ((k : Int) < (r.fGraph.fNodes.length : Int))) && (!true)) = false from Bool.and_false _]
    rfl
   exact ⟨(k : Int), by rw [iter_brk (a := (true, (k : Int))) e, Bool.true_or]⟩
  | false =>
   by_cases hlt : k < r.fGraph.fNodes.length
   ·have hx := List.getElem?_eq_getElem hlt
    have e3 : decide ((r.fGraph.fNodes[k].fLinks.length : Int) > 40) = decide (r.fGraph.fNodes[k].fLinks.length > 40) := by
     by_cases h : r.fGraph.fNodes[k].fLinks.length > 40
     ·rw [decide_eq_true h, decide_eq_true (by omega)]
     ·rw [decide_eq_false h, decide_eq_false (by omega)]
    have e : f7_B2 5000 r false (k : Int) = some (.nxt (decide (r.fGraph.fNodes[k].fLinks.length > 40), ((k + 1 : Nat) : Int))) := by
     unfold f7_B2
     rw [ltd hx]
     unfold f7_r1
     rw [idx_of hx]
     simp only [Bool.not_false, Bool.and_self, cnd_true, bnd_some', w64_len (show r.fGraph.fNodes.length ≤ 3000 by omega) hx, e3]
     rfl
    obtain ⟨j, hj⟩ := f7_large r h0 K (k + 1) (decide (r.fGraph.fNodes[k].fLinks.length > 40)) hlt (by omega)
    refine ⟨j, ?_⟩
    rw [iter_nxt (a := (false, (k : Int))) e, hj, List.drop_eq_getElem_cons hlt, List.any_cons, Bool.false_or]
   ·have e : f7_B2 5000 r false (k : Int) = some (.brk (false, (k : Int))) := by
     unfold f7_B2
     rw [ged hlt]
     rfl
    refine ⟨(k : Int), ?_⟩
    rw [iter_brk (a := (false, (k : Int))) e, List.drop_eq_nil_of_le (by omega)]
    rfl
theorem f7_step (a1 : List S56) (k : Nat) (r : S56) (hl : a1.length ≤ 3000) (hx : a1[k]? = some r) : f7_B3 5000 a1 (k : Int) = if cRl r = 0 then some (.nxt ((k : Int) + 1)) else some (.ret (⟨cRl r, k⟩ : S26)) := by
 unfold f7_B3
 rw [ltd hx, idx_of hx]
 simp only [cnd_true, bnd_some', f22_eq 5000 r.fTags (by decide), w64_len hl hx]
 unfold cRl tagsS
 by_cases h1 : r.fTags.length > 4
 ·simp only [h1, if_true]; rfl
 ·simp only [h1, if_false]
  cases hn : r.fTags.all nameS with
  | false => rfl
  | true =>
   simp only [if_true, Bool.not_true, Bool.false_eq_true, if_false]
   rw [show ((0 : Int) != 0) = false from rfl, cnd_false]
   by_cases h3 : r.fGraph.fNodes.length > 60
   ·rw [show decide ((r.fGraph.fNodes.length : Int) > 60) = true from decide_eq_true (by omega)]
    simp only [h3, if_true]
    have e : iter (fun (y : Bool × Int) => f7_B2 5000 r y.1 y.2) 5000 (true, 0) = some (.inr (true, 0)) := by
     refine iter_brk (a := (true, (0 : Int))) ?_
     show f7_B2 5000 r true 0 = _
     unfold f7_B2
     rw [show ((decide ((0 : Int) < (r.fGraph.fNodes.length : Int))) && (!true)) = false from Bool.and_false _]
     rfl
    rw [e]
    rfl
   ·rw [show decide ((r.fGraph.fNodes.length : Int) > 60) = false from decide_eq_false (by omega)]
    simp only [h3, if_false]
    obtain ⟨j, hj⟩ := f7_large r (by omega) 5000 0 false (Nat.zero_le _) (by omega)
    have hj : iter (fun (y : Bool × Int) => f7_B2 5000 r y.1 y.2) 5000 (false, 0) = some (.inr (r.fGraph.fNodes.any (fun n => decide (n.fLinks.length > 40)), j)) := hj
    rw [hj]
    cases r.fGraph.fNodes.any (fun n => decide (n.fLinks.length > 40)) with
    | true => rfl
    | false =>
     have hv := f23_K 5000 (by decide) 5000 1 r.fMeaning 0 (by decide) (by decide) (by decide) (by decide) (by decide)
     have hv : f23 5000 ⟨0, false⟩ r.fMeaning 1 = _ := hv
     simp only [brk_inr, cnd_false, hv, bnd_some']
     cases (cntT 5000 5000 (0, false) r.fMeaning 1).2 <;> rfl
theorem f7_eq (a1 : List S56) : f7 5000 a1 = some (if a1.length > 40 then ⟨2, -3⟩ else match bad cRl 0 a1 with
  | some p => ⟨p.1, p.2⟩
  | none => ⟨0, 0⟩) := by
 unfold f7
 by_cases hl : a1.length > 40
 ·rw [if_pos hl, decide_eq_true (by omega)]; rfl
 ·rw [if_neg hl, decide_eq_false (by omega), cnd_false]
  rw [loop_bad cRl (fun k j => (⟨k, j⟩ : S26)) a1 (f7_B3 5000 a1) 5000 (by omega) (fun k x hx => f7_step a1 k x (by omega) hx) (fun k hk => by
    unfold f7_B3
    rw [ged hk]
    rfl)]
  cases bad cRl 0 a1 <;> rfl
theorem f5_rules (a : List S56) (hl : ¬ a.length > 40) : iter (fun (y : Int) => f5_B2 5000 a y) 5000 0 = some (match bad cRl 0 a with
  | some p => .inl (([] : List S63), (⟨p.1, p.2⟩ : S26))
  | none => .inr (a.length : Int)) :=
 loop_bad cRl (fun k j => (([] : List S63), (⟨k, j⟩ : S26))) a (f5_B2 5000 a) 5000 (by omega) (fun k x hx => by
  unfold f5_B2
  rw [ltd hx, idx_of hx]
  simp only [cnd_true, bnd_some', f15_eq x, w64_len (show a.length ≤ 3000 by omega) hx, f13]
  by_cases h : cRl x = 0
  ·rw [h]; rfl
  ·rw [show (cRl x != 0) = true by simpa using h, if_neg h]; rfl) (fun k hk => by
  unfold f5_B2
  rw [ged hk]
  rfl)
theorem good_word {w : ByteArray} (h : wordS w = true) : ∃ l, Rs.GoodW w l := by
 have h0 := h
 unfold wordS at h
 rw [Bool.and_eq_true, decide_eq_true_eq] at h
 obtain ⟨h1, h2⟩ := h
 split at h2
 case h_2 => cases h2
 rename_i L hL
 unfold okP at h2
 rw [Bool.and_eq_true, decide_eq_true_eq] at h2
 obtain ⟨h3, h4⟩ := h2
 refine ⟨castL L, by rw [f14_eq 5000 w (by decide), h0], (f31_eq 5000 w (by decide)).1 L h1 hL, by rw [castL_len]; exact h3.2, fun x hx => ?_⟩
 unfold castL at hx
 obtain ⟨p, hp, rfl⟩ := List.mem_map.1 hx
 have h5 := List.all_eq_true.1 h4 p hp
 simp only [badP, Bool.not_eq_true', Bool.or_eq_false_iff, decide_eq_false_iff_not] at h5
 have h6 : p ≠ 0 := fun e => by subst e; exact absurd h5.1 (by decide)
 omega
theorem f5_words2 (a : List ByteArray) (a2 : List S56) (hl : ¬ a.length > 100) (ha : ∀ w ∈ a, wordS w = true) : iter (fun (y : Int) => f5_B6 5000 Rs.zA a a2 y) 5000 0 = some (.inr (a.length : Int)) := by
 have := loop_bad (fun _ => 0) (fun k j => (([] : List S63), (⟨k, j⟩ : S26))) a (f5_B6 5000 Rs.zA a a2) 5000 (by omega) (fun k x hx => by
  unfold f5_B6
  rw [ltd hx, idx_of hx]
  have hg := good_word (ha x (List.mem_of_getElem? hx))
  have e : f16 5000 Rs.zA x = some ([], ⟨0, 0⟩) := by
   show Rs.f16L Rs.zA x = _
   unfold Rs.f16L
   rw [if_pos ⟨rfl, hg⟩]
  simp only [cnd_true, bnd_some', e, w64_len (show a.length ≤ 3000 by omega) hx]
  rfl) (fun k hk => by
  unfold f5_B6
  rw [ged hk]
  rfl)
 rw [this]
 have hb : ∀ (l : List ByteArray) (i : Int), bad (fun _ => 0) i l = none := by
  intro l
  induction l with
  | nil => intro i; rfl
  | cons x r ih => intro i; simp only [bad, if_true]; exact ih _
 rw [hb]
theorem f5_eq (a : List ByteArray) (a1 : List S56) : f5 5000 Rs.zA a a1 = some ([], if a.length > 100 then ⟨2, -2⟩ else match bad cW 0 a with
  | some p => ⟨p.1, p.2⟩
  | none => if a1.length > 40 then ⟨2, -3⟩ else match bad cRl 0 a1 with
   | some p => ⟨p.1, p.2⟩
   | none => ⟨0, 0⟩) := by
 unfold f5
 by_cases hl : a.length > 100
 ·rw [if_pos hl, decide_eq_true (by omega)]; rfl
 ·rw [if_neg hl, decide_eq_false (by omega), cnd_false, f5_words a hl]
  cases hb : bad cW 0 a with
  | some p => rfl
  | none =>
   simp only [brk_inr]
   by_cases hl1 : a1.length > 40
   ·rw [if_pos hl1, decide_eq_true (by omega)]; rfl
   ·rw [if_neg hl1, decide_eq_false (by omega), cnd_false, f5_rules a1 hl1]
    cases hr : bad cRl 0 a1 with
    | some p => rfl
    | none =>
     simp only [brk_inr]
     rw [f5_words2 a a1 hl fun w hw => by
      have := bad_none cW a 0 hb w hw
      unfold cW at this
      split at this
      ·assumption
      ·cases this]
     rfl
theorem plain3 (a0 : List ByteArray) (a1 : List S56) : f3 5000 a0 a1 = some true := by
 unfold f3
 have e4 : f4 5000 = some true := rfl
 have e5 : f5 5000 ((⟨(⟨0, [], []⟩ : S32), []⟩ : S34)) a0 a1 = _ := f5_eq a0 a1
 rw [e4, e5, f6_eq]
 simp only [bnd_some', Bool.not_true, cnd_false]
 have key : ∀ f : S26, f3_j2 5000 (([] : List S63), f) f.fCode f.fIndex = some true := fun f => by
  unfold f3_j2 f3_r1
  simp
 by_cases hl : a0.length > 100
 ·simp only [hl, if_true]
  rfl
 ·simp only [hl, if_false]
  cases hb : bad cW 0 a0 with
  | some p =>
   have h0 := bad_code cW a0 0 p hb
   have h1 : (p.1 == 0) = false := by simpa using h0
   simp only [h1, Bool.false_and, cnd_false]
   exact key ⟨p.1, p.2⟩
  | none =>
   simp only [f7_eq, bnd_some']
   exact key _
end Go.Abs
