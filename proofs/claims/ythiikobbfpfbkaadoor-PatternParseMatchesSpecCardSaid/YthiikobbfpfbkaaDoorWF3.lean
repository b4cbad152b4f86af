import Derived.Test.YthiikobbfpfbkaaDoorWF2
namespace Go.Abs
set_option linter.unusedVariables false
set_option maxRecDepth 100000
structure Rec31 where
 r31 : (List S81) → Option S24
structure OkRec31 (m : Nat) (K : Rec31) (nn : Nat) : Prop where
 ok31 : ∀ (a0 : (List S81)) (o : S24), K.r31 a0 = some o → ∀ n, nn ≤ n → Fn Proofs.Tryd.prog E n 31 [.v ((eL e81) a0)] (e24 o)
noncomputable def f31_B1 (m : Nat) (K : Rec31) (v1 : ((List (List S81)) × (List Int))) (v10 : Int) (v11 : (List P24)) : Option (Stp S24 (Int × (List P24))) :=
 cnd (decide (v10 < (v1.1.length : Int)))
 (bnd (idx v1.1 v10) fun v21 =>
 bnd (K.r31 v21) fun v22 =>
 bnd (app 72 v11 ([(P24.con v22)])) fun v23 =>
 some (.nxt (w64 (v10 + 1), v23)))
 (some (.brk (v10, v11)))
noncomputable def f31_j2 (m : Nat) (K : Rec31) (v27 : ((List (List S81)) × (List Int))) (v48 v49 : Int) (v50 : (List Int)) (v52 : (List P24)) (v54 v55 v66 : Int) : Option (Stp S24 (Int × Int × (List Int) × (List P24) × Int × Int)) :=
 bnd (idx v27.1 (w64 (v48 + 1))) fun v68 =>
 bnd (K.r31 v68) fun v69 =>
 some (.nxt (w64 (v48 + 1), v66, [], [(P24.con ((⟨v49, v50, v52, v54, v55⟩ : S24))), (P24.con v69)], 0, 0))
noncomputable def f31_B3 (m : Nat) (K : Rec31) (v27 : ((List (List S81)) × (List Int))) (v48 v49 : Int) (v50 : (List Int)) (v52 : (List P24)) (v54 v55 : Int) : Option (Stp S24 (Int × Int × (List Int) × (List P24) × Int × Int)) :=
 cnd (decide (v48 < (v27.2.length : Int)))
 (bnd (idx v27.2 v48) fun v65 =>
 cnd (v65 == 45)
 (f31_j2 m K v27 v48 v49 v50 v52 v54 v55 7)
 (f31_j2 m K v27 v48 v49 v50 v52 v54 v55 6))
 (some (.brk (v48, v49, v50, v52, v54, v55)))
noncomputable def f31_j4 (m : Nat) (K : Rec31) (v556 : Int) (v557 : (List Int)) (v559 : (List P24)) (v561 v562 v608 v609 v610 : Int) : Option (Stp S24 (Int × Int × (List Int) × (List P24) × Int × Int)) :=
 some (.nxt (v608, 5, [], [(P24.con ((⟨v556, v557, v559, v561, v562⟩ : S24)))], v609, v610))
noncomputable def f31_j5 (m : Nat) (K : Rec31) (v556 : Int) (v557 : (List Int)) (v559 : (List P24)) (v561 v562 v612 v613 v614 : Int) : Option (Stp S24 (Int × Int × (List Int) × (List P24) × Int × Int)) :=
 f31_j4 m K v556 v557 v559 v561 v562 v612 v613 v614
noncomputable def f31_j6 (m : Nat) (K : Rec31) (v556 : Int) (v557 : (List Int)) (v559 : (List P24)) (v561 v562 v616 v617 v618 : Int) : Option (Stp S24 (Int × Int × (List Int) × (List P24) × Int × Int)) :=
 f31_j5 m K v556 v557 v559 v561 v562 v616 v617 v618
noncomputable def f31_j7 (m : Nat) (K : Rec31) (v556 : Int) (v557 : (List Int)) (v559 : (List P24)) (v561 v562 v620 v621 v622 : Int) : Option (Stp S24 (Int × Int × (List Int) × (List P24) × Int × Int)) :=
 f31_j6 m K v556 v557 v559 v561 v562 v620 v621 v622
noncomputable def f31_j8 (m : Nat) (K : Rec31) (v556 : Int) (v557 : (List Int)) (v559 : (List P24)) (v561 v562 : Int) (v624 : S81) (v626 v627 : Int) : Option (Stp S24 (Int × Int × (List Int) × (List P24) × Int × Int)) :=
 f31_j7 m K v556 v557 v559 v561 v562 v626 (w64 (v624.fPoint - 48)) v627
noncomputable def f31_r9 (m : Nat) (K : Rec31) (a0 : (List S81)) (v555 v556 : Int) (v557 : (List Int)) (v559 : (List P24)) (v561 v562 : Int) (v605 : Bool) : Option (Stp S24 (Int × Int × (List Int) × (List P24) × Int × Int)) :=
 cnd v605
 (bnd (idx a0 (w64 (v555 + 1))) fun v607 =>
 cnd (v607.fPoint == 43)
 (f31_j5 m K v556 v557 v559 v561 v562 (w64 (v555 + 1)) 1 (-1))
 (cnd (v607.fPoint == 63)
 (f31_j6 m K v556 v557 v559 v561 v562 (w64 (v555 + 1)) 0 1)
 (cnd (v607.fPoint == 123)
 (bnd (idx a0 (w64 (w64 (v555 + 1) + 1))) fun v624 =>
 bnd (idx a0 (w64 (w64 (v555 + 1) + 3))) fun v625 =>
 cnd (v625.fPoint != 125)
 (bnd (idx a0 (w64 (w64 (v555 + 1) + 3))) fun v629 =>
 f31_j8 m K v556 v557 v559 v561 v562 v624 (w64 (w64 (w64 (v555 + 1) + 3) + 1)) (w64 (v629.fPoint - 48)))
 (f31_j8 m K v556 v557 v559 v561 v562 v624 (w64 (w64 (v555 + 1) + 3)) (-1)))
 (f31_j7 m K v556 v557 v559 v561 v562 (w64 (v555 + 1)) 0 (-1)))))
 (some (.brk (v555, v556, v557, v559, v561, v562)))
noncomputable def f31_r10 (m : Nat) (K : Rec31) (a0 : (List S81)) (v555 v556 : Int) (v557 : (List Int)) (v559 : (List P24)) (v561 v562 : Int) (v593 : Bool) : Option (Stp S24 (Int × Int × (List Int) × (List P24) × Int × Int)) :=
 bnd (cnd v593
 (bnd (idx a0 (w64 (v555 + 1))) fun v630 =>
 some (v630.fPoint != 91))
 (some false)) fun v605 =>
 f31_r9 m K a0 v555 v556 v557 v559 v561 v562 v605
noncomputable def f31_r11 (m : Nat) (K : Rec31) (a0 : (List S81)) (v555 v556 : Int) (v557 : (List Int)) (v559 : (List P24)) (v561 v562 : Int) (v581 : Bool) : Option (Stp S24 (Int × Int × (List Int) × (List P24) × Int × Int)) :=
 bnd (cnd v581
 (bnd (idx a0 (w64 (v555 + 1))) fun v631 =>
 some (v631.fPoint != 40))
 (some false)) fun v593 =>
 f31_r10 m K a0 v555 v556 v557 v559 v561 v562 v593
noncomputable def f31_B12 (m : Nat) (K : Rec31) (a0 : (List S81)) (v555 v556 : Int) (v557 : (List Int)) (v559 : (List P24)) (v561 v562 : Int) : Option (Stp S24 (Int × Int × (List Int) × (List P24) × Int × Int)) :=
 bnd (cnd (decide (w64 (v555 + 1) < (a0.length : Int)))
 (bnd (idx a0 (w64 (v555 + 1))) fun v632 =>
 some v632.fSign)
 (some false)) fun v581 =>
 f31_r11 m K a0 v555 v556 v557 v559 v561 v562 v581
noncomputable def f31_j13 (m : Nat) (K : Rec31) (a0 : (List S81)) (v473 : (List P24)) (v485 v486 : Int) (v487 : (List Int)) (v489 : (List P24)) (v491 v492 : Int) : Option (Stp S24 ((List P24) × Int)) :=
 brk (iter (fun (y : Int × Int × (List Int) × (List P24) × Int × Int) => f31_B12 m K a0 y.1 y.2.1 y.2.2.1 y.2.2.2.1 y.2.2.2.2.1 y.2.2.2.2.2) m (v485, v486, v487, v489, v491, v492)) (fun r => some (.ret r)) fun y634 =>
 bnd (app 72 v473 ([(P24.con ((⟨y634.2.1, y634.2.2.1, y634.2.2.2.1, y634.2.2.2.2.1, y634.2.2.2.2.2⟩ : S24)))])) fun v636 =>
 some (.nxt (v636, w64 (y634.1 + 1)))
noncomputable def f31_j14 (m : Nat) (K : Rec31) (a0 : (List S81)) (v473 : (List P24)) (v638 v640 : Int) (v641 : (List Int)) (v643 : (List P24)) (v645 v646 : Int) : Option (Stp S24 ((List P24) × Int)) :=
 f31_j13 m K a0 v473 v638 v640 v641 v643 v645 v646
noncomputable def f31_B15 (m : Nat) (K : Rec31) (v648 : (List S81)) (v656 : Int) (v657 : (List Int)) : Option (Stp S24 (Int × (List Int))) :=
 cnd (decide (v656 < (v648.length : Int)))
 (bnd (idx v648 v656) fun v668 =>
 bnd (f52 m v657 [v668.fPoint]) fun v669 =>
 some (.nxt (w64 (v656 + 1), v669)))
 (some (.brk (v656, v657)))
noncomputable def f31_j16 (m : Nat) (K : Rec31) (a0 : (List S81)) (v473 : (List P24)) (v638 v673 : Int) (v674 : (List Int)) (v676 : (List P24)) (v678 v679 : Int) : Option (Stp S24 ((List P24) × Int)) :=
 f31_j14 m K a0 v473 v638 v673 v674 v676 v678 v679
noncomputable def f31_B17 (m : Nat) (K : Rec31) (a0 : (List S81)) (v473 : (List P24)) (v474 : Int) : Option (Stp S24 ((List P24) × Int)) :=
 cnd (decide (v474 < (a0.length : Int)))
 (bnd (idx a0 v474) fun v484 =>
 cnd (!v484.fSign)
 (bnd (idx a0 v474) fun v637 =>
 f31_j13 m K a0 v473 v474 2 [v637.fPoint] [] 0 0)
 (bnd (f51 m a0 v474) fun v638 =>
 bnd (idx a0 v474) fun v639 =>
 cnd (v639.fPoint == 91)
 (bnd (sub a0 (w64 (v474 + 1)) v638) fun v648 =>
 brk (iter (fun (y : Int × (List Int)) => f31_B15 m K v648 y.1 y.2) m (0, [])) (fun r => some (.ret r)) fun y671 =>
 f31_j14 m K a0 v473 v638 2 y671.2 [] 0 0)
 (cnd (v638 == (w64 (v474 + 1)))
 (f31_j16 m K a0 v473 v638 1 [] [] 0 0)
 (bnd (sub a0 (w64 (v474 + 1)) v638) fun v681 =>
 bnd (K.r31 v681) fun v682 =>
 f31_j16 m K a0 v473 v638 v682.fKind v682.fLabels v682.fSubs v682.fLeast v682.fMost))))
 (some (.brk (v473, v474)))
noncomputable def b31 (m : Nat) (K : Rec31) (a0 : (List S81)) : Option S24 :=
 bnd (f50 m a0 [124]) fun v1 =>
 cnd (decide ((v1.1.length : Int) > 1))
 (brk (iter (fun (y : Int × (List P24)) => f31_B1 m K v1 y.1 y.2) m (0, [])) some fun y25 =>
 some ((⟨4, [], y25.2, 0, 0⟩ : S24)))
 (bnd (f50 m a0 ([38, 45])) fun v27 =>
 cnd (decide ((v27.1.length : Int) > 1))
 (bnd (idx v27.1 0) fun v28 =>
 bnd (K.r31 v28) fun v29 =>
 brk (iter (fun (y : Int × Int × (List Int) × (List P24) × Int × Int) => f31_B3 m K v27 y.1 y.2.1 y.2.2.1 y.2.2.2.1 y.2.2.2.2.1 y.2.2.2.2.2) m (0, v29.fKind, v29.fLabels, v29.fSubs, v29.fLeast, v29.fMost)) some fun y71 =>
 some ((⟨y71.2.1, y71.2.2.1, y71.2.2.2.1, y71.2.2.2.2.1, y71.2.2.2.2.2⟩ : S24)))
 (brk (iter (fun (y : (List P24) × Int) => f31_B17 m K a0 y.1 y.2) m ([], 0)) some fun y684 =>
 cnd ((y684.1.length : Int) == 1)
 (bnd (idx y684.1 0) fun v686 =>
 some v686.vw)
 (some ((⟨3, [], y684.1, 0, 0⟩ : S24)))))
noncomputable abbrev X31 (n : Nat) : Cx := cxOf Proofs.Tryd.prog E 31 n
noncomputable def C31 : Code := bodyOf Proofs.Tryd.prog 31
noncomputable abbrev p31_0 : Code := cR (cR (cR (cR (cR C31))))
noncomputable abbrev p31_1 : Code := cR (cR (cL (cR (cR (cL (cR C31))))))
noncomputable abbrev p31_2 : Code := cL (cL (cR (cL (cR (cR (cR (cR C31)))))))
noncomputable abbrev p31_3 : Code := cR (cR (cL (cR (cR (cL (cR (cR C31)))))))
noncomputable abbrev p31_4 : Code := cR (cR p31_2)
noncomputable abbrev p31_5 : Code := cL (cL (cR (cL (cR (cL (cR (cR (cL (cR (cR C31))))))))))
noncomputable abbrev p31_6 : Code := cR (cR (cL (cL (cR p31_2))))
noncomputable abbrev p31_7 : Code := cR p31_6
noncomputable abbrev p31_8 : Code := cL (cL (cL p31_6))
noncomputable abbrev p31_9 : Code := cR (cR (cR (cR (cL (cR (cL (cL (cR p31_2))))))))
noncomputable abbrev p31_10 : Code := cR (cR (cR (cL (cR p31_8))))
noncomputable abbrev p31_11 : Code := cL (cL (cR (cR (cL (cR (cL (cR (cR (cR (cL (cR (cL (cL (cR p31_2))))))))))))))
noncomputable abbrev b31_0 : AObj := .cells [(dI 0), (.v (.sl .nil (List.map eI []))), (.v (.sl .nil (List.map ep24 []))), (dI 0), (dI 0)]
noncomputable abbrev b31_1 (w0 : Int) (w1 : (List Int)) (w2 : (List P24)) (w3 w4 w5 w6 : Int) : AObj := .cells [(dI 5), (.v (.sl .nil (List.map eI []))), (.v (.sl .nonfull (List.map ep24 ([(P24.con ((⟨w0, w1, w2, w3, w4⟩ : S24)))])))), (dI w5), (dI w6)]
noncomputable abbrev k31_0 : List Nat := [0, 2, 14, 15]
noncomputable abbrev k31_1 : List Nat := [0, 2, 14, 15, 16]
noncomputable abbrev k31_2 : List Nat := [0, 2, 14, 15, 16, 20]
noncomputable abbrev k31_3 : List Nat := [0, 2, 14, 16, 17]
noncomputable abbrev k31_4 : List Nat := [0, 2, 14, 16, 17, 113, 114, 115]
noncomputable abbrev k31_5 : List Nat := [2, 8, 10, 59, 60, 61]
set_option maxHeartbeats 0 in
theorem f31_hLx633 (m : Nat) (K : Rec31) (nn : Nat) (hK : OkRec31 m K nn) (a0 : (List S81)) (o : S24) (n : Nat) (hn : m + 3 ≤ n + 1) (hk : nn + 1 ≤ n + 1) (nx477 : Nat) (v473 : (List P24)) : ∀ (kx564 : Nat) (v555 v556 : Int) (v557 : (List Int)) (v559 : (List P24)) (v561 v562 : Int) (fl558 fl560 : SFlag) (ox563 : S24 ⊕ (Int × Int × (List Int) × (List P24) × Int × Int)), iter (fun (y : Int × Int × (List Int) × (List P24) × Int × Int) => f31_B12 m K a0 y.1 y.2.1 y.2.2.1 y.2.2.2.1 y.2.2.2.2.1 y.2.2.2.2.2) kx564 (v555, v556, v557, v559, v561, v562) = some ox563 → ∀ nx565, kx564 ≤ nx565 → (∀ r, ox563 = .inl r → ∀ σ, RetOk (X31 n) (resOf Proofs.Tryd.prog 31) (e24 r) σ → (seqQ (X31 n) p31_7 (blkQ (X31 n) 5 k31_0 9 (seqQ (X31 n) p31_4 (lpQ (X31 n) k31_0 5 p31_2 nx477 (blkQ (X31 n) 4 [2, 14] 5 (seqQ (X31 n) p31_0 (fnQ (X31 n).E.T (resOf Proofs.Tryd.prog 31) (e24 o)))))))) .ret σ) → (∀ (y : Int × Int × (List Int) × (List P24) × Int × Int) (fl558 fl560 : SFlag), ox563 = .inr y → (seqQ (X31 n) p31_7 (blkQ (X31 n) 5 k31_0 9 (seqQ (X31 n) p31_4 (lpQ (X31 n) k31_0 5 p31_2 nx477 (blkQ (X31 n) 4 [2, 14] 5 (seqQ (X31 n) p31_0 (fnQ (X31 n).E.T (resOf Proofs.Tryd.prog 31) (e24 o)))))))) .normal ⟨Zs12 a0 ((appD 12 (List.map ep24 v473))::(dI y.1)::(.ptr 9 0)::q40 (q40 (q40 (q40 (q40 (q9 [])))))), [b31_0, .dead, .dead, .dead, .dead, .dead, .dead, .dead, .dead, (.cells [(dI y.2.1), (.v (.sl fl558 (List.map eI y.2.2.1))), (.v (.sl fl560 (List.map ep24 y.2.2.2.1))), (dI y.2.2.2.2.1), (dI y.2.2.2.2.2)]), .dead, .dead, (appO 5 (List.map ep24 v473)), .dead]⟩) → Lp (X31 n) k31_1 12 p31_8 nx565 ⟨Zs12 a0 ((appD 12 (List.map ep24 v473))::(dI v555)::(.ptr 9 0)::q40 (q40 (q40 (q40 (q40 (q9 [])))))), [b31_0, .dead, .dead, .dead, .dead, .dead, .dead, .dead, .dead, (.cells [(dI v556), (.v (.sl fl558 (List.map eI v557))), (.v (.sl fl560 (List.map ep24 v559))), (dI v561), (dI v562)]), .dead, .dead, (appO 5 (List.map ep24 v473)), .dead]⟩ (blkQ (X31 n) 8 k31_1 12 (seqQ (X31 n) p31_7 (blkQ (X31 n) 5 k31_0 9 (seqQ (X31 n) p31_4 (lpQ (X31 n) k31_0 5 p31_2 nx477 (blkQ (X31 n) 4 [2, 14] 5 (seqQ (X31 n) p31_0 (fnQ (X31 n).E.T (resOf Proofs.Tryd.prog 31) (e24 o))))))))) := by
 intro kx564
 induction kx564 with
 | zero => intro v555 v556 v557 v559 v561 v562 fl558 fl560 ox563 h; exact (iter_zero h).elim
 | succ kx564 ihx566 =>
  intro v555 v556 v557 v559 v561 v562 fl558 fl560 ox563 h nx565 hnx569 hrx567 hxx568
  obtain ⟨nx565, rfl⟩ : ∃ q, nx565 = q + 1 := ⟨nx565 - 1, by omega⟩
  obtain ⟨sx570, h, hsx571⟩ := iter_some h
  have h : f31_B12 m K a0 v555 v556 v557 v559 v561 v562 = some sx570 := h
  unfold f31_B12 at h
  refine Lp.succ (Wq.sq (Wq.sq (Wq.rg (Oq.sg 3 3 ?_))))
  refine Ops.on 4 (fun h0 e0 => (len_r (T := T) h0 62 82 .plain e81 a0 (by as_aux_lemma => kernel_rfl))) ?_
  refine Oq.sg 2 6 ?_
  refine Ops.hv (fun KQ => ∀ (d574 d575 d576 d577 d578 d579 : D) (v580 v581 : Bool), f31_r11 m K a0 v555 v556 v557 v559 v561 v562 v581 = some sx570 → KQ 13 ⟨Zs12 a0 ((appD 12 (List.map ep24 v473))::(dI v555)::(.ptr 9 0)::q40 (q40 (q40 (q2 ((dI v555)::(dI (w64 (v555 + 1)))::(dP e81 a0)::(dI (a0.length : Int))::(dB v580)::(dB v580)::d574::d575::d576::d577::d578::d579::(dB v581)::q40 (q34 [])))))), [b31_0, .dead, .dead, .dead, .dead, .dead, .dead, .dead, .dead, (.cells [(dI v556), (.v (.sl fl558 (List.map eI v557))), (.v (.sl fl560 (List.map ep24 v559))), (dI v561), (dI v562)]), .dead, .dead, (appO 5 (List.map ep24 v473)), .dead]⟩) ?_ fun J31j582 => ?_
  ·intro d574 d575 d576 d577 d578 d579 v580 v581 h
   unfold f31_r11 at h
   refine Oq.sg 1 14 ?_
   refine Ops.hv (fun KQ => ∀ (d585 d586 d587 d588 d589 d590 d591 : D) (v592 v593 : Bool), f31_r10 m K a0 v555 v556 v557 v559 v561 v562 v593 = some sx570 → KQ 22 ⟨Zs12 a0 ((appD 12 (List.map ep24 v473))::(dI v555)::(.ptr 9 0)::q40 (q40 (q40 (q2 ((dI v555)::(dI (w64 (v555 + 1)))::(dP e81 a0)::(dI (a0.length : Int))::(dB v580)::(dB v580)::d574::d575::d576::d577::d578::d579::(dB v592)::(dB v592)::d585::d586::d587::d588::d589::d590::d591::(dB v593)::q40 (q25 [])))))), [b31_0, .dead, .dead, .dead, .dead, .dead, .dead, .dead, .dead, (.cells [(dI v556), (.v (.sl fl558 (List.map eI v557))), (.v (.sl fl560 (List.map ep24 v559))), (dI v561), (dI v562)]), .dead, .dead, (appO 5 (List.map ep24 v473)), .dead]⟩) ?_ fun J31j594 => ?_
   ·intro d585 d586 d587 d588 d589 d590 d591 v592 v593 h
    unfold f31_r10 at h
    refine Oq.sg 1 23 ?_
    refine Ops.hv (fun KQ => ∀ (d597 d598 d599 d600 d601 d602 d603 : D) (v604 v605 : Bool), f31_r9 m K a0 v555 v556 v557 v559 v561 v562 v605 = some sx570 → KQ 31 ⟨Zs12 a0 ((appD 12 (List.map ep24 v473))::(dI v555)::(.ptr 9 0)::q40 (q40 (q40 (q2 ((dI v555)::(dI (w64 (v555 + 1)))::(dP e81 a0)::(dI (a0.length : Int))::(dB v580)::(dB v580)::d574::d575::d576::d577::d578::d579::(dB v592)::(dB v592)::d585::d586::d587::d588::d589::d590::d591::(dB v604)::(dB v604)::d597::d598::d599::d600::d601::d602::d603::(dB v605)::q40 (q16 [])))))), [b31_0, .dead, .dead, .dead, .dead, .dead, .dead, .dead, .dead, (.cells [(dI v556), (.v (.sl fl558 (List.map eI v557))), (.v (.sl fl560 (List.map ep24 v559))), (dI v561), (dI v562)]), .dead, .dead, (appO 5 (List.map ep24 v473)), .dead]⟩) ?_ fun J31j606 => ?_
    ·intro d597 d598 d599 d600 d601 d602 d603 v604 v605 h
     unfold f31_r9 at h
     refine Oq.dn (seqQ.n ?_)
     refine Wq.cd h k31_1 14 (fun h => ?_) (fun h => ?_)
     ·refine Wq.sk (sqQ.n ⟨Zs12 a0 ((appD 14 (List.map ep24 v473))::(dI v555)::(.ptr 9 0)::q40 (q40 (q40 (q40 (q40 (q9 [])))))), [b31_0, .dead, .dead, .dead, .dead, .dead, .dead, .dead, .dead, (.cells [(dI v556), (.v (.sl fl558 (List.map eI v557))), (.v (.sl fl560 (List.map ep24 v559))), (dI v561), (dI v562)]), .dead, .dead, .dead, .dead, (appO 5 (List.map ep24 v473)), .dead]⟩ (by generalize v473 = z0; cases z0 <;> (as_aux_lemma => kernel_rfl)) (seqQ.n (Wq.bk 9 k31_1 16 (Wq.sq (Wq.rg (Oq.sg 3 3 (Oq.dn (seqQ.n (Wq.sq (Wq.rg (Oq.sg 5 5 (Oq.dn (seqQ.n (Wq.sq (Wq.sq (Wq.rg (Oq.sg 2 2 ?_)))))))))))))))))
      obtain ⟨v607, ev607, h⟩ := bnd_some h
      refine Ops.on 3 (fun h0 e0 => (ix_r (T := T) h0 62 82 2 .plain e81 a0 (w64 (v555 + 1)) v607 ev607 (by as_aux_lemma => kernel_rfl) (by as_aux_lemma => kernel_rfl) (fun _ => rfl))) ?_
      refine Oq.sg 2 5 (Oq.dn (seqQ.n ?_))
      have J31j611 : ∀ (v608 v609 v610 : Int) , f31_j4 m K v556 v557 v559 v561 v562 v608 v609 v610 = some sx570 → (seqQ (X31 n) p31_10 (blkQ (X31 n) 9 k31_1 16 (lpQ (X31 n) k31_1 12 p31_8 nx565 (blkQ (X31 n) 8 k31_1 12 (seqQ (X31 n) p31_7 (blkQ (X31 n) 5 k31_0 9 (seqQ (X31 n) p31_4 (lpQ (X31 n) k31_0 5 p31_2 nx477 (blkQ (X31 n) 4 [2, 14] 5 (seqQ (X31 n) p31_0 (fnQ (X31 n).E.T (resOf Proofs.Tryd.prog 31) (e24 o)))))))))))) .normal ⟨Zs6 a0 v473 v608 [], [b31_0, .dead, .dead, .dead, .dead, .dead, .dead, .dead, .dead, (.cells [(dI v556), (.v (.sl fl558 (List.map eI v557))), (.v (.sl fl560 (List.map ep24 v559))), (dI v561), (dI v562)]), .dead, .dead, .dead, .dead, .dead, .dead, (b31_1 v556 v557 v559 v561 v562 v609 v610), (appO 5 (List.map ep24 v473)), .dead]⟩ := by
       intro v608 v609 v610  h
       unfold f31_j4 at h
       refine seqQ.n (Wq.rg (Oq.sg 2 2 (Oq.dn (blkQ.n ⟨Zs12 a0 ((appD 16 (List.map ep24 v473))::(dI v608)::(.ptr 9 0)::q40 (q40 (q40 (q40 (q40 (q9 [])))))), [b31_0, .dead, .dead, .dead, .dead, .dead, .dead, .dead, .dead, (b31_1 v556 v557 v559 v561 v562 v609 v610), .dead, .dead, .dead, .dead, .dead, .dead, (appO 5 (List.map ep24 v473)), .dead]⟩ (by generalize v473 = z0; cases z0 <;> (as_aux_lemma => kernel_rfl)) (lpQ.n ⟨Zs12 a0 ((appD 12 (List.map ep24 v473))::(dI v608)::(.ptr 9 0)::q40 (q40 (q40 (q40 (q40 (q9 [])))))), [b31_0, .dead, .dead, .dead, .dead, .dead, .dead, .dead, .dead, (b31_1 v556 v557 v559 v561 v562 v609 v610), .dead, .dead, (appO 5 (List.map ep24 v473)), .dead]⟩ (by generalize v473 = z0; cases z0 <;> (as_aux_lemma => kernel_rfl)) ?_)))))
       cases h
       exact ihx566 v608 5 [] ([(P24.con ((⟨v556, v557, v559, v561, v562⟩ : S24)))]) v609 v610 _ _ _ hsx571 _ (by omega) hrx567 hxx568
      refine Wq.bk 10 k31_2 17 (Wq.sq (Wq.rg (Oq.sg 2 2 (Oq.dn (seqQ.n ?_)))))
      have J31j615 : ∀ (v612 v613 v614 : Int) , f31_j5 m K v556 v557 v559 v561 v562 v612 v613 v614 = some sx570 → (blkQ (X31 n) 10 k31_2 17 (seqQ (X31 n) p31_10 (blkQ (X31 n) 9 k31_1 16 (lpQ (X31 n) k31_1 12 p31_8 nx565 (blkQ (X31 n) 8 k31_1 12 (seqQ (X31 n) p31_7 (blkQ (X31 n) 5 k31_0 9 (seqQ (X31 n) p31_4 (lpQ (X31 n) k31_0 5 p31_2 nx477 (blkQ (X31 n) 4 [2, 14] 5 (seqQ (X31 n) p31_0 (fnQ (X31 n).E.T (resOf Proofs.Tryd.prog 31) (e24 o))))))))))))) .normal ⟨Zs6 a0 v473 v612 [], [b31_0, .dead, .dead, .dead, .dead, .dead, .dead, .dead, .dead, (.cells [(dI v556), (.v (.sl fl558 (List.map eI v557))), (.v (.sl fl560 (List.map ep24 v559))), (dI v561), (dI v562)]), .dead, .dead, .dead, .dead, .dead, .dead, (b31_1 v556 v557 v559 v561 v562 v613 v614), (appO 5 (List.map ep24 v473)), .dead]⟩ := by
       intro v612 v613 v614  h
       unfold f31_j5 at h
       refine blkQ.n ⟨Zs6 a0 v473 v612 [], [b31_0, .dead, .dead, .dead, .dead, .dead, .dead, .dead, .dead, (.cells [(dI v556), (.v (.sl fl558 (List.map eI v557))), (.v (.sl fl560 (List.map ep24 v559))), (dI v561), (dI v562)]), .dead, .dead, .dead, .dead, .dead, .dead, (b31_1 v556 v557 v559 v561 v562 v613 v614), (appO 5 (List.map ep24 v473)), .dead]⟩ (by generalize v473 = z0; cases z0 <;> (as_aux_lemma => kernel_rfl)) ?_
       exact J31j611 v612 v613 v614  h
      refine Wq.cd h k31_2 17 (fun h => ?_) (fun h => ?_)
      ·refine Wq.rg (Oq.sg 2 2 (Oq.dn (sqQ.n ⟨Zs6 a0 v473 (w64 (v555 + 1)) [], [b31_0, .dead, .dead, .dead, .dead, .dead, .dead, .dead, .dead, (.cells [(dI v556), (.v (.sl fl558 (List.map eI v557))), (.v (.sl fl560 (List.map ep24 v559))), (dI v561), (dI v562)]), .dead, .dead, .dead, .dead, .dead, .dead, (.cells [(dI 5), (.v (.sl .nil (List.map eI []))), (.v (.sl .nonfull (List.map ep24 ([(P24.con ((⟨v556, v557, v559, v561, v562⟩ : S24)))])))), (dI 1), (dI (-1))]), (appO 5 (List.map ep24 v473)), .dead]⟩ (by generalize v473 = z0; cases z0 <;> (as_aux_lemma => kernel_rfl)) ?_)))
       exact J31j615 (w64 (v555 + 1)) 1 (-1)  h
      ·refine Wq.sq (Wq.rg (Oq.sg 2 2 (Oq.dn (seqQ.n ?_))))
       have J31j619 : ∀ (v616 v617 v618 : Int) , f31_j6 m K v556 v557 v559 v561 v562 v616 v617 v618 = some sx570 → (sqQ (X31 n) k31_2 17 (blkQ (X31 n) 10 k31_2 17 (seqQ (X31 n) p31_10 (blkQ (X31 n) 9 k31_1 16 (lpQ (X31 n) k31_1 12 p31_8 nx565 (blkQ (X31 n) 8 k31_1 12 (seqQ (X31 n) p31_7 (blkQ (X31 n) 5 k31_0 9 (seqQ (X31 n) p31_4 (lpQ (X31 n) k31_0 5 p31_2 nx477 (blkQ (X31 n) 4 [2, 14] 5 (seqQ (X31 n) p31_0 (fnQ (X31 n).E.T (resOf Proofs.Tryd.prog 31) (e24 o)))))))))))))) .normal ⟨Zs6 a0 v473 v616 [], [b31_0, .dead, .dead, .dead, .dead, .dead, .dead, .dead, .dead, (.cells [(dI v556), (.v (.sl fl558 (List.map eI v557))), (.v (.sl fl560 (List.map ep24 v559))), (dI v561), (dI v562)]), .dead, .dead, .dead, .dead, .dead, .dead, (b31_1 v556 v557 v559 v561 v562 v617 v618), (appO 5 (List.map ep24 v473)), .dead]⟩ := by
        intro v616 v617 v618  h
        unfold f31_j6 at h
        refine sqQ.n ⟨Zs6 a0 v473 v616 [], [b31_0, .dead, .dead, .dead, .dead, .dead, .dead, .dead, .dead, (.cells [(dI v556), (.v (.sl fl558 (List.map eI v557))), (.v (.sl fl560 (List.map ep24 v559))), (dI v561), (dI v562)]), .dead, .dead, .dead, .dead, .dead, .dead, (b31_1 v556 v557 v559 v561 v562 v617 v618), (appO 5 (List.map ep24 v473)), .dead]⟩ (by generalize v473 = z0; cases z0 <;> (as_aux_lemma => kernel_rfl)) ?_
        exact J31j615 v616 v617 v618  h
       refine Wq.cd h k31_2 17 (fun h => ?_) (fun h => ?_)
       ·refine Wq.rg (Oq.sg 2 2 (Oq.dn (sqQ.n ⟨Zs6 a0 v473 (w64 (v555 + 1)) [], [b31_0, .dead, .dead, .dead, .dead, .dead, .dead, .dead, .dead, (.cells [(dI v556), (.v (.sl fl558 (List.map eI v557))), (.v (.sl fl560 (List.map ep24 v559))), (dI v561), (dI v562)]), .dead, .dead, .dead, .dead, .dead, .dead, (.cells [(dI 5), (.v (.sl .nil (List.map eI []))), (.v (.sl .nonfull (List.map ep24 ([(P24.con ((⟨v556, v557, v559, v561, v562⟩ : S24)))])))), (dI 0), (dI 1)]), (appO 5 (List.map ep24 v473)), .dead]⟩ (by generalize v473 = z0; cases z0 <;> (as_aux_lemma => kernel_rfl)) ?_)))
        exact J31j619 (w64 (v555 + 1)) 0 1  h
       ·refine Wq.sq (Wq.rg (Oq.sg 2 2 (Oq.dn (seqQ.n ?_))))
        have J31j623 : ∀ (v620 v621 v622 : Int) , f31_j7 m K v556 v557 v559 v561 v562 v620 v621 v622 = some sx570 → (sqQ (X31 n) k31_2 17 (sqQ (X31 n) k31_2 17 (blkQ (X31 n) 10 k31_2 17 (seqQ (X31 n) p31_10 (blkQ (X31 n) 9 k31_1 16 (lpQ (X31 n) k31_1 12 p31_8 nx565 (blkQ (X31 n) 8 k31_1 12 (seqQ (X31 n) p31_7 (blkQ (X31 n) 5 k31_0 9 (seqQ (X31 n) p31_4 (lpQ (X31 n) k31_0 5 p31_2 nx477 (blkQ (X31 n) 4 [2, 14] 5 (seqQ (X31 n) p31_0 (fnQ (X31 n).E.T (resOf Proofs.Tryd.prog 31) (e24 o))))))))))))))) .normal ⟨Zs6 a0 v473 v620 [], [b31_0, .dead, .dead, .dead, .dead, .dead, .dead, .dead, .dead, (.cells [(dI v556), (.v (.sl fl558 (List.map eI v557))), (.v (.sl fl560 (List.map ep24 v559))), (dI v561), (dI v562)]), .dead, .dead, .dead, .dead, .dead, .dead, (b31_1 v556 v557 v559 v561 v562 v621 v622), (appO 5 (List.map ep24 v473)), .dead]⟩ := by
         intro v620 v621 v622  h
         unfold f31_j7 at h
         refine sqQ.n ⟨Zs6 a0 v473 v620 [], [b31_0, .dead, .dead, .dead, .dead, .dead, .dead, .dead, .dead, (.cells [(dI v556), (.v (.sl fl558 (List.map eI v557))), (.v (.sl fl560 (List.map ep24 v559))), (dI v561), (dI v562)]), .dead, .dead, .dead, .dead, .dead, .dead, (b31_1 v556 v557 v559 v561 v562 v621 v622), (appO 5 (List.map ep24 v473)), .dead]⟩ (by generalize v473 = z0; cases z0 <;> (as_aux_lemma => kernel_rfl)) ?_
         exact J31j619 v620 v621 v622  h
        refine Wq.cd h k31_2 17 (fun h => ?_) (fun h => ?_)
        ·refine Wq.sq (Wq.rg (Oq.sg 3 3 ?_))
         obtain ⟨v624, ev624, h⟩ := bnd_some h
         refine Ops.on 4 (fun h0 e0 => (ix_r (T := T) h0 62 82 2 .plain e81 a0 (w64 (w64 (v555 + 1) + 1)) v624 ev624 (by as_aux_lemma => kernel_rfl) (by as_aux_lemma => kernel_rfl) (fun _ => rfl))) ?_
         refine Oq.sg 5 9 (Oq.dn (seqQ.n (Wq.sq (Wq.rg (Oq.sg 3 3 (Oq.dn (seqQ.n (Wq.sq (Wq.rg (Oq.sg 2 2 ?_))))))))))
         obtain ⟨v625, ev625, h⟩ := bnd_some h
         refine Ops.on 3 (fun h0 e0 => (ix_r (T := T) h0 62 82 2 .plain e81 a0 (w64 (w64 (v555 + 1) + 3)) v625 ev625 (by as_aux_lemma => kernel_rfl) (by as_aux_lemma => kernel_rfl) (fun _ => rfl))) ?_
         refine Oq.sg 3 6 (Oq.dn (seqQ.n ?_))
         have J31j628 : ∀ (v626 v627 : Int) , f31_j8 m K v556 v557 v559 v561 v562 v624 v626 v627 = some sx570 → (sqQ (X31 n) k31_2 17 (sqQ (X31 n) k31_2 17 (sqQ (X31 n) k31_2 17 (blkQ (X31 n) 10 k31_2 17 (seqQ (X31 n) p31_10 (blkQ (X31 n) 9 k31_1 16 (lpQ (X31 n) k31_1 12 p31_8 nx565 (blkQ (X31 n) 8 k31_1 12 (seqQ (X31 n) p31_7 (blkQ (X31 n) 5 k31_0 9 (seqQ (X31 n) p31_4 (lpQ (X31 n) k31_0 5 p31_2 nx477 (blkQ (X31 n) 4 [2, 14] 5 (seqQ (X31 n) p31_0 (fnQ (X31 n).E.T (resOf Proofs.Tryd.prog 31) (e24 o)))))))))))))))) .normal ⟨Zs6 a0 v473 v626 [], [b31_0, .dead, .dead, .dead, .dead, .dead, .dead, .dead, .dead, (.cells [(dI v556), (.v (.sl fl558 (List.map eI v557))), (.v (.sl fl560 (List.map ep24 v559))), (dI v561), (dI v562)]), .dead, .dead, .dead, .dead, .dead, .dead, (.cells [(dI 5), (.v (.sl .nil (List.map eI []))), (.v (.sl .nonfull (List.map ep24 ([(P24.con ((⟨v556, v557, v559, v561, v562⟩ : S24)))])))), (dI (w64 (v624.fPoint - 48))), (dI v627)]), (appO 5 (List.map ep24 v473)), .dead]⟩ := by
          intro v626 v627  h
          unfold f31_j8 at h
          refine sqQ.n ⟨Zs6 a0 v473 v626 [], [b31_0, .dead, .dead, .dead, .dead, .dead, .dead, .dead, .dead, (.cells [(dI v556), (.v (.sl fl558 (List.map eI v557))), (.v (.sl fl560 (List.map ep24 v559))), (dI v561), (dI v562)]), .dead, .dead, .dead, .dead, .dead, .dead, (.cells [(dI 5), (.v (.sl .nil (List.map eI []))), (.v (.sl .nonfull (List.map ep24 ([(P24.con ((⟨v556, v557, v559, v561, v562⟩ : S24)))])))), (dI (w64 (v624.fPoint - 48))), (dI v627)]), (appO 5 (List.map ep24 v473)), .dead]⟩ (by generalize v473 = z0; cases z0 <;> (as_aux_lemma => kernel_rfl)) ?_
          exact J31j623 v626 (w64 (v624.fPoint - 48)) v627  h
         refine Wq.cd h k31_2 17 (fun h => ?_) (fun h => ?_)
         ·refine Wq.sq (Wq.rg (Oq.sg 2 2 ?_))
          obtain ⟨v629, ev629, h⟩ := bnd_some h
          refine Ops.on 3 (fun h0 e0 => (ix_r (T := T) h0 62 82 2 .plain e81 a0 (w64 (w64 (v555 + 1) + 3)) v629 ev629 (by as_aux_lemma => kernel_rfl) (by as_aux_lemma => kernel_rfl) (fun _ => rfl))) ?_
          refine Oq.sg 5 8 (Oq.dn (seqQ.n (Wq.rg (Oq.sg 3 3 (Oq.dn (sqQ.n ⟨Zs6 a0 v473 (w64 (w64 (w64 (v555 + 1) + 3) + 1)) [], [b31_0, .dead, .dead, .dead, .dead, .dead, .dead, .dead, .dead, (.cells [(dI v556), (.v (.sl fl558 (List.map eI v557))), (.v (.sl fl560 (List.map ep24 v559))), (dI v561), (dI v562)]), .dead, .dead, .dead, .dead, .dead, .dead, (.cells [(dI 5), (.v (.sl .nil (List.map eI []))), (.v (.sl .nonfull (List.map ep24 ([(P24.con ((⟨v556, v557, v559, v561, v562⟩ : S24)))])))), (dI (w64 (v624.fPoint - 48))), (dI (w64 (v629.fPoint - 48)))]), (appO 5 (List.map ep24 v473)), .dead]⟩ (by generalize v473 = z0; cases z0 <;> (as_aux_lemma => kernel_rfl)) ?_))))))
          exact J31j628 (w64 (w64 (w64 (v555 + 1) + 3) + 1)) (w64 (v629.fPoint - 48))  h
         ·refine Wq.sk (sqQ.n ⟨Zs6 a0 v473 (w64 (w64 (v555 + 1) + 3)) [], [b31_0, .dead, .dead, .dead, .dead, .dead, .dead, .dead, .dead, (.cells [(dI v556), (.v (.sl fl558 (List.map eI v557))), (.v (.sl fl560 (List.map ep24 v559))), (dI v561), (dI v562)]), .dead, .dead, .dead, .dead, .dead, .dead, (.cells [(dI 5), (.v (.sl .nil (List.map eI []))), (.v (.sl .nonfull (List.map ep24 ([(P24.con ((⟨v556, v557, v559, v561, v562⟩ : S24)))])))), (dI (w64 (v624.fPoint - 48))), (dI (-1))]), (appO 5 (List.map ep24 v473)), .dead]⟩ (by generalize v473 = z0; cases z0 <;> (as_aux_lemma => kernel_rfl)) ?_)
          exact J31j628 (w64 (w64 (v555 + 1) + 3)) (-1)  h
        ·refine Wq.sk (sqQ.n ⟨Zs6 a0 v473 (w64 (v555 + 1)) [], [b31_0, .dead, .dead, .dead, .dead, .dead, .dead, .dead, .dead, (.cells [(dI v556), (.v (.sl fl558 (List.map eI v557))), (.v (.sl fl560 (List.map ep24 v559))), (dI v561), (dI v562)]), .dead, .dead, .dead, .dead, .dead, .dead, (.cells [(dI 5), (.v (.sl .nil (List.map eI []))), (.v (.sl .nonfull (List.map ep24 ([(P24.con ((⟨v556, v557, v559, v561, v562⟩ : S24)))])))), (dI 0), (dI (-1))]), (appO 5 (List.map ep24 v473)), .dead]⟩ (by generalize v473 = z0; cases z0 <;> (as_aux_lemma => kernel_rfl)) ?_)
         exact J31j623 (w64 (v555 + 1)) 0 (-1)  h
     ·refine Wq.ex 8 (sqQ.x (seqQ.x ?_))
      cases h
      refine lpQ.x (blkQ.x ⟨Zs12 a0 ((appD 12 (List.map ep24 v473))::(dI v555)::(.ptr 9 0)::q40 (q40 (q40 (q40 (q40 (q9 [])))))), [b31_0, .dead, .dead, .dead, .dead, .dead, .dead, .dead, .dead, (.cells [(dI v556), (.v (.sl fl558 (List.map eI v557))), (.v (.sl fl560 (List.map ep24 v559))), (dI v561), (dI v562)]), .dead, .dead, (appO 5 (List.map ep24 v473)), .dead]⟩ (by generalize v473 = z0; cases z0 <;> (as_aux_lemma => kernel_rfl)) ?_)
      exact hxx568 (v555, v556, v557, v559, v561, v562) _ _ hsx571
    obtain ⟨v605, ev605, h⟩ := bnd_some h
    refine Ops.hv (fun KQ => ∀ v595 : Bool, (cnd v595 (bnd (idx a0 (w64 (v555 + 1))) fun v630 => some (v630.fPoint != 91)) (some false)) = some v605 → KQ 23 ⟨Zs12 a0 ((appD 12 (List.map ep24 v473))::(dI v555)::(.ptr 9 0)::q40 (q40 (q40 (q2 ((dI v555)::(dI (w64 (v555 + 1)))::(dP e81 a0)::(dI (a0.length : Int))::(dB v580)::(dB v580)::d574::d575::d576::d577::d578::d579::(dB v592)::(dB v592)::d585::d586::d587::d588::d589::d590::d591::(dB v595)::(dB v595)::q40 (q24 [])))))), [b31_0, .dead, .dead, .dead, .dead, .dead, .dead, .dead, .dead, (.cells [(dI v556), (.v (.sl fl558 (List.map eI v557))), (.v (.sl fl560 (List.map ep24 v559))), (dI v561), (dI v562)]), .dead, .dead, (appO 5 (List.map ep24 v473)), .dead]⟩) ?_ fun G31g596 => Oq.sx (G31g596 v593 ev605)
    intro v595 ev605
    cases v595
    ·have ev605 := cnd_f ev605
     refine Oq.sg 8 31 ?_
     exact Oq.sx (J31j606 U U U U U U U false false (some_sub (fun v605 => f31_r9 m K a0 v555 v556 v557 v559 v561 v562 v605 = some sx570) ev605 h))
    ·have ev605 := cnd_t ev605
     refine Oq.sg 3 26 ?_
     obtain ⟨v630, ev630, ev605⟩ := bnd_some ev605
     refine Ops.on 27 (fun h0 e0 => (ix_r (T := T) h0 62 82 2 .plain e81 a0 (w64 (v555 + 1)) v630 ev630 (by as_aux_lemma => kernel_rfl) (by as_aux_lemma => kernel_rfl) (fun _ => rfl))) ?_
     refine Oq.sg 4 31 ?_
     exact Oq.sx (J31j606 (dP e81 a0) (dI v555) (dI (w64 (v555 + 1))) ((.vptr [(vI v630.fPoint), (vB v630.fSign)])) ((.vptr [(vI v630.fPoint), (vB v630.fSign)])) (dI v630.fPoint) (dB (v630.fPoint != 91)) true (v630.fPoint != 91) (some_sub (fun v605 => f31_r9 m K a0 v555 v556 v557 v559 v561 v562 v605 = some sx570) ev605 h))
   obtain ⟨v593, ev593, h⟩ := bnd_some h
   refine Ops.hv (fun KQ => ∀ v583 : Bool, (cnd v583 (bnd (idx a0 (w64 (v555 + 1))) fun v631 => some (v631.fPoint != 40)) (some false)) = some v593 → KQ 14 ⟨Zs12 a0 ((appD 12 (List.map ep24 v473))::(dI v555)::(.ptr 9 0)::q40 (q40 (q40 (q2 ((dI v555)::(dI (w64 (v555 + 1)))::(dP e81 a0)::(dI (a0.length : Int))::(dB v580)::(dB v580)::d574::d575::d576::d577::d578::d579::(dB v583)::(dB v583)::q40 (q33 [])))))), [b31_0, .dead, .dead, .dead, .dead, .dead, .dead, .dead, .dead, (.cells [(dI v556), (.v (.sl fl558 (List.map eI v557))), (.v (.sl fl560 (List.map ep24 v559))), (dI v561), (dI v562)]), .dead, .dead, (appO 5 (List.map ep24 v473)), .dead]⟩) ?_ fun G31g584 => Oq.sx (G31g584 v581 ev593)
   intro v583 ev593
   cases v583
   ·have ev593 := cnd_f ev593
    refine Oq.sg 8 22 ?_
    exact Oq.sx (J31j594 U U U U U U U false false (some_sub (fun v593 => f31_r10 m K a0 v555 v556 v557 v559 v561 v562 v593 = some sx570) ev593 h))
   ·have ev593 := cnd_t ev593
    refine Oq.sg 3 17 ?_
    obtain ⟨v631, ev631, ev593⟩ := bnd_some ev593
    refine Ops.on 18 (fun h0 e0 => (ix_r (T := T) h0 62 82 2 .plain e81 a0 (w64 (v555 + 1)) v631 ev631 (by as_aux_lemma => kernel_rfl) (by as_aux_lemma => kernel_rfl) (fun _ => rfl))) ?_
    refine Oq.sg 4 22 ?_
    exact Oq.sx (J31j594 (dP e81 a0) (dI v555) (dI (w64 (v555 + 1))) ((.vptr [(vI v631.fPoint), (vB v631.fSign)])) ((.vptr [(vI v631.fPoint), (vB v631.fSign)])) (dI v631.fPoint) (dB (v631.fPoint != 40)) true (v631.fPoint != 40) (some_sub (fun v593 => f31_r10 m K a0 v555 v556 v557 v559 v561 v562 v593 = some sx570) ev593 h))
  obtain ⟨v581, ev581, h⟩ := bnd_some h
  refine Ops.hv (fun KQ => ∀ v572 : Bool, (cnd v572 (bnd (idx a0 (w64 (v555 + 1))) fun v632 => some v632.fSign) (some false)) = some v581 → KQ 6 ⟨Zs12 a0 ((appD 12 (List.map ep24 v473))::(dI v555)::(.ptr 9 0)::q40 (q40 (q40 (q2 ((dI v555)::(dI (w64 (v555 + 1)))::(dP e81 a0)::(dI (a0.length : Int))::(dB v572)::(dB v572)::q40 (q40 (q1 []))))))), [b31_0, .dead, .dead, .dead, .dead, .dead, .dead, .dead, .dead, (.cells [(dI v556), (.v (.sl fl558 (List.map eI v557))), (.v (.sl fl560 (List.map ep24 v559))), (dI v561), (dI v562)]), .dead, .dead, (appO 5 (List.map ep24 v473)), .dead]⟩) ?_ fun G31g573 => Oq.sx (G31g573 (decide (w64 (v555 + 1) < (a0.length : Int))) ev581)
  intro v572 ev581
  cases v572
  ·have ev581 := cnd_f ev581
   refine Oq.sg 7 13 ?_
   exact Oq.sx (J31j582 U U U U U U false false (some_sub (fun v581 => f31_r11 m K a0 v555 v556 v557 v559 v561 v562 v581 = some sx570) ev581 h))
  ·have ev581 := cnd_t ev581
   refine Oq.sg 3 9 ?_
   obtain ⟨v632, ev632, ev581⟩ := bnd_some ev581
   refine Ops.on 10 (fun h0 e0 => (ix_r (T := T) h0 62 82 2 .plain e81 a0 (w64 (v555 + 1)) v632 ev632 (by as_aux_lemma => kernel_rfl) (by as_aux_lemma => kernel_rfl) (fun _ => rfl))) ?_
   refine Oq.sg 3 13 ?_
   exact Oq.sx (J31j582 (dP e81 a0) (dI v555) (dI (w64 (v555 + 1))) ((.vptr [(vI v632.fPoint), (vB v632.fSign)])) (.vptr [(vB v632.fSign)]) (dB v632.fSign) true v632.fSign (some_sub (fun v581 => f31_r11 m K a0 v555 v556 v557 v559 v561 v562 v581 = some sx570) ev581 h))
set_option maxHeartbeats 0 in
theorem f31_hLx683 (m : Nat) (K : Rec31) (nn : Nat) (hK : OkRec31 m K nn) (a0 : (List S81)) (o : S24) (n : Nat) (hn : m + 3 ≤ n + 1) (hk : nn + 1 ≤ n + 1)  : ∀ (kx476 : Nat) (v473 : (List P24)) (v474 : Int)  (ox475 : S24 ⊕ ((List P24) × Int)), iter (fun (y : (List P24) × Int) => f31_B17 m K a0 y.1 y.2) kx476 (v473, v474) = some ox475 → ∀ nx477, kx476 ≤ nx477 → (∀ r, ox475 = .inl r → ∀ σ, RetOk (X31 n) (resOf Proofs.Tryd.prog 31) (e24 r) σ → (seqQ (X31 n) p31_0 (fnQ (X31 n).E.T (resOf Proofs.Tryd.prog 31) (e24 o))) .ret σ) → (∀ (y : (List P24) × Int) , ox475 = .inr y → (seqQ (X31 n) p31_0 (fnQ (X31 n).E.T (resOf Proofs.Tryd.prog 31) (e24 o))) .normal ⟨q2 ((.ptr 0 0)::q11 ((appD 5 (List.map ep24 y.1))::q40 (q40 (q40 (q40 (q40 (q11 []))))))), [b31_0, .dead, .dead, .dead, .dead, (appO 5 (List.map ep24 y.1)), .dead]⟩) → Lp (X31 n) k31_0 5 p31_2 nx477 ⟨Zs12 a0 ((appD 5 (List.map ep24 v473))::(dI v474)::q40 (q40 (q40 (q40 (q40 (q10 [])))))), [b31_0, .dead, .dead, .dead, .dead, (appO 5 (List.map ep24 v473)), .dead]⟩ (blkQ (X31 n) 4 [2, 14] 5 (seqQ (X31 n) p31_0 (fnQ (X31 n).E.T (resOf Proofs.Tryd.prog 31) (e24 o)))) := by
 intro kx476
 induction kx476 with
 | zero => intro v473 v474  ox475 h; exact (iter_zero h).elim
 | succ kx476 ihx478 =>
  intro v473 v474  ox475 h nx477 hnx481 hrx479 hxx480
  obtain ⟨nx477, rfl⟩ : ∃ q, nx477 = q + 1 := ⟨nx477 - 1, by omega⟩
  obtain ⟨sx482, h, hsx483⟩ := iter_some h
  have h : f31_B17 m K a0 v473 v474 = some sx482 := h
  unfold f31_B17 at h
  refine Lp.succ (Wq.sq (Wq.sq (Wq.rg (Oq.sg 2 2 ?_))))
  refine Ops.on 3 (fun h0 e0 => (len_r (T := T) h0 62 82 .plain e81 a0 (by as_aux_lemma => kernel_rfl))) ?_
  refine Oq.sg 1 4 (Oq.dn (seqQ.n ?_))
  refine Wq.cd h k31_0 7 (fun h => ?_) (fun h => ?_)
  ·refine Wq.sk (sqQ.n ⟨Zs12 a0 ((appD 7 (List.map ep24 v473))::(dI v474)::q40 (q40 (q40 (q40 (q40 (q10 [])))))), [b31_0, .dead, .dead, .dead, .dead, .dead, .dead, (appO 5 (List.map ep24 v473)), .dead]⟩ (by generalize v473 = z0; cases z0 <;> (as_aux_lemma => kernel_rfl)) (seqQ.n (Wq.sq (Wq.bk 5 k31_0 9 (Wq.sq (Wq.rg (Oq.sg 1 1 (Oq.dn (seqQ.n (Wq.sq (Wq.sq (Wq.rg (Oq.sg 2 2 ?_)))))))))))))
   obtain ⟨v484, ev484, h⟩ := bnd_some h
   refine Ops.on 3 (fun h0 e0 => (ix_r (T := T) h0 62 82 2 .plain e81 a0 v474 v484 ev484 (by as_aux_lemma => kernel_rfl) (by as_aux_lemma => kernel_rfl) (fun _ => rfl))) ?_
   refine Oq.sg 3 6 (Oq.dn (seqQ.n ?_))
   have J31j493 : ∀ (v485 v486 : Int) (v487 : (List Int)) (v489 : (List P24)) (v491 v492 : Int) (fl488 fl490 : SFlag), f31_j13 m K a0 v473 v485 v486 v487 v489 v491 v492 = some sx482 → (seqQ (X31 n) p31_6 (blkQ (X31 n) 5 k31_0 9 (seqQ (X31 n) p31_4 (lpQ (X31 n) k31_0 5 p31_2 nx477 (blkQ (X31 n) 4 [2, 14] 5 (seqQ (X31 n) p31_0 (fnQ (X31 n).E.T (resOf Proofs.Tryd.prog 31) (e24 o)))))))) .normal ⟨Zs12 a0 ((appD 10 (List.map ep24 v473))::(dI v485)::(.ptr 9 0)::q40 (q40 (q40 (q40 (q40 (q9 [])))))), [b31_0, .dead, .dead, .dead, .dead, .dead, .dead, .dead, .dead, (.cells [(dI v486), (.v (.sl fl488 (List.map eI v487))), (.v (.sl fl490 (List.map ep24 v489))), (dI v491), (dI v492)]), (appO 5 (List.map ep24 v473)), .dead]⟩ := by
    intro v485 v486 v487 v489 v491 v492 fl488 fl490 h
    unfold f31_j13 at h
    refine seqQ.n (Wq.sq (Wq.bk 8 k31_1 12 ?_))
    have hLx633 := f31_hLx633 m K nn hK a0 o n hn hk nx477 v473
    refine Wp.loop' k31_1 12 (by as_aux_lemma => kernel_rfl) ⟨Zs12 a0 ((appD 12 (List.map ep24 v473))::(dI v485)::(.ptr 9 0)::q40 (q40 (q40 (q40 (q40 (q9 [])))))), [b31_0, .dead, .dead, .dead, .dead, .dead, .dead, .dead, .dead, (.cells [(dI v486), (.v (.sl fl488 (List.map eI v487))), (.v (.sl fl490 (List.map ep24 v489))), (dI v491), (dI v492)]), .dead, .dead, (appO 5 (List.map ep24 v473)), .dead]⟩ (by generalize v473 = z0; cases z0 <;> (as_aux_lemma => kernel_rfl)) ?_
    rcases brk_some h with ⟨r635, er635, h⟩ | ⟨y634, ey634, h⟩
    ·refine hLx633 _ v485 v486 v487 v489 v491 v492 _ _ _ er635 n (by omega) (fun r er σ hσ => ?_) (fun y fl558 fl560 ey => by cases ey)
     cases er
     refine seqQ.r (blkQ.r (seqQ.r (lpQ.r ?_)))
     cases h
     refine blkQ.r ?_
     exact hrx479 _ hsx483 _ (RetOk.forget k31_0 (by as_aux_lemma => kernel_rfl) hσ)
    ·refine hLx633 _ v485 v486 v487 v489 v491 v492 _ _ _ ey634 n (by omega) (fun r er => by cases er) (fun y fl558 fl560 ey => ?_)
     cases ey
     refine seqQ.n (Wq.rg (Oq.sg 3 3 ?_))
     obtain ⟨v636, ev636, h⟩ := bnd_some h
     refine Ops.on 4 (fun h0 e0 => (app_r (T := T) (g := .nil) h0 23 25 12 5 ti25 .nonfull ep24 v473 ([(P24.con ((⟨y634.2.1, y634.2.2.1, y634.2.2.2.1, y634.2.2.2.2.1, y634.2.2.2.2.2⟩ : S24)))]) v636 ev636 (by as_aux_lemma => kernel_rfl) (by as_aux_lemma => kernel_rfl) (by as_aux_lemma => kernel_rfl) (by as_aux_lemma => kernel_rfl) ep24_len (hq_of e0 (by as_aux_lemma => kernel_rfl)))) ?_
     refine Oq.sg 1 5 (Oq.dn (blkQ.n ⟨Zs12 a0 ((appD 9 (List.map ep24 v636))::(dI y634.1)::q40 (q40 (q40 (q40 (q40 (q10 [])))))), [b31_0, .dead, .dead, .dead, .dead, .dead, .dead, .dead, .dead, (appO 5 (List.map ep24 v636)), .dead]⟩ (by generalize v636 = z0; cases z0 <;> (as_aux_lemma => kernel_rfl)) (seqQ.n (Wq.rg (Oq.sg 3 3 (Oq.dn (lpQ.n ⟨Zs12 a0 ((appD 5 (List.map ep24 v636))::(dI (w64 (y634.1 + 1)))::q40 (q40 (q40 (q40 (q40 (q10 [])))))), [b31_0, .dead, .dead, .dead, .dead, (appO 5 (List.map ep24 v636)), .dead]⟩ (by generalize v636 = z0; cases z0 <;> (as_aux_lemma => kernel_rfl)) ?_)))))))
     cases h
     exact ihx478 v636 (w64 (y634.1 + 1))  _ hsx483 _ (by omega) hrx479 hxx480
   refine Wq.cd h k31_1 10 (fun h => ?_) (fun h => ?_)
   ·refine Wq.rg (Oq.sg 2 2 ?_)
    obtain ⟨v637, ev637, h⟩ := bnd_some h
    refine Ops.on 3 (fun h0 e0 => (ix_r (T := T) h0 62 82 2 .plain e81 a0 v474 v637 ev637 (by as_aux_lemma => kernel_rfl) (by as_aux_lemma => kernel_rfl) (fun _ => rfl))) ?_
    refine Oq.sg 5 8 (Oq.dn (sqQ.n ⟨Zs12 a0 ((appD 10 (List.map ep24 v473))::(dI v474)::(.ptr 9 0)::q40 (q40 (q40 (q40 (q40 (q9 [])))))), [b31_0, .dead, .dead, .dead, .dead, .dead, .dead, .dead, .dead, (.cells [(dI 2), (.v (.sl .nonfull (List.map eI [v637.fPoint]))), (.v (.sl .nil (List.map ep24 []))), (dI 0), (dI 0)]), (appO 5 (List.map ep24 v473)), .dead]⟩ (by generalize v473 = z0; cases z0 <;> (as_aux_lemma => kernel_rfl)) ?_))
    exact J31j493 v474 2 [v637.fPoint] [] 0 0 _ _ h
   ·refine Wq.sq (Wq.rg (Oq.sg 2 2 ?_))
    obtain ⟨v638, ev638, h⟩ := bnd_some h
    refine Ops.on 3 (fun h0 e0 => (call_ok (E' := E) (h := h0) (by as_aux_lemma => kernel_rfl) (Args.v (vP e81 a0) ((eL e81) a0) (by as_aux_lemma => kernel_rfl) (Args.v (vI v474) (eI v474) (by as_aux_lemma => kernel_rfl) Args.nil)) (ok51 m a0 v474 v638 ev638 n (by omega)))) ?_
    refine Oq.sg 1 4 (Oq.dn (seqQ.n (Wq.sq (Wq.sq (Wq.rg (Oq.sg 2 2 ?_))))))
    obtain ⟨v639, ev639, h⟩ := bnd_some h
    refine Ops.on 3 (fun h0 e0 => (ix_r (T := T) h0 62 82 2 .plain e81 a0 v474 v639 ev639 (by as_aux_lemma => kernel_rfl) (by as_aux_lemma => kernel_rfl) (fun _ => rfl))) ?_
    refine Oq.sg 3 6 (Oq.dn (seqQ.n ?_))
    have J31j647 : ∀ (v640 : Int) (v641 : (List Int)) (v643 : (List P24)) (v645 v646 : Int) (fl642 fl644 : SFlag), f31_j14 m K a0 v473 v638 v640 v641 v643 v645 v646 = some sx482 → (seqQ (X31 n) p31_9 (sqQ (X31 n) k31_1 10 (seqQ (X31 n) p31_6 (blkQ (X31 n) 5 k31_0 9 (seqQ (X31 n) p31_4 (lpQ (X31 n) k31_0 5 p31_2 nx477 (blkQ (X31 n) 4 [2, 14] 5 (seqQ (X31 n) p31_0 (fnQ (X31 n).E.T (resOf Proofs.Tryd.prog 31) (e24 o)))))))))) .normal ⟨Zs12 a0 ((appD 10 (List.map ep24 v473))::q1 ((.ptr 9 0)::(dI v638)::q40 (q40 (q40 (q40 (q40 (q8 []))))))), [b31_0, .dead, .dead, .dead, .dead, .dead, .dead, .dead, .dead, (.cells [(dI v640), (.v (.sl fl642 (List.map eI v641))), (.v (.sl fl644 (List.map ep24 v643))), (dI v645), (dI v646)]), (appO 5 (List.map ep24 v473)), .dead]⟩ := by
     intro v640 v641 v643 v645 v646 fl642 fl644 h
     unfold f31_j14 at h
     refine seqQ.n (Wq.rg (Oq.sg 2 2 (Oq.dn (sqQ.n ⟨Zs12 a0 ((appD 10 (List.map ep24 v473))::(dI v638)::(.ptr 9 0)::q40 (q40 (q40 (q40 (q40 (q9 [])))))), [b31_0, .dead, .dead, .dead, .dead, .dead, .dead, .dead, .dead, (.cells [(dI v640), (.v (.sl fl642 (List.map eI v641))), (.v (.sl fl644 (List.map ep24 v643))), (dI v645), (dI v646)]), (appO 5 (List.map ep24 v473)), .dead]⟩ (by generalize v473 = z0; cases z0 <;> (as_aux_lemma => kernel_rfl)) ?_))))
     exact J31j493 v638 v640 v641 v643 v645 v646 _ _ h
    refine Wq.cd h k31_3 10 (fun h => ?_) (fun h => ?_)
    ·refine Wq.sq (Wq.rg (Oq.sg 2 2 (Oq.dn (seqQ.n (Wq.sq (Wq.rg (Oq.sg 4 4 ?_)))))))
     obtain ⟨v648, ev648, h⟩ := bnd_some h
     refine Ops.on 5 (fun h0 e0 => (sub_r (T := T) h0 62 82 2 .plain e81 a0 v648 (some (w64 (v474 + 1))) (some v638) rfl ev648 (by as_aux_lemma => kernel_rfl) (by as_aux_lemma => kernel_rfl) (fun _ => rfl))) ?_
     refine Ops.on 6 (fun h0 e0 => (len_r (T := T) h0 62 82 .plain e81 v648 (by as_aux_lemma => kernel_rfl))) ?_
     refine Oq.sg 1 7 (Oq.dn (seqQ.n (Wq.bk 6 k31_3 10 ?_)))
     have hLx670 : ∀ (kx660 : Nat) (v656 : Int) (v657 : (List Int)) (fl658 : SFlag) (ox659 : S24 ⊕ (Int × (List Int))), iter (fun (y : Int × (List Int)) => f31_B15 m K v648 y.1 y.2) kx660 (v656, v657) = some ox659 → ∀ nx661, kx660 ≤ nx661 → (∀ r, ox659 = .inl r → ∀ σ, RetOk (X31 n) (resOf Proofs.Tryd.prog 31) (e24 r) σ → (sqQ (X31 n) k31_3 10 (seqQ (X31 n) p31_9 (sqQ (X31 n) k31_1 10 (seqQ (X31 n) p31_6 (blkQ (X31 n) 5 k31_0 9 (seqQ (X31 n) p31_4 (lpQ (X31 n) k31_0 5 p31_2 nx477 (blkQ (X31 n) 4 [2, 14] 5 (seqQ (X31 n) p31_0 (fnQ (X31 n).E.T (resOf Proofs.Tryd.prog 31) (e24 o))))))))))) .ret σ) → (∀ (y : Int × (List Int)) (fl658 : SFlag), ox659 = .inr y → (sqQ (X31 n) k31_3 10 (seqQ (X31 n) p31_9 (sqQ (X31 n) k31_1 10 (seqQ (X31 n) p31_6 (blkQ (X31 n) 5 k31_0 9 (seqQ (X31 n) p31_4 (lpQ (X31 n) k31_0 5 p31_2 nx477 (blkQ (X31 n) 4 [2, 14] 5 (seqQ (X31 n) p31_0 (fnQ (X31 n).E.T (resOf Proofs.Tryd.prog 31) (e24 o))))))))))) .normal ⟨Zs12 a0 ((appD 10 (List.map ep24 v473))::q1 ((.ptr 9 0)::(dI v638)::q40 (q40 (q40 (q40 (q40 (q8 []))))))), [b31_0, .dead, .dead, .dead, .dead, .dead, .dead, .dead, .dead, (.cells [(dI 2), (.v (.sl fl658 (List.map eI y.2))), (.v (.sl .nil (List.map ep24 []))), (dI 0), (dI 0)]), (appO 5 (List.map ep24 v473)), .dead]⟩) → Lp (X31 n) k31_4 10 p31_11 nx661 ⟨Zs12 a0 ((appD 10 (List.map ep24 v473))::q1 ((.ptr 9 0)::(dI v638)::q40 (q40 (q15 ((dP e81 v648)::(dI (v648.length : Int))::(dI v656)::q40 (q40 (q30 []))))))), [b31_0, .dead, .dead, .dead, .dead, .dead, .dead, .dead, .dead, (.cells [(dI 2), (.v (.sl fl658 (List.map eI v657))), (.v (.sl .nil (List.map ep24 []))), (dI 0), (dI 0)]), (appO 5 (List.map ep24 v473)), .dead]⟩ (blkQ (X31 n) 6 k31_3 10 (sqQ (X31 n) k31_3 10 (seqQ (X31 n) p31_9 (sqQ (X31 n) k31_1 10 (seqQ (X31 n) p31_6 (blkQ (X31 n) 5 k31_0 9 (seqQ (X31 n) p31_4 (lpQ (X31 n) k31_0 5 p31_2 nx477 (blkQ (X31 n) 4 [2, 14] 5 (seqQ (X31 n) p31_0 (fnQ (X31 n).E.T (resOf Proofs.Tryd.prog 31) (e24 o)))))))))))) := by
      intro kx660
      induction kx660 with
      | zero => intro v656 v657 fl658 ox659 h; exact (iter_zero h).elim
      | succ kx660 ihx662 =>
       intro v656 v657 fl658 ox659 h nx661 hnx665 hrx663 hxx664
       obtain ⟨nx661, rfl⟩ : ∃ q, nx661 = q + 1 := ⟨nx661 - 1, by omega⟩
       obtain ⟨sx666, h, hsx667⟩ := iter_some h
       have h : f31_B15 m K v648 v656 v657 = some sx666 := h
       unfold f31_B15 at h
       refine Lp.succ (Wq.sq (Wq.rg (Oq.sg 1 1 (Oq.dn (seqQ.n (Wq.sq ?_))))))
       refine Wq.cd h k31_4 12 (fun h => ?_) (fun h => ?_)
       ·refine Wq.sk (sqQ.n ⟨Zs12 a0 ((appD 12 (List.map ep24 v473))::q1 ((.ptr 9 0)::(dI v638)::q40 (q40 (q15 ((dP e81 v648)::(dI (v648.length : Int))::(dI v656)::q40 (q40 (q30 []))))))), [b31_0, .dead, .dead, .dead, .dead, .dead, .dead, .dead, .dead, (.cells [(dI 2), (.v (.sl fl658 (List.map eI v657))), (.v (.sl .nil (List.map ep24 []))), (dI 0), (dI 0)]), .dead, .dead, (appO 5 (List.map ep24 v473)), .dead]⟩ (by generalize v473 = z0; cases z0 <;> (as_aux_lemma => kernel_rfl)) (seqQ.n (Wq.sq (Wq.bk 7 k31_4 14 (Wq.sq (Wq.rg ?_))))))
        obtain ⟨v668, ev668, h⟩ := bnd_some h
        refine Ops.on 1 (fun h0 e0 => (ix_r (T := T) h0 62 82 2 .plain e81 v648 v656 v668 ev668 (by as_aux_lemma => kernel_rfl) (by as_aux_lemma => kernel_rfl) (fun _ => rfl))) ?_
        refine Oq.sg 3 4 (Oq.dn (seqQ.n (Wq.rg (Oq.sg 5 5 ?_))))
        obtain ⟨v669, ev669, h⟩ := bnd_some h
        refine Ops.on 6 (fun h0 e0 => (call_ok (E' := E) (h := h0) (by as_aux_lemma => kernel_rfl) (Args.v (.sl fl658 (List.map eI v657)) ((eL eI) v657) (by as_aux_lemma => kernel_rfl) (Args.v (.sl .nonfull (List.map eI [v668.fPoint])) ((eL eI) [v668.fPoint]) (by as_aux_lemma => kernel_rfl) Args.nil)) (ok52 m v657 [v668.fPoint] v669 ev669 n (by omega)))) ?_
        refine Oq.sg 2 8 (Oq.dn (blkQ.n ⟨Zs12 a0 ((appD 14 (List.map ep24 v473))::q1 ((.ptr 9 0)::(dI v638)::q40 (q40 (q15 ((dP e81 v648)::(dI (v648.length : Int))::(dI v656)::q40 (q40 (q30 []))))))), [b31_0, .dead, .dead, .dead, .dead, .dead, .dead, .dead, .dead, (.cells [(dI 2), (dP eI v669), (.v (.sl .nil (List.map ep24 []))), (dI 0), (dI 0)]), .dead, .dead, .dead, .dead, (appO 5 (List.map ep24 v473)), .dead]⟩ (by generalize v473 = z0; cases z0 <;> (as_aux_lemma => kernel_rfl)) (seqQ.n (Wq.rg (Oq.sg 2 2 (Oq.dn (lpQ.n ⟨Zs12 a0 ((appD 10 (List.map ep24 v473))::q1 ((.ptr 9 0)::(dI v638)::q40 (q40 (q15 ((dP e81 v648)::(dI (v648.length : Int))::(dI (w64 (v656 + 1)))::q40 (q40 (q30 []))))))), [b31_0, .dead, .dead, .dead, .dead, .dead, .dead, .dead, .dead, (.cells [(dI 2), (dP eI v669), (.v (.sl .nil (List.map ep24 []))), (dI 0), (dI 0)]), (appO 5 (List.map ep24 v473)), .dead]⟩ (by generalize v473 = z0; cases z0 <;> (as_aux_lemma => kernel_rfl)) ?_)))))))
        cases h
        exact ihx662 (w64 (v656 + 1)) v669 _ _ hsx667 _ (by omega) hrx663 hxx664
       ·refine Wq.ex 6 (sqQ.x (seqQ.x ?_))
        cases h
        refine lpQ.x (blkQ.x ⟨Zs12 a0 ((appD 10 (List.map ep24 v473))::q1 ((.ptr 9 0)::(dI v638)::q40 (q40 (q40 (q40 (q40 (q8 []))))))), [b31_0, .dead, .dead, .dead, .dead, .dead, .dead, .dead, .dead, (.cells [(dI 2), (.v (.sl fl658 (List.map eI v657))), (.v (.sl .nil (List.map ep24 []))), (dI 0), (dI 0)]), (appO 5 (List.map ep24 v473)), .dead]⟩ (by generalize v473 = z0; cases z0 <;> (as_aux_lemma => kernel_rfl)) ?_)
        exact hxx664 (v656, v657) _ hsx667
     refine Wp.loop' k31_4 10 (by as_aux_lemma => kernel_rfl) ⟨Zs12 a0 ((appD 10 (List.map ep24 v473))::q1 ((.ptr 9 0)::(dI v638)::q40 (q40 (q15 ((dP e81 v648)::(dI (v648.length : Int))::(dI 0)::q40 (q40 (q30 []))))))), [b31_0, .dead, .dead, .dead, .dead, .dead, .dead, .dead, .dead, (.cells [(dI 2), (.v (.sl .nil (List.map eI []))), (.v (.sl .nil (List.map ep24 []))), (dI 0), (dI 0)]), (appO 5 (List.map ep24 v473)), .dead]⟩ (by generalize v473 = z0; cases z0 <;> (as_aux_lemma => kernel_rfl)) ?_
     rcases brk_some h with ⟨r672, er672, h⟩ | ⟨y671, ey671, h⟩
     ·refine hLx670 _ 0 [] _ _ er672 n (by omega) (fun r er σ hσ => ?_) (fun y fl658 ey => by cases ey)
      cases er
      refine sqQ.r (seqQ.r (sqQ.r (seqQ.r (blkQ.r (seqQ.r (lpQ.r ?_))))))
      cases h
      refine blkQ.r ?_
      exact hrx479 _ hsx483 _ (RetOk.forget k31_0 (by as_aux_lemma => kernel_rfl) hσ)
     ·refine hLx670 _ 0 [] _ _ ey671 n (by omega) (fun r er => by cases er) (fun y fl658 ey => ?_)
      cases ey
      refine sqQ.n ⟨Zs12 a0 ((appD 10 (List.map ep24 v473))::q1 ((.ptr 9 0)::(dI v638)::q40 (q40 (q40 (q40 (q40 (q8 []))))))), [b31_0, .dead, .dead, .dead, .dead, .dead, .dead, .dead, .dead, (.cells [(dI 2), (.v (.sl fl658 (List.map eI y671.2))), (.v (.sl .nil (List.map ep24 []))), (dI 0), (dI 0)]), (appO 5 (List.map ep24 v473)), .dead]⟩ (by generalize v473 = z0; cases z0 <;> (as_aux_lemma => kernel_rfl)) ?_
      exact J31j647 2 y671.2 [] 0 0 _ _ h
    ·refine Wq.sq (Wq.rg (Oq.sg 4 4 (Oq.dn (seqQ.n ?_))))
     have J31j680 : ∀ (v673 : Int) (v674 : (List Int)) (v676 : (List P24)) (v678 v679 : Int) (fl675 fl677 : SFlag), f31_j16 m K a0 v473 v638 v673 v674 v676 v678 v679 = some sx482 → (sqQ (X31 n) k31_3 10 (seqQ (X31 n) p31_9 (sqQ (X31 n) k31_1 10 (seqQ (X31 n) p31_6 (blkQ (X31 n) 5 k31_0 9 (seqQ (X31 n) p31_4 (lpQ (X31 n) k31_0 5 p31_2 nx477 (blkQ (X31 n) 4 [2, 14] 5 (seqQ (X31 n) p31_0 (fnQ (X31 n).E.T (resOf Proofs.Tryd.prog 31) (e24 o))))))))))) .normal ⟨Zs12 a0 ((appD 10 (List.map ep24 v473))::q1 ((.ptr 9 0)::(dI v638)::q40 (q40 (q40 (q40 (q40 (q8 []))))))), [b31_0, .dead, .dead, .dead, .dead, .dead, .dead, .dead, .dead, (.cells [(dI v673), (.v (.sl fl675 (List.map eI v674))), (.v (.sl fl677 (List.map ep24 v676))), (dI v678), (dI v679)]), (appO 5 (List.map ep24 v473)), .dead]⟩ := by
      intro v673 v674 v676 v678 v679 fl675 fl677 h
      unfold f31_j16 at h
      refine sqQ.n ⟨Zs12 a0 ((appD 10 (List.map ep24 v473))::q1 ((.ptr 9 0)::(dI v638)::q40 (q40 (q40 (q40 (q40 (q8 []))))))), [b31_0, .dead, .dead, .dead, .dead, .dead, .dead, .dead, .dead, (.cells [(dI v673), (.v (.sl fl675 (List.map eI v674))), (.v (.sl fl677 (List.map ep24 v676))), (dI v678), (dI v679)]), (appO 5 (List.map ep24 v473)), .dead]⟩ (by generalize v473 = z0; cases z0 <;> (as_aux_lemma => kernel_rfl)) ?_
      exact J31j647 v673 v674 v676 v678 v679 _ _ h
     refine Wq.cd h k31_3 10 (fun h => ?_) (fun h => ?_)
     ·refine Wq.rg (Oq.sg 2 2 (Oq.dn (sqQ.n ⟨Zs12 a0 ((appD 10 (List.map ep24 v473))::q1 ((.ptr 9 0)::(dI v638)::q40 (q40 (q40 (q40 (q40 (q8 []))))))), [b31_0, .dead, .dead, .dead, .dead, .dead, .dead, .dead, .dead, (.cells [(dI 1), (.v (.sl .nil (List.map eI []))), (.v (.sl .nil (List.map ep24 []))), (dI 0), (dI 0)]), (appO 5 (List.map ep24 v473)), .dead]⟩ (by generalize v473 = z0; cases z0 <;> (as_aux_lemma => kernel_rfl)) ?_)))
      exact J31j680 1 [] [] 0 0 _ _ h
     ·refine Wq.rg (Oq.sg 4 4 ?_)
      obtain ⟨v681, ev681, h⟩ := bnd_some h
      refine Ops.on 5 (fun h0 e0 => (sub_r (T := T) h0 62 82 2 .plain e81 a0 v681 (some (w64 (v474 + 1))) (some v638) rfl ev681 (by as_aux_lemma => kernel_rfl) (by as_aux_lemma => kernel_rfl) (fun _ => rfl))) ?_
      obtain ⟨v682, ev682, h⟩ := bnd_some h
      refine Ops.on 6 (fun h0 e0 => (call_ok (E' := E) (h := h0) (by as_aux_lemma => kernel_rfl) (Args.v (vP e81 v681) ((eL e81) v681) (by as_aux_lemma => kernel_rfl) Args.nil) (hK.ok31 v681 v682 ev682 n (by omega)))) ?_
      refine Oq.sg 1 7 (Oq.dn (sqQ.n ⟨Zs12 a0 ((appD 10 (List.map ep24 v473))::q1 ((.ptr 9 0)::(dI v638)::q40 (q40 (q40 (q40 (q40 (q8 []))))))), [b31_0, .dead, .dead, .dead, .dead, .dead, .dead, .dead, .dead, (.cells [(dI v682.fKind), (dP eI v682.fLabels), (dP ep24 v682.fSubs), (dI v682.fLeast), (dI v682.fMost)]), (appO 5 (List.map ep24 v473)), .dead]⟩ (by generalize v473 = z0; cases z0 <;> (as_aux_lemma => kernel_rfl)) ?_))
      exact J31j680 v682.fKind v682.fLabels v682.fSubs v682.fLeast v682.fMost _ _ h
  ·refine Wq.ex 4 (sqQ.x (seqQ.x ?_))
   cases h
   refine lpQ.x (blkQ.x ⟨q2 ((.ptr 0 0)::q11 ((appD 5 (List.map ep24 v473))::q40 (q40 (q40 (q40 (q40 (q11 []))))))), [b31_0, .dead, .dead, .dead, .dead, (appO 5 (List.map ep24 v473)), .dead]⟩ (by generalize v473 = z0; cases z0 <;> (as_aux_lemma => kernel_rfl)) ?_)
   exact hxx480 (v473, v474)  hsx483
set_option maxHeartbeats 0 in
theorem okb31 (m : Nat) (K : Rec31) (nn : Nat) (hK : OkRec31 m K nn) (a0 : (List S81)) (o : S24) (h : b31 m K a0 = some o) (n : Nat) (hn : m + 3 ≤ n) (hk : nn + 1 ≤ n) : Fn Proofs.Tryd.prog E n 31 [.v ((eL e81) a0)] (e24 o) := by
 obtain ⟨n, rfl⟩ : ∃ q, n = q + 1 := ⟨n - 1, by omega⟩
 unfold b31 at h
 refine Fn.of (by as_aux_lemma => kernel_rfl) (by as_aux_lemma => kernel_rfl) (by as_aux_lemma => kernel_rfl) ⟨(dP e81 a0)::u40 (u40 (u40 (u40 (u40 (u25 []))))), []⟩ (by as_aux_lemma => kernel_rfl) (Wq.sq (Wq.rg (Oq.sg 1 1 (Oq.dn (seqQ.n (Wq.sq (Wq.sq (Wq.rg (Oq.sg 2 2 ?_)))))))))
 obtain ⟨v1, ev1, h⟩ := bnd_some h
 refine Ops.on 3 (fun h0 e0 => (call_ok (E' := E) (h := h0) (by as_aux_lemma => kernel_rfl) (Args.v (vP e81 a0) ((eL e81) a0) (by as_aux_lemma => kernel_rfl) (Args.v (.sl .nonfull (List.map eI [124])) ((eL eI) [124]) (by as_aux_lemma => kernel_rfl) Args.nil)) (ok50 m a0 [124] v1 ev1 n (by omega)))) ?_
 refine Oq.sg 5 8 (Oq.dn (seqQ.n (Wq.sq (Wq.rg (Oq.sg 1 1 ?_)))))
 refine Ops.on 2 (fun h0 e0 => (len_r (T := T) h0 83 62 .plain (eL e81) v1.1 (by as_aux_lemma => kernel_rfl))) ?_
 refine Oq.sg 1 3 (Oq.dn (seqQ.n ?_))
 refine Wq.cd h [0, 2] 1 (fun h => ?_) (fun h => ?_)
 ·refine Wq.sq (Wq.rg (Oq.sg 3 3 (Oq.dn (seqQ.n (Wq.sq (Wq.sq (Wq.rg (Oq.sg 1 1 ?_))))))))
  refine Ops.on 2 (fun h0 e0 => (len_r (T := T) h0 83 62 .plain (eL e81) v1.1 (by as_aux_lemma => kernel_rfl))) ?_
  refine Oq.sg 1 3 (Oq.dn (seqQ.n (Wq.bk 0 [2, 5] 2 ?_)))
  have hLx24 : ∀ (kx13 : Nat) (v10 : Int) (v11 : (List P24))  (ox12 : S24 ⊕ (Int × (List P24))), iter (fun (y : Int × (List P24)) => f31_B1 m K v1 y.1 y.2) kx13 (v10, v11) = some ox12 → ∀ nx14, kx13 ≤ nx14 → (∀ r, ox12 = .inl r → ∀ σ, RetOk (X31 n) (resOf Proofs.Tryd.prog 31) (e24 r) σ → (seqQ (X31 n) p31_1 (sqQ (X31 n) [0, 2] 1 (seqQ (X31 n) (cR (cR C31)) (fnQ (X31 n).E.T (resOf Proofs.Tryd.prog 31) (e24 o))))) .ret σ) → (∀ (y : Int × (List P24)) , ox12 = .inr y → (seqQ (X31 n) p31_1 (sqQ (X31 n) [0, 2] 1 (seqQ (X31 n) (cR (cR C31)) (fnQ (X31 n).E.T (resOf Proofs.Tryd.prog 31) (e24 o))))) .normal ⟨q2 ((.ptr 0 0)::q2 ((.ptr 1 0)::q40 (q40 (q40 (q40 (q40 (q20 []))))))), [b31_0, (.cells [(dI 4), (.v (.sl .nil (List.map eI []))), (appD 3 (List.map ep24 y.2)), (dI 0), (dI 0)]), .dead, (appO 5 (List.map ep24 y.2))]⟩) → Lp (X31 n) [2, 5, 31, 32, 33] 2 (cL (cL (cR (cL (cR (cL (cR (cR (cL (cR C31)))))))))) nx14 ⟨Zs41 v1.1 (v1.1.length : Int) v10 [], [b31_0, (.cells [(dI 4), (.v (.sl .nil (List.map eI []))), (appD 3 (List.map ep24 v11)), (dI 0), (dI 0)]), .dead, (appO 5 (List.map ep24 v11))]⟩ (blkQ (X31 n) 0 [2, 5] 2 (seqQ (X31 n) p31_1 (sqQ (X31 n) [0, 2] 1 (seqQ (X31 n) (cR (cR C31)) (fnQ (X31 n).E.T (resOf Proofs.Tryd.prog 31) (e24 o)))))) := by
   intro kx13
   induction kx13 with
   | zero => intro v10 v11  ox12 h; exact (iter_zero h).elim
   | succ kx13 ihx15 =>
    intro v10 v11  ox12 h nx14 hnx18 hrx16 hxx17
    obtain ⟨nx14, rfl⟩ : ∃ q, nx14 = q + 1 := ⟨nx14 - 1, by omega⟩
    obtain ⟨sx19, h, hsx20⟩ := iter_some h
    have h : f31_B1 m K v1 v10 v11 = some sx19 := h
    unfold f31_B1 at h
    refine Lp.succ (Wq.sq (Wq.rg (Oq.sg 1 1 (Oq.dn (seqQ.n (Wq.sq ?_))))))
    refine Wq.cd h [2, 5, 31, 32, 33] 4 (fun h => ?_) (fun h => ?_)
    ·refine Wq.sk (sqQ.n ⟨Zs41 v1.1 (v1.1.length : Int) v10 [], [b31_0, (.cells [(dI 4), (.v (.sl .nil (List.map eI []))), (appD 5 (List.map ep24 v11)), (dI 0), (dI 0)]), .dead, .dead, .dead, (appO 5 (List.map ep24 v11))]⟩ (by generalize v11 = z0; cases z0 <;> (as_aux_lemma => kernel_rfl)) (seqQ.n (Wq.sq (Wq.bk 1 [2, 5, 31, 32, 33] 6 (Wq.sq (Wq.rg ?_))))))
     obtain ⟨v21, ev21, h⟩ := bnd_some h
     refine Ops.on 1 (fun h0 e0 => (ix_r (T := T) h0 83 62 1 .plain (eL e81) v1.1 v10 v21 ev21 (by as_aux_lemma => kernel_rfl) (by as_aux_lemma => kernel_rfl) (fun _ => rfl))) ?_
     refine Oq.sg 2 3 (Oq.dn (seqQ.n (Wq.rg (Oq.sg 3 3 ?_))))
     obtain ⟨v22, ev22, h⟩ := bnd_some h
     refine Ops.on 4 (fun h0 e0 => (call_ok (E' := E) (h := h0) (by as_aux_lemma => kernel_rfl) (Args.v (vP e81 v21) ((eL e81) v21) (by as_aux_lemma => kernel_rfl) Args.nil) (hK.ok31 v21 v22 ev22 n (by omega)))) ?_
     refine Oq.sg 1 5 ?_
     obtain ⟨v23, ev23, h⟩ := bnd_some h
     refine Ops.on 6 (fun h0 e0 => (app_r (T := T) (g := .nil) h0 23 25 5 5 ti25 .nonfull ep24 v11 ([(P24.con v22)]) v23 ev23 (by as_aux_lemma => kernel_rfl) (by as_aux_lemma => kernel_rfl) (by as_aux_lemma => kernel_rfl) (by as_aux_lemma => kernel_rfl) ep24_len (hq_of e0 (by as_aux_lemma => kernel_rfl)))) ?_
     refine Oq.sg 1 7 ?_
     refine Ops.on 8 (fun h0 e0 => (st_l (i := ti23) (h := h0) (r := 1) (off := 2) (cs := [(dI 4), (.v (.sl .nil (List.map eI []))), (appD 5 (List.map ep24 v11)), (dI 0), (dI 0)]) (cs' := [(dI 4), (.v (.sl .nil (List.map eI []))), (appD 6 (List.map ep24 v23)), (dI 0), (dI 0)]) (x := (appD 6 (List.map ep24 v23))) (hq_of (g := [b31_0, (.cells [(dI 4), (.v (.sl .nil (List.map eI []))), (appD 5 (List.map ep24 v11)), (dI 0), (dI 0)]), .dead, .dead, .dead, .dead, (appO 5 (List.map ep24 v23))]) (e0.trans (by as_aux_lemma => kernel_rfl)) rfl) (by as_aux_lemma => kernel_rfl) (appF_one _ _ _) (by rfl))) ?_
     refine Oq.dn (blkQ.n ⟨Zs41 v1.1 (v1.1.length : Int) v10 [], [b31_0, (.cells [(dI 4), (.v (.sl .nil (List.map eI []))), (appD 7 (List.map ep24 v23)), (dI 0), (dI 0)]), .dead, .dead, .dead, .dead, .dead, (appO 5 (List.map ep24 v23))]⟩ (by generalize v23 = z0; cases z0 <;> (as_aux_lemma => kernel_rfl)) (seqQ.n (Wq.rg (Oq.sg 2 2 (Oq.dn (lpQ.n ⟨Zs41 v1.1 (v1.1.length : Int) (w64 (v10 + 1)) [], [b31_0, (.cells [(dI 4), (.v (.sl .nil (List.map eI []))), (appD 3 (List.map ep24 v23)), (dI 0), (dI 0)]), .dead, (appO 5 (List.map ep24 v23))]⟩ (by generalize v23 = z0; cases z0 <;> (as_aux_lemma => kernel_rfl)) ?_))))))
     cases h
     exact ihx15 (w64 (v10 + 1)) v23  _ hsx20 _ (by omega) hrx16 hxx17
    ·refine Wq.ex 0 (sqQ.x (seqQ.x ?_))
     cases h
     refine lpQ.x (blkQ.x ⟨q2 ((.ptr 0 0)::q2 ((.ptr 1 0)::q40 (q40 (q40 (q40 (q40 (q20 []))))))), [b31_0, (.cells [(dI 4), (.v (.sl .nil (List.map eI []))), (appD 3 (List.map ep24 v11)), (dI 0), (dI 0)]), .dead, (appO 5 (List.map ep24 v11))]⟩ (by generalize v11 = z0; cases z0 <;> (as_aux_lemma => kernel_rfl)) ?_)
     exact hxx17 (v10, v11)  hsx20
  refine Wp.loop' [2, 5, 31, 32, 33] 2 (by as_aux_lemma => kernel_rfl) ⟨q2 ((.ptr 0 0)::q2 ((.ptr 1 0)::q25 ((dP (eL e81) v1.1)::(dI (v1.1.length : Int))::(dI 0)::q40 (q40 (q40 (q40 (q32 []))))))), [b31_0, (.cells [(dI 4), (.v (.sl .nil (List.map eI []))), (appD 3 (List.map ep24 [])), (dI 0), (dI 0)]), .dead, .dead]⟩ (by as_aux_lemma => kernel_rfl) ?_
  rcases brk_some h with ⟨r26, er26, h⟩ | ⟨y25, ey25, h⟩
  ·refine hLx24 _ 0 []  _ er26 n (by omega) (fun r er σ hσ => ?_) (fun y  ey => by cases ey)
   cases er
   refine seqQ.r (sqQ.r (seqQ.r ?_))
   exact fnQ.r' (X31 n) (fun z => (e24 z)) h hσ
  ·refine hLx24 _ 0 []  _ ey25 n (by omega) (fun r er => by cases er) (fun y  ey => ?_)
   cases ey
   refine seqQ.n (Wq.sq (Wq.rg (Oq.sg 1 1 ?_)))
   refine Ops.on 2 (fun h0 e0 => (st_s (i := ti25) (h := h0) (r := 0) (off := 0) (cs := [(dI 0), (.v (.sl .nil (List.map eI []))), (.v (.sl .nil (List.map ep24 []))), (dI 0), (dI 0)]) (cs' := [(dI 4), (.v (.sl .nil (List.map eI []))), (appD 3 (List.map ep24 y25.2)), (dI 0), (dI 0)]) (ds := [(dI 4), (.v (.sl .nil (List.map eI []))), (appD 3 (List.map ep24 y25.2)), (dI 0), (dI 0)]) (hq_of (g := [b31_0, (.cells [(dI 4), (.v (.sl .nil (List.map eI []))), (appD 3 (List.map ep24 y25.2)), (dI 0), (dI 0)]), .dead, (appO 5 (List.map ep24 y25.2))]) (e0.trans (by as_aux_lemma => kernel_rfl)) rfl) (by as_aux_lemma => kernel_rfl) (all_sc rfl (all_sc rfl (all_sc (appF_sc _ _ _) (all_sc rfl (all_sc rfl rfl))))) (by rfl))) ?_
   refine Oq.dn (seqQ.n (Wq.rt (sqQ.r (seqQ.r ?_))))
   exact fnQ.r' (X31 n) (fun z => (e24 z)) h (RetOk.mk' (mkAgg [(dI 4), (.v (.sl .nil (List.map eI []))), (appD 3 (List.map ep24 y25.2)), (dI 0), (dI 0)]) (by as_aux_lemma => kernel_rfl) (mkAgg_frz (.cons (dI 4) _ (by as_aux_lemma => kernel_rfl) (by as_aux_lemma => kernel_rfl) (.cons (.v (.sl .nil (List.map eI []))) _ (by as_aux_lemma => kernel_rfl) (by as_aux_lemma => kernel_rfl) (.cons (appD 3 (List.map ep24 y25.2)) _ (appD_frz _ _ _ _) (appF_na _ _ _) (.cons (dI 0) _ (by as_aux_lemma => kernel_rfl) (by as_aux_lemma => kernel_rfl) (.cons (dI 0) _ (by as_aux_lemma => kernel_rfl) (by as_aux_lemma => kernel_rfl) .nil)))))))
 ·refine Wq.sk (sqQ.n' (seqQ.n (Wq.sq (Wq.sq (Wq.rg (Oq.sg 2 2 ?_))))))
  obtain ⟨v27, ev27, h⟩ := bnd_some h
  refine Ops.on 3 (fun h0 e0 => (call_ok (E' := E) (h := h0) (by as_aux_lemma => kernel_rfl) (Args.v (vP e81 a0) ((eL e81) a0) (by as_aux_lemma => kernel_rfl) (Args.v (.sl .nonfull (List.map eI ([38, 45]))) ((eL eI) ([38, 45])) (by as_aux_lemma => kernel_rfl) Args.nil)) (ok50 m a0 ([38, 45]) v27 ev27 n (by omega)))) ?_
  refine Oq.sg 5 8 (Oq.dn (seqQ.n (Wq.sq (Wq.rg (Oq.sg 1 1 ?_)))))
  refine Ops.on 2 (fun h0 e0 => (len_r (T := T) h0 83 62 .plain (eL e81) v27.1 (by as_aux_lemma => kernel_rfl))) ?_
  refine Oq.sg 1 3 (Oq.dn (seqQ.n ?_))
  refine Wq.cd h [0, 2] 3 (fun h => ?_) (fun h => ?_)
  ·refine Wq.sq (Wq.rg (Oq.sg 1 1 ?_))
   obtain ⟨v28, ev28, h⟩ := bnd_some h
   refine Ops.on 2 (fun h0 e0 => (ix_r (T := T) h0 83 62 1 .plain (eL e81) v27.1 0 v28 ev28 (by as_aux_lemma => kernel_rfl) (by as_aux_lemma => kernel_rfl) (fun _ => rfl))) ?_
   refine Oq.sg 1 3 ?_
   obtain ⟨v29, ev29, h⟩ := bnd_some h
   refine Ops.on 4 (fun h0 e0 => (call_ok (E' := E) (h := h0) (by as_aux_lemma => kernel_rfl) (Args.v (vP e81 v28) ((eL e81) v28) (by as_aux_lemma => kernel_rfl) Args.nil) (hK.ok31 v28 v29 ev29 n (by omega)))) ?_
   refine Oq.sg 2 6 (Oq.dn (seqQ.n (Wq.sq (Wq.sq (Wq.rg (Oq.sg 1 1 ?_))))))
   refine Ops.on 2 (fun h0 e0 => (len_r (T := T) h0 22 3 .plain eI v27.2 (by as_aux_lemma => kernel_rfl))) ?_
   refine Oq.sg 1 3 (Oq.dn (seqQ.n (Wq.bk 2 [2, 10] 4 ?_)))
   have hLx70 : ∀ (kx57 : Nat) (v48 v49 : Int) (v50 : (List Int)) (v52 : (List P24)) (v54 v55 : Int) (fl51 fl53 : SFlag) (ox56 : S24 ⊕ (Int × Int × (List Int) × (List P24) × Int × Int)), iter (fun (y : Int × Int × (List Int) × (List P24) × Int × Int) => f31_B3 m K v27 y.1 y.2.1 y.2.2.1 y.2.2.2.1 y.2.2.2.2.1 y.2.2.2.2.2) kx57 (v48, v49, v50, v52, v54, v55) = some ox56 → ∀ nx58, kx57 ≤ nx58 → (∀ r, ox56 = .inl r → ∀ σ, RetOk (X31 n) (resOf Proofs.Tryd.prog 31) (e24 r) σ → (seqQ (X31 n) p31_3 (sqQ (X31 n) [0, 2] 3 (seqQ (X31 n) (cR (cR (cR C31))) (fnQ (X31 n).E.T (resOf Proofs.Tryd.prog 31) (e24 o))))) .ret σ) → (∀ (y : Int × Int × (List Int) × (List P24) × Int × Int) (fl51 fl53 : SFlag), ox56 = .inr y → (seqQ (X31 n) p31_3 (sqQ (X31 n) [0, 2] 3 (seqQ (X31 n) (cR (cR (cR C31))) (fnQ (X31 n).E.T (resOf Proofs.Tryd.prog 31) (e24 o))))) .normal ⟨q2 ((.ptr 0 0)::q7 ((.ptr 3 0)::q40 (q40 (q40 (q40 (q40 (q15 []))))))), [b31_0, .dead, .dead, (.cells [(dI y.2.1), (.v (.sl fl51 (List.map eI y.2.2.1))), (.v (.sl fl53 (List.map ep24 y.2.2.2.1))), (dI y.2.2.2.2.1), (dI y.2.2.2.2.2)]), .dead, .dead]⟩) → Lp (X31 n) k31_5 4 p31_5 nx58 ⟨Zs44 v27.1 (q40 (q8 ((dP eI v27.2)::(dI (v27.2.length : Int))::(dI v48)::q40 (q40 (q40 (q40 (q4 []))))))), [b31_0, .dead, .dead, (.cells [(dI v49), (.v (.sl fl51 (List.map eI v50))), (.v (.sl fl53 (List.map ep24 v52))), (dI v54), (dI v55)]), .dead, .dead]⟩ (blkQ (X31 n) 2 [2, 10] 4 (seqQ (X31 n) p31_3 (sqQ (X31 n) [0, 2] 3 (seqQ (X31 n) (cR (cR (cR C31))) (fnQ (X31 n).E.T (resOf Proofs.Tryd.prog 31) (e24 o)))))) := by
    intro kx57
    induction kx57 with
    | zero => intro v48 v49 v50 v52 v54 v55 fl51 fl53 ox56 h; exact (iter_zero h).elim
    | succ kx57 ihx59 =>
     intro v48 v49 v50 v52 v54 v55 fl51 fl53 ox56 h nx58 hnx62 hrx60 hxx61
     obtain ⟨nx58, rfl⟩ : ∃ q, nx58 = q + 1 := ⟨nx58 - 1, by omega⟩
     obtain ⟨sx63, h, hsx64⟩ := iter_some h
     have h : f31_B3 m K v27 v48 v49 v50 v52 v54 v55 = some sx63 := h
     unfold f31_B3 at h
     refine Lp.succ (Wq.sq (Wq.rg (Oq.sg 1 1 (Oq.dn (seqQ.n (Wq.sq ?_))))))
     refine Wq.cd h k31_5 6 (fun h => ?_) (fun h => ?_)
     ·refine Wq.sk (sqQ.n' (seqQ.n (Wq.sq (Wq.bk 3 k31_5 8 (Wq.sq (Wq.rg (Oq.sg 1 1 ?_)))))))
      obtain ⟨v65, ev65, h⟩ := bnd_some h
      refine Ops.on 2 (fun h0 e0 => (ix_r (T := T) h0 22 3 1 .plain eI v27.2 v48 v65 ev65 (by as_aux_lemma => kernel_rfl) (by as_aux_lemma => kernel_rfl) (fun _ => rfl))) ?_
      refine Oq.sg 3 5 (Oq.dn (seqQ.n (Wq.sq (Wq.rg (Oq.sg 1 1 (Oq.dn (seqQ.n (Wq.sq (Wq.sq (Wq.rg (Oq.sg 2 2 (Oq.dn (seqQ.n ?_)))))))))))))
      have J31j67 : ∀ (v66 : Int) , f31_j2 m K v27 v48 v49 v50 v52 v54 v55 v66 = some sx63 → (seqQ (X31 n) (cR (cR (cR (cL (cL (cR (cR p31_5))))))) (blkQ (X31 n) 3 k31_5 8 (seqQ (X31 n) (cR (cR (cR p31_5))) (lpQ (X31 n) k31_5 4 p31_5 nx58 (blkQ (X31 n) 2 [2, 10] 4 (seqQ (X31 n) p31_3 (sqQ (X31 n) [0, 2] 3 (seqQ (X31 n) (cR (cR (cR C31))) (fnQ (X31 n).E.T (resOf Proofs.Tryd.prog 31) (e24 o)))))))))) .normal ⟨Zs44 v27.1 ((dI v48)::q1 ((dI v66)::q40 (q5 ((dP eI v27.2)::(dI (v27.2.length : Int))::(dI v48)::q40 (q40 (q40 (q40 (q4 [])))))))), [b31_0, .dead, .dead, (.cells [(dI v49), (.v (.sl fl51 (List.map eI v50))), (.v (.sl fl53 (List.map ep24 v52))), (dI v54), (dI v55)]), .dead, .dead, .dead, .dead, .dead, .dead]⟩ := by
       intro v66  h
       unfold f31_j2 at h
       refine seqQ.n (Wq.rg (Oq.sg 5 5 ?_))
       obtain ⟨v68, ev68, h⟩ := bnd_some h
       refine Ops.on 6 (fun h0 e0 => (ix_r (T := T) h0 83 62 1 .plain (eL e81) v27.1 (w64 (v48 + 1)) v68 ev68 (by as_aux_lemma => kernel_rfl) (by as_aux_lemma => kernel_rfl) (fun _ => rfl))) ?_
       refine Oq.sg 1 7 ?_
       obtain ⟨v69, ev69, h⟩ := bnd_some h
       refine Ops.on 8 (fun h0 e0 => (call_ok (E' := E) (h := h0) (by as_aux_lemma => kernel_rfl) (Args.v (vP e81 v68) ((eL e81) v68) (by as_aux_lemma => kernel_rfl) Args.nil) (hK.ok31 v68 v69 ev69 n (by omega)))) ?_
       refine Oq.sg 3 11 (Oq.dn (blkQ.n' (seqQ.n (Wq.rg (Oq.sg 2 2 (Oq.dn (lpP.m ⟨Zs44 v27.1 (q40 (q8 ((dP eI v27.2)::(dI (v27.2.length : Int))::(dI (w64 (v48 + 1)))::q40 (q40 (q40 (q40 (q4 []))))))), [b31_0, .dead, .dead, (.cells [(dI v66), (.v (.sl .nil (List.map eI []))), (.v (.sl .nonfull (List.map ep24 ([(P24.con ((⟨v49, v50, v52, v54, v55⟩ : S24))), (P24.con v69)])))), (dI 0), (dI 0)]), .dead, .dead]⟩ ?_)))))))
       cases h
       exact ihx59 (w64 (v48 + 1)) v66 [] ([(P24.con ((⟨v49, v50, v52, v54, v55⟩ : S24))), (P24.con v69)]) 0 0 _ _ _ hsx64 _ (by omega) hrx60 hxx61
      refine Wq.cd h [2, 8, 10, 11, 13, 59, 60, 61] 8 (fun h => ?_) (fun h => ?_)
      ·refine Wq.rg (Oq.sg 1 1 (Oq.dn (sqP.m ⟨Zs44 v27.1 ((dI v48)::q1 ((dI 7)::q40 (q5 ((dP eI v27.2)::(dI (v27.2.length : Int))::(dI v48)::q40 (q40 (q40 (q40 (q4 [])))))))), [b31_0, .dead, .dead, (.cells [(dI v49), (.v (.sl fl51 (List.map eI v50))), (.v (.sl fl53 (List.map ep24 v52))), (dI v54), (dI v55)]), .dead, .dead, .dead, .dead, .dead, .dead]⟩ ?_)))
       exact J31j67 7  h
      ·refine Wq.sk (sqP.m ⟨Zs44 v27.1 ((dI v48)::q1 ((dI 6)::q40 (q5 ((dP eI v27.2)::(dI (v27.2.length : Int))::(dI v48)::q40 (q40 (q40 (q40 (q4 [])))))))), [b31_0, .dead, .dead, (.cells [(dI v49), (.v (.sl fl51 (List.map eI v50))), (.v (.sl fl53 (List.map ep24 v52))), (dI v54), (dI v55)]), .dead, .dead, .dead, .dead, .dead, .dead]⟩ ?_)
       exact J31j67 6  h
     ·refine Wq.ex 2 (sqQ.x (seqQ.x ?_))
      cases h
      refine lpQ.x (blkP.w ⟨q2 ((.ptr 0 0)::q7 ((.ptr 3 0)::q40 (q40 (q40 (q40 (q40 (q15 []))))))), [b31_0, .dead, .dead, (.cells [(dI v49), (.v (.sl fl51 (List.map eI v50))), (.v (.sl fl53 (List.map ep24 v52))), (dI v54), (dI v55)]), .dead, .dead]⟩ ?_)
      exact hxx61 (v48, v49, v50, v52, v54, v55) _ _ hsx64
   refine Wp.loop' k31_5 4 (by as_aux_lemma => kernel_rfl) ⟨Zs44 v27.1 (q40 (q8 ((dP eI v27.2)::(dI (v27.2.length : Int))::(dI 0)::q40 (q40 (q40 (q40 (q4 []))))))), [b31_0, .dead, .dead, (.cells [(dI v29.fKind), (dP eI v29.fLabels), (dP ep24 v29.fSubs), (dI v29.fLeast), (dI v29.fMost)]), .dead, .dead]⟩ (by as_aux_lemma => kernel_rfl) ?_
   rcases brk_some h with ⟨r72, er72, h⟩ | ⟨y71, ey71, h⟩
   ·refine hLx70 _ 0 v29.fKind v29.fLabels v29.fSubs v29.fLeast v29.fMost _ _ _ er72 n (by omega) (fun r er σ hσ => ?_) (fun y fl51 fl53 ey => by cases ey)
    cases er
    refine seqQ.r (sqQ.r (seqQ.r ?_))
    exact fnQ.r' (X31 n) (fun z => (e24 z)) h hσ
   ·refine hLx70 _ 0 v29.fKind v29.fLabels v29.fSubs v29.fLeast v29.fMost _ _ _ ey71 n (by omega) (fun r er => by cases er) (fun y fl51 fl53 ey => ?_)
    cases ey
    refine seqQ.n (Wq.sq (Wq.rg (Oq.sg 2 2 (Oq.dn (seqQ.n (Wq.rt (sqQ.r (seqQ.r ?_))))))))
    exact fnQ.r' (X31 n) (fun z => (e24 z)) h (RetOk.mk' (.v (.agg [(vI y71.2.1), (.sl fl51 (List.map eI y71.2.2.1)), (.sl fl53 (List.map ep24 y71.2.2.2.1)), (vI y71.2.2.2.2.1), (vI y71.2.2.2.2.2)])) (by as_aux_lemma => kernel_rfl) (by as_aux_lemma => kernel_rfl))
  ·refine Wq.sk (sqQ.n' (seqQ.n (Wq.sq (Wq.rg (Oq.sg 1 1 (Oq.dn (seqQ.n (Wq.sq (Wq.sq (Wq.rg (Oq.sg 1 1 (Oq.dn (seqQ.n (Wq.bk 4 [2, 14] 5 ?_))))))))))))))
   have hLx683 := f31_hLx683 m K nn hK a0 o n hn hk
   refine Wp.loop' k31_0 5 (by as_aux_lemma => kernel_rfl) ⟨Zs12 a0 ((appD 5 (List.map ep24 []))::(dI 0)::q40 (q40 (q40 (q40 (q40 (q10 [])))))), [b31_0, .dead, .dead, .dead, .dead, .dead, .dead]⟩ (by as_aux_lemma => kernel_rfl) ?_
   rcases brk_some h with ⟨r685, er685, h⟩ | ⟨y684, ey684, h⟩
   ·refine hLx683 _ [] 0  _ er685 n (by omega) (fun r er σ hσ => ?_) (fun y  ey => by cases ey)
    cases er
    refine seqQ.r ?_
    exact fnQ.r' (X31 n) (fun z => (e24 z)) h hσ
   ·refine hLx683 _ [] 0  _ ey684 n (by omega) (fun r er => by cases er) (fun y  ey => ?_)
    cases ey
    refine seqQ.n (Wq.sq (Wq.sq (Wq.rg (Oq.sg 1 1 ?_))))
    refine Ops.on 2 (fun h0 e0 => (len_a (T := T) (g := .nil) h0 23 25 5 ep24 y684.1 (by as_aux_lemma => kernel_rfl))) ?_
    refine Oq.sg 1 3 (Oq.dn (seqQ.n ?_))
    refine Wq.cd h [2, 14] 7 (fun h => ?_) (fun h => ?_)
    ·refine Wq.sq (Wq.rg (Oq.sg 1 1 ?_))
     obtain ⟨v686, ev686, h⟩ := bnd_some h
     refine Ops.on 2 (fun h0 e0 => (ixb24 (ix_a (T := T) (g := .nil) h0 23 25 5 5 ep24 y684.1 0 v686 ev686 (by as_aux_lemma => kernel_rfl) (by as_aux_lemma => kernel_rfl) ep24_len))) ?_
     refine Oq.sg 2 4 (Oq.dn (seqQ.n (Wq.rt (sqQ.r (seqQ.r ?_)))))
     exact fnQ.r' (X31 n) (fun z => (e24 z)) h (RetOk.mk' (.v (.agg [(vI v686.vw.fKind), (vP eI v686.vw.fLabels), (vP ep24 v686.vw.fSubs), (vI v686.vw.fLeast), (vI v686.vw.fMost)])) (by as_aux_lemma => kernel_rfl) (by as_aux_lemma => kernel_rfl))
    ·refine Wq.sk (sqQ.n ⟨q2 ((.ptr 0 0)::q11 ((appD 7 (List.map ep24 y684.1))::q40 (q40 (q40 (q40 (q40 (q11 []))))))), [b31_0, .dead, .dead, .dead, .dead, .dead, .dead, (appO 5 (List.map ep24 y684.1)), .dead]⟩ (by generalize y684.1 = z0; cases z0 <;> (as_aux_lemma => kernel_rfl)) (seqQ.n (Wq.sq (Wq.rg (Oq.sg 1 1 ?_)))))
     refine Ops.seg 1 2 (by as_aux_lemma => kernel_rfl) ⟨q2 ((.ptr 0 0)::q11 ((appD 7 (List.map ep24 y684.1))::q40 (q40 (q40 (q40 (q40 (q9 ((appD 7 (List.map ep24 y684.1))::(.v (.agg [(vI 3), (.sl .nil (List.map eI [])), (.sl (dfl (appD 7 (List.map ep24 y684.1))) (List.map ep24 y684.1)), (vI 0), (vI 0)]))::[])))))))), [b31_0, .dead, .dead, .dead, .dead, .dead, .dead, (appO 5 (List.map ep24 y684.1)), .dead]⟩ (by generalize y684.1 = z0; cases z0 <;> (as_aux_lemma => kernel_rfl)) ?_
     refine Oq.sg 1 3 (Oq.dn (seqQ.n (Wq.rt ?_)))
     exact fnQ.r' (X31 n) (fun z => (e24 z)) h (RetOk.mk' (.v (.agg [(vI 3), (.sl .nil (List.map eI [])), (.sl (dfl (appD 7 (List.map ep24 y684.1))) (List.map ep24 y684.1)), (vI 0), (vI 0)])) (by as_aux_lemma => kernel_rfl) (by as_aux_lemma => kernel_rfl))
noncomputable def K31 (m : Nat) : Nat → Rec31
 | 0 => ⟨fun _ => none⟩
 | r + 1 => ⟨fun a0 => b31 m (K31 m r) a0⟩
theorem okK31 (m : Nat) : ∀ r, OkRec31 m (K31 m r) (m + 3 + r)
 | 0 => ⟨fun _ o h => (by cases h)⟩
 | r + 1 => ⟨fun a0 o h n hn => okb31 m (K31 m r) (m + 3 + r) (okK31 m r) a0 o h n (by omega) (by omega)⟩
noncomputable def f31 (m : Nat) (a0 : (List S81)) : Option S24 := (K31 m m).r31 a0
theorem ok31 (m : Nat) (a0 : (List S81)) (o : S24) (h : f31 m a0 = some o) (n : Nat) (hn : 2 * m + 3 ≤ n) : Fn Proofs.Tryd.prog E n 31 [.v ((eL e81) a0)] (e24 o) := (okK31 m m).ok31 a0 o h n (by omega)
noncomputable def f26_r1 (m : Nat) (v109 : Int) (v139 : Bool) : Option (Stp Int (Int)) :=
 cnd v139
 (some (.ret 13))
 (some (.nxt (w64 (v109 + 1))))
noncomputable def f26_r2 (m : Nat) (a0 : S24) (v109 v119 : Int) (v126 : Bool) : Option (Stp Int (Int)) :=
 cnd v126
 (some (.ret 3))
 (bnd (cnd (decide (v109 > 0))
 (bnd (idx a0.fLabels (w64 (v109 - 1))) fun v141 =>
 some (decide (v141 ≥ v119)))
 (some false)) fun v139 =>
 f26_r1 m v109 v139)
noncomputable def f26_B3 (m : Nat) (a0 : S24) (v109 : Int) : Option (Stp Int (Int)) :=
 cnd (decide (v109 < (a0.fLabels.length : Int)))
 (bnd (idx a0.fLabels v109) fun v119 =>
 bnd (cnd (decide (v119 < 1))
 (some true)
 (bnd (f42 m v119) fun v142 =>
 some (!v142))) fun v126 =>
 f26_r2 m a0 v109 v119 v126)
 (some (.brk v109))
noncomputable def f26_r4 (m : Nat) (v152 : Bool) : Option Int :=
 cnd v152
 (some 5)
 (some 0)
noncomputable def f26_r5 (m : Nat) (v186 : Bool) : Option Int :=
 cnd v186
 (some 13)
 (some 0)
noncomputable def f26_r6 (m : Nat) (a0 : S24) (v176 : Bool) : Option Int :=
 cnd v176
 (some 3)
 (f26_r5 m ((a0.fMost != (-1)) && (decide (a0.fMost < a0.fLeast))))
noncomputable def f26_r7 (m : Nat) (a0 : S24) (v168 : Bool) : Option Int :=
 f26_r6 m a0 (v168 || (decide (a0.fMost > 9)))
noncomputable def f26_r8 (m : Nat) (a0 : S24) (v160 : Bool) : Option Int :=
 f26_r7 m a0 (v160 || (decide (a0.fMost < (-1))))
noncomputable def f26_r9 (m : Nat) (a0 : S24) (v58 : Bool) : Option Int :=
 cnd v58
 (some 9)
 (brk (iter (fun (y : Int) => f26_B3 m a0 y) m 0) some fun y144 =>
 cnd (a0.fKind != 5)
 (f26_r4 m ((a0.fLeast != 0) || (a0.fMost != 0)))
 (f26_r8 m a0 ((decide (a0.fLeast < 0)) || (decide (a0.fLeast > 9)))))
noncomputable def f26_r10 (m : Nat) (a0 : S24) (v1 v51 : Bool) : Option Int :=
 f26_r9 m a0 (v51 || (!v1))
noncomputable def f26_r11 (m : Nat) (a0 : S24) (v1 v42 : Bool) : Option Int :=
 f26_r10 m a0 v1 (v42 || (decide ((a0.fLabels.length : Int) > 300)))
noncomputable def f26_r12 (m : Nat) (a0 : S24) (v1 v28 : Bool) : Option Int :=
 f26_r11 m a0 v1 (v28 || ((a0.fKind != 2) && (decide ((a0.fLabels.length : Int) > 0))))
noncomputable def f26_j13 (m : Nat) (a0 : S24) (v1 v2 : Bool) : Option Int :=
 f26_r12 m a0 v1 ((a0.fKind == 2) && ((a0.fLabels.length : Int) == 0))
noncomputable def f26_j14 (m : Nat) (a0 : S24) (v190 v193 : Bool) : Option Int :=
 f26_j13 m a0 v193 v190
noncomputable def f26_j15 (m : Nat) (a0 : S24) (v190 v216 : Bool) : Option Int :=
 f26_j14 m a0 v190 v216
noncomputable def f26_j16 (m : Nat) (a0 : S24) (v190 v231 : Bool) : Option Int :=
 f26_j15 m a0 v190 v231
noncomputable def f26_j17 (m : Nat) (a0 : S24) (v190 v244 : Bool) : Option Int :=
 cnd v244
 (f26_j16 m a0 v190 ((a0.fSubs.length : Int) == 2))
 (some 4)
noncomputable def f26_j18 (m : Nat) (a0 : S24) (v190 v213 : Bool) : Option Int :=
 cnd v213
 (f26_j15 m a0 v190 (decide ((a0.fSubs.length : Int) ≥ 2)))
 (cnd (a0.fKind == 5)
 (f26_j16 m a0 v190 ((a0.fSubs.length : Int) == 1))
 (cnd (a0.fKind == 6)
 (f26_j17 m a0 v190 (a0.fKind == 6))
 (f26_j17 m a0 v190 (a0.fKind == 7))))
noncomputable def f26_j19 (m : Nat) (a0 : S24) (v190 : Bool) : Option Int :=
 cnd v190
 (f26_j14 m a0 v190 ((a0.fSubs.length : Int) == 0))
 (cnd (a0.fKind == 3)
 (f26_j18 m a0 v190 (a0.fKind == 3))
 (f26_j18 m a0 v190 (a0.fKind == 4)))
noncomputable def f26 (m : Nat) (a0 : S24) : Option Int :=
 cnd (a0.fKind == 1)
 (f26_j19 m a0 (a0.fKind == 1))
 (f26_j19 m a0 (a0.fKind == 2))
noncomputable abbrev X26 (n : Nat) : Cx := cxOf Proofs.Tryd.prog E 26 n
noncomputable def C26 : Code := bodyOf Proofs.Tryd.prog 26
noncomputable abbrev p26_0 : Code := cR (cR (cR (cR C26)))
noncomputable abbrev b26_0 (w0 : S24) : AObj := .cells [(dI w0.fKind), (dP eI w0.fLabels), (dP ep24 w0.fSubs), (dI w0.fLeast), (dI w0.fMost)]
noncomputable abbrev k26_0 : List Nat := [1, 2, 62, 63, 64]
noncomputable abbrev k26_1 : List Nat := [1, 2, 3, 4, 11, 12]
theorem ok26 (m : Nat) (a0 : S24) (o : Int) (h : f26 m a0 = some o) (n : Nat) (hn : m + 2 ≤ n) : Fn Proofs.Tryd.prog E n 26 [.v (e24 a0)] (eI o) := by
 obtain ⟨n, rfl⟩ : ∃ q, n = q + 1 := ⟨n - 1, by omega⟩
 unfold f26 at h
 refine Fn.of (by kernel_rfl) (by kernel_rfl) (by kernel_rfl) ⟨(.v (.agg [(vI a0.fKind), (vP eI a0.fLabels), (vP ep24 a0.fSubs), (vI a0.fLeast), (vI a0.fMost)]))::u40 (u40 (u40 (u7 []))), []⟩ (by kernel_rfl) (Wp.sq (Wp.rg (Ops.sg 2 2 (Ops.dn (seqQ.n (Wp.sq (Wp.rg (Ops.sg 2 2 ?_))))))))
 refine Ops.on 3 (fun h0 e0 => (len_r (T := T) h0 23 25 .plain ep24 a0.fSubs (by kernel_rfl))) ?_
 refine Ops.sg 1 4 (Ops.dn (seqQ.n (Wp.sq (Wp.rg (Ops.sg 1 1 (Ops.dn (seqQ.n (Wp.sq (Wp.sq (Wp.rg (Ops.sg 2 2 (Ops.dn (seqQ.n ?_)))))))))))))
 have J26j20 : ∀ (v1 v2 : Bool) (d3 d4 d5 d6 d7 d8 d9 d10 d11 d12 d13 d14 d15 d16 d17 d18 d19 : D), f26_j13 m a0 v1 v2 = some o → (seqQ (X26 n) p26_0 (fnQ (X26 n).E.T (resOf Proofs.Tryd.prog 26) (eI o))) .normal ⟨Zs4 (.v (.agg [(vI a0.fKind), (vP eI a0.fLabels), (vP ep24 a0.fSubs), (vI a0.fLeast), (vI a0.fMost)])) (a0.fSubs.length : Int) v1 a0.fSubs a0.fKind v2 (a0.fKind == 1) d3 (d4::d5::d6::d7::d8::d9::d10::d11::d12::d13::d14::d15::d16::d17::d18::d19::u40 (u40 (u17 []))), [(b26_0 a0)]⟩ := by
  intro v1 v2 d3 d4 d5 d6 d7 d8 d9 d10 d11 d12 d13 d14 d15 d16 d17 d18 d19 h
  unfold f26_j13 at h
  refine seqQ.n (Wp.sq (Wp.sq (Wp.rg (Ops.sg 4 4 ?_))))
  refine Ops.hv (fun KQ => ∀ (d23 d24 d25 d26 : D) (v27 v28 : Bool), f26_r12 m a0 v1 v28 = some o → KQ 9 ⟨Zs4 (.v (.agg [(vI a0.fKind), (vP eI a0.fLabels), (vP ep24 a0.fSubs), (vI a0.fLeast), (vI a0.fMost)])) (a0.fSubs.length : Int) v1 a0.fSubs a0.fKind v2 (a0.fKind == 1) d3 (d4::d5::d6::d7::d8::d9::d10::d11::d12::d13::d14::d15::d16::d17::d18::d19::(.ptr 0 0)::(dI a0.fKind)::(dB v27)::(dB v27)::d23::d24::d25::d26::(dB v28)::u40 (u40 (u8 []))), [(b26_0 a0)]⟩) ?_ fun J26j29 => ?_
  ·intro d23 d24 d25 d26 v27 v28 h
   unfold f26_r12 at h
   refine Ops.sg 1 10 ?_
   refine Ops.hv (fun KQ => ∀ (d32 d33 d34 d35 d36 d37 d38 d39 d40 : D) (v41 v42 : Bool), f26_r11 m a0 v1 v42 = some o → KQ 20 ⟨Zs4 (.v (.agg [(vI a0.fKind), (vP eI a0.fLabels), (vP ep24 a0.fSubs), (vI a0.fLeast), (vI a0.fMost)])) (a0.fSubs.length : Int) v1 a0.fSubs a0.fKind v2 (a0.fKind == 1) d3 (d4::d5::d6::d7::d8::d9::d10::d11::d12::d13::d14::d15::d16::d17::d18::d19::(.ptr 0 0)::(dI a0.fKind)::(dB v27)::(dB v27)::d23::d24::d25::d26::(dB v41)::(dB v41)::d32::d33::d34::d35::d36::d37::d38::d39::d40::(dB v42)::u40 (u37 [])), [(b26_0 a0)]⟩) ?_ fun J26j43 => ?_
   ·intro d32 d33 d34 d35 d36 d37 d38 d39 d40 v41 v42 h
    unfold f26_r11 at h
    refine Ops.sg 1 21 ?_
    refine Ops.hv (fun KQ => ∀ (d46 d47 d48 d49 : D) (v50 v51 : Bool), f26_r10 m a0 v1 v51 = some o → KQ 26 ⟨Zs4 (.v (.agg [(vI a0.fKind), (vP eI a0.fLabels), (vP ep24 a0.fSubs), (vI a0.fLeast), (vI a0.fMost)])) (a0.fSubs.length : Int) v1 a0.fSubs a0.fKind v2 (a0.fKind == 1) d3 (d4::d5::d6::d7::d8::d9::d10::d11::d12::d13::d14::d15::d16::d17::d18::d19::(.ptr 0 0)::(dI a0.fKind)::(dB v27)::(dB v27)::d23::d24::d25::d26::(dB v41)::(dB v41)::d32::d33::d34::d35::d36::d37::d38::d39::d40::(dB v50)::(dB v50)::d46::d47::d48::d49::(dB v51)::u40 (u31 [])), [(b26_0 a0)]⟩) ?_ fun J26j52 => ?_
    ·intro d46 d47 d48 d49 v50 v51 h
     unfold f26_r10 at h
     refine Ops.sg 1 27 ?_
     refine Ops.hv (fun KQ => ∀ (d55 d56 : D) (v57 v58 : Bool), f26_r9 m a0 v58 = some o → KQ 30 ⟨Zs4 (.v (.agg [(vI a0.fKind), (vP eI a0.fLabels), (vP ep24 a0.fSubs), (vI a0.fLeast), (vI a0.fMost)])) (a0.fSubs.length : Int) v1 a0.fSubs a0.fKind v2 (a0.fKind == 1) d3 (d4::d5::d6::d7::d8::d9::d10::d11::d12::d13::d14::d15::d16::d17::d18::d19::(.ptr 0 0)::(dI a0.fKind)::(dB v27)::(dB v27)::d23::d24::d25::d26::(dB v41)::(dB v41)::d32::d33::d34::d35::d36::d37::d38::d39::d40::(dB v50)::(dB v50)::d46::d47::d48::d49::(dB v57)::(dB v57)::d55::d56::(dB v58)::u40 (u27 [])), [(b26_0 a0)]⟩) ?_ fun J26j59 => ?_
     ·intro d55 d56 v57 v58 h
      unfold f26_r9 at h
      refine Ops.dn (seqQ.n ?_)
      refine Wp.cd h [1, 2] 1 (fun h => ?_) (fun h => ?_)
      ·refine Wp.sq (Wp.rg (Ops.sg 1 1 (Ops.dn (seqQ.n (Wp.rt (sqQ.r (seqQ.r ?_)))))))
       exact fnQ.r' (X26 n) (fun z => (eI z)) h (RetOk.mk' (dI 9) (by kernel_rfl) (by kernel_rfl))
      ·refine Wp.sk (sqQ.n' (seqQ.n (Wp.sq (Wp.sq (Wp.rg (Ops.sg 2 2 ?_))))))
       refine Ops.on 3 (fun h0 e0 => (len_r (T := T) h0 22 3 .plain eI a0.fLabels (by kernel_rfl))) ?_
       refine Ops.sg 1 4 (Ops.dn (seqQ.n (Wp.bk 1 [1, 2] 1 ?_)))
       have hLx143 : ∀ (kx111 : Nat) (v109 : Int)  (ox110 : Int ⊕ (Int)), iter (fun (y : Int) => f26_B3 m a0 y) kx111 v109 = some ox110 → ∀ nx112, kx111 ≤ nx112 → (∀ r, ox110 = .inl r → ∀ σ, RetOk (X26 n) (resOf Proofs.Tryd.prog 26) (eI r) σ → (seqQ (X26 n) (cR (cR p26_0)) (fnQ (X26 n).E.T (resOf Proofs.Tryd.prog 26) (eI o))) .ret σ) → (∀ (y : Int) , ox110 = .inr y → (seqQ (X26 n) (cR (cR p26_0)) (fnQ (X26 n).E.T (resOf Proofs.Tryd.prog 26) (eI o))) .normal ⟨Zs38 a0.fLabels (a0.fLabels.length : Int) ((dI y)::q40 (q23 [])), [(b26_0 a0)]⟩) → Lp (X26 n) k26_0 1 (cL (cL (cR (cL (cR p26_0))))) nx112 ⟨Zs38 a0.fLabels (a0.fLabels.length : Int) ((dI v109)::q40 (q23 [])), [(b26_0 a0)]⟩ (blkQ (X26 n) 1 [1, 2] 1 (seqQ (X26 n) (cR (cR p26_0)) (fnQ (X26 n).E.T (resOf Proofs.Tryd.prog 26) (eI o)))) := by
        intro kx111
        induction kx111 with
        | zero => intro v109  ox110 h; exact (iter_zero h).elim
        | succ kx111 ihx113 =>
         intro v109  ox110 h nx112 hnx116 hrx114 hxx115
         obtain ⟨nx112, rfl⟩ : ∃ q, nx112 = q + 1 := ⟨nx112 - 1, by omega⟩
         obtain ⟨sx117, h, hsx118⟩ := iter_some h
         have h : f26_B3 m a0 v109 = some sx117 := h
         unfold f26_B3 at h
         refine Lp.succ (Wp.sq (Wp.rg (Ops.sg 1 1 (Ops.dn (seqQ.n (Wp.sq ?_))))))
         refine Wp.cd h k26_0 1 (fun h => ?_) (fun h => ?_)
         ·refine Wp.sk (sqQ.n' (seqQ.n (Wp.sq (Wp.bk 2 k26_0 1 (Wp.sq (Wp.rg (Ops.sg 1 1 ?_)))))))
          obtain ⟨v119, ev119, h⟩ := bnd_some h
          refine Ops.on 2 (fun h0 e0 => (ix_r (T := T) h0 22 3 1 .plain eI a0.fLabels v109 v119 ev119 (by kernel_rfl) (by kernel_rfl) (fun _ => rfl))) ?_
          refine Ops.sg 3 5 (Ops.dn (seqQ.n (Wp.sq (Wp.sq (Wp.rg (Ops.sg 3 3 ?_))))))
          refine Ops.hv (fun KQ => ∀ (d122 d123 d124 : D) (v125 v126 : Bool), f26_r2 m a0 v109 v119 v126 = some sx117 → KQ 7 ⟨Zs29 v109 v119 a0.fLabels (a0.fLabels.length : Int) (decide (v109 < (a0.fLabels.length : Int))) (.vptr [(vI v119)]) v125 (d122::d123::d124::(dB v126)::q40 (q12 [])), [(b26_0 a0)]⟩) ?_ fun J26j127 => ?_
          ·intro d122 d123 d124 v125 v126 h
           unfold f26_r2 at h
           refine Ops.dn (seqQ.n ?_)
           refine Wp.cd h [1, 2, 5, 6, 62, 63, 64] 1 (fun h => ?_) (fun h => ?_)
           ·refine Wp.sq (Wp.rg (Ops.sg 1 1 (Ops.dn (seqQ.n (Wp.rt (sqQ.r (seqQ.r (blkQ.r (seqQ.r ?_)))))))))
            cases h
            refine lpQ.r (blkQ.r ?_)
            exact hrx114 _ hsx118 _ (RetOk.forget k26_0 (by kernel_rfl) (RetOk.mk' (dI 3) (by kernel_rfl) (by kernel_rfl)))
           ·refine Wp.sk (sqQ.n' (seqQ.n (Wp.sq (Wp.rg (Ops.sg 3 3 ?_)))))
            refine Ops.hv (fun KQ => ∀ (d130 d131 d132 d133 d134 d135 d136 d137 : D) (v138 v139 : Bool), f26_r1 m v109 v139 = some sx117 → KQ 12 ⟨Zs29 v109 v119 a0.fLabels (a0.fLabels.length : Int) (decide (v109 < (a0.fLabels.length : Int))) (.vptr [(vI v119)]) v125 (d122::d123::d124::(dB v126)::(dI v109)::(dB v138)::(dB v138)::d130::d131::d132::d133::d134::d135::d136::d137::(dB v139)::q40 []), [(b26_0 a0)]⟩) ?_ fun J26j140 => ?_
            ·intro d130 d131 d132 d133 d134 d135 d136 d137 v138 v139 h
             unfold f26_r1 at h
             refine Ops.dn (seqQ.n ?_)
             refine Wp.cd h k26_0 1 (fun h => ?_) (fun h => ?_)
             ·refine Wp.sq (Wp.rg (Ops.sg 1 1 (Ops.dn (seqQ.n (Wp.rt (sqQ.r (blkQ.r (seqQ.r ?_))))))))
              cases h
              refine lpQ.r (blkQ.r ?_)
              exact hrx114 _ hsx118 _ (RetOk.forget k26_0 (by kernel_rfl) (RetOk.mk' (dI 13) (by kernel_rfl) (by kernel_rfl)))
             ·refine Wp.sk (sqQ.n' (blkQ.n' (seqQ.n (Wp.rg (Ops.sg 2 2 (Ops.dn (lpQ.m ⟨Zs38 a0.fLabels (a0.fLabels.length : Int) ((dI (w64 (v109 + 1)))::q40 (q23 [])), [(b26_0 a0)]⟩ ?_)))))))
              cases h
              exact ihx113 (w64 (v109 + 1))  _ hsx118 _ (by omega) hrx114 hxx115
            obtain ⟨v139, ev139, h⟩ := bnd_some h
            refine Ops.hv (fun KQ => ∀ v128 : Bool, (cnd v128 (bnd (idx a0.fLabels (w64 (v109 - 1))) fun v141 => some (decide (v141 ≥ v119))) (some false)) = some v139 → KQ 3 ⟨Zs29 v109 v119 a0.fLabels (a0.fLabels.length : Int) (decide (v109 < (a0.fLabels.length : Int))) (.vptr [(vI v119)]) v125 (d122::d123::d124::(dB v126)::(dI v109)::(dB v128)::(dB v128)::q40 (q9 [])), [(b26_0 a0)]⟩) ?_ fun G26g129 => Ops.sx (G26g129 (decide (v109 > 0)) ev139)
            intro v128 ev139
            cases v128
            ·have ev139 := cnd_f ev139
             refine Ops.sg 9 12 ?_
             exact Ops.sx (J26j140 U U U U U U U U false false (some_sub (fun v139 => f26_r1 m v109 v139 = some sx117) ev139 h))
            ·have ev139 := cnd_t ev139
             refine Ops.sg 4 7 ?_
             obtain ⟨v141, ev141, ev139⟩ := bnd_some ev139
             refine Ops.on 8 (fun h0 e0 => (ix_r (T := T) h0 22 3 1 .plain eI a0.fLabels (w64 (v109 - 1)) v141 ev141 (by kernel_rfl) (by kernel_rfl) (fun _ => rfl))) ?_
             refine Ops.sg 4 12 ?_
             exact Ops.sx (J26j140 (.ptr 0 1) (dP eI a0.fLabels) (dI v109) (dI (w64 (v109 - 1))) (.vptr [(vI v141)]) (dI v141) (dI v119) (dB (decide (v141 ≥ v119))) true (decide (v141 ≥ v119)) (some_sub (fun v139 => f26_r1 m v109 v139 = some sx117) ev139 h))
          obtain ⟨v126, ev126, h⟩ := bnd_some h
          refine Ops.hv (fun KQ => ∀ v120 : Bool, (cnd v120 (some true) (bnd (f42 m v119) fun v142 => some (!v142))) = some v126 → KQ 3 ⟨Zs29 v109 v119 a0.fLabels (a0.fLabels.length : Int) (decide (v109 < (a0.fLabels.length : Int))) (.vptr [(vI v119)]) v120 (q40 (q16 [])), [(b26_0 a0)]⟩) ?_ fun G26g121 => Ops.sx (G26g121 (decide (v119 < 1)) ev126)
          intro v120 ev126
          cases v120
          ·have ev126 := cnd_f ev126
           refine Ops.sg 1 4 ?_
           obtain ⟨v142, ev142, ev126⟩ := bnd_some ev126
           refine Ops.on 5 (fun h0 e0 => (call_ok (E' := E) (h := h0) (by kernel_rfl) (Args.v (vI v119) (eI v119) (by kernel_rfl) Args.nil) (ok42 m v119 v142 ev142 n (by omega)))) ?_
           refine Ops.sg 2 7 ?_
           exact Ops.sx (J26j127 (dI v119) (dB v142) (dB (!v142)) false (!v142) (some_sub (fun v126 => f26_r2 m a0 v109 v119 v126 = some sx117) ev126 h))
          ·have ev126 := cnd_t ev126
           refine Ops.sg 4 7 ?_
           exact Ops.sx (J26j127 U U U true true (some_sub (fun v126 => f26_r2 m a0 v109 v119 v126 = some sx117) ev126 h))
         ·refine Wp.ex 1 (sqQ.x (seqQ.x ?_))
          cases h
          refine lpQ.x (blkQ.w ⟨Zs38 a0.fLabels (a0.fLabels.length : Int) ((dI v109)::q40 (q23 [])), [(b26_0 a0)]⟩ ?_)
          exact hxx115 v109  hsx118
       refine Wp.loop' k26_0 1 (by kernel_rfl) ⟨Zs38 a0.fLabels (a0.fLabels.length : Int) ((dI 0)::q40 (q23 [])), [(b26_0 a0)]⟩ (by kernel_rfl) ?_
       rcases brk_some h with ⟨r145, er145, h⟩ | ⟨y144, ey144, h⟩
       ·refine hLx143 _ 0  _ er145 n (by omega) (fun r er σ hσ => ?_) (fun y  ey => by cases ey)
        cases er
        refine seqQ.r ?_
        exact fnQ.r' (X26 n) (fun z => (eI z)) h hσ
       ·refine hLx143 _ 0  _ ey144 n (by omega) (fun r er => by cases er) (fun y  ey => ?_)
        cases ey
        refine seqQ.n (Wp.sq (Wp.sq (Wp.rg (Ops.sg 3 3 (Ops.dn (seqQ.n ?_))))))
        refine Wp.cd h [1, 2] 1 (fun h => ?_) (fun h => ?_)
        ·refine Wp.sq (Wp.sq (Wp.rg (Ops.sg 4 4 ?_)))
         refine Ops.hv (fun KQ => ∀ (d148 d149 d150 : D) (v151 v152 : Bool), f26_r4 m v152 = some o → KQ 8 ⟨Zs38 a0.fLabels (a0.fLabels.length : Int) ((dI y144)::q24 ((.ptr 0 0)::(dI a0.fKind)::(dB (a0.fKind != 5))::(.ptr 0 3)::(dI a0.fLeast)::(dB v151)::(dB v151)::d148::d149::d150::(dB v152)::q28 [])), [(b26_0 a0)]⟩) ?_ fun J26j153 => ?_
         ·intro d148 d149 d150 v151 v152 h
          unfold f26_r4 at h
          refine Ops.dn (seqQ.n ?_)
          refine Wp.cd h [2] 1 (fun h => ?_) (fun h => ?_)
          ·refine Wp.sq (Wp.rg (Ops.sg 1 1 (Ops.dn (seqQ.n (Wp.rt (sqQ.r (seqQ.r (sqQ.r (seqQ.r ?_)))))))))
           exact fnQ.r' (X26 n) (fun z => (eI z)) h (RetOk.mk' (dI 5) (by kernel_rfl) (by kernel_rfl))
          ·refine Wp.sk (sqQ.n' (seqQ.n (Wp.sq (Wp.rg (Ops.sg 1 1 (Ops.dn (seqQ.n (Wp.rt (sqQ.r (seqQ.r ?_))))))))))
           exact fnQ.r' (X26 n) (fun z => (eI z)) h (RetOk.mk' (dI 0) (by kernel_rfl) (by kernel_rfl))
         refine Ops.hv (fun KQ => ∀ v146 : Bool, f26_r4 m (v146 || (a0.fMost != 0)) = some o → KQ 4 ⟨Zs38 a0.fLabels (a0.fLabels.length : Int) ((dI y144)::q24 ((.ptr 0 0)::(dI a0.fKind)::(dB (a0.fKind != 5))::(.ptr 0 3)::(dI a0.fLeast)::(dB v146)::(dB v146)::q32 [])), [(b26_0 a0)]⟩) ?_ fun G26g147 => Ops.sx (G26g147 (a0.fLeast != 0) h)
         intro v146 h
         cases v146
         ·refine Ops.sg 4 8 ?_
          exact Ops.sx (J26j153 (.ptr 0 4) (dI a0.fMost) (dB (a0.fMost != 0)) false (a0.fMost != 0) h)
         ·refine Ops.sg 4 8 ?_
          exact Ops.sx (J26j153 U U U true true h)
        ·refine Wp.sk (sqQ.n' (seqQ.n (Wp.sq (Wp.sq (Wp.rg (Ops.sg 4 4 ?_))))))
         refine Ops.hv (fun KQ => ∀ (d156 d157 d158 : D) (v159 v160 : Bool), f26_r8 m a0 v160 = some o → KQ 8 ⟨Zs13 a0.fLabels (a0.fLabels.length : Int) y144 a0.fKind (a0.fKind != 5) a0.fLeast v159 (d156::d157::d158::(dB v160)::q20 []), [(b26_0 a0)]⟩) ?_ fun J26j161 => ?_
         ·intro d156 d157 d158 v159 v160 h
          unfold f26_r8 at h
          refine Ops.sg 1 9 ?_
          refine Ops.hv (fun KQ => ∀ (d164 d165 d166 : D) (v167 v168 : Bool), f26_r7 m a0 v168 = some o → KQ 13 ⟨Zs13 a0.fLabels (a0.fLabels.length : Int) y144 a0.fKind (a0.fKind != 5) a0.fLeast v159 (d156::d157::d158::(dB v167)::(dB v167)::d164::d165::d166::(dB v168)::q15 []), [(b26_0 a0)]⟩) ?_ fun J26j169 => ?_
          ·intro d164 d165 d166 v167 v168 h
           unfold f26_r7 at h
           refine Ops.sg 1 14 ?_
           refine Ops.hv (fun KQ => ∀ (d172 d173 d174 : D) (v175 v176 : Bool), f26_r6 m a0 v176 = some o → KQ 18 ⟨Zs13 a0.fLabels (a0.fLabels.length : Int) y144 a0.fKind (a0.fKind != 5) a0.fLeast v159 (d156::d157::d158::(dB v167)::(dB v167)::d164::d165::d166::(dB v175)::(dB v175)::d172::d173::d174::(dB v176)::q10 []), [(b26_0 a0)]⟩) ?_ fun J26j177 => ?_
           ·intro d172 d173 d174 v175 v176 h
            unfold f26_r6 at h
            refine Ops.dn (seqQ.n ?_)
            refine Wp.cd h [1, 2] 1 (fun h => ?_) (fun h => ?_)
            ·refine Wp.sq (Wp.rg (Ops.sg 1 1 (Ops.dn (seqQ.n (Wp.rt (sqQ.r (seqQ.r ?_)))))))
             exact fnQ.r' (X26 n) (fun z => (eI z)) h (RetOk.mk' (dI 3) (by kernel_rfl) (by kernel_rfl))
            ·refine Wp.sk (sqQ.n' (seqQ.n (Wp.sq (Wp.sq (Wp.rg (Ops.sg 4 4 ?_))))))
             refine Ops.hv (fun KQ => ∀ (d180 d181 d182 d183 d184 : D) (v185 v186 : Bool), f26_r5 m v186 = some o → KQ 10 ⟨Zs13 a0.fLabels (a0.fLabels.length : Int) y144 a0.fKind (a0.fKind != 5) a0.fLeast v159 (d156::d157::d158::(dB v167)::(dB v167)::d164::d165::d166::(dB v175)::(dB v175)::d172::d173::d174::(dB v176)::(.ptr 0 4)::(dI a0.fMost)::(dB v185)::(dB v185)::d180::d181::d182::d183::d184::(dB v186)::[]), [(b26_0 a0)]⟩) ?_ fun J26j187 => ?_
             ·intro d180 d181 d182 d183 d184 v185 v186 h
              unfold f26_r5 at h
              refine Ops.dn (seqQ.n ?_)
              refine Wp.cd h [2] 1 (fun h => ?_) (fun h => ?_)
              ·refine Wp.sq (Wp.rg (Ops.sg 1 1 (Ops.dn (seqQ.n (Wp.rt (sqQ.r (seqQ.r ?_)))))))
               exact fnQ.r' (X26 n) (fun z => (eI z)) h (RetOk.mk' (dI 13) (by kernel_rfl) (by kernel_rfl))
              ·refine Wp.sk (sqQ.n' (seqQ.n (Wp.sq (Wp.rg (Ops.sg 1 1 (Ops.dn (seqQ.n (Wp.rt ?_))))))))
               exact fnQ.r' (X26 n) (fun z => (eI z)) h (RetOk.mk' (dI 0) (by kernel_rfl) (by kernel_rfl))
             refine Ops.hv (fun KQ => ∀ v178 : Bool, f26_r5 m (v178 && (decide (a0.fMost < a0.fLeast))) = some o → KQ 4 ⟨Zs13 a0.fLabels (a0.fLabels.length : Int) y144 a0.fKind (a0.fKind != 5) a0.fLeast v159 (d156::d157::d158::(dB v167)::(dB v167)::d164::d165::d166::(dB v175)::(dB v175)::d172::d173::d174::(dB v176)::(.ptr 0 4)::(dI a0.fMost)::(dB v178)::(dB v178)::q6 []), [(b26_0 a0)]⟩) ?_ fun G26g179 => Ops.sx (G26g179 (a0.fMost != (-1)) h)
             intro v178 h
             cases v178
             ·refine Ops.sg 6 10 ?_
              exact Ops.sx (J26j187 U U U U U false false h)
             ·refine Ops.sg 6 10 ?_
              exact Ops.sx (J26j187 (.ptr 0 4) (dI a0.fMost) (.ptr 0 3) (dI a0.fLeast) (dB (decide (a0.fMost < a0.fLeast))) true (decide (a0.fMost < a0.fLeast)) h)
           refine Ops.hv (fun KQ => ∀ v170 : Bool, f26_r6 m a0 (v170 || (decide (a0.fMost > 9))) = some o → KQ 14 ⟨Zs13 a0.fLabels (a0.fLabels.length : Int) y144 a0.fKind (a0.fKind != 5) a0.fLeast v159 (d156::d157::d158::(dB v167)::(dB v167)::d164::d165::d166::(dB v170)::(dB v170)::q14 []), [(b26_0 a0)]⟩) ?_ fun G26g171 => Ops.sx (G26g171 v168 h)
           intro v170 h
           cases v170
           ·refine Ops.sg 4 18 ?_
            exact Ops.sx (J26j177 (.ptr 0 4) (dI a0.fMost) (dB (decide (a0.fMost > 9))) false (decide (a0.fMost > 9)) h)
           ·refine Ops.sg 4 18 ?_
            exact Ops.sx (J26j177 U U U true true h)
          refine Ops.hv (fun KQ => ∀ v162 : Bool, f26_r7 m a0 (v162 || (decide (a0.fMost < (-1)))) = some o → KQ 9 ⟨Zs13 a0.fLabels (a0.fLabels.length : Int) y144 a0.fKind (a0.fKind != 5) a0.fLeast v159 (d156::d157::d158::(dB v162)::(dB v162)::q19 []), [(b26_0 a0)]⟩) ?_ fun G26g163 => Ops.sx (G26g163 v160 h)
          intro v162 h
          cases v162
          ·refine Ops.sg 4 13 ?_
           exact Ops.sx (J26j169 (.ptr 0 4) (dI a0.fMost) (dB (decide (a0.fMost < (-1)))) false (decide (a0.fMost < (-1))) h)
          ·refine Ops.sg 4 13 ?_
           exact Ops.sx (J26j169 U U U true true h)
         refine Ops.hv (fun KQ => ∀ v154 : Bool, f26_r8 m a0 (v154 || (decide (a0.fLeast > 9))) = some o → KQ 4 ⟨Zs13 a0.fLabels (a0.fLabels.length : Int) y144 a0.fKind (a0.fKind != 5) a0.fLeast v154 (q24 []), [(b26_0 a0)]⟩) ?_ fun G26g155 => Ops.sx (G26g155 (decide (a0.fLeast < 0)) h)
         intro v154 h
         cases v154
         ·refine Ops.sg 4 8 ?_
          exact Ops.sx (J26j161 (.ptr 0 3) (dI a0.fLeast) (dB (decide (a0.fLeast > 9))) false (decide (a0.fLeast > 9)) h)
         ·refine Ops.sg 4 8 ?_
          exact Ops.sx (J26j161 U U U true true h)
     refine Ops.hv (fun KQ => ∀ v53 : Bool, f26_r9 m a0 (v53 || (!v1)) = some o → KQ 27 ⟨Zs4 (.v (.agg [(vI a0.fKind), (vP eI a0.fLabels), (vP ep24 a0.fSubs), (vI a0.fLeast), (vI a0.fMost)])) (a0.fSubs.length : Int) v1 a0.fSubs a0.fKind v2 (a0.fKind == 1) d3 (d4::d5::d6::d7::d8::d9::d10::d11::d12::d13::d14::d15::d16::d17::d18::d19::(.ptr 0 0)::(dI a0.fKind)::(dB v27)::(dB v27)::d23::d24::d25::d26::(dB v41)::(dB v41)::d32::d33::d34::d35::d36::d37::d38::d39::d40::(dB v50)::(dB v50)::d46::d47::d48::d49::(dB v53)::(dB v53)::u40 (u30 [])), [(b26_0 a0)]⟩) ?_ fun G26g54 => Ops.sx (G26g54 v51 h)
     intro v53 h
     cases v53
     ·refine Ops.sg 3 30 ?_
      exact Ops.sx (J26j59 (dB v1) (dB (!v1)) false (!v1) h)
     ·refine Ops.sg 3 30 ?_
      exact Ops.sx (J26j59 U U true true h)
    refine Ops.hv (fun KQ => ∀ v44 : Bool, f26_r10 m a0 v1 (v44 || (decide ((a0.fLabels.length : Int) > 300))) = some o → KQ 21 ⟨Zs4 (.v (.agg [(vI a0.fKind), (vP eI a0.fLabels), (vP ep24 a0.fSubs), (vI a0.fLeast), (vI a0.fMost)])) (a0.fSubs.length : Int) v1 a0.fSubs a0.fKind v2 (a0.fKind == 1) d3 (d4::d5::d6::d7::d8::d9::d10::d11::d12::d13::d14::d15::d16::d17::d18::d19::(.ptr 0 0)::(dI a0.fKind)::(dB v27)::(dB v27)::d23::d24::d25::d26::(dB v41)::(dB v41)::d32::d33::d34::d35::d36::d37::d38::d39::d40::(dB v44)::(dB v44)::u40 (u36 [])), [(b26_0 a0)]⟩) ?_ fun G26g45 => Ops.sx (G26g45 v42 h)
    intro v44 h
    cases v44
    ·refine Ops.sg 2 23 ?_
     refine Ops.on 24 (fun h0 e0 => (len_r (T := T) h0 22 3 .plain eI a0.fLabels (by kernel_rfl))) ?_
     refine Ops.sg 2 26 ?_
     exact Ops.sx (J26j52 (.ptr 0 1) (dP eI a0.fLabels) (dI (a0.fLabels.length : Int)) (dB (decide ((a0.fLabels.length : Int) > 300))) false (decide ((a0.fLabels.length : Int) > 300)) h)
    ·refine Ops.sg 5 26 ?_
     exact Ops.sx (J26j52 U U U U true true h)
   refine Ops.hv (fun KQ => ∀ v30 : Bool, f26_r11 m a0 v1 (v30 || ((a0.fKind != 2) && (decide ((a0.fLabels.length : Int) > 0)))) = some o → KQ 10 ⟨Zs4 (.v (.agg [(vI a0.fKind), (vP eI a0.fLabels), (vP ep24 a0.fSubs), (vI a0.fLeast), (vI a0.fMost)])) (a0.fSubs.length : Int) v1 a0.fSubs a0.fKind v2 (a0.fKind == 1) d3 (d4::d5::d6::d7::d8::d9::d10::d11::d12::d13::d14::d15::d16::d17::d18::d19::(.ptr 0 0)::(dI a0.fKind)::(dB v27)::(dB v27)::d23::d24::d25::d26::(dB v30)::(dB v30)::u40 (u40 (u7 []))), [(b26_0 a0)]⟩) ?_ fun G26g31 => Ops.sx (G26g31 v28 h)
   intro v30 h
   cases v30
   ·refine Ops.sg 4 14 ?_
    refine Ops.hv (fun KQ => ∀ v188 : Bool, (f26_r11 m a0 v1 (false || (v188 && (decide ((a0.fLabels.length : Int) > 0))))) = some o → KQ 14 ⟨Zs4 (.v (.agg [(vI a0.fKind), (vP eI a0.fLabels), (vP ep24 a0.fSubs), (vI a0.fLeast), (vI a0.fMost)])) (a0.fSubs.length : Int) v1 a0.fSubs a0.fKind v2 (a0.fKind == 1) d3 (d4::d5::d6::d7::d8::d9::d10::d11::d12::d13::d14::d15::d16::d17::d18::d19::(.ptr 0 0)::(dI a0.fKind)::(dB v27)::(dB v27)::d23::d24::d25::d26::(dB false)::(dB false)::(.ptr 0 0)::(dI a0.fKind)::(dB v188)::(dB v188)::u40 (u40 (u3 []))), [(b26_0 a0)]⟩) ?_ fun G26g189 => Ops.sx (G26g189 (a0.fKind != 2) h)
    intro v188 h
    cases v188
    ·refine Ops.sg 6 20 ?_
     exact Ops.sx (J26j43 (.ptr 0 0) (dI a0.fKind) (dB false) (dB false) U U U U (dB false) false false h)
    ·refine Ops.sg 2 16 ?_
     refine Ops.on 17 (fun h0 e0 => (len_r (T := T) h0 22 3 .plain eI a0.fLabels (by kernel_rfl))) ?_
     refine Ops.sg 3 20 ?_
     exact Ops.sx (J26j43 (.ptr 0 0) (dI a0.fKind) (dB true) (dB true) (.ptr 0 1) (dP eI a0.fLabels) (dI (a0.fLabels.length : Int)) (dB (decide ((a0.fLabels.length : Int) > 0))) (dB (decide ((a0.fLabels.length : Int) > 0))) false (decide ((a0.fLabels.length : Int) > 0)) h)
   ·refine Ops.sg 10 20 ?_
    exact Ops.sx (J26j43 U U U U U U U U U true true h)
  refine Ops.hv (fun KQ => ∀ v21 : Bool, f26_r12 m a0 v1 (v21 && ((a0.fLabels.length : Int) == 0)) = some o → KQ 4 ⟨Zs4 (.v (.agg [(vI a0.fKind), (vP eI a0.fLabels), (vP ep24 a0.fSubs), (vI a0.fLeast), (vI a0.fMost)])) (a0.fSubs.length : Int) v1 a0.fSubs a0.fKind v2 (a0.fKind == 1) d3 (d4::d5::d6::d7::d8::d9::d10::d11::d12::d13::d14::d15::d16::d17::d18::d19::(.ptr 0 0)::(dI a0.fKind)::(dB v21)::(dB v21)::u40 (u40 (u13 []))), [(b26_0 a0)]⟩) ?_ fun G26g22 => Ops.sx (G26g22 (a0.fKind == 2) h)
  intro v21 h
  cases v21
  ·refine Ops.sg 5 9 ?_
   exact Ops.sx (J26j29 U U U U false false h)
  ·refine Ops.sg 2 6 ?_
   refine Ops.on 7 (fun h0 e0 => (len_r (T := T) h0 22 3 .plain eI a0.fLabels (by kernel_rfl))) ?_
   refine Ops.sg 2 9 ?_
   exact Ops.sx (J26j29 (.ptr 0 1) (dP eI a0.fLabels) (dI (a0.fLabels.length : Int)) (dB ((a0.fLabels.length : Int) == 0)) true ((a0.fLabels.length : Int) == 0) h)
 refine Wp.bk 0 [1, 2, 4] 1 (Wp.sq (Wp.sq (Wp.rg (Ops.sg 2 2 (Ops.dn (seqQ.n ?_))))))
 have J26j192 : ∀ (v190 : Bool) (d191 : D), f26_j19 m a0 v190 = some o → (seqQ (X26 n) (cR (cL (cR (cL (cR (cR (cR C26))))))) (blkQ (X26 n) 0 [1, 2, 4] 1 (seqQ (X26 n) p26_0 (fnQ (X26 n).E.T (resOf Proofs.Tryd.prog 26) (eI o))))) .normal ⟨Zs10 (.v (.agg [(vI a0.fKind), (vP eI a0.fLabels), (vP ep24 a0.fSubs), (vI a0.fLeast), (vI a0.fMost)])) (a0.fSubs.length : Int) a0.fSubs a0.fKind v190 ((dB (a0.fKind == 1))::d191::u40 (u40 (u33 []))), [(b26_0 a0)]⟩ := by
  intro v190 d191 h
  unfold f26_j19 at h
  refine seqQ.n ?_
  have J26j211 : ∀ (v193 : Bool) (d194 d195 d196 d197 d198 d199 d200 d201 d202 d203 d204 d205 d206 d207 d208 d209 d210 : D), f26_j14 m a0 v190 v193 = some o → (blkQ (X26 n) 0 [1, 2, 4] 1 (seqQ (X26 n) p26_0 (fnQ (X26 n).E.T (resOf Proofs.Tryd.prog 26) (eI o)))) .normal ⟨Zs4 (.v (.agg [(vI a0.fKind), (vP eI a0.fLabels), (vP ep24 a0.fSubs), (vI a0.fLeast), (vI a0.fMost)])) (a0.fSubs.length : Int) v193 a0.fSubs a0.fKind v190 (a0.fKind == 1) d194 (d195::d196::d197::d198::d199::d200::d201::d202::d203::d204::d205::d206::d207::d208::d209::d210::u40 (u40 (u17 []))), [(b26_0 a0)]⟩ := by
   intro v193 d194 d195 d196 d197 d198 d199 d200 d201 d202 d203 d204 d205 d206 d207 d208 d209 d210 h
   unfold f26_j14 at h
   refine blkQ.m ⟨Zs4 (.v (.agg [(vI a0.fKind), (vP eI a0.fLabels), (vP ep24 a0.fSubs), (vI a0.fLeast), (vI a0.fMost)])) (a0.fSubs.length : Int) v193 a0.fSubs a0.fKind v190 (a0.fKind == 1) d194 (d195::d196::d197::d198::d199::d200::d201::d202::d203::d204::d205::d206::d207::d208::d209::d210::u40 (u40 (u17 []))), [(b26_0 a0)]⟩ ?_
   exact J26j20 v193 v190 _ _ _ _ _ _ _ _ _ _ _ _ _ _ _ _ _ h
  refine Wp.cd h k26_1 1 (fun h => ?_) (fun h => ?_)
  ·refine Wp.rg (Ops.sg 3 3 (Ops.dn (sqQ.m ⟨Zs4 (.v (.agg [(vI a0.fKind), (vP eI a0.fLabels), (vP ep24 a0.fSubs), (vI a0.fLeast), (vI a0.fMost)])) (a0.fSubs.length : Int) ((a0.fSubs.length : Int) == 0) a0.fSubs a0.fKind v190 (a0.fKind == 1) d191 ((dI (a0.fSubs.length : Int))::(dB ((a0.fSubs.length : Int) == 0))::u40 (u40 (u31 []))), [(b26_0 a0)]⟩ ?_)))
   exact J26j211 ((a0.fSubs.length : Int) == 0) _ _ _ _ _ _ _ _ _ _ _ _ _ _ _ _ _ h
  ·refine Wp.sq (Wp.sq (Wp.rg (Ops.sg 2 2 (Ops.dn (seqQ.n ?_)))))
   have J26j215 : ∀ (v213 : Bool) (d212 d214 : D), f26_j18 m a0 v190 v213 = some o → (seqQ (X26 n) (cR (cR (cR (cL (cR (cL (cR (cR (cR C26))))))))) (sqQ (X26 n) k26_1 1 (blkQ (X26 n) 0 [1, 2, 4] 1 (seqQ (X26 n) p26_0 (fnQ (X26 n).E.T (resOf Proofs.Tryd.prog 26) (eI o)))))) .normal ⟨Zs10 (.v (.agg [(vI a0.fKind), (vP eI a0.fLabels), (vP ep24 a0.fSubs), (vI a0.fLeast), (vI a0.fMost)])) (a0.fSubs.length : Int) a0.fSubs a0.fKind v190 ((dB (a0.fKind == 1))::d212::u2 ((dB v213)::(dB (a0.fKind == 3))::d214::u40 (u40 (u28 [])))), [(b26_0 a0)]⟩ := by
    intro v213 d212 d214 h
    unfold f26_j18 at h
    refine seqQ.n ?_
    have J26j230 : ∀ (v216 : Bool) (d217 d218 d219 d220 d221 d222 d223 d224 d225 d226 d227 d228 d229 : D), f26_j15 m a0 v190 v216 = some o → (sqQ (X26 n) k26_1 1 (blkQ (X26 n) 0 [1, 2, 4] 1 (seqQ (X26 n) p26_0 (fnQ (X26 n).E.T (resOf Proofs.Tryd.prog 26) (eI o))))) .normal ⟨Zs4 (.v (.agg [(vI a0.fKind), (vP eI a0.fLabels), (vP ep24 a0.fSubs), (vI a0.fLeast), (vI a0.fMost)])) (a0.fSubs.length : Int) v216 a0.fSubs a0.fKind v190 (a0.fKind == 1) d217 (u2 ((dB v213)::(dB (a0.fKind == 3))::d218::d219::d220::d221::d222::d223::d224::d225::d226::d227::d228::d229::u40 (u40 (u17 [])))), [(b26_0 a0)]⟩ := by
     intro v216 d217 d218 d219 d220 d221 d222 d223 d224 d225 d226 d227 d228 d229 h
     unfold f26_j15 at h
     refine sqQ.m ⟨Zs4 (.v (.agg [(vI a0.fKind), (vP eI a0.fLabels), (vP ep24 a0.fSubs), (vI a0.fLeast), (vI a0.fMost)])) (a0.fSubs.length : Int) v216 a0.fSubs a0.fKind v190 (a0.fKind == 1) d217 (u2 ((dB v213)::(dB (a0.fKind == 3))::d218::d219::d220::d221::d222::d223::d224::d225::d226::d227::d228::d229::u40 (u40 (u17 [])))), [(b26_0 a0)]⟩ ?_
     exact J26j211 v216 _ _ _ _ _ _ _ _ _ _ _ _ _ _ _ _ _ h
    refine Wp.cd h [1, 2, 3, 4, 11, 17] 1 (fun h => ?_) (fun h => ?_)
    ·refine Wp.rg (Ops.sg 3 3 (Ops.dn (sqQ.m ⟨Zs4 (.v (.agg [(vI a0.fKind), (vP eI a0.fLabels), (vP ep24 a0.fSubs), (vI a0.fLeast), (vI a0.fMost)])) (a0.fSubs.length : Int) (decide ((a0.fSubs.length : Int) ≥ 2)) a0.fSubs a0.fKind v190 (a0.fKind == 1) d212 (u2 ((dB v213)::(dB (a0.fKind == 3))::d214::(dI (a0.fSubs.length : Int))::(dB (decide ((a0.fSubs.length : Int) ≥ 2)))::u40 (u40 (u26 [])))), [(b26_0 a0)]⟩ ?_)))
     exact J26j230 (decide ((a0.fSubs.length : Int) ≥ 2)) _ _ _ _ _ _ _ _ _ _ _ _ _ h
    ·refine Wp.sq (Wp.rg (Ops.sg 2 2 (Ops.dn (seqQ.n ?_))))
     have J26j241 : ∀ (v231 : Bool) (d232 d233 d234 d235 d236 d237 d238 d239 d240 : D), f26_j16 m a0 v190 v231 = some o → (sqQ (X26 n) [1, 2, 3, 4, 11, 17] 1 (sqQ (X26 n) k26_1 1 (blkQ (X26 n) 0 [1, 2, 4] 1 (seqQ (X26 n) p26_0 (fnQ (X26 n).E.T (resOf Proofs.Tryd.prog 26) (eI o)))))) .normal ⟨Zs4 (.v (.agg [(vI a0.fKind), (vP eI a0.fLabels), (vP ep24 a0.fSubs), (vI a0.fLeast), (vI a0.fMost)])) (a0.fSubs.length : Int) v231 a0.fSubs a0.fKind v190 (a0.fKind == 1) d232 (u2 ((dB v213)::(dB (a0.fKind == 3))::d233::u2 ((dB (a0.fKind == 5))::(dB (a0.fKind == 5))::d234::d235::d236::d237::d238::d239::d240::u40 (u40 (u17 []))))), [(b26_0 a0)]⟩ := by
      intro v231 d232 d233 d234 d235 d236 d237 d238 d239 d240 h
      unfold f26_j16 at h
      refine sqQ.m ⟨Zs4 (.v (.agg [(vI a0.fKind), (vP eI a0.fLabels), (vP ep24 a0.fSubs), (vI a0.fLeast), (vI a0.fMost)])) (a0.fSubs.length : Int) v231 a0.fSubs a0.fKind v190 (a0.fKind == 1) d232 (u2 ((dB v213)::(dB (a0.fKind == 3))::d233::u2 ((dB (a0.fKind == 5))::(dB (a0.fKind == 5))::d234::d235::d236::d237::d238::d239::d240::u40 (u40 (u17 []))))), [(b26_0 a0)]⟩ ?_
      exact J26j230 v231 _ _ _ _ _ _ _ _ _ _ _ _ _ h
     refine Wp.cd h [1, 2, 4] 1 (fun h => ?_) (fun h => ?_)
     ·refine Wp.rg (Ops.sg 3 3 (Ops.dn (sqQ.m ⟨Zs4 (.v (.agg [(vI a0.fKind), (vP eI a0.fLabels), (vP ep24 a0.fSubs), (vI a0.fLeast), (vI a0.fMost)])) (a0.fSubs.length : Int) ((a0.fSubs.length : Int) == 1) a0.fSubs a0.fKind v190 (a0.fKind == 1) d212 (u2 ((dB v213)::(dB (a0.fKind == 3))::d214::u2 ((dB (a0.fKind == 5))::(dB (a0.fKind == 5))::(dI (a0.fSubs.length : Int))::(dB ((a0.fSubs.length : Int) == 1))::u40 (u40 (u22 []))))), [(b26_0 a0)]⟩ ?_)))
      exact J26j241 ((a0.fSubs.length : Int) == 1) _ _ _ _ _ _ _ _ _ h
     ·refine Wp.sq (Wp.sq (Wp.rg (Ops.sg 2 2 (Ops.dn (seqQ.n ?_)))))
      have J26j246 : ∀ (v244 : Bool) (d242 d243 d245 : D), f26_j17 m a0 v190 v244 = some o → (seqQ (X26 n) (cR (cR (cR (cR (cR (cR (cR (cL (cR (cL (cR (cR (cR C26))))))))))))) (sqQ (X26 n) [1, 2, 4] 1 (sqQ (X26 n) [1, 2, 3, 4, 11, 17] 1 (sqQ (X26 n) k26_1 1 (blkQ (X26 n) 0 [1, 2, 4] 1 (seqQ (X26 n) p26_0 (fnQ (X26 n).E.T (resOf Proofs.Tryd.prog 26) (eI o)))))))) .normal ⟨Zs10 (.v (.agg [(vI a0.fKind), (vP eI a0.fLabels), (vP ep24 a0.fSubs), (vI a0.fLeast), (vI a0.fMost)])) (a0.fSubs.length : Int) a0.fSubs a0.fKind v190 ((dB (a0.fKind == 1))::d242::u2 ((dB v213)::(dB (a0.fKind == 3))::d243::u2 ((dB (a0.fKind == 5))::(dB (a0.fKind == 5))::u2 ((dB v244)::(dB (a0.fKind == 6))::d245::u40 (u40 (u19 [])))))), [(b26_0 a0)]⟩ := by
       intro v244 d242 d243 d245 h
       unfold f26_j17 at h
       refine seqQ.n ?_
       refine Wp.cd h [1, 2, 3, 4, 26] 1 (fun h => ?_) (fun h => ?_)
       ·refine Wp.rg (Ops.sg 3 3 (Ops.dn (sqQ.n' (sqQ.m ⟨Zs4 (.v (.agg [(vI a0.fKind), (vP eI a0.fLabels), (vP ep24 a0.fSubs), (vI a0.fLeast), (vI a0.fMost)])) (a0.fSubs.length : Int) ((a0.fSubs.length : Int) == 2) a0.fSubs a0.fKind v190 (a0.fKind == 1) d242 (u2 ((dB v213)::(dB (a0.fKind == 3))::d243::u2 ((dB (a0.fKind == 5))::(dB (a0.fKind == 5))::u2 ((dB v244)::(dB (a0.fKind == 6))::d245::(dI (a0.fSubs.length : Int))::(dB ((a0.fSubs.length : Int) == 2))::u40 (u40 (u17 [])))))), [(b26_0 a0)]⟩ ?_))))
        exact J26j241 ((a0.fSubs.length : Int) == 2) _ _ _ _ _ _ _ _ _ h
       ·refine Wp.sq (Wp.rg (Ops.sg 1 1 (Ops.dn (seqQ.n (Wp.rt (sqQ.r (sqQ.r (sqQ.r (sqQ.r (blkQ.r (seqQ.r ?_)))))))))))
        exact fnQ.r' (X26 n) (fun z => (eI z)) h (RetOk.mk' (dI 4) (by kernel_rfl) (by kernel_rfl))
      refine Wp.cd h [1, 2, 3, 4, 26] 1 (fun h => ?_) (fun h => ?_)
      ·refine Wp.sk (sqQ.m ⟨Zs10 (.v (.agg [(vI a0.fKind), (vP eI a0.fLabels), (vP ep24 a0.fSubs), (vI a0.fLeast), (vI a0.fMost)])) (a0.fSubs.length : Int) a0.fSubs a0.fKind v190 ((dB (a0.fKind == 1))::d212::u2 ((dB v213)::(dB (a0.fKind == 3))::d214::u2 ((dB (a0.fKind == 5))::(dB (a0.fKind == 5))::u2 ((dB (a0.fKind == 6))::(dB (a0.fKind == 6))::u40 (u40 (u20 [])))))), [(b26_0 a0)]⟩ ?_)
       exact J26j246 (a0.fKind == 6) _ _ _ h
      ·refine Wp.rg (Ops.sg 2 2 (Ops.dn (sqQ.m ⟨Zs10 (.v (.agg [(vI a0.fKind), (vP eI a0.fLabels), (vP ep24 a0.fSubs), (vI a0.fLeast), (vI a0.fMost)])) (a0.fSubs.length : Int) a0.fSubs a0.fKind v190 ((dB (a0.fKind == 1))::d212::u2 ((dB v213)::(dB (a0.fKind == 3))::d214::u2 ((dB (a0.fKind == 5))::(dB (a0.fKind == 5))::u2 ((dB (a0.fKind == 7))::(dB (a0.fKind == 6))::(dB (a0.fKind == 7))::u40 (u40 (u19 [])))))), [(b26_0 a0)]⟩ ?_)))
       exact J26j246 (a0.fKind == 7) _ _ _ h
   refine Wp.cd h [1, 2, 3, 4, 11, 17] 1 (fun h => ?_) (fun h => ?_)
   ·refine Wp.sk (sqQ.m ⟨Zs10 (.v (.agg [(vI a0.fKind), (vP eI a0.fLabels), (vP ep24 a0.fSubs), (vI a0.fLeast), (vI a0.fMost)])) (a0.fSubs.length : Int) a0.fSubs a0.fKind v190 ((dB (a0.fKind == 1))::d191::u2 ((dB (a0.fKind == 3))::(dB (a0.fKind == 3))::u40 (u40 (u29 [])))), [(b26_0 a0)]⟩ ?_)
    exact J26j215 (a0.fKind == 3) _ _ h
   ·refine Wp.rg (Ops.sg 2 2 (Ops.dn (sqQ.m ⟨Zs10 (.v (.agg [(vI a0.fKind), (vP eI a0.fLabels), (vP ep24 a0.fSubs), (vI a0.fLeast), (vI a0.fMost)])) (a0.fSubs.length : Int) a0.fSubs a0.fKind v190 ((dB (a0.fKind == 1))::d191::u2 ((dB (a0.fKind == 4))::(dB (a0.fKind == 3))::(dB (a0.fKind == 4))::u40 (u40 (u28 [])))), [(b26_0 a0)]⟩ ?_)))
    exact J26j215 (a0.fKind == 4) _ _ h
 refine Wp.cd h k26_1 1 (fun h => ?_) (fun h => ?_)
 ·refine Wp.sk (sqQ.m ⟨Zs10 (.v (.agg [(vI a0.fKind), (vP eI a0.fLabels), (vP ep24 a0.fSubs), (vI a0.fLeast), (vI a0.fMost)])) (a0.fSubs.length : Int) a0.fSubs a0.fKind (a0.fKind == 1) ((dB (a0.fKind == 1))::u40 (u40 (u34 []))), [(b26_0 a0)]⟩ ?_)
  exact J26j192 (a0.fKind == 1) _ h
 ·refine Wp.rg (Ops.sg 2 2 (Ops.dn (sqQ.m ⟨Zs10 (.v (.agg [(vI a0.fKind), (vP eI a0.fLabels), (vP ep24 a0.fSubs), (vI a0.fLeast), (vI a0.fMost)])) (a0.fSubs.length : Int) a0.fSubs a0.fKind (a0.fKind == 2) ((dB (a0.fKind == 1))::(dB (a0.fKind == 2))::u40 (u40 (u33 []))), [(b26_0 a0)]⟩ ?_)))
  exact J26j192 (a0.fKind == 2) _ h
noncomputable def f12_B1 (m : Nat) (v88 : S52) (v109 : (List S52)) (v110 : Int) : Option (Stp S27 ((List S52) × Int)) :=
 cnd (decide (v110 ≥ 0))
 (bnd (idx v88.fP.fSubs v110) fun v120 =>
 bnd (app 80 v109 ([(⟨v120.vw, w64 (v88.fDepth + 1)⟩ : S52)])) fun v121 =>
 some (.nxt (v121, w64 (v110 - 1))))
 (some (.brk (v109, v110)))
noncomputable def f12_j2 (m : Nat) (v78 : Int) (v88 : S52) (v89 : (List S52)) (v101 : Int) : Option (Stp S27 ((List S52) × Int)) :=
 brk (iter (fun (y : (List S52) × Int) => f12_B1 m v88 y.1 y.2) m (v89, w64 (v101 - 1))) (fun r => some (.ret r)) fun y123 =>
 some (.nxt (y123.1, w64 (v78 + 1)))
noncomputable def f12_r3 (m : Nat) (v78 : Int) (v88 : S52) (v89 : (List S52)) (v96 : Bool) : Option (Stp S27 ((List S52) × Int)) :=
 cnd v96
 (bnd (f25 m 2 v78) fun v98 =>
 some (.ret v98))
 (bnd (f26 m v88.fP) fun v99 =>
 cnd (v99 != 0)
 (bnd (f25 m v99 v78) fun v100 =>
 some (.ret v100))
 (cnd (decide ((v88.fP.fSubs.length : Int) > 201))
 (f12_j2 m v78 v88 v89 201)
 (f12_j2 m v78 v88 v89 (v88.fP.fSubs.length : Int))))
noncomputable def f12_B4 (m : Nat) (v77 : (List S52)) (v78 : Int) : Option (Stp S27 ((List S52) × Int)) :=
 cnd (decide ((v77.length : Int) > 0))
 (bnd (idx v77 (w64 ((v77.length : Int) - 1))) fun v88 =>
 bnd (sub v77 0 (w64 ((v77.length : Int) - 1))) fun v89 =>
 f12_r3 m v78 v88 v89 ((decide (v78 ≥ 200)) || (decide (v88.fDepth > 40))))
 (some (.brk (v77, v78)))
noncomputable def f12 (m : Nat) (a0 : S24) : Option S27 :=
 brk (iter (fun (y : (List S52) × Int) => f12_B4 m y.1 y.2) m ([(⟨a0, 1⟩ : S52)], 0)) some fun y126 =>
 some ((⟨0, 0⟩ : S27))
noncomputable abbrev X12 (n : Nat) : Cx := cxOf Proofs.Tryd.prog E 12 n
noncomputable def C12 : Code := bodyOf Proofs.Tryd.prog 12
noncomputable abbrev p12_0 : Code := cR (cR (cR C12))
noncomputable abbrev p12_1 : Code := cL (cL (cR (cL (cR (cR C12)))))
noncomputable abbrev p12_2 : Code := cR (cR p12_1)
noncomputable abbrev b12_0 (w0 : S24) : AObj := .cells [(dI w0.fKind), (dP eI w0.fLabels), (dP ep24 w0.fSubs), (dI w0.fLeast), (dI w0.fMost)]
noncomputable abbrev b12_1 : AObj := .cells [(dI 0), (dI 0)]
noncomputable abbrev b12_2 (w0 : S52) : AObj := .cells [(dI w0.fP.fKind), (dP eI w0.fP.fLabels), (dP ep24 w0.fP.fSubs), (dI w0.fP.fLeast), (dI w0.fP.fMost), (dI w0.fDepth)]
theorem ok12 (m : Nat) (a0 : S24) (o : S27) (h : f12 m a0 = some o) (n : Nat) (hn : m + 3 ≤ n) : Fn Proofs.Tryd.prog E n 12 [.v (e24 a0)] (e27 o) := by
 obtain ⟨n, rfl⟩ : ∃ q, n = q + 1 := ⟨n - 1, by omega⟩
 unfold f12 at h
 refine Fn.of (by kernel_rfl) (by kernel_rfl) (by kernel_rfl) ⟨(.v (.agg [(vI a0.fKind), (vP eI a0.fLabels), (vP ep24 a0.fSubs), (vI a0.fLeast), (vI a0.fMost)]))::u40 (u30 []), []⟩ (by kernel_rfl) (Wp.sq (Wp.rg (Ops.sg 2 2 (Ops.dn (seqQ.n (Wp.sq (Wp.rg (Ops.sg 4 4 (Ops.dn (seqQ.n (Wp.sq (Wp.sq (Wp.rg (Ops.sg 1 1 (Ops.dn (seqQ.n (Wp.bk 0 [2] 3 ?_)))))))))))))))))
 have hLx125 : ∀ (kx80 : Nat) (v77 : (List S52)) (v78 : Int)  (ox79 : S27 ⊕ ((List S52) × Int)), iter (fun (y : (List S52) × Int) => f12_B4 m y.1 y.2) kx80 (v77, v78) = some ox79 → ∀ nx81, kx80 ≤ nx81 → (∀ r, ox79 = .inl r → ∀ σ, RetOk (X12 n) (resOf Proofs.Tryd.prog 12) (e27 r) σ → (seqQ (X12 n) p12_0 (fnQ (X12 n).E.T (resOf Proofs.Tryd.prog 12) (e27 o))) .ret σ) → (∀ (y : (List S52) × Int) , ox79 = .inr y → (seqQ (X12 n) p12_0 (fnQ (X12 n).E.T (resOf Proofs.Tryd.prog 12) (e27 o))) .normal ⟨q2 ((.ptr 1 0)::q40 (q28 [])), [(b12_0 a0), b12_1, .dead, (.row 6 (List.map e52 y.1))]⟩) → Lp (X12 n) [2, 3, 4] 3 p12_1 nx81 ⟨q2 ((.ptr 1 0)::(pilD 3 (List.map e52 v77))::(dI v78)::q40 (q26 [])), [(b12_0 a0), b12_1, .dead, (.row 6 (List.map e52 v77))]⟩ (blkQ (X12 n) 0 [2] 3 (seqQ (X12 n) p12_0 (fnQ (X12 n).E.T (resOf Proofs.Tryd.prog 12) (e27 o)))) := by
  intro kx80
  induction kx80 with
  | zero => intro v77 v78  ox79 h; exact (iter_zero h).elim
  | succ kx80 ihx82 =>
   intro v77 v78  ox79 h nx81 hnx85 hrx83 hxx84
   obtain ⟨nx81, rfl⟩ : ∃ q, nx81 = q + 1 := ⟨nx81 - 1, by omega⟩
   obtain ⟨sx86, h, hsx87⟩ := iter_some h
   have h : f12_B4 m v77 v78 = some sx86 := h
   unfold f12_B4 at h
   refine Lp.succ (Wp.sq (Wp.sq (Wp.rg (Ops.sg 1 1 ?_))))
   refine Ops.on 2 (fun h0 e0 => (pil_len (T := T) h0 54 53 3 e52 v77 (by kernel_rfl))) ?_
   refine Ops.sg 1 3 (Ops.dn (seqQ.n ?_))
   refine Wp.cd h [2, 3, 4] 4 (fun h => ?_) (fun h => ?_)
   ·refine Wp.sk (sqQ.n' (seqQ.n (Wp.sq (Wp.bk 1 [2, 3, 4] 5 (Wp.sq (Wp.rg (Ops.sg 2 2 ?_)))))))
    refine Ops.on 3 (fun h0 e0 => (pil_len (T := T) h0 54 53 4 e52 v77 (by kernel_rfl))) ?_
    refine Ops.sg 1 4 ?_
    obtain ⟨v88, ev88, h⟩ := bnd_some h
    refine Ops.on 5 (fun h0 e0 => (pil_ix (T := T) h0 54 53 6 4 e52 v77 (w64 ((v77.length : Int) - 1)) v88 ev88 (by kernel_rfl) (by kernel_rfl) (hq_of e0 (by kernel_rfl)))) ?_
    refine Ops.on 6 (fun h0 e0 => (pil_ld (i := ti53) h0 6 4 0 e52 v77 (w64 ((v77.length : Int) - 1)) v88 (.agg [(vI v88.fP.fKind), (vP eI v88.fP.fLabels), (vP ep24 v88.fP.fSubs), (vI v88.fP.fLeast), (vI v88.fP.fMost), (vI v88.fDepth)]) ev88 (hq_of e0 (by kernel_rfl)) (by kernel_rfl))) ?_
    refine Ops.sg 2 8 (Ops.dn (seqQ.n (Wp.sq (Wp.rg (Ops.sg 2 2 ?_)))))
    refine Ops.on 3 (fun h0 e0 => (pil_len (T := T) h0 54 53 4 e52 v77 (by kernel_rfl))) ?_
    refine Ops.sg 1 4 ?_
    obtain ⟨v89, ev89, h⟩ := bnd_some h
    refine Ops.on 5 (fun h0 e0 => (pil_cut (T := T) h0 54 53 6 4 e52 v77 v89 (w64 ((v77.length : Int) - 1)) ev89 (by kernel_rfl) (by kernel_rfl) (hq_of e0 (by kernel_rfl)))) ?_
    refine Ops.sg 1 6 (Ops.dn (seqQ.n (Wp.sq (Wp.sq (Wp.rg (Ops.sg 3 3 ?_))))))
    refine Ops.hv (fun KQ => ∀ (d92 d93 d94 : D) (v95 v96 : Bool), f12_r3 m v78 v88 v89 v96 = some sx86 → KQ 7 ⟨Zs33 v89 v78 v77 (v77.length : Int) (w64 ((v77.length : Int) - 1)) (.eptr 4 (Int.toNat (w64 ((v77.length : Int) - 1))) 0) (.v (.agg [(vI v88.fP.fKind), (vP eI v88.fP.fLabels), (vP ep24 v88.fP.fSubs), (vI v88.fP.fLeast), (vI v88.fP.fMost), (vI v88.fDepth)])) v95 (d92::d93::d94::(dB v96)::q36 []), [(b12_0 a0), b12_1, .dead, .dead, (.row 6 (List.map e52 v89)), (b12_2 v88)]⟩) ?_ fun J12j97 => ?_
    ·intro d92 d93 d94 v95 v96 h
     unfold f12_r3 at h
     refine Ops.dn (seqQ.n ?_)
     refine Wp.cd h [2, 3, 4, 5] 6 (fun h => ?_) (fun h => ?_)
     ·refine Wp.sq (Wp.rg (Ops.sg 1 1 ?_))
      obtain ⟨v98, ev98, h⟩ := bnd_some h
      refine Ops.on 2 (fun h0 e0 => (call_ok (E' := E) (h := h0) (by kernel_rfl) (Args.v (vI 2) (eI 2) (by kernel_rfl) (Args.v (vI v78) (eI v78) (by kernel_rfl) Args.nil)) (ok25 m 2 v78 v98 ev98 n (by omega)))) ?_
      refine Ops.sg 1 3 (Ops.dn (seqQ.n (Wp.rt (sqQ.r (seqQ.r (blkQ.r (seqQ.r ?_)))))))
      cases h
      refine lpQ.r (blkQ.r ?_)
      exact hrx83 _ hsx87 _ (RetOk.forget [2, 3, 4] (by kernel_rfl) (RetOk.mk' (.v (.agg [(vI v98.fCode), (vI v98.fIndex)])) (by kernel_rfl) (by kernel_rfl)))
     ·refine Wp.sk (sqQ.n' (seqQ.n (Wp.sq (Wp.sq (Wp.rg (Ops.sg 2 2 ?_))))))
      obtain ⟨v99, ev99, h⟩ := bnd_some h
      refine Ops.on 3 (fun h0 e0 => (call_ok (E' := E) (h := h0) (by kernel_rfl) (Args.v (.agg [(vI v88.fP.fKind), (vP eI v88.fP.fLabels), (vP ep24 v88.fP.fSubs), (vI v88.fP.fLeast), (vI v88.fP.fMost)]) (e24 v88.fP) (by kernel_rfl) Args.nil) (ok26 m v88.fP v99 ev99 n (by omega)))) ?_
      refine Ops.sg 1 4 (Ops.dn (seqQ.n (Wp.sq (Wp.rg (Ops.sg 2 2 (Ops.dn (seqQ.n ?_)))))))
      refine Wp.cd h [2, 3, 4, 5] 7 (fun h => ?_) (fun h => ?_)
      ·refine Wp.sq (Wp.rg (Ops.sg 2 2 ?_))
       obtain ⟨v100, ev100, h⟩ := bnd_some h
       refine Ops.on 3 (fun h0 e0 => (call_ok (E' := E) (h := h0) (by kernel_rfl) (Args.v (vI v99) (eI v99) (by kernel_rfl) (Args.v (vI v78) (eI v78) (by kernel_rfl) Args.nil)) (ok25 m v99 v78 v100 ev100 n (by omega)))) ?_
       refine Ops.sg 1 4 (Ops.dn (seqQ.n (Wp.rt (sqQ.r (seqQ.r (blkQ.r (seqQ.r ?_)))))))
       cases h
       refine lpQ.r (blkQ.r ?_)
       exact hrx83 _ hsx87 _ (RetOk.forget [2, 3, 4] (by kernel_rfl) (RetOk.mk' (.v (.agg [(vI v100.fCode), (vI v100.fIndex)])) (by kernel_rfl) (by kernel_rfl)))
      ·refine Wp.sk (sqQ.n' (seqQ.n (Wp.sq (Wp.rg (Ops.sg 3 3 ?_)))))
       refine Ops.on 4 (fun h0 e0 => (len_r (T := T) h0 23 25 .plain ep24 v88.fP.fSubs (by kernel_rfl))) ?_
       refine Ops.sg 1 5 (Ops.dn (seqQ.n (Wp.sq (Wp.sq (Wp.rg (Ops.sg 2 2 (Ops.dn (seqQ.n ?_))))))))
       have J12j102 : ∀ (v101 : Int) , f12_j2 m v78 v88 v89 v101 = some sx86 → (seqQ (X12 n) (cR (cR (cR (cR (cR (cR (cL (cL (cR p12_1))))))))) (blkQ (X12 n) 1 [2, 3, 4] 5 (seqQ (X12 n) p12_2 (lpQ (X12 n) [2, 3, 4] 3 p12_1 nx81 (blkQ (X12 n) 0 [2] 3 (seqQ (X12 n) p12_0 (fnQ (X12 n).E.T (resOf Proofs.Tryd.prog 12) (e27 o)))))))) .normal ⟨Zs49 v89 v78 v101 [], [(b12_0 a0), b12_1, .dead, .dead, .dead, (b12_2 v88), .dead, .dead, (.row 6 (List.map e52 v89))]⟩ := by
        intro v101  h
        unfold f12_j2 at h
        refine seqQ.n (Wp.sq (Wp.rg (Ops.sg 3 3 (Ops.dn (seqQ.n (Wp.bk 2 [2, 3, 4] 9 ?_))))))
        have hLx122 : ∀ (kx112 : Nat) (v109 : (List S52)) (v110 : Int)  (ox111 : S27 ⊕ ((List S52) × Int)), iter (fun (y : (List S52) × Int) => f12_B1 m v88 y.1 y.2) kx112 (v109, v110) = some ox111 → ∀ nx113, kx112 ≤ nx113 → (∀ r, ox111 = .inl r → ∀ σ, RetOk (X12 n) (resOf Proofs.Tryd.prog 12) (e27 r) σ → (blkQ (X12 n) 1 [2, 3, 4] 5 (seqQ (X12 n) p12_2 (lpQ (X12 n) [2, 3, 4] 3 p12_1 nx81 (blkQ (X12 n) 0 [2] 3 (seqQ (X12 n) p12_0 (fnQ (X12 n).E.T (resOf Proofs.Tryd.prog 12) (e27 o))))))) .ret σ) → (∀ (y : (List S52) × Int) , ox111 = .inr y → (blkQ (X12 n) 1 [2, 3, 4] 5 (seqQ (X12 n) p12_2 (lpQ (X12 n) [2, 3, 4] 3 p12_1 nx81 (blkQ (X12 n) 0 [2] 3 (seqQ (X12 n) p12_0 (fnQ (X12 n).E.T (resOf Proofs.Tryd.prog 12) (e27 o))))))) .normal ⟨Zs45 y.1 v78 (q40 (q26 [])), [(b12_0 a0), b12_1, .dead, .dead, .dead, (b12_2 v88), .dead, .dead, .dead, (.row 6 (List.map e52 y.1))]⟩) → Lp (X12 n) [2, 3, 4, 5, 8] 9 (cL (cL (cR (cR (cR (cR (cR (cR (cR (cL (cL (cR p12_1)))))))))))) nx113 ⟨Zs45 v109 v78 ((.ptr 5 0)::q2 ((dI v110)::q40 (q22 []))), [(b12_0 a0), b12_1, .dead, .dead, .dead, (b12_2 v88), .dead, .dead, .dead, (.row 6 (List.map e52 v109))]⟩ (blkQ (X12 n) 2 [2, 3, 4] 9 (blkQ (X12 n) 1 [2, 3, 4] 5 (seqQ (X12 n) p12_2 (lpQ (X12 n) [2, 3, 4] 3 p12_1 nx81 (blkQ (X12 n) 0 [2] 3 (seqQ (X12 n) p12_0 (fnQ (X12 n).E.T (resOf Proofs.Tryd.prog 12) (e27 o)))))))) := by
         intro kx112
         induction kx112 with
         | zero => intro v109 v110  ox111 h; exact (iter_zero h).elim
         | succ kx112 ihx114 =>
          intro v109 v110  ox111 h nx113 hnx117 hrx115 hxx116
          obtain ⟨nx113, rfl⟩ : ∃ q, nx113 = q + 1 := ⟨nx113 - 1, by omega⟩
          obtain ⟨sx118, h, hsx119⟩ := iter_some h
          have h : f12_B1 m v88 v109 v110 = some sx118 := h
          unfold f12_B1 at h
          refine Lp.succ (Wp.sq (Wp.sq (Wp.rg (Ops.sg 2 2 (Ops.dn (seqQ.n ?_))))))
          refine Wp.cd h [2, 3, 4, 5, 8] 10 (fun h => ?_) (fun h => ?_)
          ·refine Wp.sk (sqQ.n' (seqQ.n (Wp.sq (Wp.bk 3 [2, 3, 4, 5, 8] 11 (Wp.rg (Ops.sg 5 5 ?_))))))
           obtain ⟨v120, ev120, h⟩ := bnd_some h
           refine Ops.on 6 (fun h0 e0 => (ixb24 (ix_r (T := T) h0 23 25 5 .plain ep24 v88.fP.fSubs v110 v120 ev120 (by kernel_rfl) (by kernel_rfl) ep24_len))) ?_
           refine Ops.sg 6 12 ?_
           obtain ⟨v121, ev121, h⟩ := bnd_some h
           refine Ops.on 13 (fun h0 e0 => (pil_app (T := T) h0 54 53 10 11 ti53 e52 v109 ([(⟨v120.vw, w64 (v88.fDepth + 1)⟩ : S52)]) v121 ev121 (by kernel_rfl) (by kernel_rfl) (by kernel_rfl) (by kernel_rfl) (hq_of e0 (by kernel_rfl)) (hq_of e0 (by kernel_rfl)))) ?_
           refine Ops.sg 1 14 (Ops.dn (blkQ.n' (seqQ.n (Wp.rg (Ops.sg 3 3 (Ops.dn (lpQ.m ⟨Zs45 v121 v78 ((.ptr 5 0)::q2 ((dI (w64 (v110 - 1)))::q40 (q22 []))), [(b12_0 a0), b12_1, .dead, .dead, .dead, (b12_2 v88), .dead, .dead, .dead, (.row 6 (List.map e52 v121))]⟩ ?_)))))))
           cases h
           exact ihx114 v121 (w64 (v110 - 1))  _ hsx119 _ (by omega) hrx115 hxx116
          ·refine Wp.ex 2 (sqQ.x (seqQ.x ?_))
           cases h
           refine lpQ.x (blkQ.w ⟨Zs45 v109 v78 (q40 (q26 [])), [(b12_0 a0), b12_1, .dead, .dead, .dead, (b12_2 v88), .dead, .dead, .dead, (.row 6 (List.map e52 v109))]⟩ ?_)
           exact hxx116 (v109, v110)  hsx119
        refine Wp.loop' [2, 3, 4, 5, 8] 9 (by kernel_rfl) ⟨Zs45 v89 v78 ((.ptr 5 0)::q2 ((dI (w64 (v101 - 1)))::q40 (q22 []))), [(b12_0 a0), b12_1, .dead, .dead, .dead, (b12_2 v88), .dead, .dead, .dead, (.row 6 (List.map e52 v89))]⟩ (by kernel_rfl) ?_
        rcases brk_some h with ⟨r124, er124, h⟩ | ⟨y123, ey123, h⟩
        ·refine hLx122 _ v89 (w64 (v101 - 1))  _ er124 n (by omega) (fun r er σ hσ => ?_) (fun y  ey => by cases ey)
         cases er
         refine blkQ.r (seqQ.r (lpQ.r ?_))
         cases h
         refine blkQ.r ?_
         exact hrx83 _ hsx87 _ (RetOk.forget [2, 3, 4] (by kernel_rfl) hσ)
        ·refine hLx122 _ v89 (w64 (v101 - 1))  _ ey123 n (by omega) (fun r er => by cases er) (fun y  ey => ?_)
         cases ey
         refine blkQ.n' (seqQ.n (Wp.rg (Ops.sg 3 3 (Ops.dn (lpQ.m ⟨q2 ((.ptr 1 0)::(pilD 3 (List.map e52 y123.1))::(dI (w64 (v78 + 1)))::q40 (q26 [])), [(b12_0 a0), b12_1, .dead, (.row 6 (List.map e52 y123.1))]⟩ ?_)))))
         cases h
         exact ihx82 y123.1 (w64 (v78 + 1))  _ hsx87 _ (by omega) hrx83 hxx84
       refine Wp.cd h [2, 3, 4, 5, 7] 8 (fun h => ?_) (fun h => ?_)
       ·refine Wp.rg (Ops.sg 1 1 (Ops.dn (sqQ.m ⟨Zs49 v89 v78 201 [], [(b12_0 a0), b12_1, .dead, .dead, .dead, (b12_2 v88), .dead, .dead, (.row 6 (List.map e52 v89))]⟩ ?_)))
        exact J12j102 201  h
       ·refine Wp.sk (sqQ.m ⟨Zs49 v89 v78 (v88.fP.fSubs.length : Int) [], [(b12_0 a0), b12_1, .dead, .dead, .dead, (b12_2 v88), .dead, .dead, (.row 6 (List.map e52 v89))]⟩ ?_)
        exact J12j102 (v88.fP.fSubs.length : Int)  h
    refine Ops.hv (fun KQ => ∀ v90 : Bool, f12_r3 m v78 v88 v89 (v90 || (decide (v88.fDepth > 40))) = some sx86 → KQ 3 ⟨Zs33 v89 v78 v77 (v77.length : Int) (w64 ((v77.length : Int) - 1)) (.eptr 4 (Int.toNat (w64 ((v77.length : Int) - 1))) 0) (.v (.agg [(vI v88.fP.fKind), (vP eI v88.fP.fLabels), (vP ep24 v88.fP.fSubs), (vI v88.fP.fLeast), (vI v88.fP.fMost), (vI v88.fDepth)])) v90 (q40 []), [(b12_0 a0), b12_1, .dead, .dead, (.row 6 (List.map e52 v89)), (b12_2 v88)]⟩) ?_ fun G12g91 => Ops.sx (G12g91 (decide (v78 ≥ 200)) h)
    intro v90 h
    cases v90
    ·refine Ops.sg 4 7 ?_
     exact Ops.sx (J12j97 (.ptr 5 5) (dI v88.fDepth) (dB (decide (v88.fDepth > 40))) false (decide (v88.fDepth > 40)) h)
    ·refine Ops.sg 4 7 ?_
     exact Ops.sx (J12j97 U U U true true h)
   ·refine Wp.ex 0 (sqQ.x (seqQ.x ?_))
    cases h
    refine lpQ.x (blkQ.w ⟨q2 ((.ptr 1 0)::q40 (q28 [])), [(b12_0 a0), b12_1, .dead, (.row 6 (List.map e52 v77))]⟩ ?_)
    exact hxx84 (v77, v78)  hsx87
 refine Wp.loop' [2, 3, 4] 3 (by kernel_rfl) ⟨q2 ((.ptr 1 0)::(pilD 3 (List.map e52 ([(⟨a0, 1⟩ : S52)])))::(dI 0)::q40 (q26 [])), [(b12_0 a0), b12_1, .dead, (.row 6 (List.map e52 ([(⟨a0, 1⟩ : S52)])))]⟩ (by kernel_rfl) ?_
 rcases brk_some h with ⟨r127, er127, h⟩ | ⟨y126, ey126, h⟩
 ·refine hLx125 _ ([(⟨a0, 1⟩ : S52)]) 0  _ er127 n (by omega) (fun r er σ hσ => ?_) (fun y  ey => by cases ey)
  cases er
  refine seqQ.r ?_
  exact fnQ.r' (X12 n) (fun z => (e27 z)) h hσ
 ·refine hLx125 _ ([(⟨a0, 1⟩ : S52)]) 0  _ ey126 n (by omega) (fun r er => by cases er) (fun y  ey => ?_)
  cases ey
  refine seqQ.n (Wp.sq (Wp.rg (Ops.sg 2 2 (Ops.dn (seqQ.n (Wp.rt ?_))))))
  exact fnQ.r' (X12 n) (fun z => (e27 z)) h (RetOk.mk' (.v (.agg [(vI 0), (vI 0)])) (by kernel_rfl) (by kernel_rfl))
noncomputable def f14 (m : Nat) (a0 : ByteArray) : Option (S24 × S27) :=
 bnd (f29 m a0) fun v1 =>
 cnd (!((v1.2.fCode == 0) && ((v1.2.fIndex == 0) && true)))
 (some (((⟨0, [], [], 0, 0⟩ : S24), v1.2)))
 (bnd (f30 m v1.1) fun v2 =>
 cnd (decide (v2.2 ≥ 0))
 (bnd (f25 m 11 v2.2) fun v3 =>
 some (((⟨0, [], [], 0, 0⟩ : S24), v3)))
 (bnd (f31 m v2.1) fun v4 =>
 bnd (f12 m v4) fun v5 =>
 cnd (!((v5.fCode == 0) && ((v5.fIndex == 0) && true)))
 (some (((⟨0, [], [], 0, 0⟩ : S24), v5)))
 (some ((v4, (⟨0, 0⟩ : S27))))))
noncomputable abbrev X14 (n : Nat) : Cx := cxOf Proofs.Tryd.prog E 14 n
theorem ok14 (m : Nat) (a0 : ByteArray) (o : (S24 × S27)) (h : f14 m a0 = some o) (n : Nat) (hn : 2 * m + 4 ≤ n) : Fn Proofs.Tryd.prog E n 14 [.v (eS a0)] (.tuple [e24 o.1, e27 o.2]) := by
 obtain ⟨n, rfl⟩ : ∃ q, n = q + 1 := ⟨n - 1, by omega⟩
 unfold f14 at h
 refine Fn.of (by kernel_rfl) (by kernel_rfl) (by kernel_rfl) ⟨(.v (.str a0))::u40 [], []⟩ (by kernel_rfl) (Wp.sq (Wp.rg (Ops.sg 2 2 (Ops.dn (seqQ.n (Wp.sq (Wp.rg (Ops.sg 1 1 ?_))))))))
 obtain ⟨v1, ev1, h⟩ := bnd_some h
 refine Ops.on 2 (fun h0 e0 => (call_ok (E' := E) (h := h0) (by kernel_rfl) (Args.v (.str a0) (eS a0) (by kernel_rfl) Args.nil) (ok29 m a0 v1 ev1 n (by omega)))) ?_
 refine Ops.sg 6 8 (Ops.dn (seqQ.n (Wp.sq (Wp.sq (Wp.rg (Ops.sg 3 3 (Ops.dn (seqQ.n ?_))))))))
 refine Wp.cd h [2, 3, 4] 3 (fun h => ?_) (fun h => ?_)
 ·refine Wp.sq (Wp.regionF (by kernel_rfl) (Ops.sg 4 4 (Ops.dn (seqQ.n (Wp.rt (sqQ.r (seqQ.r ?_)))))))
  exact fnQ.r' (X14 n) (fun z => (.tuple [e24 z.1, e27 z.2])) h (RetOk.mk' (.v (.tuple [(.agg [(vI 0), (.sl .nil (List.map eI [])), (.sl .nil (List.map ep24 [])), (vI 0), (vI 0)]), (.agg [(vI v1.2.fCode), (vI v1.2.fIndex)])])) (by kernel_rfl) (by kernel_rfl))
 ·refine Wp.sk (sqQ.n' (seqQ.n (Wp.sq (Wp.rg (Ops.sg 1 1 ?_)))))
  obtain ⟨v2, ev2, h⟩ := bnd_some h
  refine Ops.on 2 (fun h0 e0 => (call_ok (E' := E) (h := h0) (by kernel_rfl) (Args.v (vP eI v1.1) ((eL eI) v1.1) (by kernel_rfl) Args.nil) (ok30 m v1.1 v2 ev2 n (by omega)))) ?_
  refine Ops.sg 5 7 (Ops.dn (seqQ.n (Wp.sq (Wp.sq (Wp.rg (Ops.sg 2 2 (Ops.dn (seqQ.n ?_))))))))
  refine Wp.cd h [2, 3, 6] 3 (fun h => ?_) (fun h => ?_)
  ·refine Wp.sq (Wp.rg (Ops.sg 2 2 ?_))
   obtain ⟨v3, ev3, h⟩ := bnd_some h
   refine Ops.on 3 (fun h0 e0 => (call_ok (E' := E) (h := h0) (by kernel_rfl) (Args.v (vI 11) (eI 11) (by kernel_rfl) (Args.v (vI v2.2) (eI v2.2) (by kernel_rfl) Args.nil)) (ok25 m 11 v2.2 v3 ev3 n (by omega)))) ?_
   refine Ops.sg 2 5 (Ops.dn (seqQ.n (Wp.rt (sqQ.r (seqQ.r ?_)))))
   exact fnQ.r' (X14 n) (fun z => (.tuple [e24 z.1, e27 z.2])) h (RetOk.mk' (.v (.tuple [(.agg [(vI 0), (.sl .nil (List.map eI [])), (.sl .nil (List.map ep24 [])), (vI 0), (vI 0)]), (.agg [(vI v3.fCode), (vI v3.fIndex)])])) (by kernel_rfl) (by kernel_rfl))
  ·refine Wp.sk (sqQ.n' (seqQ.n (Wp.sq (Wp.rg (Ops.sg 1 1 ?_)))))
   obtain ⟨v4, ev4, h⟩ := bnd_some h
   refine Ops.on 2 (fun h0 e0 => (call_ok (E' := E) (h := h0) (by kernel_rfl) (Args.v (vP e81 v2.1) ((eL e81) v2.1) (by kernel_rfl) Args.nil) (ok31 m v2.1 v4 ev4 n (by omega)))) ?_
   refine Ops.sg 2 4 (Ops.dn (seqQ.n (Wp.sq (Wp.sq (Wp.rg (Ops.sg 1 1 ?_))))))
   obtain ⟨v5, ev5, h⟩ := bnd_some h
   refine Ops.on 2 (fun h0 e0 => (call_ok (E' := E) (h := h0) (by kernel_rfl) (Args.v (.agg [(vI v4.fKind), (vP eI v4.fLabels), (vP ep24 v4.fSubs), (vI v4.fLeast), (vI v4.fMost)]) (e24 v4) (by kernel_rfl) Args.nil) (ok12 m v4 v5 ev5 n (by omega)))) ?_
   refine Ops.sg 2 4 (Ops.dn (seqQ.n (Wp.sq (Wp.rg (Ops.sg 3 3 (Ops.dn (seqQ.n ?_)))))))
   refine Wp.cd h [2, 3, 8] 5 (fun h => ?_) (fun h => ?_)
   ·refine Wp.sq (Wp.regionF (by kernel_rfl) (Ops.sg 4 4 (Ops.dn (seqQ.n (Wp.rt (sqQ.r (seqQ.r ?_)))))))
    exact fnQ.r' (X14 n) (fun z => (.tuple [e24 z.1, e27 z.2])) h (RetOk.mk' (.v (.tuple [(.agg [(vI 0), (.sl .nil (List.map eI [])), (.sl .nil (List.map ep24 [])), (vI 0), (vI 0)]), (.agg [(vI v5.fCode), (vI v5.fIndex)])])) (by kernel_rfl) (by kernel_rfl))
   ·refine Wp.sk (sqQ.n' (seqQ.n (Wp.sq (Wp.rg (Ops.sg 4 4 (Ops.dn (seqQ.n (Wp.rt ?_))))))))
    exact fnQ.r' (X14 n) (fun z => (.tuple [e24 z.1, e27 z.2])) h (RetOk.mk' (.v (.tuple [(.agg [(vI v4.fKind), (vP eI v4.fLabels), (vP ep24 v4.fSubs), (vI v4.fLeast), (vI v4.fMost)]), (.agg [(vI 0), (vI 0)])])) (by kernel_rfl) (by kernel_rfl))
noncomputable def f32_B1 (m : Nat) (a0 a1 : (List Int)) (v6 : Int) : Option (Stp Bool (Int)) :=
 cnd (decide (v6 < (a0.length : Int)))
 (bnd (idx a0 v6) fun v16 =>
 bnd (idx a1 v6) fun v17 =>
 cnd (v16 != v17)
 (some (.ret false))
 (some (.nxt (w64 (v6 + 1)))))
 (some (.brk v6))
noncomputable def f32 (m : Nat) (a0 a1 : (List Int)) : Option Bool :=
 cnd ((a0.length : Int) != (a1.length : Int))
 (some false)
 (brk (iter (fun (y : Int) => f32_B1 m a0 a1 y) m 0) some fun y19 =>
 some true)
noncomputable abbrev X32 (n : Nat) : Cx := cxOf Proofs.Tryd.prog E 32 n
noncomputable def C32 : Code := bodyOf Proofs.Tryd.prog 32
theorem ok32 (m : Nat) (a0 a1 : (List Int)) (o : Bool) (h : f32 m a0 a1 = some o) (n : Nat) (hn : m + 1 ≤ n) : Fn Proofs.Tryd.prog E n 32 [.v ((eL eI) a0), .v ((eL eI) a1)] (eB o) := by
 obtain ⟨n, rfl⟩ : ∃ q, n = q + 1 := ⟨n - 1, by omega⟩
 unfold f32 at h
 refine Fn.of (by kernel_rfl) (by kernel_rfl) (by kernel_rfl) ⟨(dP eI a0)::(dP eI a1)::u24 [], []⟩ (by kernel_rfl) (Wp.sq (Wp.rg (Ops.sg 1 1 (Ops.dn (seqQ.n (Wp.sq (Wp.sq (Wp.rg (Ops.sg 1 1 ?_)))))))))
 refine Ops.on 2 (fun h0 e0 => (len_r (T := T) h0 22 3 .plain eI a0 (by kernel_rfl))) ?_
 refine Ops.sg 1 3 ?_
 refine Ops.on 4 (fun h0 e0 => (len_r (T := T) h0 22 3 .plain eI a1 (by kernel_rfl))) ?_
 refine Ops.sg 1 5 (Ops.dn (seqQ.n ?_))
 refine Wp.cd h [0, 1, 4] 0 (fun h => ?_) (fun h => ?_)
 ·refine Wp.sq (Wp.rg (Ops.sg 1 1 (Ops.dn (seqQ.n (Wp.rt (sqQ.r (seqQ.r ?_)))))))
  exact fnQ.r' (X32 n) (fun z => (eB z)) h (RetOk.mk' (dB false) (by kernel_rfl) (by kernel_rfl))
 ·refine Wp.sk (sqQ.n' (seqQ.n (Wp.sq (Wp.sq (Wp.rg (Ops.sg 1 1 ?_))))))
  refine Ops.on 2 (fun h0 e0 => (len_r (T := T) h0 22 3 .plain eI a0 (by kernel_rfl))) ?_
  refine Ops.sg 1 3 (Ops.dn (seqQ.n (Wp.bk 0 [4] 0 ?_)))
  have hLx18 : ∀ (kx8 : Nat) (v6 : Int)  (ox7 : Bool ⊕ (Int)), iter (fun (y : Int) => f32_B1 m a0 a1 y) kx8 v6 = some ox7 → ∀ nx9, kx8 ≤ nx9 → (∀ r, ox7 = .inl r → ∀ σ, RetOk (X32 n) (resOf Proofs.Tryd.prog 32) (eB r) σ → (seqQ (X32 n) (cR (cR (cR C32))) (fnQ (X32 n).E.T (resOf Proofs.Tryd.prog 32) (eB o))) .ret σ) → (∀ (y : Int) , ox7 = .inr y → (seqQ (X32 n) (cR (cR (cR C32))) (fnQ (X32 n).E.T (resOf Proofs.Tryd.prog 32) (eB o))) .normal ⟨Zs46 a0 a1 (a0.length : Int) ((dI y)::q12 []), []⟩) → Lp (X32 n) [0, 1, 4, 12, 13] 0 (cL (cL (cR (cL (cR (cR C32)))))) nx9 ⟨Zs46 a0 a1 (a0.length : Int) ((dI v6)::q12 []), []⟩ (blkQ (X32 n) 0 [4] 0 (seqQ (X32 n) (cR (cR (cR C32))) (fnQ (X32 n).E.T (resOf Proofs.Tryd.prog 32) (eB o)))) := by
   intro kx8
   induction kx8 with
   | zero => intro v6  ox7 h; exact (iter_zero h).elim
   | succ kx8 ihx10 =>
    intro v6  ox7 h nx9 hnx13 hrx11 hxx12
    obtain ⟨nx9, rfl⟩ : ∃ q, nx9 = q + 1 := ⟨nx9 - 1, by omega⟩
    obtain ⟨sx14, h, hsx15⟩ := iter_some h
    have h : f32_B1 m a0 a1 v6 = some sx14 := h
    unfold f32_B1 at h
    refine Lp.succ (Wp.sq (Wp.rg (Ops.sg 1 1 (Ops.dn (seqQ.n (Wp.sq ?_))))))
    refine Wp.cd h [0, 1, 4, 12, 13] 0 (fun h => ?_) (fun h => ?_)
    ·refine Wp.sk (sqQ.n' (seqQ.n (Wp.sq (Wp.bk 1 [0, 1, 4, 12, 13] 0 (Wp.sq (Wp.rg (Ops.sg 2 2 (Ops.dn (seqQ.n (Wp.sq (Wp.rg (Ops.sg 2 2 ?_))))))))))))
     obtain ⟨v16, ev16, h⟩ := bnd_some h
     refine Ops.on 3 (fun h0 e0 => (ix_r (T := T) h0 22 3 1 .plain eI a0 v6 v16 ev16 (by kernel_rfl) (by kernel_rfl) (fun _ => rfl))) ?_
     refine Ops.sg 3 6 ?_
     obtain ⟨v17, ev17, h⟩ := bnd_some h
     refine Ops.on 7 (fun h0 e0 => (ix_r (T := T) h0 22 3 1 .plain eI a1 v6 v17 ev17 (by kernel_rfl) (by kernel_rfl) (fun _ => rfl))) ?_
     refine Ops.sg 2 9 (Ops.dn (seqQ.n ?_))
     refine Wp.cd h [0, 1, 4, 12, 13] 0 (fun h => ?_) (fun h => ?_)
     ·refine Wp.sq (Wp.rg (Ops.sg 1 1 (Ops.dn (seqQ.n (Wp.rt (sqQ.r (blkQ.r (seqQ.r ?_))))))))
      cases h
      refine lpQ.r (blkQ.r ?_)
      exact hrx11 _ hsx15 _ (RetOk.forget [0, 1, 4, 12, 13] (by kernel_rfl) (RetOk.mk' (dB false) (by kernel_rfl) (by kernel_rfl)))
     ·refine Wp.sk (sqQ.n' (blkQ.n' (seqQ.n (Wp.rg (Ops.sg 2 2 (Ops.dn (lpQ.m ⟨Zs46 a0 a1 (a0.length : Int) ((dI (w64 (v6 + 1)))::q12 []), []⟩ ?_)))))))
      cases h
      exact ihx10 (w64 (v6 + 1))  _ hsx15 _ (by omega) hrx11 hxx12
    ·refine Wp.ex 0 (sqQ.x (seqQ.x ?_))
     cases h
     refine lpQ.x (blkQ.w ⟨Zs46 a0 a1 (a0.length : Int) ((dI v6)::q12 []), []⟩ ?_)
     exact hxx12 v6  hsx15
  refine Wp.loop' [0, 1, 4, 12, 13] 0 (by kernel_rfl) ⟨Zs46 a0 a1 (a0.length : Int) ((dI 0)::q12 []), []⟩ (by kernel_rfl) ?_
  rcases brk_some h with ⟨r20, er20, h⟩ | ⟨y19, ey19, h⟩
  ·refine hLx18 _ 0  _ er20 n (by omega) (fun r er σ hσ => ?_) (fun y  ey => by cases ey)
   cases er
   refine seqQ.r ?_
   exact fnQ.r' (X32 n) (fun z => (eB z)) h hσ
  ·refine hLx18 _ 0  _ ey19 n (by omega) (fun r er => by cases er) (fun y  ey => ?_)
   cases ey
   refine seqQ.n (Wp.sq (Wp.rg (Ops.sg 1 1 (Ops.dn (seqQ.n (Wp.rt ?_))))))
   exact fnQ.r' (X32 n) (fun z => (eB z)) h (RetOk.mk' (dB true) (by kernel_rfl) (by kernel_rfl))
structure Rec15 where
 r15 : S24 → S24 → Int → Option Bool
structure OkRec15 (m : Nat) (K : Rec15) (nn : Nat) : Prop where
 ok15 : ∀ (a0 a1 : S24) (a2 : Int) (o : Bool), K.r15 a0 a1 a2 = some o → ∀ n, nn ≤ n → Fn Proofs.Tryd.prog E n 15 [.v (e24 a0), .v (e24 a1), .v (eI a2)] (eB o)
noncomputable def f15_B1 (m : Nat) (K : Rec15) (a0 a1 : S24) (a2 v61 : Int) : Option (Stp Bool (Int)) :=
 cnd (decide (v61 < (a0.fSubs.length : Int)))
 (bnd (idx a0.fSubs v61) fun v71 =>
 bnd (idx a1.fSubs v61) fun v72 =>
 bnd (K.r15 v71.vw v72.vw (w64 (a2 - 1))) fun v73 =>
 cnd (!v73)
 (some (.ret false))
 (some (.nxt (w64 (v61 + 1)))))
 (some (.brk v61))
noncomputable def f15_r2 (m : Nat) (K : Rec15) (a0 a1 : S24) (a2 : Int) (v52 : Bool) : Option Bool :=
 cnd v52
 (some false)
 (brk (iter (fun (y : Int) => f15_B1 m K a0 a1 a2 y) m 0) some fun y75 =>
 some true)
noncomputable def f15_r3 (m : Nat) (K : Rec15) (a0 a1 : S24) (a2 : Int) (v40 : Bool) : Option Bool :=
 f15_r2 m K a0 a1 a2 (v40 || ((a0.fSubs.length : Int) != (a1.fSubs.length : Int)))
noncomputable def f15_r4 (m : Nat) (K : Rec15) (a0 a1 : S24) (a2 : Int) (v29 : Bool) : Option Bool :=
 bnd (cnd v29
 (some true)
 (bnd (f32 m a0.fLabels a1.fLabels) fun v77 =>
 some (!v77))) fun v40 =>
 f15_r3 m K a0 a1 a2 v40
noncomputable def f15_r5 (m : Nat) (K : Rec15) (a0 a1 : S24) (a2 : Int) (v19 : Bool) : Option Bool :=
 f15_r4 m K a0 a1 a2 (v19 || (a0.fMost != a1.fMost))
noncomputable def f15_r6 (m : Nat) (K : Rec15) (a0 a1 : S24) (a2 : Int) (v9 : Bool) : Option Bool :=
 f15_r5 m K a0 a1 a2 (v9 || (a0.fLeast != a1.fLeast))
noncomputable def b15 (m : Nat) (K : Rec15) (a0 a1 : S24) (a2 : Int) : Option Bool :=
 f15_r6 m K a0 a1 a2 ((a2 == 0) || (a0.fKind != a1.fKind))
noncomputable abbrev X15 (n : Nat) : Cx := cxOf Proofs.Tryd.prog E 15 n
noncomputable def C15 : Code := bodyOf Proofs.Tryd.prog 15
noncomputable abbrev b15_0 (w0 : S24) : AObj := .cells [(dI w0.fKind), (dP eI w0.fLabels), (dP ep24 w0.fSubs), (dI w0.fLeast), (dI w0.fMost)]
noncomputable abbrev k15_0 : List Nat := [2, 3, 4, 6, 50, 51]
theorem okb15 (m : Nat) (K : Rec15) (nn : Nat) (hK : OkRec15 m K nn) (a0 a1 : S24) (a2 : Int) (o : Bool) (h : b15 m K a0 a1 a2 = some o) (n : Nat) (hn : m + 2 ≤ n) (hk : nn + 1 ≤ n) : Fn Proofs.Tryd.prog E n 15 [.v (e24 a0), .v (e24 a1), .v (eI a2)] (eB o) := by
 obtain ⟨n, rfl⟩ : ∃ q, n = q + 1 := ⟨n - 1, by omega⟩
 unfold b15 at h
 refine Fn.of (by kernel_rfl) (by kernel_rfl) (by kernel_rfl) ⟨(.v (.agg [(vI a0.fKind), (vP eI a0.fLabels), (vP ep24 a0.fSubs), (vI a0.fLeast), (vI a0.fMost)]))::(.v (.agg [(vI a1.fKind), (vP eI a1.fLabels), (vP ep24 a1.fSubs), (vI a1.fLeast), (vI a1.fMost)]))::(dI a2)::u40 (u26 []), []⟩ (by kernel_rfl) (Wp.sq (Wp.rg (Ops.sg 3 3 (Ops.dn (seqQ.n (Wp.sq (Wp.sq (Wp.rg (Ops.sg 3 3 ?_)))))))))
 refine Ops.hv (fun KQ => ∀ (d3 d4 d5 d6 d7 : D) (v8 v9 : Bool), f15_r6 m K a0 a1 a2 v9 = some o → KQ 9 ⟨Zs16 (.v (.agg [(vI a0.fKind), (vP eI a0.fLabels), (vP ep24 a0.fSubs), (vI a0.fLeast), (vI a0.fMost)])) (.v (.agg [(vI a1.fKind), (vP eI a1.fLabels), (vP ep24 a1.fSubs), (vI a1.fLeast), (vI a1.fMost)])) a2 v8 d3 d4 d5 d6 d7 v9 (u40 (u12 [])), [(b15_0 a0), (b15_0 a1)]⟩) ?_ fun J15j10 => ?_
 ·intro d3 d4 d5 d6 d7 v8 v9 h
  unfold f15_r6 at h
  refine Ops.sg 1 10 ?_
  refine Ops.hv (fun KQ => ∀ (d13 d14 d15 d16 d17 : D) (v18 v19 : Bool), f15_r5 m K a0 a1 a2 v19 = some o → KQ 16 ⟨Zs16 (.v (.agg [(vI a0.fKind), (vP eI a0.fLabels), (vP ep24 a0.fSubs), (vI a0.fLeast), (vI a0.fMost)])) (.v (.agg [(vI a1.fKind), (vP eI a1.fLabels), (vP ep24 a1.fSubs), (vI a1.fLeast), (vI a1.fMost)])) a2 v8 d3 d4 d5 d6 d7 v18 ((dB v18)::d13::d14::d15::d16::d17::(dB v19)::u40 (u5 [])), [(b15_0 a0), (b15_0 a1)]⟩) ?_ fun J15j20 => ?_
  ·intro d13 d14 d15 d16 d17 v18 v19 h
   unfold f15_r5 at h
   refine Ops.sg 1 17 ?_
   refine Ops.hv (fun KQ => ∀ (d23 d24 d25 d26 d27 : D) (v28 v29 : Bool), f15_r4 m K a0 a1 a2 v29 = some o → KQ 23 ⟨Zs16 (.v (.agg [(vI a0.fKind), (vP eI a0.fLabels), (vP ep24 a0.fSubs), (vI a0.fLeast), (vI a0.fMost)])) (.v (.agg [(vI a1.fKind), (vP eI a1.fLabels), (vP ep24 a1.fSubs), (vI a1.fLeast), (vI a1.fMost)])) a2 v8 d3 d4 d5 d6 d7 v18 ((dB v18)::d13::d14::d15::d16::d17::(dB v28)::(dB v28)::d23::d24::d25::d26::d27::(dB v29)::u38 []), [(b15_0 a0), (b15_0 a1)]⟩) ?_ fun J15j30 => ?_
   ·intro d23 d24 d25 d26 d27 v28 v29 h
    unfold f15_r4 at h
    refine Ops.sg 1 24 ?_
    refine Ops.hv (fun KQ => ∀ (d33 d34 d35 d36 d37 d38 : D) (v39 v40 : Bool), f15_r3 m K a0 a1 a2 v40 = some o → KQ 31 ⟨Zs16 (.v (.agg [(vI a0.fKind), (vP eI a0.fLabels), (vP ep24 a0.fSubs), (vI a0.fLeast), (vI a0.fMost)])) (.v (.agg [(vI a1.fKind), (vP eI a1.fLabels), (vP ep24 a1.fSubs), (vI a1.fLeast), (vI a1.fMost)])) a2 v8 d3 d4 d5 d6 d7 v18 ((dB v18)::d13::d14::d15::d16::d17::(dB v28)::(dB v28)::d23::d24::d25::d26::d27::(dB v39)::(dB v39)::d33::d34::d35::d36::d37::d38::(dB v40)::u30 []), [(b15_0 a0), (b15_0 a1)]⟩) ?_ fun J15j41 => ?_
    ·intro d33 d34 d35 d36 d37 d38 v39 v40 h
     unfold f15_r3 at h
     refine Ops.sg 1 32 ?_
     refine Ops.hv (fun KQ => ∀ (d44 d45 d46 d47 d48 d49 d50 : D) (v51 v52 : Bool), f15_r2 m K a0 a1 a2 v52 = some o → KQ 40 ⟨Zs16 (.v (.agg [(vI a0.fKind), (vP eI a0.fLabels), (vP ep24 a0.fSubs), (vI a0.fLeast), (vI a0.fMost)])) (.v (.agg [(vI a1.fKind), (vP eI a1.fLabels), (vP ep24 a1.fSubs), (vI a1.fLeast), (vI a1.fMost)])) a2 v8 d3 d4 d5 d6 d7 v18 ((dB v18)::d13::d14::d15::d16::d17::(dB v28)::(dB v28)::d23::d24::d25::d26::d27::(dB v39)::(dB v39)::d33::d34::d35::d36::d37::d38::(dB v51)::(dB v51)::d44::d45::d46::d47::d48::d49::d50::(dB v52)::u21 []), [(b15_0 a0), (b15_0 a1)]⟩) ?_ fun J15j53 => ?_
     ·intro d44 d45 d46 d47 d48 d49 d50 v51 v52 h
      unfold f15_r2 at h
      refine Ops.dn (seqQ.n ?_)
      refine Wp.cd h [2, 3, 4, 6] 2 (fun h => ?_) (fun h => ?_)
      ·refine Wp.sq (Wp.rg (Ops.sg 1 1 (Ops.dn (seqQ.n (Wp.rt (sqQ.r (seqQ.r ?_)))))))
       exact fnQ.r' (X15 n) (fun z => (eB z)) h (RetOk.mk' (dB false) (by kernel_rfl) (by kernel_rfl))
      ·refine Wp.sk (sqQ.n' (seqQ.n (Wp.sq (Wp.sq (Wp.rg (Ops.sg 2 2 ?_))))))
       refine Ops.on 3 (fun h0 e0 => (len_r (T := T) h0 23 25 .plain ep24 a0.fSubs (by kernel_rfl))) ?_
       refine Ops.sg 1 4 (Ops.dn (seqQ.n (Wp.bk 0 [6] 2 ?_)))
       have hLx74 : ∀ (kx63 : Nat) (v61 : Int)  (ox62 : Bool ⊕ (Int)), iter (fun (y : Int) => f15_B1 m K a0 a1 a2 y) kx63 v61 = some ox62 → ∀ nx64, kx63 ≤ nx64 → (∀ r, ox62 = .inl r → ∀ σ, RetOk (X15 n) (resOf Proofs.Tryd.prog 15) (eB r) σ → (seqQ (X15 n) (cR (cR (cR C15))) (fnQ (X15 n).E.T (resOf Proofs.Tryd.prog 15) (eB o))) .ret σ) → (∀ (y : Int) , ox62 = .inr y → (seqQ (X15 n) (cR (cR (cR C15))) (fnQ (X15 n).E.T (resOf Proofs.Tryd.prog 15) (eB o))) .normal ⟨Zs42 a2 (a0.fSubs.length : Int) ((dI y)::q17 []), [(b15_0 a0), (b15_0 a1)]⟩) → Lp (X15 n) k15_0 2 (cL (cL (cR (cL (cR (cR C15)))))) nx64 ⟨Zs42 a2 (a0.fSubs.length : Int) ((dI v61)::q17 []), [(b15_0 a0), (b15_0 a1)]⟩ (blkQ (X15 n) 0 [6] 2 (seqQ (X15 n) (cR (cR (cR C15))) (fnQ (X15 n).E.T (resOf Proofs.Tryd.prog 15) (eB o)))) := by
        intro kx63
        induction kx63 with
        | zero => intro v61  ox62 h; exact (iter_zero h).elim
        | succ kx63 ihx65 =>
         intro v61  ox62 h nx64 hnx68 hrx66 hxx67
         obtain ⟨nx64, rfl⟩ : ∃ q, nx64 = q + 1 := ⟨nx64 - 1, by omega⟩
         obtain ⟨sx69, h, hsx70⟩ := iter_some h
         have h : f15_B1 m K a0 a1 a2 v61 = some sx69 := h
         unfold f15_B1 at h
         refine Lp.succ (Wp.sq (Wp.rg (Ops.sg 1 1 (Ops.dn (seqQ.n (Wp.sq ?_))))))
         refine Wp.cd h k15_0 2 (fun h => ?_) (fun h => ?_)
         ·refine Wp.sk (sqQ.n' (seqQ.n (Wp.sq (Wp.bk 1 k15_0 2 (Wp.sq (Wp.rg (Ops.sg 2 2 (Ops.dn (seqQ.n (Wp.sq (Wp.rg (Ops.sg 3 3 ?_))))))))))))
          obtain ⟨v71, ev71, h⟩ := bnd_some h
          refine Ops.on 4 (fun h0 e0 => (ixb24 (ix_r (T := T) h0 23 25 5 .plain ep24 a0.fSubs v61 v71 ev71 (by kernel_rfl) (by kernel_rfl) ep24_len))) ?_
          refine Ops.sg 4 8 ?_
          obtain ⟨v72, ev72, h⟩ := bnd_some h
          refine Ops.on 9 (fun h0 e0 => (ixb24 (ix_r (T := T) h0 23 25 5 .plain ep24 a1.fSubs v61 v72 ev72 (by kernel_rfl) (by kernel_rfl) ep24_len))) ?_
          refine Ops.sg 3 12 ?_
          obtain ⟨v73, ev73, h⟩ := bnd_some h
          refine Ops.on 13 (fun h0 e0 => (call_ok (E' := E) (h := h0) (by kernel_rfl) (Args.v (.agg [(vI v71.vw.fKind), (vP eI v71.vw.fLabels), (vP ep24 v71.vw.fSubs), (vI v71.vw.fLeast), (vI v71.vw.fMost)]) (e24 v71.vw) (by kernel_rfl) (Args.v (.agg [(vI v72.vw.fKind), (vP eI v72.vw.fLabels), (vP ep24 v72.vw.fSubs), (vI v72.vw.fLeast), (vI v72.vw.fMost)]) (e24 v72.vw) (by kernel_rfl) (Args.v (vI (w64 (a2 - 1))) (eI (w64 (a2 - 1))) (by kernel_rfl) Args.nil))) (hK.ok15 v71.vw v72.vw (w64 (a2 - 1)) v73 ev73 n (by omega)))) ?_
          refine Ops.sg 1 14 (Ops.dn (seqQ.n ?_))
          refine Wp.cd h k15_0 2 (fun h => ?_) (fun h => ?_)
          ·refine Wp.sq (Wp.rg (Ops.sg 1 1 (Ops.dn (seqQ.n (Wp.rt (sqQ.r (blkQ.r (seqQ.r ?_))))))))
           cases h
           refine lpQ.r (blkQ.r ?_)
           exact hrx66 _ hsx70 _ (RetOk.forget k15_0 (by kernel_rfl) (RetOk.mk' (dB false) (by kernel_rfl) (by kernel_rfl)))
          ·refine Wp.sk (sqQ.n' (blkQ.n' (seqQ.n (Wp.rg (Ops.sg 2 2 (Ops.dn (lpQ.m ⟨Zs42 a2 (a0.fSubs.length : Int) ((dI (w64 (v61 + 1)))::q17 []), [(b15_0 a0), (b15_0 a1)]⟩ ?_)))))))
           cases h
           exact ihx65 (w64 (v61 + 1))  _ hsx70 _ (by omega) hrx66 hxx67
         ·refine Wp.ex 0 (sqQ.x (seqQ.x ?_))
          cases h
          refine lpQ.x (blkQ.w ⟨Zs42 a2 (a0.fSubs.length : Int) ((dI v61)::q17 []), [(b15_0 a0), (b15_0 a1)]⟩ ?_)
          exact hxx67 v61  hsx70
       refine Wp.loop' k15_0 2 (by kernel_rfl) ⟨Zs42 a2 (a0.fSubs.length : Int) ((dI 0)::q17 []), [(b15_0 a0), (b15_0 a1)]⟩ (by kernel_rfl) ?_
       rcases brk_some h with ⟨r76, er76, h⟩ | ⟨y75, ey75, h⟩
       ·refine hLx74 _ 0  _ er76 n (by omega) (fun r er σ hσ => ?_) (fun y  ey => by cases ey)
        cases er
        refine seqQ.r ?_
        exact fnQ.r' (X15 n) (fun z => (eB z)) h hσ
       ·refine hLx74 _ 0  _ ey75 n (by omega) (fun r er => by cases er) (fun y  ey => ?_)
        cases ey
        refine seqQ.n (Wp.sq (Wp.rg (Ops.sg 1 1 (Ops.dn (seqQ.n (Wp.rt ?_))))))
        exact fnQ.r' (X15 n) (fun z => (eB z)) h (RetOk.mk' (dB true) (by kernel_rfl) (by kernel_rfl))
     refine Ops.hv (fun KQ => ∀ v42 : Bool, f15_r2 m K a0 a1 a2 (v42 || ((a0.fSubs.length : Int) != (a1.fSubs.length : Int))) = some o → KQ 32 ⟨Zs16 (.v (.agg [(vI a0.fKind), (vP eI a0.fLabels), (vP ep24 a0.fSubs), (vI a0.fLeast), (vI a0.fMost)])) (.v (.agg [(vI a1.fKind), (vP eI a1.fLabels), (vP ep24 a1.fSubs), (vI a1.fLeast), (vI a1.fMost)])) a2 v8 d3 d4 d5 d6 d7 v18 ((dB v18)::d13::d14::d15::d16::d17::(dB v28)::(dB v28)::d23::d24::d25::d26::d27::(dB v39)::(dB v39)::d33::d34::d35::d36::d37::d38::(dB v42)::(dB v42)::u29 []), [(b15_0 a0), (b15_0 a1)]⟩) ?_ fun G15g43 => Ops.sx (G15g43 v40 h)
     intro v42 h
     cases v42
     ·refine Ops.sg 2 34 ?_
      refine Ops.on 35 (fun h0 e0 => (len_r (T := T) h0 23 25 .plain ep24 a0.fSubs (by kernel_rfl))) ?_
      refine Ops.sg 2 37 ?_
      refine Ops.on 38 (fun h0 e0 => (len_r (T := T) h0 23 25 .plain ep24 a1.fSubs (by kernel_rfl))) ?_
      refine Ops.sg 2 40 ?_
      exact Ops.sx (J15j53 (.ptr 0 2) (dP ep24 a0.fSubs) (dI (a0.fSubs.length : Int)) (.ptr 1 2) (dP ep24 a1.fSubs) (dI (a1.fSubs.length : Int)) (dB ((a0.fSubs.length : Int) != (a1.fSubs.length : Int))) false ((a0.fSubs.length : Int) != (a1.fSubs.length : Int)) h)
     ·refine Ops.sg 8 40 ?_
      exact Ops.sx (J15j53 U U U U U U U true true h)
    obtain ⟨v40, ev40, h⟩ := bnd_some h
    refine Ops.hv (fun KQ => ∀ v31 : Bool, (cnd v31 (some true) (bnd (f32 m a0.fLabels a1.fLabels) fun v77 => some (!v77))) = some v40 → KQ 24 ⟨Zs16 (.v (.agg [(vI a0.fKind), (vP eI a0.fLabels), (vP ep24 a0.fSubs), (vI a0.fLeast), (vI a0.fMost)])) (.v (.agg [(vI a1.fKind), (vP eI a1.fLabels), (vP ep24 a1.fSubs), (vI a1.fLeast), (vI a1.fMost)])) a2 v8 d3 d4 d5 d6 d7 v18 ((dB v18)::d13::d14::d15::d16::d17::(dB v28)::(dB v28)::d23::d24::d25::d26::d27::(dB v31)::(dB v31)::u37 []), [(b15_0 a0), (b15_0 a1)]⟩) ?_ fun G15g32 => Ops.sx (G15g32 v29 ev40)
    intro v31 ev40
    cases v31
    ·have ev40 := cnd_f ev40
     refine Ops.sg 4 28 ?_
     obtain ⟨v77, ev77, ev40⟩ := bnd_some ev40
     refine Ops.on 29 (fun h0 e0 => (call_ok (E' := E) (h := h0) (by kernel_rfl) (Args.v (vP eI a0.fLabels) ((eL eI) a0.fLabels) (by kernel_rfl) (Args.v (vP eI a1.fLabels) ((eL eI) a1.fLabels) (by kernel_rfl) Args.nil)) (ok32 m a0.fLabels a1.fLabels v77 ev77 n (by omega)))) ?_
     refine Ops.sg 2 31 ?_
     exact Ops.sx (J15j41 (.ptr 0 1) (dP eI a0.fLabels) (.ptr 1 1) (dP eI a1.fLabels) (dB v77) (dB (!v77)) false (!v77) (some_sub (fun v40 => f15_r3 m K a0 a1 a2 v40 = some o) ev40 h))
    ·have ev40 := cnd_t ev40
     refine Ops.sg 7 31 ?_
     exact Ops.sx (J15j41 U U U U U U true true (some_sub (fun v40 => f15_r3 m K a0 a1 a2 v40 = some o) ev40 h))
   refine Ops.hv (fun KQ => ∀ v21 : Bool, f15_r4 m K a0 a1 a2 (v21 || (a0.fMost != a1.fMost)) = some o → KQ 17 ⟨Zs16 (.v (.agg [(vI a0.fKind), (vP eI a0.fLabels), (vP ep24 a0.fSubs), (vI a0.fLeast), (vI a0.fMost)])) (.v (.agg [(vI a1.fKind), (vP eI a1.fLabels), (vP ep24 a1.fSubs), (vI a1.fLeast), (vI a1.fMost)])) a2 v8 d3 d4 d5 d6 d7 v18 ((dB v18)::d13::d14::d15::d16::d17::(dB v21)::(dB v21)::u40 (u4 [])), [(b15_0 a0), (b15_0 a1)]⟩) ?_ fun G15g22 => Ops.sx (G15g22 v19 h)
   intro v21 h
   cases v21
   ·refine Ops.sg 6 23 ?_
    exact Ops.sx (J15j30 (.ptr 0 4) (dI a0.fMost) (.ptr 1 4) (dI a1.fMost) (dB (a0.fMost != a1.fMost)) false (a0.fMost != a1.fMost) h)
   ·refine Ops.sg 6 23 ?_
    exact Ops.sx (J15j30 U U U U U true true h)
  refine Ops.hv (fun KQ => ∀ v11 : Bool, f15_r5 m K a0 a1 a2 (v11 || (a0.fLeast != a1.fLeast)) = some o → KQ 10 ⟨Zs16 (.v (.agg [(vI a0.fKind), (vP eI a0.fLabels), (vP ep24 a0.fSubs), (vI a0.fLeast), (vI a0.fMost)])) (.v (.agg [(vI a1.fKind), (vP eI a1.fLabels), (vP ep24 a1.fSubs), (vI a1.fLeast), (vI a1.fMost)])) a2 v8 d3 d4 d5 d6 d7 v11 ((dB v11)::u40 (u11 [])), [(b15_0 a0), (b15_0 a1)]⟩) ?_ fun G15g12 => Ops.sx (G15g12 v9 h)
  intro v11 h
  cases v11
  ·refine Ops.sg 6 16 ?_
   exact Ops.sx (J15j20 (.ptr 0 3) (dI a0.fLeast) (.ptr 1 3) (dI a1.fLeast) (dB (a0.fLeast != a1.fLeast)) false (a0.fLeast != a1.fLeast) h)
  ·refine Ops.sg 6 16 ?_
   exact Ops.sx (J15j20 U U U U U true true h)
 refine Ops.hv (fun KQ => ∀ v1 : Bool, f15_r6 m K a0 a1 a2 (v1 || (a0.fKind != a1.fKind)) = some o → KQ 3 ⟨(.v (.agg [(vI a0.fKind), (vP eI a0.fLabels), (vP ep24 a0.fSubs), (vI a0.fLeast), (vI a0.fMost)]))::(.v (.agg [(vI a1.fKind), (vP eI a1.fLabels), (vP ep24 a1.fSubs), (vI a1.fLeast), (vI a1.fMost)]))::(dI a2)::(.ptr 0 0)::(.ptr 1 0)::u1 ((dB false)::u1 ((dI a2)::(dB v1)::(dB v1)::u40 (u18 []))), [(b15_0 a0), (b15_0 a1)]⟩) ?_ fun G15g2 => Ops.sx (G15g2 (a2 == 0) h)
 intro v1 h
 cases v1
 ·refine Ops.sg 6 9 ?_
  exact Ops.sx (J15j10 (.ptr 0 0) (dI a0.fKind) (.ptr 1 0) (dI a1.fKind) (dB (a0.fKind != a1.fKind)) false (a0.fKind != a1.fKind) h)
 ·refine Ops.sg 6 9 ?_
  exact Ops.sx (J15j10 U U U U U true true h)
noncomputable def K15 (m : Nat) : Nat → Rec15
 | 0 => ⟨fun _ _ _ => none⟩
 | r + 1 => ⟨fun a0 a1 a2 => b15 m (K15 m r) a0 a1 a2⟩
theorem okK15 (m : Nat) : ∀ r, OkRec15 m (K15 m r) (m + 2 + r)
 | 0 => ⟨fun _ _ _ o h => (by cases h)⟩
 | r + 1 => ⟨fun a0 a1 a2 o h n hn => okb15 m (K15 m r) (m + 2 + r) (okK15 m r) a0 a1 a2 o h n (by omega) (by omega)⟩
noncomputable def f15 (m : Nat) (a0 a1 : S24) (a2 : Int) : Option Bool := (K15 m m).r15 a0 a1 a2
theorem ok15 (m : Nat) (a0 a1 : S24) (a2 : Int) (o : Bool) (h : f15 m a0 a1 a2 = some o) (n : Nat) (hn : 2 * m + 2 ≤ n) : Fn Proofs.Tryd.prog E n 15 [.v (e24 a0), .v (e24 a1), .v (eI a2)] (eB o) := (okK15 m m).ok15 a0 a1 a2 o h n (by omega)
noncomputable def f4_r1 (m : Nat) (v10 : Bool) : Option Bool :=
 some v10
noncomputable def f4 (m : Nat) (a0 : ByteArray) : Option Bool :=
 bnd (f8 m ) fun v1 =>
 cnd (!v1)
 (some false)
 (bnd (f13 m a0) fun v2 =>
 bnd (f14 m a0) fun v3 =>
 bnd (cnd ((v2.2.fCode == v3.2.fCode) && ((v2.2.fIndex == v3.2.fIndex) && true))
 (bnd (f15 m v2.1 v3.1 100) fun v12 =>
 some v12)
 (some false)) fun v10 =>
 f4_r1 m v10)
noncomputable abbrev X4 (n : Nat) : Cx := cxOf Proofs.Tryd.prog E 4 n
noncomputable abbrev b4_0 (w0 : (S24 × S27)) : AObj := .cells [(dI w0.1.fKind), (dP eI w0.1.fLabels), (dP ep24 w0.1.fSubs), (dI w0.1.fLeast), (dI w0.1.fMost)]
theorem ok4 (m : Nat) (a0 : ByteArray) (o : Bool) (h : f4 m a0 = some o) (n : Nat) (hn : 2 * m + 5 ≤ n) : Fn Proofs.Tryd.prog E n 4 [.v (eS a0)] (eB o) := by
 obtain ⟨n, rfl⟩ : ∃ q, n = q + 1 := ⟨n - 1, by omega⟩
 unfold f4 at h
 refine Fn.of (by kernel_rfl) (by kernel_rfl) (by kernel_rfl) ⟨(.v (.str a0))::u26 [], []⟩ (by kernel_rfl) (Wp.sq (Wp.rg (Ops.sg 1 1 (Ops.dn (seqQ.n (Wp.sq (Wp.sq (Wp.rg ?_))))))))
 obtain ⟨v1, ev1, h⟩ := bnd_some h
 refine Ops.on 1 (fun h0 e0 => (call_ok (E' := E) (h := h0) (by kernel_rfl) Args.nil (ok8 m  v1 ev1 n (by omega)))) ?_
 refine Ops.sg 1 2 (Ops.dn (seqQ.n ?_))
 refine Wp.cd h [0, 2] 0 (fun h => ?_) (fun h => ?_)
 ·refine Wp.sq (Wp.rg (Ops.sg 1 1 (Ops.dn (seqQ.n (Wp.rt (sqQ.r (seqQ.r ?_)))))))
  exact fnQ.r' (X4 n) (fun z => (eB z)) h (RetOk.mk' (dB false) (by kernel_rfl) (by kernel_rfl))
 ·refine Wp.sk (sqQ.n' (seqQ.n (Wp.sq (Wp.rg (Ops.sg 1 1 ?_)))))
  obtain ⟨v2, ev2, h⟩ := bnd_some h
  refine Ops.on 2 (fun h0 e0 => (call_ok (E' := E) (h := h0) (by kernel_rfl) (Args.v (.str a0) (eS a0) (by kernel_rfl) Args.nil) (ok13 m a0 v2 ev2 n (by omega)))) ?_
  refine Ops.sg 7 9 (Ops.dn (seqQ.n (Wp.sq (Wp.rg (Ops.sg 1 1 ?_)))))
  obtain ⟨v3, ev3, h⟩ := bnd_some h
  refine Ops.on 2 (fun h0 e0 => (call_ok (E' := E) (h := h0) (by kernel_rfl) (Args.v (.str a0) (eS a0) (by kernel_rfl) Args.nil) (ok14 m a0 v3 ev3 n (by omega)))) ?_
  refine Ops.sg 7 9 (Ops.dn (seqQ.n (Wp.sq (Wp.rg (Ops.sg 4 4 ?_)))))
  refine Ops.hv (fun KQ => ∀ (d6 d7 d8 : D) (v9 v10 : Bool), f4_r1 m v10 = some o → KQ 8 ⟨Zs14 a0 v1 (!v1) (.v (.tuple [(.agg [(vI v2.1.fKind), (vP eI v2.1.fLabels), (vP ep24 v2.1.fSubs), (vI v2.1.fLeast), (vI v2.1.fMost)]), (.agg [(vI v2.2.fCode), (vI v2.2.fIndex)])])) (.v (.agg [(vI v2.1.fKind), (vP eI v2.1.fLabels), (vP ep24 v2.1.fSubs), (vI v2.1.fLeast), (vI v2.1.fMost)])) (.v (.agg [(vI v2.2.fCode), (vI v2.2.fIndex)])) (.v (.tuple [(.agg [(vI v3.1.fKind), (vP eI v3.1.fLabels), (vP ep24 v3.1.fSubs), (vI v3.1.fLeast), (vI v3.1.fMost)]), (.agg [(vI v3.2.fCode), (vI v3.2.fIndex)])])) (.v (.agg [(vI v3.1.fKind), (vP eI v3.1.fLabels), (vP ep24 v3.1.fSubs), (vI v3.1.fLeast), (vI v3.1.fMost)])) (.v (.agg [(vI v3.2.fCode), (vI v3.2.fIndex)])) v9 (d6::d7::d8::(dB v10)::[]), [(b4_0 v2), (.cells [(dI v2.2.fCode), (dI v2.2.fIndex)]), (b4_0 v3), (.cells [(dI v3.2.fCode), (dI v3.2.fIndex)])]⟩) ?_ fun J4j11 => ?_
  ·intro d6 d7 d8 v9 v10 h
   unfold f4_r1 at h
   refine Ops.sg 1 9 (Ops.dn (seqQ.n (Wp.rt ?_)))
   exact fnQ.r' (X4 n) (fun z => (eB z)) h (RetOk.mk' (dB v10) (by kernel_rfl) (by kernel_rfl))
  obtain ⟨v10, ev10, h⟩ := bnd_some h
  refine Ops.hv (fun KQ => ∀ v4 : Bool, (cnd v4 (bnd (f15 m v2.1 v3.1 100) fun v12 => some v12) (some false)) = some v10 → KQ 4 ⟨Zs14 a0 v1 (!v1) (.v (.tuple [(.agg [(vI v2.1.fKind), (vP eI v2.1.fLabels), (vP ep24 v2.1.fSubs), (vI v2.1.fLeast), (vI v2.1.fMost)]), (.agg [(vI v2.2.fCode), (vI v2.2.fIndex)])])) (.v (.agg [(vI v2.1.fKind), (vP eI v2.1.fLabels), (vP ep24 v2.1.fSubs), (vI v2.1.fLeast), (vI v2.1.fMost)])) (.v (.agg [(vI v2.2.fCode), (vI v2.2.fIndex)])) (.v (.tuple [(.agg [(vI v3.1.fKind), (vP eI v3.1.fLabels), (vP ep24 v3.1.fSubs), (vI v3.1.fLeast), (vI v3.1.fMost)]), (.agg [(vI v3.2.fCode), (vI v3.2.fIndex)])])) (.v (.agg [(vI v3.1.fKind), (vP eI v3.1.fLabels), (vP ep24 v3.1.fSubs), (vI v3.1.fLeast), (vI v3.1.fMost)])) (.v (.agg [(vI v3.2.fCode), (vI v3.2.fIndex)])) v4 (u4 []), [(b4_0 v2), (.cells [(dI v2.2.fCode), (dI v2.2.fIndex)]), (b4_0 v3), (.cells [(dI v3.2.fCode), (dI v3.2.fIndex)])]⟩) ?_ fun G4g5 => Ops.sx (G4g5 ((v2.2.fCode == v3.2.fCode) && ((v2.2.fIndex == v3.2.fIndex) && true)) ev10)
  intro v4 ev10
  cases v4
  ·have ev10 := cnd_f ev10
   refine Ops.sg 4 8 ?_
   exact Ops.sx (J4j11 U U U false false (some_sub (fun v10 => f4_r1 m v10 = some o) ev10 h))
  ·have ev10 := cnd_t ev10
   refine Ops.sg 2 6 ?_
   obtain ⟨v12, ev12, ev10⟩ := bnd_some ev10
   refine Ops.on 7 (fun h0 e0 => (call_ok (E' := E) (h := h0) (by kernel_rfl) (Args.v (.agg [(vI v2.1.fKind), (vP eI v2.1.fLabels), (vP ep24 v2.1.fSubs), (vI v2.1.fLeast), (vI v2.1.fMost)]) (e24 v2.1) (by kernel_rfl) (Args.v (.agg [(vI v3.1.fKind), (vP eI v3.1.fLabels), (vP ep24 v3.1.fSubs), (vI v3.1.fLeast), (vI v3.1.fMost)]) (e24 v3.1) (by kernel_rfl) (Args.v (vI 100) (eI 100) (by kernel_rfl) Args.nil))) (ok15 m v2.1 v3.1 100 v12 ev12 n (by omega)))) ?_
   refine Ops.sg 1 8 ?_
   exact Ops.sx (J4j11 ((.v (.agg [(vI v2.1.fKind), (vP eI v2.1.fLabels), (vP ep24 v2.1.fSubs), (vI v2.1.fLeast), (vI v2.1.fMost)]))) ((.v (.agg [(vI v3.1.fKind), (vP eI v3.1.fLabels), (vP ep24 v3.1.fSubs), (vI v3.1.fLeast), (vI v3.1.fMost)]))) (dB v12) true v12 (some_sub (fun v10 => f4_r1 m v10 = some o) ev10 h))
end Go.Abs
