import Derived.Test.YtckocapmogfhkaaDoorWF3
namespace Go.Abs
set_option linter.unusedVariables false
set_option maxRecDepth 100000
set_option maxHeartbeats 4000000
def f6_j1 (m : Nat) (v1661 : Int) (v1671 : (List Int)) : Option (Stp (S27 × S29) ((List Int) × Int)) :=
 some (.nxt (v1671, w64 (v1661 + 1)))
def f6_j2 (m : Nat) (v1661 : Int) (v1674 : (List Int)) : Option (Stp (S27 × S29) ((List Int) × Int)) :=
 f6_j1 m v1661 v1674
def f6_B3 (m : Nat) (v2 : (List ByteArray)) (v1645 : ByteArray) (v1660 : (List Int)) (v1661 : Int) : Option (Stp (S27 × S29) ((List Int) × Int)) :=
 cnd (decide (v1661 < (v2.length : Int)))
 (bnd (idx v2 v1661) fun v1673 =>
 cnd (v1645.toList == v1673.toList)
 (bnd (app 8 v1660 ([w64 (983040 + v1661)])) fun v1676 =>
 f6_j2 m v1661 v1676)
 (f6_j2 m v1661 v1660))
 (some (.brk (v1660, v1661)))
def f6_B4 (m : Nat) (v2 : (List ByteArray)) (v1560 : S34) (v1634 : (List Int)) (v1635 : Int) : Option (Stp (S27 × S29) ((List Int) × Int)) :=
 cnd (decide (v1635 < (v1560.fTags.length : Int)))
 (bnd (idx v1560.fTags v1635) fun v1645 =>
 brk (iter (fun (y : (List Int) × Int) => f6_B3 m v2 v1645 y.1 y.2) m (v1634, 0)) (fun r => some (.ret r)) fun y1678 =>
 some (.nxt (y1678.1, w64 (v1635 + 1))))
 (some (.brk (v1634, v1635)))
def f6_j5 (m : Nat) (v1718 : Int) (v1719 : (List S40)) (v1731 : Int) (v1732 : Int) (v1734 : Int) (v1736 : Int) (v1738 : Int) : Option (Stp (S27 × S29) (Int × (List S40))) :=
 bnd (app 40 v1719 ([(⟨v1731, v1734, v1736, v1738, v1732⟩ : S40)])) fun v1740 =>
 some (.nxt (w64 (v1718 + 1), v1740))
def f6_j6 (m : Nat) (v1683 : ((List Int) × S29)) (v1718 : Int) (v1719 : (List S40)) (v1731 : Int) (v1732 : Int) (v1734 : Int) (v1736 : Int) : Option (Stp (S27 × S29) (Int × (List S40))) :=
 cnd (decide (v1718 < (v1683.1.length : Int)))
 (bnd (idx v1683.1 v1718) fun v1741 =>
 f6_j5 m v1718 v1719 v1731 v1732 v1734 v1736 v1741)
 (f6_j5 m v1718 v1719 v1731 v1732 v1734 v1736 0)
def f6_j7 (m : Nat) (y1681 : (List Int) × Int) (v1683 : ((List Int) × S29)) (v1718 : Int) (v1719 : (List S40)) (v1731 : Int) (v1732 : Int) (v1734 : Int) : Option (Stp (S27 × S29) (Int × (List S40))) :=
 cnd (decide (v1718 < (y1681.1.length : Int)))
 (bnd (idx y1681.1 v1718) fun v1742 =>
 f6_j6 m v1683 v1718 v1719 v1731 v1732 v1734 v1742)
 (f6_j6 m v1683 v1718 v1719 v1731 v1732 v1734 0)
def f6_j8 (m : Nat) (v1549 : Int) (y1681 : (List Int) × Int) (v1683 : ((List Int) × S29)) (v1686 : Int) (v1718 : Int) (v1719 : (List S40)) (v1729 : Int) (v1731 : Int) (v1732 : Int) : Option (Stp (S27 × S29) (Int × (List S40))) :=
 cnd (decide (v1718 < w64 (v1686 - 1)))
 (f6_j7 m y1681 v1683 v1718 v1719 v1731 v1732 (w64 (v1549 + v1718)))
 (f6_j7 m y1681 v1683 v1718 v1719 v1731 v1732 v1729)
def f6_j9 (m : Nat) (v1160 : Int) (v1549 : Int) (v1560 : S34) (y1681 : (List Int) × Int) (v1683 : ((List Int) × S29)) (v1686 : Int) (v1718 : Int) (v1719 : (List S40)) (v1729 : Int) : Option (Stp (S27 × S29) (Int × (List S40))) :=
 cnd (decide (v1718 > 0))
 (f6_j8 m v1549 y1681 v1683 v1686 v1718 v1719 v1729 (w64 (w64 (v1549 + v1718) - 1)) 0)
 (f6_j8 m v1549 y1681 v1683 v1686 v1718 v1719 v1729 v1160 v1560.fWeight)
def f6_B10 (m : Nat) (a0 : S23) (v1160 : Int) (v1549 : Int) (v1560 : S34) (y1681 : (List Int) × Int) (v1683 : ((List Int) × S29)) (v1686 : Int) (v1718 : Int) (v1719 : (List S40)) : Option (Stp (S27 × S29) (Int × (List S40))) :=
 cnd (decide (v1718 < v1686))
 (cnd (decide (v1560.fNext ≥ 0))
 (f6_j9 m v1160 v1549 v1560 y1681 v1683 v1686 v1718 v1719 v1560.fNext)
 (f6_j9 m v1160 v1549 v1560 y1681 v1683 v1686 v1718 v1719 (a0.fClasses.length : Int)))
 (some (.brk (v1718, v1719)))
def f6_j11 (m : Nat) (a0 : S23) (v1160 : Int) (v1548 : Int) (v1549 : Int) (v1550 : (List S40)) (v1560 : S34) (y1681 : (List Int) × Int) (v1683 : ((List Int) × S29)) (v1686 : Int) : Option (Stp (S27 × S29) (Int × Int × (List S40))) :=
 brk (iter (fun (y : Int × (List S40)) => f6_B10 m a0 v1160 v1549 v1560 y1681 v1683 v1686 y.1 y.2) m (0, v1550)) (fun r => some (.ret r)) fun y1744 =>
 some (.nxt (w64 (v1548 + 1), w64 (v1549 + w64 (v1686 - 1)), y1744.2))
def f6_j12 (m : Nat) (a0 : S23) (v1160 : Int) (v1548 : Int) (v1549 : Int) (v1550 : (List S40)) (v1560 : S34) (y1681 : (List Int) × Int) (v1683 : ((List Int) × S29)) (v1684 : Int) : Option (Stp (S27 × S29) (Int × Int × (List S40))) :=
 cnd (decide ((v1683.1.length : Int) > v1684))
 (f6_j11 m a0 v1160 v1548 v1549 v1550 v1560 y1681 v1683 (v1683.1.length : Int))
 (f6_j11 m a0 v1160 v1548 v1549 v1550 v1560 y1681 v1683 v1684)
def f6_B13 (m : Nat) (a0 : S23) (v2 : (List ByteArray)) (v1160 : Int) (v1172 : S37) (v1548 : Int) (v1549 : Int) (v1550 : (List S40)) : Option (Stp (S27 × S29) (Int × Int × (List S40))) :=
 cnd (decide (v1548 < (v1172.fItems.length : Int)))
 (bnd (idx v1172.fItems v1548) fun v1560 =>
 bnd (f17 m v1560.fBase) fun v1561 =>
 brk (iter (fun (y : (List Int) × Int) => f6_B4 m v2 v1560 y.1 y.2) m (v1561.1, 0)) (fun r => some (.ret r)) fun y1681 =>
 bnd (f17 m v1560.fForm) fun v1683 =>
 cnd (decide ((y1681.1.length : Int) > 1))
 (f6_j12 m a0 v1160 v1548 v1549 v1550 v1560 y1681 v1683 (y1681.1.length : Int))
 (f6_j12 m a0 v1160 v1548 v1549 v1550 v1560 y1681 v1683 1))
 (some (.brk (v1548, v1549, v1550)))
def f6_B14 (m : Nat) (a0 : S23) (v2 : (List ByteArray)) (v1160 : Int) (v1161 : Int) (v1162 : (List S40)) : Option (Stp (S27 × S29) (Int × Int × (List S40))) :=
 cnd (decide (v1160 < (a0.fClasses.length : Int)))
 (bnd (idx a0.fClasses v1160) fun v1172 =>
 brk (iter (fun (y : Int × Int × (List S40)) => f6_B13 m a0 v2 v1160 v1172 y.1 y.2.1 y.2.2) m (0, v1161, v1162)) (fun r => some (.ret r)) fun y1747 =>
 some (.nxt (w64 (v1160 + 1), y1747.2.1, y1747.2.2)))
 (some (.brk (v1160, v1161, v1162)))
def f6 (m : Nat) (a0 : S23) : Option (S27 × S29) :=
 bnd (f15 m a0) fun v1 =>
 cnd (!((v1.fCode == 0) && ((v1.fIndex == 0) && true)))
 (some (((⟨0, [], []⟩ : S27), v1)))
 (bnd (f16 m a0) fun v2 =>
 brk (iter (fun (y : Int × Int × (List S40)) => f6_B14 m a0 v2 y.1 y.2.1 y.2.2) m (0, w64 ((a0.fClasses.length : Int) + 1), [])) some fun y1750 =>
 cnd (decide (y1750.2.1 > 400))
 (bnd (f18 m 17 (-1)) fun v1752 =>
 some (((⟨0, [], []⟩ : S27), v1752)))
 (bnd (f19 m y1750.2.2 false) fun v1753 =>
 cnd (decide ((v1753.length : Int) > 2000))
 (bnd (f18 m 17 (-1)) fun v1754 =>
 some (((⟨0, [], []⟩ : S27), v1754)))
 (some (((⟨y1750.2.1, v1753, [(⟨(a0.fClasses.length : Int), 0⟩ : S42)]⟩ : S27), (⟨0, 0⟩ : S29))))))
noncomputable abbrev X6 (n : Nat) : Cx := cxOf Proofs.Tryd.prog EG 6 n
noncomputable def C6 : Code := bodyOf Proofs.Tryd.prog 6
noncomputable abbrev p6_0 : Code := cR (cR (cR (cR (cR (cR C6)))))
noncomputable abbrev p6_1 : Code := cL (cL (cR (cL (cR (cR (cR (cR (cR C6))))))))
noncomputable abbrev p6_2 : Code := cR (cR (cR p6_1))
noncomputable abbrev p6_3 : Code := cL (cL (cR (cR (cL (cL (cR (cR p6_1)))))))
noncomputable abbrev p6_4 : Code := cR (cR (cR p6_3))
noncomputable abbrev p6_5 : Code := cR (cR (cR (cL (cL (cR (cR p6_3))))))
noncomputable abbrev p6_6 : Code := cL (cL (cR (cL (cR (cR (cL (cL (cR (cR p6_3)))))))))
noncomputable abbrev p6_7 : Code := cR (cR (cR p6_5))
noncomputable abbrev p6_8 : Code := cR p6_7
noncomputable abbrev p6_9 : Code := cR p6_8
noncomputable abbrev p6_10 : Code := cR (cR (cR p6_6))
noncomputable abbrev p6_11 : Code := cL (cL (cR (cL p6_8)))
noncomputable abbrev p6_12 : Code := cR (cR p6_11)
noncomputable abbrev p6_13 : Code := cL (cL (cR (cR (cL (cL (cR (cR p6_6)))))))
noncomputable abbrev p6_14 : Code := cR (cR (cL (cL (cR p6_11))))
noncomputable abbrev p6_15 : Code := cR p6_14
noncomputable abbrev p6_16 : Code := cR (cR (cR p6_13))
noncomputable abbrev p6_17 : Code := cR p6_15
noncomputable abbrev p6_18 : Code := cR p6_17
noncomputable abbrev p6_19 : Code := cR p6_18
abbrev b6_0 (w0 : S23) : AObj := .cells [(dP e37 w0.fClasses)]
abbrev b6_1 : AObj := .cells [(dI 0), (.v (.sl .nil (List.map e40 []))), (.v (.sl .nil (List.map e42 [])))]
abbrev b6_2 : AObj := .cells [(dI 0), (dI 0)]
abbrev b6_3 (w0 : S29) : AObj := .cells [(dI w0.fCode), (dI w0.fIndex)]
abbrev b6_4 (w0 : S37) : AObj := .cells [(.v (.str w0.fName)), (dP e34 w0.fItems)]
abbrev b6_5 (w0 : S34) : AObj := .cells [(.v (.str w0.fBase)), (.v (.str w0.fForm)), (dP eS w0.fTags), (dI w0.fNext), (dI w0.fWeight)]
abbrev b6_6 (w0 : ((List Int) × S29)) : AObj := .cells [(dI w0.2.fCode), (dI w0.2.fIndex)]
abbrev k6_0 : List Nat := [2, 3, 5, 6, 7, 8, 42, 43, 44, 50, 51, 52]
abbrev k6_1 : List Nat := [2, 3, 5, 6, 7, 42, 43, 44]
abbrev k6_2 : List Nat := [2, 3, 5, 6, 7, 8, 11, 12, 18, 20, 21, 42, 43, 44, 50, 51, 52]
abbrev k6_3 : List Nat := [2, 3, 5, 6, 7, 8, 20, 42, 43, 44, 50, 51, 52]
abbrev k6_4 : List Nat := [2, 3, 5, 6, 7, 8, 11, 12, 18, 20, 21, 22, 42, 43, 44, 50, 51, 52]
abbrev k6_5 : List Nat := [2, 3, 5, 6, 7, 8, 11, 12, 42, 43, 44, 50, 51, 52, 63, 64, 65]
abbrev k6_6 : List Nat := [2, 3, 5, 6, 7, 8, 11, 12, 42, 43, 44, 50, 51, 52]
abbrev k6_7 : List Nat := [2, 3, 5, 6, 7, 8, 11, 12, 15, 42, 43, 44, 50, 51, 52, 63, 64, 65, 69, 70, 71]
theorem f6_hLx1743 (m : Nat) (a0 : S23) (o : (S27 × S29)) (n : Nat) (hn : m + 7 ≤ n + 1) (v1160 : Int) (v1549 : Int) (v1560 : S34) (y1681 : (List Int) × Int) (v1683 : ((List Int) × S29)) (v1686 : Int) (nx1553 : Nat) (nx1165 : Nat) (v2 : (List ByteArray)) (v1172 : S37) (v1548 : Int) (v1 : S29) (v1561 : ((List Int) × S29)) : ∀ (kx1721 : Nat) (v1718 : Int) (v1719 : (List S40))  (ox1720 : (S27 × S29) ⊕ (Int × (List S40))), iter (fun (y : Int × (List S40)) => f6_B10 m a0 v1160 v1549 v1560 y1681 v1683 v1686 y.1 y.2) kx1721 (v1718, v1719) = some ox1720 → ∀ nx1722, kx1721 ≤ nx1722 → (∀ r, ox1720 = .inl r → ∀ σ, RetOk (X6 n) (resOf Proofs.Tryd.prog 6) (.tuple [e27 r.1, e29 r.2]) σ → (seqQ (X6 n) p6_9 (blkQ (X6 n) 3 k6_0 16 (seqQ (X6 n) p6_4 (lpQ (X6 n) k6_0 12 p6_3 nx1553 (blkQ (X6 n) 2 k6_1 12 (blkQ (X6 n) 1 k6_1 11 (seqQ (X6 n) p6_2 (lpQ (X6 n) k6_1 7 p6_1 nx1165 (blkQ (X6 n) 0 [2, 3, 7] 7 (seqQ (X6 n) p6_0 (fnQ (X6 n).E.T (resOf Proofs.Tryd.prog 6) (.tuple [e27 o.1, e29 o.2])))))))))))) .ret σ) → (∀ (y : Int × (List S40)) , ox1720 = .inr y → (seqQ (X6 n) p6_9 (blkQ (X6 n) 3 k6_0 16 (seqQ (X6 n) p6_4 (lpQ (X6 n) k6_0 12 p6_3 nx1553 (blkQ (X6 n) 2 k6_1 12 (blkQ (X6 n) 1 k6_1 11 (seqQ (X6 n) p6_2 (lpQ (X6 n) k6_1 7 p6_1 nx1165 (blkQ (X6 n) 0 [2, 3, 7] 7 (seqQ (X6 n) p6_0 (fnQ (X6 n).E.T (resOf Proofs.Tryd.prog 6) (.tuple [e27 o.1, e29 o.2])))))))))))) .normal ⟨q2 ((.ptr 1 0) :: (.ptr 2 0) :: q1 ((dP eS v2) :: (dI (a0.fClasses.length : Int)) :: (.ptr 6 0) :: (dI v1160) :: q11 ((dI v1686) :: q21 ((dP e37 a0.fClasses) :: (dI (a0.fClasses.length : Int)) :: (dI v1160) :: q5 ((dP e34 v1172.fItems) :: (dI (v1172.fItems.length : Int)) :: (dI v1548) :: q40 (q40 (q40 (q14 [])))))))), [(b6_0 a0), b6_1, b6_2, (b6_3 v1), .dead, .dead, (.cells [(dI v1549), (appD 28 (List.map e40 y.2)), (.v (.sl .nonfull (List.map e42 ([(⟨(a0.fClasses.length : Int), 0⟩ : S42)]))))]), .dead, .dead, .dead, .dead, (b6_4 v1172), .dead, .dead, .dead, .dead, (b6_5 v1560), .dead, (b6_6 v1561), .dead, .dead, (appO 1 (List.map eI v1683.1)), (b6_6 v1683), .dead, .dead, .dead, .dead, (appO 1 (List.map eI y1681.1)), (appO 5 (List.map e40 y.2))]⟩) → Lp (X6 n) k6_2 27 p6_11 nx1722 ⟨q2 ((.ptr 1 0) :: (.ptr 2 0) :: q1 ((dP eS v2) :: (dI (a0.fClasses.length : Int)) :: (.ptr 6 0) :: (dI v1160) :: q2 ((.ptr 16 0) :: (appD 27 (List.map eI y1681.1)) :: q5 ((appD 21 (List.map eI v1683.1)) :: q1 ((dI v1686) :: (dI v1718) :: q20 ((dP e37 a0.fClasses) :: (dI (a0.fClasses.length : Int)) :: (dI v1160) :: q5 ((dP e34 v1172.fItems) :: (dI (v1172.fItems.length : Int)) :: (dI v1548) :: q40 (q40 (q40 (q14 [])))))))))), [(b6_0 a0), b6_1, b6_2, (b6_3 v1), .dead, .dead, (.cells [(dI v1549), (appD 28 (List.map e40 v1719)), (.v (.sl .nonfull (List.map e42 ([(⟨(a0.fClasses.length : Int), 0⟩ : S42)]))))]), .dead, .dead, .dead, .dead, (b6_4 v1172), .dead, .dead, .dead, .dead, (b6_5 v1560), .dead, (b6_6 v1561), .dead, .dead, (appO 1 (List.map eI v1683.1)), (b6_6 v1683), .dead, .dead, .dead, .dead, (appO 1 (List.map eI y1681.1)), (appO 5 (List.map e40 v1719))]⟩ (blkQ (X6 n) 8 k6_3 27 (seqQ (X6 n) p6_9 (blkQ (X6 n) 3 k6_0 16 (seqQ (X6 n) p6_4 (lpQ (X6 n) k6_0 12 p6_3 nx1553 (blkQ (X6 n) 2 k6_1 12 (blkQ (X6 n) 1 k6_1 11 (seqQ (X6 n) p6_2 (lpQ (X6 n) k6_1 7 p6_1 nx1165 (blkQ (X6 n) 0 [2, 3, 7] 7 (seqQ (X6 n) p6_0 (fnQ (X6 n).E.T (resOf Proofs.Tryd.prog 6) (.tuple [e27 o.1, e29 o.2]))))))))))))) := by
 intro kx1721
 induction kx1721 with
 | zero => intro v1718 v1719  ox1720 h; exact (iter_zero h).elim
 | succ kx1721 ihx1723 =>
  intro v1718 v1719  ox1720 h nx1722 hnx1726 hrx1724 hxx1725
  obtain ⟨nx1722, rfl⟩ : ∃ q, nx1722 = q + 1 := ⟨nx1722 - 1, by omega⟩
  obtain ⟨sx1727, h, hsx1728⟩ := iter_some h
  have h : f6_B10 m a0 v1160 v1549 v1560 y1681 v1683 v1686 v1718 v1719 = some sx1727 := h
  unfold f6_B10 at h
  refine Lp.succ ?_
  refine Wp.sq ?_
  refine Wp.sq ?_
  refine Wp.rg ?_
  refine Ops.sg 3 3 ?_
  refine Ops.dn ?_
  refine seqQ.n ?_
  refine Wp.cnd h k6_2 29 (by kernel_rfl) (fun h => ?_) (fun h => ?_)
  ·refine Wp.sk ?_
   refine sqQ.n ⟨q2 ((.ptr 1 0) :: (.ptr 2 0) :: q1 ((dP eS v2) :: (dI (a0.fClasses.length : Int)) :: (.ptr 6 0) :: (dI v1160) :: q2 ((.ptr 16 0) :: (appD 29 (List.map eI y1681.1)) :: q5 ((appD 21 (List.map eI v1683.1)) :: q1 ((dI v1686) :: (dI v1718) :: q20 ((dP e37 a0.fClasses) :: (dI (a0.fClasses.length : Int)) :: (dI v1160) :: q5 ((dP e34 v1172.fItems) :: (dI (v1172.fItems.length : Int)) :: (dI v1548) :: q40 (q40 (q40 (q14 [])))))))))), [(b6_0 a0), b6_1, b6_2, (b6_3 v1), .dead, .dead, (.cells [(dI v1549), (appD 30 (List.map e40 v1719)), (.v (.sl .nonfull (List.map e42 ([(⟨(a0.fClasses.length : Int), 0⟩ : S42)]))))]), .dead, .dead, .dead, .dead, (b6_4 v1172), .dead, .dead, .dead, .dead, (b6_5 v1560), .dead, (b6_6 v1561), .dead, .dead, (appO 1 (List.map eI v1683.1)), (b6_6 v1683), .dead, .dead, .dead, .dead, .dead, .dead, (appO 1 (List.map eI y1681.1)), (appO 5 (List.map e40 v1719))]⟩ (by generalize y1681.1 = z0; generalize v1683.1 = z1; generalize v1719 = z2; cases z0 <;> cases z1 <;> cases z2 <;> (as_aux_lemma => kernel_rfl)) ?_
   refine seqQ.n ?_
   refine Wp.sq ?_
   refine Wp.block' 9 k6_2 31 (by kernel_rfl) ?_
   refine Wp.sq ?_
   refine Wp.rg ?_
   refine Ops.sg 5 5 ?_
   refine Ops.dn ?_
   refine seqQ.n ?_
   refine Wp.sq ?_
   refine Wp.sq ?_
   refine Wp.rg ?_
   refine Ops.sg 3 3 ?_
   refine Ops.dn ?_
   refine seqQ.n ?_
   have J6j1730 : ∀ (v1729 : Int) , f6_j9 m v1160 v1549 v1560 y1681 v1683 v1686 v1718 v1719 v1729 = some sx1727 → (seqQ (X6 n) p6_14 (blkQ (X6 n) 9 k6_2 31 (seqQ (X6 n) p6_12 (lpQ (X6 n) k6_2 27 p6_11 nx1722 (blkQ (X6 n) 8 k6_3 27 (seqQ (X6 n) p6_9 (blkQ (X6 n) 3 k6_0 16 (seqQ (X6 n) p6_4 (lpQ (X6 n) k6_0 12 p6_3 nx1553 (blkQ (X6 n) 2 k6_1 12 (blkQ (X6 n) 1 k6_1 11 (seqQ (X6 n) p6_2 (lpQ (X6 n) k6_1 7 p6_1 nx1165 (blkQ (X6 n) 0 [2, 3, 7] 7 (seqQ (X6 n) p6_0 (fnQ (X6 n).E.T (resOf Proofs.Tryd.prog 6) (.tuple [e27 o.1, e29 o.2]))))))))))))))))) .normal ⟨q2 ((.ptr 1 0) :: (.ptr 2 0) :: q1 ((dP eS v2) :: (dI (a0.fClasses.length : Int)) :: (.ptr 6 0) :: (dI v1160) :: q2 ((.ptr 16 0) :: (appD 32 (List.map eI y1681.1)) :: q5 ((appD 21 (List.map eI v1683.1)) :: q1 ((dI v1686) :: (dI v1718) :: (.ptr 31 0) :: q19 ((dP e37 a0.fClasses) :: (dI (a0.fClasses.length : Int)) :: (dI v1160) :: q5 ((dP e34 v1172.fItems) :: (dI (v1172.fItems.length : Int)) :: (dI v1548) :: q40 (q40 (q40 (q14 [])))))))))), [(b6_0 a0), b6_1, b6_2, (b6_3 v1), .dead, .dead, (.cells [(dI v1549), (appD 33 (List.map e40 v1719)), (.v (.sl .nonfull (List.map e42 ([(⟨(a0.fClasses.length : Int), 0⟩ : S42)]))))]), .dead, .dead, .dead, .dead, (b6_4 v1172), .dead, .dead, .dead, .dead, (b6_5 v1560), .dead, (b6_6 v1561), .dead, .dead, (appO 1 (List.map eI v1683.1)), (b6_6 v1683), .dead, .dead, .dead, .dead, .dead, .dead, .dead, .dead, (.cells [(dI v1160), (dI v1729), (dI 0), (dI 0), (dI 0)]), (appO 1 (List.map eI y1681.1)), (appO 5 (List.map e40 v1719))]⟩ := by
    intro v1729  h
    unfold f6_j9 at h
    refine seqQ.n ?_
    refine Wp.sq ?_
    refine Wp.sq ?_
    refine Wp.rg ?_
    refine Ops.sg 2 2 ?_
    refine Ops.dn ?_
    refine seqQ.n ?_
    have J6j1733 : ∀ (v1731 : Int) (v1732 : Int) , f6_j8 m v1549 y1681 v1683 v1686 v1718 v1719 v1729 v1731 v1732 = some sx1727 → (seqQ (X6 n) p6_15 (blkQ (X6 n) 9 k6_2 31 (seqQ (X6 n) p6_12 (lpQ (X6 n) k6_2 27 p6_11 nx1722 (blkQ (X6 n) 8 k6_3 27 (seqQ (X6 n) p6_9 (blkQ (X6 n) 3 k6_0 16 (seqQ (X6 n) p6_4 (lpQ (X6 n) k6_0 12 p6_3 nx1553 (blkQ (X6 n) 2 k6_1 12 (blkQ (X6 n) 1 k6_1 11 (seqQ (X6 n) p6_2 (lpQ (X6 n) k6_1 7 p6_1 nx1165 (blkQ (X6 n) 0 [2, 3, 7] 7 (seqQ (X6 n) p6_0 (fnQ (X6 n).E.T (resOf Proofs.Tryd.prog 6) (.tuple [e27 o.1, e29 o.2]))))))))))))))))) .normal ⟨q2 ((.ptr 1 0) :: (.ptr 2 0) :: q1 ((dP eS v2) :: (dI (a0.fClasses.length : Int)) :: (.ptr 6 0) :: (dI v1160) :: q2 ((.ptr 16 0) :: (appD 34 (List.map eI y1681.1)) :: q5 ((appD 21 (List.map eI v1683.1)) :: q1 ((dI v1686) :: (dI v1718) :: (.ptr 31 0) :: q19 ((dP e37 a0.fClasses) :: (dI (a0.fClasses.length : Int)) :: (dI v1160) :: q5 ((dP e34 v1172.fItems) :: (dI (v1172.fItems.length : Int)) :: (dI v1548) :: q40 (q40 (q40 (q14 [])))))))))), [(b6_0 a0), b6_1, b6_2, (b6_3 v1), .dead, .dead, (.cells [(dI v1549), (appD 35 (List.map e40 v1719)), (.v (.sl .nonfull (List.map e42 ([(⟨(a0.fClasses.length : Int), 0⟩ : S42)]))))]), .dead, .dead, .dead, .dead, (b6_4 v1172), .dead, .dead, .dead, .dead, (b6_5 v1560), .dead, (b6_6 v1561), .dead, .dead, (appO 1 (List.map eI v1683.1)), (b6_6 v1683), .dead, .dead, .dead, .dead, .dead, .dead, .dead, .dead, (.cells [(dI v1731), (dI v1729), (dI 0), (dI 0), (dI v1732)]), .dead, .dead, (appO 1 (List.map eI y1681.1)), (appO 5 (List.map e40 v1719))]⟩ := by
     intro v1731 v1732  h
     unfold f6_j8 at h
     refine seqQ.n ?_
     refine Wp.sq ?_
     refine Wp.sq ?_
     refine Wp.rg ?_
     refine Ops.sg 4 4 ?_
     refine Ops.dn ?_
     refine seqQ.n ?_
     have J6j1735 : ∀ (v1734 : Int) , f6_j7 m y1681 v1683 v1718 v1719 v1731 v1732 v1734 = some sx1727 → (seqQ (X6 n) p6_17 (blkQ (X6 n) 9 k6_2 31 (seqQ (X6 n) p6_12 (lpQ (X6 n) k6_2 27 p6_11 nx1722 (blkQ (X6 n) 8 k6_3 27 (seqQ (X6 n) p6_9 (blkQ (X6 n) 3 k6_0 16 (seqQ (X6 n) p6_4 (lpQ (X6 n) k6_0 12 p6_3 nx1553 (blkQ (X6 n) 2 k6_1 12 (blkQ (X6 n) 1 k6_1 11 (seqQ (X6 n) p6_2 (lpQ (X6 n) k6_1 7 p6_1 nx1165 (blkQ (X6 n) 0 [2, 3, 7] 7 (seqQ (X6 n) p6_0 (fnQ (X6 n).E.T (resOf Proofs.Tryd.prog 6) (.tuple [e27 o.1, e29 o.2]))))))))))))))))) .normal ⟨q2 ((.ptr 1 0) :: (.ptr 2 0) :: q1 ((dP eS v2) :: (dI (a0.fClasses.length : Int)) :: (.ptr 6 0) :: (dI v1160) :: q2 ((.ptr 16 0) :: (appD 36 (List.map eI y1681.1)) :: q5 ((appD 21 (List.map eI v1683.1)) :: q1 ((dI v1686) :: (dI v1718) :: (.ptr 31 0) :: q19 ((dP e37 a0.fClasses) :: (dI (a0.fClasses.length : Int)) :: (dI v1160) :: q5 ((dP e34 v1172.fItems) :: (dI (v1172.fItems.length : Int)) :: (dI v1548) :: q40 (q40 (q40 (q14 [])))))))))), [(b6_0 a0), b6_1, b6_2, (b6_3 v1), .dead, .dead, (.cells [(dI v1549), (appD 37 (List.map e40 v1719)), (.v (.sl .nonfull (List.map e42 ([(⟨(a0.fClasses.length : Int), 0⟩ : S42)]))))]), .dead, .dead, .dead, .dead, (b6_4 v1172), .dead, .dead, .dead, .dead, (b6_5 v1560), .dead, (b6_6 v1561), .dead, .dead, (appO 1 (List.map eI v1683.1)), (b6_6 v1683), .dead, .dead, .dead, .dead, .dead, .dead, .dead, .dead, (.cells [(dI v1731), (dI v1734), (dI 0), (dI 0), (dI v1732)]), .dead, .dead, .dead, .dead, (appO 1 (List.map eI y1681.1)), (appO 5 (List.map e40 v1719))]⟩ := by
      intro v1734  h
      unfold f6_j7 at h
      refine seqQ.n ?_
      refine Wp.sq ?_
      refine Wp.sq ?_
      refine Wp.rg ?_
      refine Ops.sg 2 2 ?_
      refine Ops.on 3 (fun h0 e0 => (len_a (T := T) (g := .nil) h0 47 3 36 eI y1681.1 (by kernel_rfl))) ?_
      refine Ops.sg 1 4 ?_
      refine Ops.dn ?_
      refine seqQ.n ?_
      have J6j1737 : ∀ (v1736 : Int) , f6_j6 m v1683 v1718 v1719 v1731 v1732 v1734 v1736 = some sx1727 → (seqQ (X6 n) p6_18 (blkQ (X6 n) 9 k6_2 31 (seqQ (X6 n) p6_12 (lpQ (X6 n) k6_2 27 p6_11 nx1722 (blkQ (X6 n) 8 k6_3 27 (seqQ (X6 n) p6_9 (blkQ (X6 n) 3 k6_0 16 (seqQ (X6 n) p6_4 (lpQ (X6 n) k6_0 12 p6_3 nx1553 (blkQ (X6 n) 2 k6_1 12 (blkQ (X6 n) 1 k6_1 11 (seqQ (X6 n) p6_2 (lpQ (X6 n) k6_1 7 p6_1 nx1165 (blkQ (X6 n) 0 [2, 3, 7] 7 (seqQ (X6 n) p6_0 (fnQ (X6 n).E.T (resOf Proofs.Tryd.prog 6) (.tuple [e27 o.1, e29 o.2]))))))))))))))))) .normal ⟨q2 ((.ptr 1 0) :: (.ptr 2 0) :: q1 ((dP eS v2) :: (dI (a0.fClasses.length : Int)) :: (.ptr 6 0) :: (dI v1160) :: q2 ((.ptr 16 0) :: (appD 38 (List.map eI y1681.1)) :: q5 ((appD 21 (List.map eI v1683.1)) :: q1 ((dI v1686) :: (dI v1718) :: (.ptr 31 0) :: q19 ((dP e37 a0.fClasses) :: (dI (a0.fClasses.length : Int)) :: (dI v1160) :: q5 ((dP e34 v1172.fItems) :: (dI (v1172.fItems.length : Int)) :: (dI v1548) :: q40 (q40 (q40 (q14 [])))))))))), [(b6_0 a0), b6_1, b6_2, (b6_3 v1), .dead, .dead, (.cells [(dI v1549), (appD 39 (List.map e40 v1719)), (.v (.sl .nonfull (List.map e42 ([(⟨(a0.fClasses.length : Int), 0⟩ : S42)]))))]), .dead, .dead, .dead, .dead, (b6_4 v1172), .dead, .dead, .dead, .dead, (b6_5 v1560), .dead, (b6_6 v1561), .dead, .dead, (appO 1 (List.map eI v1683.1)), (b6_6 v1683), .dead, .dead, .dead, .dead, .dead, .dead, .dead, .dead, (.cells [(dI v1731), (dI v1734), (dI v1736), (dI 0), (dI v1732)]), .dead, .dead, .dead, .dead, .dead, .dead, (appO 1 (List.map eI y1681.1)), (appO 5 (List.map e40 v1719))]⟩ := by
       intro v1736  h
       unfold f6_j6 at h
       refine seqQ.n ?_
       refine Wp.sq ?_
       refine Wp.sq ?_
       refine Wp.rg ?_
       refine Ops.sg 2 2 ?_
       refine Ops.on 3 (fun h0 e0 => (len_a (T := T) (g := .nil) h0 47 3 21 eI v1683.1 (by kernel_rfl))) ?_
       refine Ops.sg 1 4 ?_
       refine Ops.dn ?_
       refine seqQ.n ?_
       have J6j1739 : ∀ (v1738 : Int) , f6_j5 m v1718 v1719 v1731 v1732 v1734 v1736 v1738 = some sx1727 → (seqQ (X6 n) p6_19 (blkQ (X6 n) 9 k6_2 31 (seqQ (X6 n) p6_12 (lpQ (X6 n) k6_2 27 p6_11 nx1722 (blkQ (X6 n) 8 k6_3 27 (seqQ (X6 n) p6_9 (blkQ (X6 n) 3 k6_0 16 (seqQ (X6 n) p6_4 (lpQ (X6 n) k6_0 12 p6_3 nx1553 (blkQ (X6 n) 2 k6_1 12 (blkQ (X6 n) 1 k6_1 11 (seqQ (X6 n) p6_2 (lpQ (X6 n) k6_1 7 p6_1 nx1165 (blkQ (X6 n) 0 [2, 3, 7] 7 (seqQ (X6 n) p6_0 (fnQ (X6 n).E.T (resOf Proofs.Tryd.prog 6) (.tuple [e27 o.1, e29 o.2]))))))))))))))))) .normal ⟨q2 ((.ptr 1 0) :: (.ptr 2 0) :: q1 ((dP eS v2) :: (dI (a0.fClasses.length : Int)) :: (.ptr 6 0) :: (dI v1160) :: q2 ((.ptr 16 0) :: (appD 40 (List.map eI y1681.1)) :: q5 ((appD 21 (List.map eI v1683.1)) :: q1 ((dI v1686) :: (dI v1718) :: (.ptr 31 0) :: q19 ((dP e37 a0.fClasses) :: (dI (a0.fClasses.length : Int)) :: (dI v1160) :: q5 ((dP e34 v1172.fItems) :: (dI (v1172.fItems.length : Int)) :: (dI v1548) :: q40 (q40 (q40 (q14 [])))))))))), [(b6_0 a0), b6_1, b6_2, (b6_3 v1), .dead, .dead, (.cells [(dI v1549), (appD 41 (List.map e40 v1719)), (.v (.sl .nonfull (List.map e42 ([(⟨(a0.fClasses.length : Int), 0⟩ : S42)]))))]), .dead, .dead, .dead, .dead, (b6_4 v1172), .dead, .dead, .dead, .dead, (b6_5 v1560), .dead, (b6_6 v1561), .dead, .dead, (appO 1 (List.map eI v1683.1)), (b6_6 v1683), .dead, .dead, .dead, .dead, .dead, .dead, .dead, .dead, (.cells [(dI v1731), (dI v1734), (dI v1736), (dI v1738), (dI v1732)]), .dead, .dead, .dead, .dead, .dead, .dead, .dead, .dead, (appO 1 (List.map eI y1681.1)), (appO 5 (List.map e40 v1719))]⟩ := by
        intro v1738  h
        unfold f6_j5 at h
        refine seqQ.n ?_
        refine Wp.rg ?_
        refine Ops.sg 4 4 ?_
        obtain ⟨v1740, ev1740, h⟩ := bnd_some h
        refine Ops.on 5 (fun h0 e0 => (app_r (T := T) (g := .nil) h0 25 41 41 5 ti41 .nonfull e40 v1719 ([(⟨v1731, v1734, v1736, v1738, v1732⟩ : S40)]) v1740 ev1740 (by kernel_rfl) (by kernel_rfl) (by kernel_rfl) (by kernel_rfl) (fun _ => rfl) (hq_of e0 (by kernel_rfl)))) ?_
        refine Ops.sg 1 6 ?_
        refine Ops.on 7 (fun h0 e0 => (st_l (i := ti25) (h := h0) (r := 6) (off := 1) (cs := [(dI v1549), (appD 41 (List.map e40 v1719)), (.v (.sl .nonfull (List.map e42 ([(⟨(a0.fClasses.length : Int), 0⟩ : S42)]))))]) (cs' := [(dI v1549), (appD 42 (List.map e40 v1740)), (.v (.sl .nonfull (List.map e42 ([(⟨(a0.fClasses.length : Int), 0⟩ : S42)]))))]) (x := (appD 42 (List.map e40 v1740))) (hq_of (g := [(b6_0 a0), b6_1, b6_2, (b6_3 v1), .dead, .dead, (.cells [(dI v1549), (appD 41 (List.map e40 v1719)), (.v (.sl .nonfull (List.map e42 ([(⟨(a0.fClasses.length : Int), 0⟩ : S42)]))))]), .dead, .dead, .dead, .dead, (b6_4 v1172), .dead, .dead, .dead, .dead, (b6_5 v1560), .dead, (b6_6 v1561), .dead, .dead, (appO 1 (List.map eI v1683.1)), (b6_6 v1683), .dead, .dead, .dead, .dead, .dead, .dead, .dead, .dead, (.cells [(dI v1731), (dI v1734), (dI v1736), (dI v1738), (dI v1732)]), .dead, .dead, .dead, .dead, .dead, .dead, .dead, .dead, (appO 1 (List.map eI y1681.1)), .dead, (appO 5 (List.map e40 v1740))]) (e0.trans (by kernel_rfl)) rfl) (by kernel_rfl) (appF_one _ _ _) (by rfl))) ?_
        refine Ops.dn ?_
        refine blkQ.n ⟨q2 ((.ptr 1 0) :: (.ptr 2 0) :: q1 ((dP eS v2) :: (dI (a0.fClasses.length : Int)) :: (.ptr 6 0) :: (dI v1160) :: q2 ((.ptr 16 0) :: (appD 31 (List.map eI y1681.1)) :: q5 ((appD 21 (List.map eI v1683.1)) :: q1 ((dI v1686) :: (dI v1718) :: q20 ((dP e37 a0.fClasses) :: (dI (a0.fClasses.length : Int)) :: (dI v1160) :: q5 ((dP e34 v1172.fItems) :: (dI (v1172.fItems.length : Int)) :: (dI v1548) :: q40 (q40 (q40 (q14 [])))))))))), [(b6_0 a0), b6_1, b6_2, (b6_3 v1), .dead, .dead, (.cells [(dI v1549), (appD 32 (List.map e40 v1740)), (.v (.sl .nonfull (List.map e42 ([(⟨(a0.fClasses.length : Int), 0⟩ : S42)]))))]), .dead, .dead, .dead, .dead, (b6_4 v1172), .dead, .dead, .dead, .dead, (b6_5 v1560), .dead, (b6_6 v1561), .dead, .dead, (appO 1 (List.map eI v1683.1)), (b6_6 v1683), .dead, .dead, .dead, .dead, .dead, .dead, .dead, .dead, (appO 1 (List.map eI y1681.1)), (appO 5 (List.map e40 v1740))]⟩ (by generalize y1681.1 = z0; generalize v1683.1 = z1; generalize v1740 = z2; cases z0 <;> cases z1 <;> cases z2 <;> (as_aux_lemma => kernel_rfl)) ?_
        refine seqQ.n ?_
        refine Wp.rg ?_
        refine Ops.sg 3 3 ?_
        refine Ops.dn ?_
        refine lpQ.n ⟨q2 ((.ptr 1 0) :: (.ptr 2 0) :: q1 ((dP eS v2) :: (dI (a0.fClasses.length : Int)) :: (.ptr 6 0) :: (dI v1160) :: q2 ((.ptr 16 0) :: (appD 27 (List.map eI y1681.1)) :: q5 ((appD 21 (List.map eI v1683.1)) :: q1 ((dI v1686) :: (dI (w64 (v1718 + 1))) :: q20 ((dP e37 a0.fClasses) :: (dI (a0.fClasses.length : Int)) :: (dI v1160) :: q5 ((dP e34 v1172.fItems) :: (dI (v1172.fItems.length : Int)) :: (dI v1548) :: q40 (q40 (q40 (q14 [])))))))))), [(b6_0 a0), b6_1, b6_2, (b6_3 v1), .dead, .dead, (.cells [(dI v1549), (appD 28 (List.map e40 v1740)), (.v (.sl .nonfull (List.map e42 ([(⟨(a0.fClasses.length : Int), 0⟩ : S42)]))))]), .dead, .dead, .dead, .dead, (b6_4 v1172), .dead, .dead, .dead, .dead, (b6_5 v1560), .dead, (b6_6 v1561), .dead, .dead, (appO 1 (List.map eI v1683.1)), (b6_6 v1683), .dead, .dead, .dead, .dead, (appO 1 (List.map eI y1681.1)), (appO 5 (List.map e40 v1740))]⟩ (by generalize y1681.1 = z0; generalize v1683.1 = z1; generalize v1740 = z2; cases z0 <;> cases z1 <;> cases z2 <;> (as_aux_lemma => kernel_rfl)) ?_
        cases h
        exact ihx1723 (w64 (v1718 + 1)) v1740  _ hsx1728 _ (by omega) hrx1724 hxx1725
       refine Wp.cnd h k6_4 40 (by kernel_rfl) (fun h => ?_) (fun h => ?_)
       ·refine Wp.rg ?_
        refine Ops.sg 2 2 ?_
        obtain ⟨v1741, ev1741, h⟩ := bnd_some h
        refine Ops.on 3 (fun h0 e0 => (ix_a (T := T) (g := .nil) h0 47 3 1 21 eI v1683.1 v1718 v1741 ev1741 (by kernel_rfl) (by kernel_rfl) (fun _ => rfl))) ?_
        refine Ops.seg 3 6 (by kernel_rfl) ⟨q2 ((.ptr 1 0) :: (.ptr 2 0) :: q1 ((dP eS v2) :: (dI (a0.fClasses.length : Int)) :: (.ptr 6 0) :: (dI v1160) :: q2 ((.ptr 16 0) :: (appD 38 (List.map eI y1681.1)) :: q5 ((appD 21 (List.map eI v1683.1)) :: q1 ((dI v1686) :: (dI v1718) :: (.ptr 31 0) :: q19 ((dP e37 a0.fClasses) :: (dI (a0.fClasses.length : Int)) :: (dI v1160) :: q5 ((dP e34 v1172.fItems) :: (dI (v1172.fItems.length : Int)) :: (dI v1548) :: q40 (q40 (q14 ((dI v1718) :: (appD 21 (List.map eI v1683.1)) :: (dI (v1683.1.length : Int)) :: (dB (decide (v1718 < (v1683.1.length : Int)))) :: (appD 21 (List.map eI v1683.1)) :: (dI v1718) :: (.vptr [(vI v1741)]) :: (dI v1741) :: (.ptr 31 3) :: q31 [])))))))))), [(b6_0 a0), b6_1, b6_2, (b6_3 v1), .dead, .dead, (.cells [(dI v1549), (appD 39 (List.map e40 v1719)), (.v (.sl .nonfull (List.map e42 ([(⟨(a0.fClasses.length : Int), 0⟩ : S42)]))))]), .dead, .dead, .dead, .dead, (b6_4 v1172), .dead, .dead, .dead, .dead, (b6_5 v1560), .dead, (b6_6 v1561), .dead, .dead, (appO 1 (List.map eI v1683.1)), (b6_6 v1683), .dead, .dead, .dead, .dead, .dead, .dead, .dead, .dead, (.cells [(dI v1731), (dI v1734), (dI v1736), (dI v1741), (dI v1732)]), .dead, .dead, .dead, .dead, .dead, .dead, (appO 1 (List.map eI y1681.1)), (appO 5 (List.map e40 v1719))]⟩ (by kernel_rfl) ?_
        refine Ops.dn ?_
        refine sqQ.n ⟨q2 ((.ptr 1 0) :: (.ptr 2 0) :: q1 ((dP eS v2) :: (dI (a0.fClasses.length : Int)) :: (.ptr 6 0) :: (dI v1160) :: q2 ((.ptr 16 0) :: (appD 40 (List.map eI y1681.1)) :: q5 ((appD 21 (List.map eI v1683.1)) :: q1 ((dI v1686) :: (dI v1718) :: (.ptr 31 0) :: q19 ((dP e37 a0.fClasses) :: (dI (a0.fClasses.length : Int)) :: (dI v1160) :: q5 ((dP e34 v1172.fItems) :: (dI (v1172.fItems.length : Int)) :: (dI v1548) :: q40 (q40 (q40 (q14 [])))))))))), [(b6_0 a0), b6_1, b6_2, (b6_3 v1), .dead, .dead, (.cells [(dI v1549), (appD 41 (List.map e40 v1719)), (.v (.sl .nonfull (List.map e42 ([(⟨(a0.fClasses.length : Int), 0⟩ : S42)]))))]), .dead, .dead, .dead, .dead, (b6_4 v1172), .dead, .dead, .dead, .dead, (b6_5 v1560), .dead, (b6_6 v1561), .dead, .dead, (appO 1 (List.map eI v1683.1)), (b6_6 v1683), .dead, .dead, .dead, .dead, .dead, .dead, .dead, .dead, (.cells [(dI v1731), (dI v1734), (dI v1736), (dI v1741), (dI v1732)]), .dead, .dead, .dead, .dead, .dead, .dead, .dead, .dead, (appO 1 (List.map eI y1681.1)), (appO 5 (List.map e40 v1719))]⟩ (by generalize y1681.1 = z0; generalize v1683.1 = z1; generalize v1719 = z2; cases z0 <;> cases z1 <;> cases z2 <;> (as_aux_lemma => kernel_rfl)) ?_
        exact J6j1739 v1741  h
       ·refine Wp.sk ?_
        refine sqQ.n ⟨q2 ((.ptr 1 0) :: (.ptr 2 0) :: q1 ((dP eS v2) :: (dI (a0.fClasses.length : Int)) :: (.ptr 6 0) :: (dI v1160) :: q2 ((.ptr 16 0) :: (appD 40 (List.map eI y1681.1)) :: q5 ((appD 21 (List.map eI v1683.1)) :: q1 ((dI v1686) :: (dI v1718) :: (.ptr 31 0) :: q19 ((dP e37 a0.fClasses) :: (dI (a0.fClasses.length : Int)) :: (dI v1160) :: q5 ((dP e34 v1172.fItems) :: (dI (v1172.fItems.length : Int)) :: (dI v1548) :: q40 (q40 (q40 (q14 [])))))))))), [(b6_0 a0), b6_1, b6_2, (b6_3 v1), .dead, .dead, (.cells [(dI v1549), (appD 41 (List.map e40 v1719)), (.v (.sl .nonfull (List.map e42 ([(⟨(a0.fClasses.length : Int), 0⟩ : S42)]))))]), .dead, .dead, .dead, .dead, (b6_4 v1172), .dead, .dead, .dead, .dead, (b6_5 v1560), .dead, (b6_6 v1561), .dead, .dead, (appO 1 (List.map eI v1683.1)), (b6_6 v1683), .dead, .dead, .dead, .dead, .dead, .dead, .dead, .dead, (.cells [(dI v1731), (dI v1734), (dI v1736), (dI 0), (dI v1732)]), .dead, .dead, .dead, .dead, .dead, .dead, .dead, .dead, (appO 1 (List.map eI y1681.1)), (appO 5 (List.map e40 v1719))]⟩ (by generalize y1681.1 = z0; generalize v1683.1 = z1; generalize v1719 = z2; cases z0 <;> cases z1 <;> cases z2 <;> (as_aux_lemma => kernel_rfl)) ?_
        exact J6j1739 0  h
      refine Wp.cnd h k6_4 38 (by kernel_rfl) (fun h => ?_) (fun h => ?_)
      ·refine Wp.rg ?_
       refine Ops.sg 2 2 ?_
       obtain ⟨v1742, ev1742, h⟩ := bnd_some h
       refine Ops.on 3 (fun h0 e0 => (ix_a (T := T) (g := .nil) h0 47 3 1 36 eI y1681.1 v1718 v1742 ev1742 (by kernel_rfl) (by kernel_rfl) (fun _ => rfl))) ?_
       refine Ops.seg 3 6 (by kernel_rfl) ⟨q2 ((.ptr 1 0) :: (.ptr 2 0) :: q1 ((dP eS v2) :: (dI (a0.fClasses.length : Int)) :: (.ptr 6 0) :: (dI v1160) :: q2 ((.ptr 16 0) :: (appD 36 (List.map eI y1681.1)) :: q5 ((appD 21 (List.map eI v1683.1)) :: q1 ((dI v1686) :: (dI v1718) :: (.ptr 31 0) :: q19 ((dP e37 a0.fClasses) :: (dI (a0.fClasses.length : Int)) :: (dI v1160) :: q5 ((dP e34 v1172.fItems) :: (dI (v1172.fItems.length : Int)) :: (dI v1548) :: q40 (q40 (q5 ((dI v1718) :: (appD 36 (List.map eI y1681.1)) :: (dI (y1681.1.length : Int)) :: (dB (decide (v1718 < (y1681.1.length : Int)))) :: (appD 36 (List.map eI y1681.1)) :: (dI v1718) :: (.vptr [(vI v1742)]) :: (dI v1742) :: (.ptr 31 2) :: q40 [])))))))))), [(b6_0 a0), b6_1, b6_2, (b6_3 v1), .dead, .dead, (.cells [(dI v1549), (appD 37 (List.map e40 v1719)), (.v (.sl .nonfull (List.map e42 ([(⟨(a0.fClasses.length : Int), 0⟩ : S42)]))))]), .dead, .dead, .dead, .dead, (b6_4 v1172), .dead, .dead, .dead, .dead, (b6_5 v1560), .dead, (b6_6 v1561), .dead, .dead, (appO 1 (List.map eI v1683.1)), (b6_6 v1683), .dead, .dead, .dead, .dead, .dead, .dead, .dead, .dead, (.cells [(dI v1731), (dI v1734), (dI v1742), (dI 0), (dI v1732)]), .dead, .dead, .dead, .dead, (appO 1 (List.map eI y1681.1)), (appO 5 (List.map e40 v1719))]⟩ (by kernel_rfl) ?_
       refine Ops.dn ?_
       refine sqQ.n ⟨q2 ((.ptr 1 0) :: (.ptr 2 0) :: q1 ((dP eS v2) :: (dI (a0.fClasses.length : Int)) :: (.ptr 6 0) :: (dI v1160) :: q2 ((.ptr 16 0) :: (appD 38 (List.map eI y1681.1)) :: q5 ((appD 21 (List.map eI v1683.1)) :: q1 ((dI v1686) :: (dI v1718) :: (.ptr 31 0) :: q19 ((dP e37 a0.fClasses) :: (dI (a0.fClasses.length : Int)) :: (dI v1160) :: q5 ((dP e34 v1172.fItems) :: (dI (v1172.fItems.length : Int)) :: (dI v1548) :: q40 (q40 (q40 (q14 [])))))))))), [(b6_0 a0), b6_1, b6_2, (b6_3 v1), .dead, .dead, (.cells [(dI v1549), (appD 39 (List.map e40 v1719)), (.v (.sl .nonfull (List.map e42 ([(⟨(a0.fClasses.length : Int), 0⟩ : S42)]))))]), .dead, .dead, .dead, .dead, (b6_4 v1172), .dead, .dead, .dead, .dead, (b6_5 v1560), .dead, (b6_6 v1561), .dead, .dead, (appO 1 (List.map eI v1683.1)), (b6_6 v1683), .dead, .dead, .dead, .dead, .dead, .dead, .dead, .dead, (.cells [(dI v1731), (dI v1734), (dI v1742), (dI 0), (dI v1732)]), .dead, .dead, .dead, .dead, .dead, .dead, (appO 1 (List.map eI y1681.1)), (appO 5 (List.map e40 v1719))]⟩ (by generalize y1681.1 = z0; generalize v1683.1 = z1; generalize v1719 = z2; cases z0 <;> cases z1 <;> cases z2 <;> (as_aux_lemma => kernel_rfl)) ?_
       exact J6j1737 v1742  h
      ·refine Wp.sk ?_
       refine sqQ.n ⟨q2 ((.ptr 1 0) :: (.ptr 2 0) :: q1 ((dP eS v2) :: (dI (a0.fClasses.length : Int)) :: (.ptr 6 0) :: (dI v1160) :: q2 ((.ptr 16 0) :: (appD 38 (List.map eI y1681.1)) :: q5 ((appD 21 (List.map eI v1683.1)) :: q1 ((dI v1686) :: (dI v1718) :: (.ptr 31 0) :: q19 ((dP e37 a0.fClasses) :: (dI (a0.fClasses.length : Int)) :: (dI v1160) :: q5 ((dP e34 v1172.fItems) :: (dI (v1172.fItems.length : Int)) :: (dI v1548) :: q40 (q40 (q40 (q14 [])))))))))), [(b6_0 a0), b6_1, b6_2, (b6_3 v1), .dead, .dead, (.cells [(dI v1549), (appD 39 (List.map e40 v1719)), (.v (.sl .nonfull (List.map e42 ([(⟨(a0.fClasses.length : Int), 0⟩ : S42)]))))]), .dead, .dead, .dead, .dead, (b6_4 v1172), .dead, .dead, .dead, .dead, (b6_5 v1560), .dead, (b6_6 v1561), .dead, .dead, (appO 1 (List.map eI v1683.1)), (b6_6 v1683), .dead, .dead, .dead, .dead, .dead, .dead, .dead, .dead, (.cells [(dI v1731), (dI v1734), (dI 0), (dI 0), (dI v1732)]), .dead, .dead, .dead, .dead, .dead, .dead, (appO 1 (List.map eI y1681.1)), (appO 5 (List.map e40 v1719))]⟩ (by generalize y1681.1 = z0; generalize v1683.1 = z1; generalize v1719 = z2; cases z0 <;> cases z1 <;> cases z2 <;> (as_aux_lemma => kernel_rfl)) ?_
       exact J6j1737 0  h
     refine Wp.cnd h k6_4 36 (by kernel_rfl) (fun h => ?_) (fun h => ?_)
     ·refine Wp.rg ?_
      refine Ops.sg 6 6 ?_
      refine Ops.dn ?_
      refine sqQ.n ⟨q2 ((.ptr 1 0) :: (.ptr 2 0) :: q1 ((dP eS v2) :: (dI (a0.fClasses.length : Int)) :: (.ptr 6 0) :: (dI v1160) :: q2 ((.ptr 16 0) :: (appD 36 (List.map eI y1681.1)) :: q5 ((appD 21 (List.map eI v1683.1)) :: q1 ((dI v1686) :: (dI v1718) :: (.ptr 31 0) :: q19 ((dP e37 a0.fClasses) :: (dI (a0.fClasses.length : Int)) :: (dI v1160) :: q5 ((dP e34 v1172.fItems) :: (dI (v1172.fItems.length : Int)) :: (dI v1548) :: q40 (q40 (q40 (q14 [])))))))))), [(b6_0 a0), b6_1, b6_2, (b6_3 v1), .dead, .dead, (.cells [(dI v1549), (appD 37 (List.map e40 v1719)), (.v (.sl .nonfull (List.map e42 ([(⟨(a0.fClasses.length : Int), 0⟩ : S42)]))))]), .dead, .dead, .dead, .dead, (b6_4 v1172), .dead, .dead, .dead, .dead, (b6_5 v1560), .dead, (b6_6 v1561), .dead, .dead, (appO 1 (List.map eI v1683.1)), (b6_6 v1683), .dead, .dead, .dead, .dead, .dead, .dead, .dead, .dead, (.cells [(dI v1731), (dI (w64 (v1549 + v1718))), (dI 0), (dI 0), (dI v1732)]), .dead, .dead, .dead, .dead, (appO 1 (List.map eI y1681.1)), (appO 5 (List.map e40 v1719))]⟩ (by generalize y1681.1 = z0; generalize v1683.1 = z1; generalize v1719 = z2; cases z0 <;> cases z1 <;> cases z2 <;> (as_aux_lemma => kernel_rfl)) ?_
      exact J6j1735 (w64 (v1549 + v1718))  h
     ·refine Wp.sk ?_
      refine sqQ.n ⟨q2 ((.ptr 1 0) :: (.ptr 2 0) :: q1 ((dP eS v2) :: (dI (a0.fClasses.length : Int)) :: (.ptr 6 0) :: (dI v1160) :: q2 ((.ptr 16 0) :: (appD 36 (List.map eI y1681.1)) :: q5 ((appD 21 (List.map eI v1683.1)) :: q1 ((dI v1686) :: (dI v1718) :: (.ptr 31 0) :: q19 ((dP e37 a0.fClasses) :: (dI (a0.fClasses.length : Int)) :: (dI v1160) :: q5 ((dP e34 v1172.fItems) :: (dI (v1172.fItems.length : Int)) :: (dI v1548) :: q40 (q40 (q40 (q14 [])))))))))), [(b6_0 a0), b6_1, b6_2, (b6_3 v1), .dead, .dead, (.cells [(dI v1549), (appD 37 (List.map e40 v1719)), (.v (.sl .nonfull (List.map e42 ([(⟨(a0.fClasses.length : Int), 0⟩ : S42)]))))]), .dead, .dead, .dead, .dead, (b6_4 v1172), .dead, .dead, .dead, .dead, (b6_5 v1560), .dead, (b6_6 v1561), .dead, .dead, (appO 1 (List.map eI v1683.1)), (b6_6 v1683), .dead, .dead, .dead, .dead, .dead, .dead, .dead, .dead, (.cells [(dI v1731), (dI v1729), (dI 0), (dI 0), (dI v1732)]), .dead, .dead, .dead, .dead, (appO 1 (List.map eI y1681.1)), (appO 5 (List.map e40 v1719))]⟩ (by generalize y1681.1 = z0; generalize v1683.1 = z1; generalize v1719 = z2; cases z0 <;> cases z1 <;> cases z2 <;> (as_aux_lemma => kernel_rfl)) ?_
      exact J6j1735 v1729  h
    refine Wp.cnd h k6_4 34 (by kernel_rfl) (fun h => ?_) (fun h => ?_)
    ·refine Wp.rg ?_
     refine Ops.sg 7 7 ?_
     refine Ops.dn ?_
     refine sqQ.n ⟨q2 ((.ptr 1 0) :: (.ptr 2 0) :: q1 ((dP eS v2) :: (dI (a0.fClasses.length : Int)) :: (.ptr 6 0) :: (dI v1160) :: q2 ((.ptr 16 0) :: (appD 34 (List.map eI y1681.1)) :: q5 ((appD 21 (List.map eI v1683.1)) :: q1 ((dI v1686) :: (dI v1718) :: (.ptr 31 0) :: q19 ((dP e37 a0.fClasses) :: (dI (a0.fClasses.length : Int)) :: (dI v1160) :: q5 ((dP e34 v1172.fItems) :: (dI (v1172.fItems.length : Int)) :: (dI v1548) :: q40 (q40 (q40 (q14 [])))))))))), [(b6_0 a0), b6_1, b6_2, (b6_3 v1), .dead, .dead, (.cells [(dI v1549), (appD 35 (List.map e40 v1719)), (.v (.sl .nonfull (List.map e42 ([(⟨(a0.fClasses.length : Int), 0⟩ : S42)]))))]), .dead, .dead, .dead, .dead, (b6_4 v1172), .dead, .dead, .dead, .dead, (b6_5 v1560), .dead, (b6_6 v1561), .dead, .dead, (appO 1 (List.map eI v1683.1)), (b6_6 v1683), .dead, .dead, .dead, .dead, .dead, .dead, .dead, .dead, (.cells [(dI (w64 (w64 (v1549 + v1718) - 1))), (dI v1729), (dI 0), (dI 0), (dI 0)]), .dead, .dead, (appO 1 (List.map eI y1681.1)), (appO 5 (List.map e40 v1719))]⟩ (by generalize y1681.1 = z0; generalize v1683.1 = z1; generalize v1719 = z2; cases z0 <;> cases z1 <;> cases z2 <;> (as_aux_lemma => kernel_rfl)) ?_
     exact J6j1733 (w64 (w64 (v1549 + v1718) - 1)) 0  h
    ·refine Wp.rg ?_
     refine Ops.sg 4 4 ?_
     refine Ops.dn ?_
     refine sqQ.n ⟨q2 ((.ptr 1 0) :: (.ptr 2 0) :: q1 ((dP eS v2) :: (dI (a0.fClasses.length : Int)) :: (.ptr 6 0) :: (dI v1160) :: q2 ((.ptr 16 0) :: (appD 34 (List.map eI y1681.1)) :: q5 ((appD 21 (List.map eI v1683.1)) :: q1 ((dI v1686) :: (dI v1718) :: (.ptr 31 0) :: q19 ((dP e37 a0.fClasses) :: (dI (a0.fClasses.length : Int)) :: (dI v1160) :: q5 ((dP e34 v1172.fItems) :: (dI (v1172.fItems.length : Int)) :: (dI v1548) :: q40 (q40 (q40 (q14 [])))))))))), [(b6_0 a0), b6_1, b6_2, (b6_3 v1), .dead, .dead, (.cells [(dI v1549), (appD 35 (List.map e40 v1719)), (.v (.sl .nonfull (List.map e42 ([(⟨(a0.fClasses.length : Int), 0⟩ : S42)]))))]), .dead, .dead, .dead, .dead, (b6_4 v1172), .dead, .dead, .dead, .dead, (b6_5 v1560), .dead, (b6_6 v1561), .dead, .dead, (appO 1 (List.map eI v1683.1)), (b6_6 v1683), .dead, .dead, .dead, .dead, .dead, .dead, .dead, .dead, (.cells [(dI v1160), (dI v1729), (dI 0), (dI 0), (dI v1560.fWeight)]), .dead, .dead, (appO 1 (List.map eI y1681.1)), (appO 5 (List.map e40 v1719))]⟩ (by generalize y1681.1 = z0; generalize v1683.1 = z1; generalize v1719 = z2; cases z0 <;> cases z1 <;> cases z2 <;> (as_aux_lemma => kernel_rfl)) ?_
     exact J6j1733 v1160 v1560.fWeight  h
   refine Wp.cnd h k6_4 32 (by kernel_rfl) (fun h => ?_) (fun h => ?_)
   ·refine Wp.rg ?_
    refine Ops.seg 4 4 (by kernel_rfl) ⟨q2 ((.ptr 1 0) :: (.ptr 2 0) :: q1 ((dP eS v2) :: (dI (a0.fClasses.length : Int)) :: (.ptr 6 0) :: (dI v1160) :: q2 ((.ptr 16 0) :: (appD 29 (List.map eI y1681.1)) :: q5 ((appD 21 (List.map eI v1683.1)) :: q1 ((dI v1686) :: (dI v1718) :: (.ptr 31 0) :: q19 ((dP e37 a0.fClasses) :: (dI (a0.fClasses.length : Int)) :: (dI v1160) :: q5 ((dP e34 v1172.fItems) :: (dI (v1172.fItems.length : Int)) :: (dI v1548) :: q40 (q16 ((dI v1160) :: (dI (a0.fClasses.length : Int)) :: (.v (.agg [(vI v1160), (vI (a0.fClasses.length : Int)), (vI 0), (vI 0), (vI 0)])) :: (.ptr 16 3) :: (dI v1560.fNext) :: (dB (decide (v1560.fNext ≥ 0))) :: (.ptr 16 3) :: (dI v1560.fNext) :: (.ptr 31 1) :: q40 (q29 [])))))))))), [(b6_0 a0), b6_1, b6_2, (b6_3 v1), .dead, .dead, (.cells [(dI v1549), (appD 30 (List.map e40 v1719)), (.v (.sl .nonfull (List.map e42 ([(⟨(a0.fClasses.length : Int), 0⟩ : S42)]))))]), .dead, .dead, .dead, .dead, (b6_4 v1172), .dead, .dead, .dead, .dead, (b6_5 v1560), .dead, (b6_6 v1561), .dead, .dead, (appO 1 (List.map eI v1683.1)), (b6_6 v1683), .dead, .dead, .dead, .dead, .dead, .dead, (appO 1 (List.map eI y1681.1)), (appO 5 (List.map e40 v1719)), (.cells [(dI v1160), (dI v1560.fNext), (dI 0), (dI 0), (dI 0)])]⟩ (by kernel_rfl) ?_
    refine Ops.dn ?_
    refine sqQ.n ⟨q2 ((.ptr 1 0) :: (.ptr 2 0) :: q1 ((dP eS v2) :: (dI (a0.fClasses.length : Int)) :: (.ptr 6 0) :: (dI v1160) :: q2 ((.ptr 16 0) :: (appD 32 (List.map eI y1681.1)) :: q5 ((appD 21 (List.map eI v1683.1)) :: q1 ((dI v1686) :: (dI v1718) :: (.ptr 31 0) :: q19 ((dP e37 a0.fClasses) :: (dI (a0.fClasses.length : Int)) :: (dI v1160) :: q5 ((dP e34 v1172.fItems) :: (dI (v1172.fItems.length : Int)) :: (dI v1548) :: q40 (q40 (q40 (q14 [])))))))))), [(b6_0 a0), b6_1, b6_2, (b6_3 v1), .dead, .dead, (.cells [(dI v1549), (appD 33 (List.map e40 v1719)), (.v (.sl .nonfull (List.map e42 ([(⟨(a0.fClasses.length : Int), 0⟩ : S42)]))))]), .dead, .dead, .dead, .dead, (b6_4 v1172), .dead, .dead, .dead, .dead, (b6_5 v1560), .dead, (b6_6 v1561), .dead, .dead, (appO 1 (List.map eI v1683.1)), (b6_6 v1683), .dead, .dead, .dead, .dead, .dead, .dead, .dead, .dead, (.cells [(dI v1160), (dI v1560.fNext), (dI 0), (dI 0), (dI 0)]), (appO 1 (List.map eI y1681.1)), (appO 5 (List.map e40 v1719))]⟩ (by generalize y1681.1 = z0; generalize v1683.1 = z1; generalize v1719 = z2; cases z0 <;> cases z1 <;> cases z2 <;> (as_aux_lemma => kernel_rfl)) ?_
    exact J6j1730 v1560.fNext  h
   ·refine Wp.sk ?_
    refine sqQ.n ⟨q2 ((.ptr 1 0) :: (.ptr 2 0) :: q1 ((dP eS v2) :: (dI (a0.fClasses.length : Int)) :: (.ptr 6 0) :: (dI v1160) :: q2 ((.ptr 16 0) :: (appD 32 (List.map eI y1681.1)) :: q5 ((appD 21 (List.map eI v1683.1)) :: q1 ((dI v1686) :: (dI v1718) :: (.ptr 31 0) :: q19 ((dP e37 a0.fClasses) :: (dI (a0.fClasses.length : Int)) :: (dI v1160) :: q5 ((dP e34 v1172.fItems) :: (dI (v1172.fItems.length : Int)) :: (dI v1548) :: q40 (q40 (q40 (q14 [])))))))))), [(b6_0 a0), b6_1, b6_2, (b6_3 v1), .dead, .dead, (.cells [(dI v1549), (appD 33 (List.map e40 v1719)), (.v (.sl .nonfull (List.map e42 ([(⟨(a0.fClasses.length : Int), 0⟩ : S42)]))))]), .dead, .dead, .dead, .dead, (b6_4 v1172), .dead, .dead, .dead, .dead, (b6_5 v1560), .dead, (b6_6 v1561), .dead, .dead, (appO 1 (List.map eI v1683.1)), (b6_6 v1683), .dead, .dead, .dead, .dead, .dead, .dead, .dead, .dead, (.cells [(dI v1160), (dI (a0.fClasses.length : Int)), (dI 0), (dI 0), (dI 0)]), (appO 1 (List.map eI y1681.1)), (appO 5 (List.map e40 v1719))]⟩ (by generalize y1681.1 = z0; generalize v1683.1 = z1; generalize v1719 = z2; cases z0 <;> cases z1 <;> cases z2 <;> (as_aux_lemma => kernel_rfl)) ?_
    exact J6j1730 (a0.fClasses.length : Int)  h
  ·refine Wp.exit (id := 8) (by kernel_rfl) ?_
   refine sqQ.x ?_
   refine seqQ.x ?_
   cases h
   refine lpQ.x ?_
   refine blkQ.x ⟨q2 ((.ptr 1 0) :: (.ptr 2 0) :: q1 ((dP eS v2) :: (dI (a0.fClasses.length : Int)) :: (.ptr 6 0) :: (dI v1160) :: q11 ((dI v1686) :: q21 ((dP e37 a0.fClasses) :: (dI (a0.fClasses.length : Int)) :: (dI v1160) :: q5 ((dP e34 v1172.fItems) :: (dI (v1172.fItems.length : Int)) :: (dI v1548) :: q40 (q40 (q40 (q14 [])))))))), [(b6_0 a0), b6_1, b6_2, (b6_3 v1), .dead, .dead, (.cells [(dI v1549), (appD 28 (List.map e40 v1719)), (.v (.sl .nonfull (List.map e42 ([(⟨(a0.fClasses.length : Int), 0⟩ : S42)]))))]), .dead, .dead, .dead, .dead, (b6_4 v1172), .dead, .dead, .dead, .dead, (b6_5 v1560), .dead, (b6_6 v1561), .dead, .dead, (appO 1 (List.map eI v1683.1)), (b6_6 v1683), .dead, .dead, .dead, .dead, (appO 1 (List.map eI y1681.1)), (appO 5 (List.map e40 v1719))]⟩ (by generalize y1681.1 = z0; generalize v1683.1 = z1; generalize v1719 = z2; cases z0 <;> cases z1 <;> cases z2 <;> (as_aux_lemma => kernel_rfl)) ?_
   exact hxx1725 (v1718, v1719)  hsx1728
theorem f6_hLx1677 (m : Nat) (a0 : S23) (o : (S27 × S29)) (n : Nat) (hn : m + 7 ≤ n + 1) (v2 : (List ByteArray)) (v1645 : ByteArray) (nx1638 : Nat) (nx1553 : Nat) (nx1165 : Nat) (v1160 : Int) (v1172 : S37) (v1548 : Int) (v1560 : S34) (v1635 : Int) (v1 : S29) (v1549 : Int) (v1550 : (List S40)) (v1561 : ((List Int) × S29)) : ∀ (kx1663 : Nat) (v1660 : (List Int)) (v1661 : Int)  (ox1662 : (S27 × S29) ⊕ ((List Int) × Int)), iter (fun (y : (List Int) × Int) => f6_B3 m v2 v1645 y.1 y.2) kx1663 (v1660, v1661) = some ox1662 → ∀ nx1664, kx1663 ≤ nx1664 → (∀ r, ox1662 = .inl r → ∀ σ, RetOk (X6 n) (resOf Proofs.Tryd.prog 6) (.tuple [e27 r.1, e29 r.2]) σ → (blkQ (X6 n) 5 k6_5 23 (seqQ (X6 n) p6_10 (lpQ (X6 n) k6_5 19 p6_6 nx1638 (blkQ (X6 n) 4 k6_6 19 (seqQ (X6 n) p6_5 (blkQ (X6 n) 3 k6_0 16 (seqQ (X6 n) p6_4 (lpQ (X6 n) k6_0 12 p6_3 nx1553 (blkQ (X6 n) 2 k6_1 12 (blkQ (X6 n) 1 k6_1 11 (seqQ (X6 n) p6_2 (lpQ (X6 n) k6_1 7 p6_1 nx1165 (blkQ (X6 n) 0 [2, 3, 7] 7 (seqQ (X6 n) p6_0 (fnQ (X6 n).E.T (resOf Proofs.Tryd.prog 6) (.tuple [e27 o.1, e29 o.2])))))))))))))))) .ret σ) → (∀ (y : (List Int) × Int) , ox1662 = .inr y → (blkQ (X6 n) 5 k6_5 23 (seqQ (X6 n) p6_10 (lpQ (X6 n) k6_5 19 p6_6 nx1638 (blkQ (X6 n) 4 k6_6 19 (seqQ (X6 n) p6_5 (blkQ (X6 n) 3 k6_0 16 (seqQ (X6 n) p6_4 (lpQ (X6 n) k6_0 12 p6_3 nx1553 (blkQ (X6 n) 2 k6_1 12 (blkQ (X6 n) 1 k6_1 11 (seqQ (X6 n) p6_2 (lpQ (X6 n) k6_1 7 p6_1 nx1165 (blkQ (X6 n) 0 [2, 3, 7] 7 (seqQ (X6 n) p6_0 (fnQ (X6 n).E.T (resOf Proofs.Tryd.prog 6) (.tuple [e27 o.1, e29 o.2])))))))))))))))) .normal ⟨q2 ((.ptr 1 0) :: (.ptr 2 0) :: q1 ((dP eS v2) :: (dI (a0.fClasses.length : Int)) :: (.ptr 6 0) :: (dI v1160) :: q2 ((.ptr 16 0) :: (appD 23 (List.map eI y.1)) :: q29 ((dP e37 a0.fClasses) :: (dI (a0.fClasses.length : Int)) :: (dI v1160) :: q5 ((dP e34 v1172.fItems) :: (dI (v1172.fItems.length : Int)) :: (dI v1548) :: q10 ((dP eS v1560.fTags) :: (dI (v1560.fTags.length : Int)) :: (dI v1635) :: q40 (q40 (q40 (q1 []))))))))), [(b6_0 a0), b6_1, b6_2, (b6_3 v1), .dead, .dead, (.cells [(dI v1549), (appD 24 (List.map e40 v1550)), (.v (.sl .nonfull (List.map e42 ([(⟨(a0.fClasses.length : Int), 0⟩ : S42)]))))]), .dead, .dead, .dead, .dead, (b6_4 v1172), .dead, .dead, .dead, .dead, (b6_5 v1560), .dead, (b6_6 v1561), .dead, .dead, .dead, .dead, (appO 1 (List.map eI y.1)), (appO 5 (List.map e40 v1550))]⟩) → Lp (X6 n) k6_7 23 p6_13 nx1664 ⟨q2 ((.ptr 1 0) :: (.ptr 2 0) :: q1 ((dP eS v2) :: (dI (a0.fClasses.length : Int)) :: (.ptr 6 0) :: (dI v1160) :: q2 ((.ptr 16 0) :: (appD 23 (List.map eI v1660)) :: q2 ((.v (.str v1645)) :: q26 ((dP e37 a0.fClasses) :: (dI (a0.fClasses.length : Int)) :: (dI v1160) :: q5 ((dP e34 v1172.fItems) :: (dI (v1172.fItems.length : Int)) :: (dI v1548) :: q10 ((dP eS v1560.fTags) :: (dI (v1560.fTags.length : Int)) :: (dI v1635) :: q3 ((dP eS v2) :: (dI (v2.length : Int)) :: (dI v1661) :: q40 (q40 (q35 [])))))))))), [(b6_0 a0), b6_1, b6_2, (b6_3 v1), .dead, .dead, (.cells [(dI v1549), (appD 24 (List.map e40 v1550)), (.v (.sl .nonfull (List.map e42 ([(⟨(a0.fClasses.length : Int), 0⟩ : S42)]))))]), .dead, .dead, .dead, .dead, (b6_4 v1172), .dead, .dead, .dead, .dead, (b6_5 v1560), .dead, (b6_6 v1561), .dead, .dead, .dead, .dead, (appO 1 (List.map eI v1660)), (appO 5 (List.map e40 v1550))]⟩ (blkQ (X6 n) 6 k6_5 23 (blkQ (X6 n) 5 k6_5 23 (seqQ (X6 n) p6_10 (lpQ (X6 n) k6_5 19 p6_6 nx1638 (blkQ (X6 n) 4 k6_6 19 (seqQ (X6 n) p6_5 (blkQ (X6 n) 3 k6_0 16 (seqQ (X6 n) p6_4 (lpQ (X6 n) k6_0 12 p6_3 nx1553 (blkQ (X6 n) 2 k6_1 12 (blkQ (X6 n) 1 k6_1 11 (seqQ (X6 n) p6_2 (lpQ (X6 n) k6_1 7 p6_1 nx1165 (blkQ (X6 n) 0 [2, 3, 7] 7 (seqQ (X6 n) p6_0 (fnQ (X6 n).E.T (resOf Proofs.Tryd.prog 6) (.tuple [e27 o.1, e29 o.2]))))))))))))))))) := by
 intro kx1663
 induction kx1663 with
 | zero => intro v1660 v1661  ox1662 h; exact (iter_zero h).elim
 | succ kx1663 ihx1665 =>
  intro v1660 v1661  ox1662 h nx1664 hnx1668 hrx1666 hxx1667
  obtain ⟨nx1664, rfl⟩ : ∃ q, nx1664 = q + 1 := ⟨nx1664 - 1, by omega⟩
  obtain ⟨sx1669, h, hsx1670⟩ := iter_some h
  have h : f6_B3 m v2 v1645 v1660 v1661 = some sx1669 := h
  unfold f6_B3 at h
  refine Lp.succ ?_
  refine Wp.sq ?_
  refine Wp.rg ?_
  refine Ops.sg 1 1 ?_
  refine Ops.dn ?_
  refine seqQ.n ?_
  refine Wp.sq ?_
  refine Wp.cnd h k6_7 25 (by kernel_rfl) (fun h => ?_) (fun h => ?_)
  ·refine Wp.sk ?_
   refine sqQ.n ⟨q2 ((.ptr 1 0) :: (.ptr 2 0) :: q1 ((dP eS v2) :: (dI (a0.fClasses.length : Int)) :: (.ptr 6 0) :: (dI v1160) :: q2 ((.ptr 16 0) :: (appD 25 (List.map eI v1660)) :: q2 ((.v (.str v1645)) :: q26 ((dP e37 a0.fClasses) :: (dI (a0.fClasses.length : Int)) :: (dI v1160) :: q5 ((dP e34 v1172.fItems) :: (dI (v1172.fItems.length : Int)) :: (dI v1548) :: q10 ((dP eS v1560.fTags) :: (dI (v1560.fTags.length : Int)) :: (dI v1635) :: q3 ((dP eS v2) :: (dI (v2.length : Int)) :: (dI v1661) :: q40 (q40 (q35 [])))))))))), [(b6_0 a0), b6_1, b6_2, (b6_3 v1), .dead, .dead, (.cells [(dI v1549), (appD 26 (List.map e40 v1550)), (.v (.sl .nonfull (List.map e42 ([(⟨(a0.fClasses.length : Int), 0⟩ : S42)]))))]), .dead, .dead, .dead, .dead, (b6_4 v1172), .dead, .dead, .dead, .dead, (b6_5 v1560), .dead, (b6_6 v1561), .dead, .dead, .dead, .dead, .dead, .dead, (appO 1 (List.map eI v1660)), (appO 5 (List.map e40 v1550))]⟩ (by generalize v1660 = z0; generalize v1550 = z1; cases z0 <;> cases z1 <;> (as_aux_lemma => kernel_rfl)) ?_
   refine seqQ.n ?_
   refine Wp.sq ?_
   have J6j1672 : ∀ (v1671 : (List Int)) , f6_j1 m v1661 v1671 = some sx1669 → (seqQ (X6 n) p6_16 (lpQ (X6 n) k6_7 23 p6_13 nx1664 (blkQ (X6 n) 6 k6_5 23 (blkQ (X6 n) 5 k6_5 23 (seqQ (X6 n) p6_10 (lpQ (X6 n) k6_5 19 p6_6 nx1638 (blkQ (X6 n) 4 k6_6 19 (seqQ (X6 n) p6_5 (blkQ (X6 n) 3 k6_0 16 (seqQ (X6 n) p6_4 (lpQ (X6 n) k6_0 12 p6_3 nx1553 (blkQ (X6 n) 2 k6_1 12 (blkQ (X6 n) 1 k6_1 11 (seqQ (X6 n) p6_2 (lpQ (X6 n) k6_1 7 p6_1 nx1165 (blkQ (X6 n) 0 [2, 3, 7] 7 (seqQ (X6 n) p6_0 (fnQ (X6 n).E.T (resOf Proofs.Tryd.prog 6) (.tuple [e27 o.1, e29 o.2]))))))))))))))))))) .normal ⟨q2 ((.ptr 1 0) :: (.ptr 2 0) :: q1 ((dP eS v2) :: (dI (a0.fClasses.length : Int)) :: (.ptr 6 0) :: (dI v1160) :: q2 ((.ptr 16 0) :: (appD 27 (List.map eI v1671)) :: q2 ((.v (.str v1645)) :: q26 ((dP e37 a0.fClasses) :: (dI (a0.fClasses.length : Int)) :: (dI v1160) :: q5 ((dP e34 v1172.fItems) :: (dI (v1172.fItems.length : Int)) :: (dI v1548) :: q10 ((dP eS v1560.fTags) :: (dI (v1560.fTags.length : Int)) :: (dI v1635) :: q3 ((dP eS v2) :: (dI (v2.length : Int)) :: (dI v1661) :: q40 (q40 (q35 [])))))))))), [(b6_0 a0), b6_1, b6_2, (b6_3 v1), .dead, .dead, (.cells [(dI v1549), (appD 28 (List.map e40 v1550)), (.v (.sl .nonfull (List.map e42 ([(⟨(a0.fClasses.length : Int), 0⟩ : S42)]))))]), .dead, .dead, .dead, .dead, (b6_4 v1172), .dead, .dead, .dead, .dead, (b6_5 v1560), .dead, (b6_6 v1561), .dead, .dead, .dead, .dead, .dead, .dead, .dead, .dead, (appO 1 (List.map eI v1671)), (appO 5 (List.map e40 v1550))]⟩ := by
    intro v1671  h
    unfold f6_j1 at h
    refine seqQ.n ?_
    refine Wp.rg ?_
    refine Ops.sg 2 2 ?_
    refine Ops.dn ?_
    refine lpQ.n ⟨q2 ((.ptr 1 0) :: (.ptr 2 0) :: q1 ((dP eS v2) :: (dI (a0.fClasses.length : Int)) :: (.ptr 6 0) :: (dI v1160) :: q2 ((.ptr 16 0) :: (appD 23 (List.map eI v1671)) :: q2 ((.v (.str v1645)) :: q26 ((dP e37 a0.fClasses) :: (dI (a0.fClasses.length : Int)) :: (dI v1160) :: q5 ((dP e34 v1172.fItems) :: (dI (v1172.fItems.length : Int)) :: (dI v1548) :: q10 ((dP eS v1560.fTags) :: (dI (v1560.fTags.length : Int)) :: (dI v1635) :: q3 ((dP eS v2) :: (dI (v2.length : Int)) :: (dI (w64 (v1661 + 1))) :: q40 (q40 (q35 [])))))))))), [(b6_0 a0), b6_1, b6_2, (b6_3 v1), .dead, .dead, (.cells [(dI v1549), (appD 24 (List.map e40 v1550)), (.v (.sl .nonfull (List.map e42 ([(⟨(a0.fClasses.length : Int), 0⟩ : S42)]))))]), .dead, .dead, .dead, .dead, (b6_4 v1172), .dead, .dead, .dead, .dead, (b6_5 v1560), .dead, (b6_6 v1561), .dead, .dead, .dead, .dead, (appO 1 (List.map eI v1671)), (appO 5 (List.map e40 v1550))]⟩ (by generalize v1671 = z0; generalize v1550 = z1; cases z0 <;> cases z1 <;> (as_aux_lemma => kernel_rfl)) ?_
    cases h
    exact ihx1665 v1671 (w64 (v1661 + 1))  _ hsx1670 _ (by omega) hrx1666 hxx1667
   refine Wp.block' 7 k6_7 27 (by kernel_rfl) ?_
   refine Wp.sq ?_
   refine Wp.rg ?_
   refine Ops.sg 1 1 ?_
   obtain ⟨v1673, ev1673, h⟩ := bnd_some h
   refine Ops.on 2 (fun h0 e0 => (ix_r (T := T) h0 33 9 1 .plain eS v2 v1661 v1673 ev1673 (by kernel_rfl) (by kernel_rfl) (fun _ => rfl))) ?_
   refine Ops.sg 3 5 ?_
   refine Ops.dn ?_
   refine seqQ.n ?_
   refine Wp.sq ?_
   refine Wp.rg ?_
   refine Ops.sg 3 3 ?_
   refine Ops.dn ?_
   refine seqQ.n ?_
   have J6j1675 : ∀ (v1674 : (List Int)) , f6_j2 m v1661 v1674 = some sx1669 → (blkQ (X6 n) 7 k6_7 27 (seqQ (X6 n) p6_16 (lpQ (X6 n) k6_7 23 p6_13 nx1664 (blkQ (X6 n) 6 k6_5 23 (blkQ (X6 n) 5 k6_5 23 (seqQ (X6 n) p6_10 (lpQ (X6 n) k6_5 19 p6_6 nx1638 (blkQ (X6 n) 4 k6_6 19 (seqQ (X6 n) p6_5 (blkQ (X6 n) 3 k6_0 16 (seqQ (X6 n) p6_4 (lpQ (X6 n) k6_0 12 p6_3 nx1553 (blkQ (X6 n) 2 k6_1 12 (blkQ (X6 n) 1 k6_1 11 (seqQ (X6 n) p6_2 (lpQ (X6 n) k6_1 7 p6_1 nx1165 (blkQ (X6 n) 0 [2, 3, 7] 7 (seqQ (X6 n) p6_0 (fnQ (X6 n).E.T (resOf Proofs.Tryd.prog 6) (.tuple [e27 o.1, e29 o.2])))))))))))))))))))) .normal ⟨q2 ((.ptr 1 0) :: (.ptr 2 0) :: q1 ((dP eS v2) :: (dI (a0.fClasses.length : Int)) :: (.ptr 6 0) :: (dI v1160) :: q2 ((.ptr 16 0) :: (appD 27 (List.map eI v1674)) :: q2 ((.v (.str v1645)) :: q26 ((dP e37 a0.fClasses) :: (dI (a0.fClasses.length : Int)) :: (dI v1160) :: q5 ((dP e34 v1172.fItems) :: (dI (v1172.fItems.length : Int)) :: (dI v1548) :: q10 ((dP eS v1560.fTags) :: (dI (v1560.fTags.length : Int)) :: (dI v1635) :: q3 ((dP eS v2) :: (dI (v2.length : Int)) :: (dI v1661) :: q40 (q40 (q35 [])))))))))), [(b6_0 a0), b6_1, b6_2, (b6_3 v1), .dead, .dead, (.cells [(dI v1549), (appD 28 (List.map e40 v1550)), (.v (.sl .nonfull (List.map e42 ([(⟨(a0.fClasses.length : Int), 0⟩ : S42)]))))]), .dead, .dead, .dead, .dead, (b6_4 v1172), .dead, .dead, .dead, .dead, (b6_5 v1560), .dead, (b6_6 v1561), .dead, .dead, .dead, .dead, .dead, .dead, .dead, .dead, (appO 1 (List.map eI v1674)), (appO 5 (List.map e40 v1550))]⟩ := by
    intro v1674  h
    unfold f6_j2 at h
    refine blkQ.n ⟨q2 ((.ptr 1 0) :: (.ptr 2 0) :: q1 ((dP eS v2) :: (dI (a0.fClasses.length : Int)) :: (.ptr 6 0) :: (dI v1160) :: q2 ((.ptr 16 0) :: (appD 27 (List.map eI v1674)) :: q2 ((.v (.str v1645)) :: q26 ((dP e37 a0.fClasses) :: (dI (a0.fClasses.length : Int)) :: (dI v1160) :: q5 ((dP e34 v1172.fItems) :: (dI (v1172.fItems.length : Int)) :: (dI v1548) :: q10 ((dP eS v1560.fTags) :: (dI (v1560.fTags.length : Int)) :: (dI v1635) :: q3 ((dP eS v2) :: (dI (v2.length : Int)) :: (dI v1661) :: q40 (q40 (q35 [])))))))))), [(b6_0 a0), b6_1, b6_2, (b6_3 v1), .dead, .dead, (.cells [(dI v1549), (appD 28 (List.map e40 v1550)), (.v (.sl .nonfull (List.map e42 ([(⟨(a0.fClasses.length : Int), 0⟩ : S42)]))))]), .dead, .dead, .dead, .dead, (b6_4 v1172), .dead, .dead, .dead, .dead, (b6_5 v1560), .dead, (b6_6 v1561), .dead, .dead, .dead, .dead, .dead, .dead, .dead, .dead, (appO 1 (List.map eI v1674)), (appO 5 (List.map e40 v1550))]⟩ (by generalize v1674 = z0; generalize v1550 = z1; cases z0 <;> cases z1 <;> (as_aux_lemma => kernel_rfl)) ?_
    exact J6j1672 v1674  h
   refine Wp.cnd h k6_7 27 (by kernel_rfl) (fun h => ?_) (fun h => ?_)
   ·refine Wp.rg ?_
    refine Ops.seg 4 4 (by kernel_rfl) ⟨q2 ((.ptr 1 0) :: (.ptr 2 0) :: q1 ((dP eS v2) :: (dI (a0.fClasses.length : Int)) :: (.ptr 6 0) :: (dI v1160) :: q2 ((.ptr 16 0) :: (appD 25 (List.map eI v1660)) :: q2 ((.v (.str v1645)) :: (dI v1661) :: (.v (.str v1673)) :: q24 ((dP e37 a0.fClasses) :: (dI (a0.fClasses.length : Int)) :: (dI v1160) :: q5 ((dP e34 v1172.fItems) :: (dI (v1172.fItems.length : Int)) :: (dI v1548) :: q10 ((dP eS v1560.fTags) :: (dI (v1560.fTags.length : Int)) :: (dI v1635) :: q3 ((dP eS v2) :: (dI (v2.length : Int)) :: (dI v1661) :: q1 ((dI v1661) :: (.vptr [(.str v1673)]) :: (.v (.str v1673)) :: (.v (.str v1645)) :: (.v (.str v1673)) :: (dB (v1645.toList == v1673.toList)) :: (appD 25 (List.map eI v1660)) :: (dI v1661) :: (dI (w64 (983040 + v1661))) :: (.v (.sl .nonfull (List.map eI ([w64 (983040 + v1661)])))) :: q40 (q40 (q24 []))))))))))), [(b6_0 a0), b6_1, b6_2, (b6_3 v1), .dead, .dead, (.cells [(dI v1549), (appD 26 (List.map e40 v1550)), (.v (.sl .nonfull (List.map e42 ([(⟨(a0.fClasses.length : Int), 0⟩ : S42)]))))]), .dead, .dead, .dead, .dead, (b6_4 v1172), .dead, .dead, .dead, .dead, (b6_5 v1560), .dead, (b6_6 v1561), .dead, .dead, .dead, .dead, .dead, .dead, (appO 1 (List.map eI v1660)), (appO 5 (List.map e40 v1550))]⟩ (by kernel_rfl) ?_
    obtain ⟨v1676, ev1676, h⟩ := bnd_some h
    refine Ops.on 5 (fun h0 e0 => (app_r (T := T) (g := .nil) h0 47 3 25 1 ti3 .nonfull eI v1660 ([w64 (983040 + v1661)]) v1676 ev1676 (by kernel_rfl) (by kernel_rfl) (by kernel_rfl) (by kernel_rfl) (fun _ => rfl) (hq_of e0 (by kernel_rfl)))) ?_
    refine Ops.sg 1 6 ?_
    refine Ops.dn ?_
    refine sqQ.n ⟨q2 ((.ptr 1 0) :: (.ptr 2 0) :: q1 ((dP eS v2) :: (dI (a0.fClasses.length : Int)) :: (.ptr 6 0) :: (dI v1160) :: q2 ((.ptr 16 0) :: (appD 27 (List.map eI v1676)) :: q2 ((.v (.str v1645)) :: q26 ((dP e37 a0.fClasses) :: (dI (a0.fClasses.length : Int)) :: (dI v1160) :: q5 ((dP e34 v1172.fItems) :: (dI (v1172.fItems.length : Int)) :: (dI v1548) :: q10 ((dP eS v1560.fTags) :: (dI (v1560.fTags.length : Int)) :: (dI v1635) :: q3 ((dP eS v2) :: (dI (v2.length : Int)) :: (dI v1661) :: q40 (q40 (q35 [])))))))))), [(b6_0 a0), b6_1, b6_2, (b6_3 v1), .dead, .dead, (.cells [(dI v1549), (appD 28 (List.map e40 v1550)), (.v (.sl .nonfull (List.map e42 ([(⟨(a0.fClasses.length : Int), 0⟩ : S42)]))))]), .dead, .dead, .dead, .dead, (b6_4 v1172), .dead, .dead, .dead, .dead, (b6_5 v1560), .dead, (b6_6 v1561), .dead, .dead, .dead, .dead, .dead, .dead, .dead, .dead, (appO 1 (List.map eI v1676)), (appO 5 (List.map e40 v1550))]⟩ (by generalize v1676 = z0; generalize v1550 = z1; cases z0 <;> cases z1 <;> (as_aux_lemma => kernel_rfl)) ?_
    exact J6j1675 v1676  h
   ·refine Wp.sk ?_
    refine sqQ.n ⟨q2 ((.ptr 1 0) :: (.ptr 2 0) :: q1 ((dP eS v2) :: (dI (a0.fClasses.length : Int)) :: (.ptr 6 0) :: (dI v1160) :: q2 ((.ptr 16 0) :: (appD 27 (List.map eI v1660)) :: q2 ((.v (.str v1645)) :: q26 ((dP e37 a0.fClasses) :: (dI (a0.fClasses.length : Int)) :: (dI v1160) :: q5 ((dP e34 v1172.fItems) :: (dI (v1172.fItems.length : Int)) :: (dI v1548) :: q10 ((dP eS v1560.fTags) :: (dI (v1560.fTags.length : Int)) :: (dI v1635) :: q3 ((dP eS v2) :: (dI (v2.length : Int)) :: (dI v1661) :: q40 (q40 (q35 [])))))))))), [(b6_0 a0), b6_1, b6_2, (b6_3 v1), .dead, .dead, (.cells [(dI v1549), (appD 28 (List.map e40 v1550)), (.v (.sl .nonfull (List.map e42 ([(⟨(a0.fClasses.length : Int), 0⟩ : S42)]))))]), .dead, .dead, .dead, .dead, (b6_4 v1172), .dead, .dead, .dead, .dead, (b6_5 v1560), .dead, (b6_6 v1561), .dead, .dead, .dead, .dead, .dead, .dead, .dead, .dead, (appO 1 (List.map eI v1660)), (appO 5 (List.map e40 v1550))]⟩ (by generalize v1660 = z0; generalize v1550 = z1; cases z0 <;> cases z1 <;> (as_aux_lemma => kernel_rfl)) ?_
    exact J6j1675 v1660  h
  ·refine Wp.exit (id := 6) (by kernel_rfl) ?_
   refine sqQ.x ?_
   refine seqQ.x ?_
   cases h
   refine lpQ.x ?_
   refine blkQ.x ⟨q2 ((.ptr 1 0) :: (.ptr 2 0) :: q1 ((dP eS v2) :: (dI (a0.fClasses.length : Int)) :: (.ptr 6 0) :: (dI v1160) :: q2 ((.ptr 16 0) :: (appD 23 (List.map eI v1660)) :: q29 ((dP e37 a0.fClasses) :: (dI (a0.fClasses.length : Int)) :: (dI v1160) :: q5 ((dP e34 v1172.fItems) :: (dI (v1172.fItems.length : Int)) :: (dI v1548) :: q10 ((dP eS v1560.fTags) :: (dI (v1560.fTags.length : Int)) :: (dI v1635) :: q40 (q40 (q40 (q1 []))))))))), [(b6_0 a0), b6_1, b6_2, (b6_3 v1), .dead, .dead, (.cells [(dI v1549), (appD 24 (List.map e40 v1550)), (.v (.sl .nonfull (List.map e42 ([(⟨(a0.fClasses.length : Int), 0⟩ : S42)]))))]), .dead, .dead, .dead, .dead, (b6_4 v1172), .dead, .dead, .dead, .dead, (b6_5 v1560), .dead, (b6_6 v1561), .dead, .dead, .dead, .dead, (appO 1 (List.map eI v1660)), (appO 5 (List.map e40 v1550))]⟩ (by generalize v1660 = z0; generalize v1550 = z1; cases z0 <;> cases z1 <;> (as_aux_lemma => kernel_rfl)) ?_
   exact hxx1667 (v1660, v1661)  hsx1670
theorem f6_hLx1680 (m : Nat) (a0 : S23) (o : (S27 × S29)) (n : Nat) (hn : m + 7 ≤ n + 1) (v2 : (List ByteArray)) (v1560 : S34) (nx1553 : Nat) (nx1165 : Nat) (v1160 : Int) (v1172 : S37) (v1548 : Int) (v1 : S29) (v1549 : Int) (v1550 : (List S40)) (v1561 : ((List Int) × S29)) : ∀ (kx1637 : Nat) (v1634 : (List Int)) (v1635 : Int)  (ox1636 : (S27 × S29) ⊕ ((List Int) × Int)), iter (fun (y : (List Int) × Int) => f6_B4 m v2 v1560 y.1 y.2) kx1637 (v1634, v1635) = some ox1636 → ∀ nx1638, kx1637 ≤ nx1638 → (∀ r, ox1636 = .inl r → ∀ σ, RetOk (X6 n) (resOf Proofs.Tryd.prog 6) (.tuple [e27 r.1, e29 r.2]) σ → (seqQ (X6 n) p6_5 (blkQ (X6 n) 3 k6_0 16 (seqQ (X6 n) p6_4 (lpQ (X6 n) k6_0 12 p6_3 nx1553 (blkQ (X6 n) 2 k6_1 12 (blkQ (X6 n) 1 k6_1 11 (seqQ (X6 n) p6_2 (lpQ (X6 n) k6_1 7 p6_1 nx1165 (blkQ (X6 n) 0 [2, 3, 7] 7 (seqQ (X6 n) p6_0 (fnQ (X6 n).E.T (resOf Proofs.Tryd.prog 6) (.tuple [e27 o.1, e29 o.2])))))))))))) .ret σ) → (∀ (y : (List Int) × Int) , ox1636 = .inr y → (seqQ (X6 n) p6_5 (blkQ (X6 n) 3 k6_0 16 (seqQ (X6 n) p6_4 (lpQ (X6 n) k6_0 12 p6_3 nx1553 (blkQ (X6 n) 2 k6_1 12 (blkQ (X6 n) 1 k6_1 11 (seqQ (X6 n) p6_2 (lpQ (X6 n) k6_1 7 p6_1 nx1165 (blkQ (X6 n) 0 [2, 3, 7] 7 (seqQ (X6 n) p6_0 (fnQ (X6 n).E.T (resOf Proofs.Tryd.prog 6) (.tuple [e27 o.1, e29 o.2])))))))))))) .normal ⟨q2 ((.ptr 1 0) :: (.ptr 2 0) :: q1 ((dP eS v2) :: (dI (a0.fClasses.length : Int)) :: (.ptr 6 0) :: (dI v1160) :: q2 ((.ptr 16 0) :: (appD 19 (List.map eI y.1)) :: q29 ((dP e37 a0.fClasses) :: (dI (a0.fClasses.length : Int)) :: (dI v1160) :: q5 ((dP e34 v1172.fItems) :: (dI (v1172.fItems.length : Int)) :: (dI v1548) :: q40 (q40 (q40 (q14 [])))))))), [(b6_0 a0), b6_1, b6_2, (b6_3 v1), .dead, .dead, (.cells [(dI v1549), (appD 20 (List.map e40 v1550)), (.v (.sl .nonfull (List.map e42 ([(⟨(a0.fClasses.length : Int), 0⟩ : S42)]))))]), .dead, .dead, .dead, .dead, (b6_4 v1172), .dead, .dead, .dead, .dead, (b6_5 v1560), .dead, (b6_6 v1561), (appO 1 (List.map eI y.1)), (appO 5 (List.map e40 v1550))]⟩) → Lp (X6 n) k6_5 19 p6_6 nx1638 ⟨q2 ((.ptr 1 0) :: (.ptr 2 0) :: q1 ((dP eS v2) :: (dI (a0.fClasses.length : Int)) :: (.ptr 6 0) :: (dI v1160) :: q2 ((.ptr 16 0) :: (appD 19 (List.map eI v1634)) :: q29 ((dP e37 a0.fClasses) :: (dI (a0.fClasses.length : Int)) :: (dI v1160) :: q5 ((dP e34 v1172.fItems) :: (dI (v1172.fItems.length : Int)) :: (dI v1548) :: q10 ((dP eS v1560.fTags) :: (dI (v1560.fTags.length : Int)) :: (dI v1635) :: q40 (q40 (q40 (q1 []))))))))), [(b6_0 a0), b6_1, b6_2, (b6_3 v1), .dead, .dead, (.cells [(dI v1549), (appD 20 (List.map e40 v1550)), (.v (.sl .nonfull (List.map e42 ([(⟨(a0.fClasses.length : Int), 0⟩ : S42)]))))]), .dead, .dead, .dead, .dead, (b6_4 v1172), .dead, .dead, .dead, .dead, (b6_5 v1560), .dead, (b6_6 v1561), (appO 1 (List.map eI v1634)), (appO 5 (List.map e40 v1550))]⟩ (blkQ (X6 n) 4 k6_6 19 (seqQ (X6 n) p6_5 (blkQ (X6 n) 3 k6_0 16 (seqQ (X6 n) p6_4 (lpQ (X6 n) k6_0 12 p6_3 nx1553 (blkQ (X6 n) 2 k6_1 12 (blkQ (X6 n) 1 k6_1 11 (seqQ (X6 n) p6_2 (lpQ (X6 n) k6_1 7 p6_1 nx1165 (blkQ (X6 n) 0 [2, 3, 7] 7 (seqQ (X6 n) p6_0 (fnQ (X6 n).E.T (resOf Proofs.Tryd.prog 6) (.tuple [e27 o.1, e29 o.2]))))))))))))) := by
 intro kx1637
 induction kx1637 with
 | zero => intro v1634 v1635  ox1636 h; exact (iter_zero h).elim
 | succ kx1637 ihx1639 =>
  intro v1634 v1635  ox1636 h nx1638 hnx1642 hrx1640 hxx1641
  obtain ⟨nx1638, rfl⟩ : ∃ q, nx1638 = q + 1 := ⟨nx1638 - 1, by omega⟩
  obtain ⟨sx1643, h, hsx1644⟩ := iter_some h
  have h : f6_B4 m v2 v1560 v1634 v1635 = some sx1643 := h
  unfold f6_B4 at h
  refine Lp.succ ?_
  refine Wp.sq ?_
  refine Wp.rg ?_
  refine Ops.sg 1 1 ?_
  refine Ops.dn ?_
  refine seqQ.n ?_
  refine Wp.sq ?_
  refine Wp.cnd h k6_5 21 (by kernel_rfl) (fun h => ?_) (fun h => ?_)
  ·refine Wp.sk ?_
   refine sqQ.n ⟨q2 ((.ptr 1 0) :: (.ptr 2 0) :: q1 ((dP eS v2) :: (dI (a0.fClasses.length : Int)) :: (.ptr 6 0) :: (dI v1160) :: q2 ((.ptr 16 0) :: (appD 21 (List.map eI v1634)) :: q29 ((dP e37 a0.fClasses) :: (dI (a0.fClasses.length : Int)) :: (dI v1160) :: q5 ((dP e34 v1172.fItems) :: (dI (v1172.fItems.length : Int)) :: (dI v1548) :: q10 ((dP eS v1560.fTags) :: (dI (v1560.fTags.length : Int)) :: (dI v1635) :: q40 (q40 (q40 (q1 []))))))))), [(b6_0 a0), b6_1, b6_2, (b6_3 v1), .dead, .dead, (.cells [(dI v1549), (appD 22 (List.map e40 v1550)), (.v (.sl .nonfull (List.map e42 ([(⟨(a0.fClasses.length : Int), 0⟩ : S42)]))))]), .dead, .dead, .dead, .dead, (b6_4 v1172), .dead, .dead, .dead, .dead, (b6_5 v1560), .dead, (b6_6 v1561), .dead, .dead, (appO 1 (List.map eI v1634)), (appO 5 (List.map e40 v1550))]⟩ (by generalize v1634 = z0; generalize v1550 = z1; cases z0 <;> cases z1 <;> (as_aux_lemma => kernel_rfl)) ?_
   refine seqQ.n ?_
   refine Wp.sq ?_
   refine Wp.block' 5 k6_5 23 (by kernel_rfl) ?_
   refine Wp.sq ?_
   refine Wp.rg ?_
   obtain ⟨v1645, ev1645, h⟩ := bnd_some h
   refine Ops.on 1 (fun h0 e0 => (ix_r (T := T) h0 33 9 1 .plain eS v1560.fTags v1635 v1645 ev1645 (by kernel_rfl) (by kernel_rfl) (fun _ => rfl))) ?_
   refine Ops.sg 2 3 ?_
   refine Ops.dn ?_
   refine seqQ.n ?_
   refine Wp.sq ?_
   refine Wp.rg ?_
   refine Ops.sg 1 1 ?_
   refine Ops.on 2 (fun h0 e0 => (len_r (T := T) h0 33 9 .plain eS v2 (by kernel_rfl))) ?_
   refine Ops.sg 1 3 ?_
   refine Ops.dn ?_
   refine seqQ.n ?_
   refine Wp.block' 6 k6_5 23 (by kernel_rfl) ?_
   have hLx1677 := f6_hLx1677 m a0 o n hn v2 v1645 nx1638 nx1553 nx1165 v1160 v1172 v1548 v1560 v1635 v1 v1549 v1550 v1561
   refine Wp.loop' k6_7 23 (by kernel_rfl) ⟨q2 ((.ptr 1 0) :: (.ptr 2 0) :: q1 ((dP eS v2) :: (dI (a0.fClasses.length : Int)) :: (.ptr 6 0) :: (dI v1160) :: q2 ((.ptr 16 0) :: (appD 23 (List.map eI v1634)) :: q2 ((.v (.str v1645)) :: q26 ((dP e37 a0.fClasses) :: (dI (a0.fClasses.length : Int)) :: (dI v1160) :: q5 ((dP e34 v1172.fItems) :: (dI (v1172.fItems.length : Int)) :: (dI v1548) :: q10 ((dP eS v1560.fTags) :: (dI (v1560.fTags.length : Int)) :: (dI v1635) :: q3 ((dP eS v2) :: (dI (v2.length : Int)) :: (dI 0) :: q40 (q40 (q35 [])))))))))), [(b6_0 a0), b6_1, b6_2, (b6_3 v1), .dead, .dead, (.cells [(dI v1549), (appD 24 (List.map e40 v1550)), (.v (.sl .nonfull (List.map e42 ([(⟨(a0.fClasses.length : Int), 0⟩ : S42)]))))]), .dead, .dead, .dead, .dead, (b6_4 v1172), .dead, .dead, .dead, .dead, (b6_5 v1560), .dead, (b6_6 v1561), .dead, .dead, .dead, .dead, (appO 1 (List.map eI v1634)), (appO 5 (List.map e40 v1550))]⟩ (by generalize v1634 = z0; generalize v1550 = z1; cases z0 <;> cases z1 <;> (as_aux_lemma => kernel_rfl)) ?_
   rcases brk_some h with ⟨r1679, er1679, h⟩ | ⟨y1678, ey1678, h⟩
   ·refine hLx1677 _ v1634 0  _ er1679 n (by omega) (fun r er σ hσ => ?_) (fun y  ey => by cases ey)
    cases er
    refine blkQ.r ?_
    refine seqQ.r ?_
    refine lpQ.r ?_
    cases h
    refine blkQ.r ?_
    exact hrx1640 _ hsx1644 _ (RetOk.forget k6_5 (by kernel_rfl) hσ)
   ·refine hLx1677 _ v1634 0  _ ey1678 n (by omega) (fun r er => by cases er) (fun y  ey => ?_)
    cases ey
    refine blkQ.n ⟨q2 ((.ptr 1 0) :: (.ptr 2 0) :: q1 ((dP eS v2) :: (dI (a0.fClasses.length : Int)) :: (.ptr 6 0) :: (dI v1160) :: q2 ((.ptr 16 0) :: (appD 23 (List.map eI y1678.1)) :: q29 ((dP e37 a0.fClasses) :: (dI (a0.fClasses.length : Int)) :: (dI v1160) :: q5 ((dP e34 v1172.fItems) :: (dI (v1172.fItems.length : Int)) :: (dI v1548) :: q10 ((dP eS v1560.fTags) :: (dI (v1560.fTags.length : Int)) :: (dI v1635) :: q40 (q40 (q40 (q1 []))))))))), [(b6_0 a0), b6_1, b6_2, (b6_3 v1), .dead, .dead, (.cells [(dI v1549), (appD 24 (List.map e40 v1550)), (.v (.sl .nonfull (List.map e42 ([(⟨(a0.fClasses.length : Int), 0⟩ : S42)]))))]), .dead, .dead, .dead, .dead, (b6_4 v1172), .dead, .dead, .dead, .dead, (b6_5 v1560), .dead, (b6_6 v1561), .dead, .dead, .dead, .dead, (appO 1 (List.map eI y1678.1)), (appO 5 (List.map e40 v1550))]⟩ (by generalize y1678.1 = z0; generalize v1550 = z1; cases z0 <;> cases z1 <;> (as_aux_lemma => kernel_rfl)) ?_
    refine seqQ.n ?_
    refine Wp.rg ?_
    refine Ops.sg 2 2 ?_
    refine Ops.dn ?_
    refine lpQ.n ⟨q2 ((.ptr 1 0) :: (.ptr 2 0) :: q1 ((dP eS v2) :: (dI (a0.fClasses.length : Int)) :: (.ptr 6 0) :: (dI v1160) :: q2 ((.ptr 16 0) :: (appD 19 (List.map eI y1678.1)) :: q29 ((dP e37 a0.fClasses) :: (dI (a0.fClasses.length : Int)) :: (dI v1160) :: q5 ((dP e34 v1172.fItems) :: (dI (v1172.fItems.length : Int)) :: (dI v1548) :: q10 ((dP eS v1560.fTags) :: (dI (v1560.fTags.length : Int)) :: (dI (w64 (v1635 + 1))) :: q40 (q40 (q40 (q1 []))))))))), [(b6_0 a0), b6_1, b6_2, (b6_3 v1), .dead, .dead, (.cells [(dI v1549), (appD 20 (List.map e40 v1550)), (.v (.sl .nonfull (List.map e42 ([(⟨(a0.fClasses.length : Int), 0⟩ : S42)]))))]), .dead, .dead, .dead, .dead, (b6_4 v1172), .dead, .dead, .dead, .dead, (b6_5 v1560), .dead, (b6_6 v1561), (appO 1 (List.map eI y1678.1)), (appO 5 (List.map e40 v1550))]⟩ (by generalize y1678.1 = z0; generalize v1550 = z1; cases z0 <;> cases z1 <;> (as_aux_lemma => kernel_rfl)) ?_
    cases h
    exact ihx1639 y1678.1 (w64 (v1635 + 1))  _ hsx1644 _ (by omega) hrx1640 hxx1641
  ·refine Wp.exit (id := 4) (by kernel_rfl) ?_
   refine sqQ.x ?_
   refine seqQ.x ?_
   cases h
   refine lpQ.x ?_
   refine blkQ.x ⟨q2 ((.ptr 1 0) :: (.ptr 2 0) :: q1 ((dP eS v2) :: (dI (a0.fClasses.length : Int)) :: (.ptr 6 0) :: (dI v1160) :: q2 ((.ptr 16 0) :: (appD 19 (List.map eI v1634)) :: q29 ((dP e37 a0.fClasses) :: (dI (a0.fClasses.length : Int)) :: (dI v1160) :: q5 ((dP e34 v1172.fItems) :: (dI (v1172.fItems.length : Int)) :: (dI v1548) :: q40 (q40 (q40 (q14 [])))))))), [(b6_0 a0), b6_1, b6_2, (b6_3 v1), .dead, .dead, (.cells [(dI v1549), (appD 20 (List.map e40 v1550)), (.v (.sl .nonfull (List.map e42 ([(⟨(a0.fClasses.length : Int), 0⟩ : S42)]))))]), .dead, .dead, .dead, .dead, (b6_4 v1172), .dead, .dead, .dead, .dead, (b6_5 v1560), .dead, (b6_6 v1561), (appO 1 (List.map eI v1634)), (appO 5 (List.map e40 v1550))]⟩ (by generalize v1634 = z0; generalize v1550 = z1; cases z0 <;> cases z1 <;> (as_aux_lemma => kernel_rfl)) ?_
   exact hxx1641 (v1634, v1635)  hsx1644
theorem f6_hLx1746 (m : Nat) (a0 : S23) (o : (S27 × S29)) (n : Nat) (hn : m + 7 ≤ n + 1) (v2 : (List ByteArray)) (v1160 : Int) (v1172 : S37) (nx1165 : Nat) (v1 : S29) : ∀ (kx1552 : Nat) (v1548 : Int) (v1549 : Int) (v1550 : (List S40))  (ox1551 : (S27 × S29) ⊕ (Int × Int × (List S40))), iter (fun (y : Int × Int × (List S40)) => f6_B13 m a0 v2 v1160 v1172 y.1 y.2.1 y.2.2) kx1552 (v1548, v1549, v1550) = some ox1551 → ∀ nx1553, kx1552 ≤ nx1553 → (∀ r, ox1551 = .inl r → ∀ σ, RetOk (X6 n) (resOf Proofs.Tryd.prog 6) (.tuple [e27 r.1, e29 r.2]) σ → (blkQ (X6 n) 1 k6_1 11 (seqQ (X6 n) p6_2 (lpQ (X6 n) k6_1 7 p6_1 nx1165 (blkQ (X6 n) 0 [2, 3, 7] 7 (seqQ (X6 n) p6_0 (fnQ (X6 n).E.T (resOf Proofs.Tryd.prog 6) (.tuple [e27 o.1, e29 o.2]))))))) .ret σ) → (∀ (y : Int × Int × (List S40)) , ox1551 = .inr y → (blkQ (X6 n) 1 k6_1 11 (seqQ (X6 n) p6_2 (lpQ (X6 n) k6_1 7 p6_1 nx1165 (blkQ (X6 n) 0 [2, 3, 7] 7 (seqQ (X6 n) p6_0 (fnQ (X6 n).E.T (resOf Proofs.Tryd.prog 6) (.tuple [e27 o.1, e29 o.2]))))))) .normal ⟨q2 ((.ptr 1 0) :: (.ptr 2 0) :: q1 ((dP eS v2) :: (dI (a0.fClasses.length : Int)) :: (.ptr 6 0) :: q34 ((dP e37 a0.fClasses) :: (dI (a0.fClasses.length : Int)) :: (dI v1160) :: q40 (q40 (q40 (q22 [])))))), [(b6_0 a0), b6_1, b6_2, (b6_3 v1), .dead, .dead, (.cells [(dI y.2.1), (appD 13 (List.map e40 y.2.2)), (.v (.sl .nonfull (List.map e42 ([(⟨(a0.fClasses.length : Int), 0⟩ : S42)]))))]), .dead, .dead, .dead, .dead, (b6_4 v1172), .dead, (appO 5 (List.map e40 y.2.2))]⟩) → Lp (X6 n) k6_0 12 p6_3 nx1553 ⟨q2 ((.ptr 1 0) :: (.ptr 2 0) :: q1 ((dP eS v2) :: (dI (a0.fClasses.length : Int)) :: (.ptr 6 0) :: (dI v1160) :: q33 ((dP e37 a0.fClasses) :: (dI (a0.fClasses.length : Int)) :: (dI v1160) :: q5 ((dP e34 v1172.fItems) :: (dI (v1172.fItems.length : Int)) :: (dI v1548) :: q40 (q40 (q40 (q14 []))))))), [(b6_0 a0), b6_1, b6_2, (b6_3 v1), .dead, .dead, (.cells [(dI v1549), (appD 13 (List.map e40 v1550)), (.v (.sl .nonfull (List.map e42 ([(⟨(a0.fClasses.length : Int), 0⟩ : S42)]))))]), .dead, .dead, .dead, .dead, (b6_4 v1172), .dead, (appO 5 (List.map e40 v1550))]⟩ (blkQ (X6 n) 2 k6_1 12 (blkQ (X6 n) 1 k6_1 11 (seqQ (X6 n) p6_2 (lpQ (X6 n) k6_1 7 p6_1 nx1165 (blkQ (X6 n) 0 [2, 3, 7] 7 (seqQ (X6 n) p6_0 (fnQ (X6 n).E.T (resOf Proofs.Tryd.prog 6) (.tuple [e27 o.1, e29 o.2])))))))) := by
 intro kx1552
 induction kx1552 with
 | zero => intro v1548 v1549 v1550  ox1551 h; exact (iter_zero h).elim
 | succ kx1552 ihx1554 =>
  intro v1548 v1549 v1550  ox1551 h nx1553 hnx1557 hrx1555 hxx1556
  obtain ⟨nx1553, rfl⟩ : ∃ q, nx1553 = q + 1 := ⟨nx1553 - 1, by omega⟩
  obtain ⟨sx1558, h, hsx1559⟩ := iter_some h
  have h : f6_B13 m a0 v2 v1160 v1172 v1548 v1549 v1550 = some sx1558 := h
  unfold f6_B13 at h
  refine Lp.succ ?_
  refine Wp.sq ?_
  refine Wp.rg ?_
  refine Ops.sg 1 1 ?_
  refine Ops.dn ?_
  refine seqQ.n ?_
  refine Wp.sq ?_
  refine Wp.cnd h k6_0 14 (by kernel_rfl) (fun h => ?_) (fun h => ?_)
  ·refine Wp.sk ?_
   refine sqQ.n ⟨q2 ((.ptr 1 0) :: (.ptr 2 0) :: q1 ((dP eS v2) :: (dI (a0.fClasses.length : Int)) :: (.ptr 6 0) :: (dI v1160) :: q33 ((dP e37 a0.fClasses) :: (dI (a0.fClasses.length : Int)) :: (dI v1160) :: q5 ((dP e34 v1172.fItems) :: (dI (v1172.fItems.length : Int)) :: (dI v1548) :: q40 (q40 (q40 (q14 []))))))), [(b6_0 a0), b6_1, b6_2, (b6_3 v1), .dead, .dead, (.cells [(dI v1549), (appD 15 (List.map e40 v1550)), (.v (.sl .nonfull (List.map e42 ([(⟨(a0.fClasses.length : Int), 0⟩ : S42)]))))]), .dead, .dead, .dead, .dead, (b6_4 v1172), .dead, .dead, .dead, (appO 5 (List.map e40 v1550))]⟩ (by generalize v1550 = z0; cases z0 <;> kernel_rfl) ?_
   refine seqQ.n ?_
   refine Wp.sq ?_
   refine Wp.block' 3 k6_0 16 (by kernel_rfl) ?_
   refine Wp.sq ?_
   refine Wp.rg ?_
   obtain ⟨v1560, ev1560, h⟩ := bnd_some h
   refine Ops.on 1 (fun h0 e0 => (ix_r (T := T) h0 36 35 5 .plain e34 v1172.fItems v1548 v1560 ev1560 (by kernel_rfl) (by kernel_rfl) (fun _ => rfl))) ?_
   refine Ops.sg 3 4 ?_
   refine Ops.dn ?_
   refine seqQ.n ?_
   refine Wp.sq ?_
   refine Wp.rg ?_
   refine Ops.sg 2 2 ?_
   obtain ⟨v1561, ev1561, h⟩ := bnd_some h
   refine Ops.on 3 (fun h0 e0 => (call_keep (E' := EG) (h := h0) (by kernel_rfl) (by kernel_rfl) (by kernel_rfl) (ArgsC.cons (.v (.str v1560.fBase)) (.v (eS v1560.fBase)) (by kernel_rfl) ArgsC.nil) (ok17 m v1560.fBase v1561 ev1561 n (by omega)))) ?_
   refine Ops.seg 6 9 (by kernel_rfl) ⟨q2 ((.ptr 1 0) :: (.ptr 2 0) :: q1 ((dP eS v2) :: (dI (a0.fClasses.length : Int)) :: (.ptr 6 0) :: (dI v1160) :: q2 ((.ptr 16 0) :: (appD 17 (List.map eI v1561.1)) :: (.ptr 18 0) :: q28 ((dP e37 a0.fClasses) :: (dI (a0.fClasses.length : Int)) :: (dI v1160) :: q5 ((dP e34 v1172.fItems) :: (dI (v1172.fItems.length : Int)) :: (dI v1548) :: q1 ((.vptr [(.str v1560.fBase), (.str v1560.fForm), (vP eS v1560.fTags), (vI v1560.fNext), (vI v1560.fWeight)]) :: (.v (.agg [(.str v1560.fBase), (.str v1560.fForm), (vP eS v1560.fTags), (vI v1560.fNext), (vI v1560.fWeight)])) :: (.tuple [(appD 17 (List.map eI v1561.1)), (.v (.agg [(vI v1561.2.fCode), (vI v1561.2.fIndex)]))]) :: (.ptr 16 0) :: (.v (.str v1560.fBase)) :: (.tuple [(appD 17 (List.map eI v1561.1)), (.v (.agg [(vI v1561.2.fCode), (vI v1561.2.fIndex)]))]) :: (appD 17 (List.map eI v1561.1)) :: (.v (.agg [(vI v1561.2.fCode), (vI v1561.2.fIndex)])) :: q40 (q40 (q40 (q5 []))))))))), [(b6_0 a0), b6_1, b6_2, (b6_3 v1), .dead, .dead, (.cells [(dI v1549), (appD 15 (List.map e40 v1550)), (.v (.sl .nonfull (List.map e42 ([(⟨(a0.fClasses.length : Int), 0⟩ : S42)]))))]), .dead, .dead, .dead, .dead, (b6_4 v1172), .dead, .dead, .dead, (appO 5 (List.map e40 v1550)), (b6_5 v1560), (appO 1 (List.map eI v1561.1)), (b6_6 v1561)]⟩ (by kernel_rfl) ?_
   refine Ops.dn ?_
   refine seqQ.n ?_
   refine Wp.sq ?_
   refine Wp.sq ?_
   refine Wp.rg ?_
   refine Ops.sg 2 2 ?_
   refine Ops.on 3 (fun h0 e0 => (len_r (T := T) h0 33 9 .plain eS v1560.fTags (by kernel_rfl))) ?_
   refine Ops.sg 1 4 ?_
   refine Ops.dn ?_
   refine seqQ.n ?_
   refine Wp.block' 4 k6_6 19 (by kernel_rfl) ?_
   have hLx1680 := f6_hLx1680 m a0 o n hn v2 v1560 nx1553 nx1165 v1160 v1172 v1548 v1 v1549 v1550 v1561
   refine Wp.loop' k6_5 19 (by kernel_rfl) ⟨q2 ((.ptr 1 0) :: (.ptr 2 0) :: q1 ((dP eS v2) :: (dI (a0.fClasses.length : Int)) :: (.ptr 6 0) :: (dI v1160) :: q2 ((.ptr 16 0) :: (appD 19 (List.map eI v1561.1)) :: q29 ((dP e37 a0.fClasses) :: (dI (a0.fClasses.length : Int)) :: (dI v1160) :: q5 ((dP e34 v1172.fItems) :: (dI (v1172.fItems.length : Int)) :: (dI v1548) :: q10 ((dP eS v1560.fTags) :: (dI (v1560.fTags.length : Int)) :: (dI 0) :: q40 (q40 (q40 (q1 []))))))))), [(b6_0 a0), b6_1, b6_2, (b6_3 v1), .dead, .dead, (.cells [(dI v1549), (appD 20 (List.map e40 v1550)), (.v (.sl .nonfull (List.map e42 ([(⟨(a0.fClasses.length : Int), 0⟩ : S42)]))))]), .dead, .dead, .dead, .dead, (b6_4 v1172), .dead, .dead, .dead, .dead, (b6_5 v1560), .dead, (b6_6 v1561), (appO 1 (List.map eI v1561.1)), (appO 5 (List.map e40 v1550))]⟩ (by generalize v1561.1 = z0; generalize v1550 = z1; cases z0 <;> cases z1 <;> (as_aux_lemma => kernel_rfl)) ?_
   rcases brk_some h with ⟨r1682, er1682, h⟩ | ⟨y1681, ey1681, h⟩
   ·refine hLx1680 _ v1561.1 0  _ er1682 n (by omega) (fun r er σ hσ => ?_) (fun y  ey => by cases ey)
    cases er
    refine seqQ.r ?_
    refine blkQ.r ?_
    refine seqQ.r ?_
    refine lpQ.r ?_
    cases h
    refine blkQ.r ?_
    exact hrx1555 _ hsx1559 _ (RetOk.forget k6_0 (by kernel_rfl) hσ)
   ·refine hLx1680 _ v1561.1 0  _ ey1681 n (by omega) (fun r er => by cases er) (fun y  ey => ?_)
    cases ey
    refine seqQ.n ?_
    refine Wp.sq ?_
    refine Wp.rg ?_
    refine Ops.sg 2 2 ?_
    obtain ⟨v1683, ev1683, h⟩ := bnd_some h
    refine Ops.on 3 (fun h0 e0 => (call_keep (E' := EG) (h := h0) (by kernel_rfl) (by kernel_rfl) (by kernel_rfl) (ArgsC.cons (.v (.str v1560.fForm)) (.v (eS v1560.fForm)) (by kernel_rfl) ArgsC.nil) (ok17 m v1560.fForm v1683 ev1683 n (by omega)))) ?_
    refine Ops.sg 6 9 ?_
    refine Ops.dn ?_
    refine seqQ.n ?_
    refine Wp.sq ?_
    refine Wp.rg ?_
    refine Ops.seg 1 1 (by kernel_rfl) ⟨q2 ((.ptr 1 0) :: (.ptr 2 0) :: q1 ((dP eS v2) :: (dI (a0.fClasses.length : Int)) :: (.ptr 6 0) :: (dI v1160) :: q2 ((.ptr 16 0) :: (appD 19 (List.map eI y1681.1)) :: q5 ((appD 21 (List.map eI v1683.1)) :: (.ptr 22 0) :: (dI 1) :: q21 ((dP e37 a0.fClasses) :: (dI (a0.fClasses.length : Int)) :: (dI v1160) :: q5 ((dP e34 v1172.fItems) :: (dI (v1172.fItems.length : Int)) :: (dI v1548) :: q33 ((.tuple [(appD 21 (List.map eI v1683.1)), (.v (.agg [(vI v1683.2.fCode), (vI v1683.2.fIndex)]))]) :: (.ptr 16 1) :: (.v (.str v1560.fForm)) :: (.tuple [(appD 21 (List.map eI v1683.1)), (.v (.agg [(vI v1683.2.fCode), (vI v1683.2.fIndex)]))]) :: (appD 21 (List.map eI v1683.1)) :: (.v (.agg [(vI v1683.2.fCode), (vI v1683.2.fIndex)])) :: q40 (q40 (q15 []))))))))), [(b6_0 a0), b6_1, b6_2, (b6_3 v1), .dead, .dead, (.cells [(dI v1549), (appD 20 (List.map e40 v1550)), (.v (.sl .nonfull (List.map e42 ([(⟨(a0.fClasses.length : Int), 0⟩ : S42)]))))]), .dead, .dead, .dead, .dead, (b6_4 v1172), .dead, .dead, .dead, .dead, (b6_5 v1560), .dead, (b6_6 v1561), (appO 1 (List.map eI y1681.1)), (appO 5 (List.map e40 v1550)), (appO 1 (List.map eI v1683.1)), (b6_6 v1683)]⟩ (by kernel_rfl) ?_
    refine Ops.dn ?_
    refine seqQ.n ?_
    refine Wp.sq ?_
    refine Wp.sq ?_
    refine Wp.rg ?_
    refine Ops.sg 1 1 ?_
    refine Ops.on 2 (fun h0 e0 => (len_a (T := T) (g := .nil) h0 47 3 19 eI y1681.1 (by kernel_rfl))) ?_
    refine Ops.sg 2 4 ?_
    refine Ops.dn ?_
    refine seqQ.n ?_
    have J6j1685 : ∀ (v1684 : Int) , f6_j12 m a0 v1160 v1548 v1549 v1550 v1560 y1681 v1683 v1684 = some sx1558 → (seqQ (X6 n) p6_7 (blkQ (X6 n) 3 k6_0 16 (seqQ (X6 n) p6_4 (lpQ (X6 n) k6_0 12 p6_3 nx1553 (blkQ (X6 n) 2 k6_1 12 (blkQ (X6 n) 1 k6_1 11 (seqQ (X6 n) p6_2 (lpQ (X6 n) k6_1 7 p6_1 nx1165 (blkQ (X6 n) 0 [2, 3, 7] 7 (seqQ (X6 n) p6_0 (fnQ (X6 n).E.T (resOf Proofs.Tryd.prog 6) (.tuple [e27 o.1, e29 o.2])))))))))))) .normal ⟨q2 ((.ptr 1 0) :: (.ptr 2 0) :: q1 ((dP eS v2) :: (dI (a0.fClasses.length : Int)) :: (.ptr 6 0) :: (dI v1160) :: q2 ((.ptr 16 0) :: (appD 23 (List.map eI y1681.1)) :: q5 ((appD 21 (List.map eI v1683.1)) :: q1 ((dI v1684) :: q21 ((dP e37 a0.fClasses) :: (dI (a0.fClasses.length : Int)) :: (dI v1160) :: q5 ((dP e34 v1172.fItems) :: (dI (v1172.fItems.length : Int)) :: (dI v1548) :: q40 (q40 (q40 (q14 [])))))))))), [(b6_0 a0), b6_1, b6_2, (b6_3 v1), .dead, .dead, (.cells [(dI v1549), (appD 24 (List.map e40 v1550)), (.v (.sl .nonfull (List.map e42 ([(⟨(a0.fClasses.length : Int), 0⟩ : S42)]))))]), .dead, .dead, .dead, .dead, (b6_4 v1172), .dead, .dead, .dead, .dead, (b6_5 v1560), .dead, (b6_6 v1561), .dead, .dead, (appO 1 (List.map eI v1683.1)), (b6_6 v1683), (appO 1 (List.map eI y1681.1)), (appO 5 (List.map e40 v1550))]⟩ := by
     intro v1684  h
     unfold f6_j12 at h
     refine seqQ.n ?_
     refine Wp.sq ?_
     refine Wp.sq ?_
     refine Wp.rg ?_
     refine Ops.sg 1 1 ?_
     refine Ops.on 2 (fun h0 e0 => (len_a (T := T) (g := .nil) h0 47 3 21 eI v1683.1 (by kernel_rfl))) ?_
     refine Ops.sg 2 4 ?_
     refine Ops.dn ?_
     refine seqQ.n ?_
     have J6j1687 : ∀ (v1686 : Int) , f6_j11 m a0 v1160 v1548 v1549 v1550 v1560 y1681 v1683 v1686 = some sx1558 → (seqQ (X6 n) p6_8 (blkQ (X6 n) 3 k6_0 16 (seqQ (X6 n) p6_4 (lpQ (X6 n) k6_0 12 p6_3 nx1553 (blkQ (X6 n) 2 k6_1 12 (blkQ (X6 n) 1 k6_1 11 (seqQ (X6 n) p6_2 (lpQ (X6 n) k6_1 7 p6_1 nx1165 (blkQ (X6 n) 0 [2, 3, 7] 7 (seqQ (X6 n) p6_0 (fnQ (X6 n).E.T (resOf Proofs.Tryd.prog 6) (.tuple [e27 o.1, e29 o.2])))))))))))) .normal ⟨q2 ((.ptr 1 0) :: (.ptr 2 0) :: q1 ((dP eS v2) :: (dI (a0.fClasses.length : Int)) :: (.ptr 6 0) :: (dI v1160) :: q2 ((.ptr 16 0) :: (appD 25 (List.map eI y1681.1)) :: q5 ((appD 21 (List.map eI v1683.1)) :: q1 ((dI v1686) :: q21 ((dP e37 a0.fClasses) :: (dI (a0.fClasses.length : Int)) :: (dI v1160) :: q5 ((dP e34 v1172.fItems) :: (dI (v1172.fItems.length : Int)) :: (dI v1548) :: q40 (q40 (q40 (q14 [])))))))))), [(b6_0 a0), b6_1, b6_2, (b6_3 v1), .dead, .dead, (.cells [(dI v1549), (appD 26 (List.map e40 v1550)), (.v (.sl .nonfull (List.map e42 ([(⟨(a0.fClasses.length : Int), 0⟩ : S42)]))))]), .dead, .dead, .dead, .dead, (b6_4 v1172), .dead, .dead, .dead, .dead, (b6_5 v1560), .dead, (b6_6 v1561), .dead, .dead, (appO 1 (List.map eI v1683.1)), (b6_6 v1683), .dead, .dead, (appO 1 (List.map eI y1681.1)), (appO 5 (List.map e40 v1550))]⟩ := by
      intro v1686  h
      unfold f6_j11 at h
      refine seqQ.n ?_
      refine Wp.sq ?_
      refine Wp.sq ?_
      refine Wp.rg ?_
      refine Ops.sg 1 1 ?_
      refine Ops.dn ?_
      refine seqQ.n ?_
      refine Wp.block' 8 k6_3 27 (by kernel_rfl) ?_
      have hLx1743 := f6_hLx1743 m a0 o n hn v1160 v1549 v1560 y1681 v1683 v1686 nx1553 nx1165 v2 v1172 v1548 v1 v1561
      refine Wp.loop' k6_2 27 (by kernel_rfl) ⟨q2 ((.ptr 1 0) :: (.ptr 2 0) :: q1 ((dP eS v2) :: (dI (a0.fClasses.length : Int)) :: (.ptr 6 0) :: (dI v1160) :: q2 ((.ptr 16 0) :: (appD 27 (List.map eI y1681.1)) :: q5 ((appD 21 (List.map eI v1683.1)) :: q1 ((dI v1686) :: (dI 0) :: q20 ((dP e37 a0.fClasses) :: (dI (a0.fClasses.length : Int)) :: (dI v1160) :: q5 ((dP e34 v1172.fItems) :: (dI (v1172.fItems.length : Int)) :: (dI v1548) :: q40 (q40 (q40 (q14 [])))))))))), [(b6_0 a0), b6_1, b6_2, (b6_3 v1), .dead, .dead, (.cells [(dI v1549), (appD 28 (List.map e40 v1550)), (.v (.sl .nonfull (List.map e42 ([(⟨(a0.fClasses.length : Int), 0⟩ : S42)]))))]), .dead, .dead, .dead, .dead, (b6_4 v1172), .dead, .dead, .dead, .dead, (b6_5 v1560), .dead, (b6_6 v1561), .dead, .dead, (appO 1 (List.map eI v1683.1)), (b6_6 v1683), .dead, .dead, .dead, .dead, (appO 1 (List.map eI y1681.1)), (appO 5 (List.map e40 v1550))]⟩ (by generalize y1681.1 = z0; generalize v1683.1 = z1; generalize v1550 = z2; cases z0 <;> cases z1 <;> cases z2 <;> (as_aux_lemma => kernel_rfl)) ?_
      rcases brk_some h with ⟨r1745, er1745, h⟩ | ⟨y1744, ey1744, h⟩
      ·refine hLx1743 _ 0 v1550  _ er1745 n (by omega) (fun r er σ hσ => ?_) (fun y  ey => by cases ey)
       cases er
       refine seqQ.r ?_
       refine blkQ.r ?_
       refine seqQ.r ?_
       refine lpQ.r ?_
       cases h
       refine blkQ.r ?_
       exact hrx1555 _ hsx1559 _ (RetOk.forget k6_0 (by kernel_rfl) hσ)
      ·refine hLx1743 _ 0 v1550  _ ey1744 n (by omega) (fun r er => by cases er) (fun y  ey => ?_)
       cases ey
       refine seqQ.n ?_
       refine Wp.rg ?_
       refine Ops.sg 7 7 ?_
       refine Ops.dn ?_
       refine blkQ.n ⟨q2 ((.ptr 1 0) :: (.ptr 2 0) :: q1 ((dP eS v2) :: (dI (a0.fClasses.length : Int)) :: (.ptr 6 0) :: (dI v1160) :: q33 ((dP e37 a0.fClasses) :: (dI (a0.fClasses.length : Int)) :: (dI v1160) :: q5 ((dP e34 v1172.fItems) :: (dI (v1172.fItems.length : Int)) :: (dI v1548) :: q40 (q40 (q40 (q14 []))))))), [(b6_0 a0), b6_1, b6_2, (b6_3 v1), .dead, .dead, (.cells [(dI (w64 (v1549 + w64 (v1686 - 1)))), (appD 17 (List.map e40 y1744.2)), (.v (.sl .nonfull (List.map e42 ([(⟨(a0.fClasses.length : Int), 0⟩ : S42)]))))]), .dead, .dead, .dead, .dead, (b6_4 v1172), .dead, .dead, .dead, .dead, .dead, (appO 5 (List.map e40 y1744.2))]⟩ (by generalize y1744.2 = z0; cases z0 <;> kernel_rfl) ?_
       refine seqQ.n ?_
       refine Wp.rg ?_
       refine Ops.sg 2 2 ?_
       refine Ops.dn ?_
       refine lpQ.n ⟨q2 ((.ptr 1 0) :: (.ptr 2 0) :: q1 ((dP eS v2) :: (dI (a0.fClasses.length : Int)) :: (.ptr 6 0) :: (dI v1160) :: q33 ((dP e37 a0.fClasses) :: (dI (a0.fClasses.length : Int)) :: (dI v1160) :: q5 ((dP e34 v1172.fItems) :: (dI (v1172.fItems.length : Int)) :: (dI (w64 (v1548 + 1))) :: q40 (q40 (q40 (q14 []))))))), [(b6_0 a0), b6_1, b6_2, (b6_3 v1), .dead, .dead, (.cells [(dI (w64 (v1549 + w64 (v1686 - 1)))), (appD 13 (List.map e40 y1744.2)), (.v (.sl .nonfull (List.map e42 ([(⟨(a0.fClasses.length : Int), 0⟩ : S42)]))))]), .dead, .dead, .dead, .dead, (b6_4 v1172), .dead, (appO 5 (List.map e40 y1744.2))]⟩ (by generalize y1744.2 = z0; cases z0 <;> kernel_rfl) ?_
       cases h
       exact ihx1554 (w64 (v1548 + 1)) (w64 (v1549 + w64 (v1686 - 1))) y1744.2  _ hsx1559 _ (by omega) hrx1555 hxx1556
     refine Wp.cnd h [2, 3, 5, 6, 7, 8, 11, 12, 18, 20, 42, 43, 44, 50, 51, 52] 25 (by kernel_rfl) (fun h => ?_) (fun h => ?_)
     ·refine Wp.rg ?_
      refine Ops.sg 1 1 ?_
      refine Ops.on 2 (fun h0 e0 => (len_a (T := T) (g := .nil) h0 47 3 21 eI v1683.1 (by kernel_rfl))) ?_
      refine Ops.sg 1 3 ?_
      refine Ops.dn ?_
      refine sqQ.n ⟨q2 ((.ptr 1 0) :: (.ptr 2 0) :: q1 ((dP eS v2) :: (dI (a0.fClasses.length : Int)) :: (.ptr 6 0) :: (dI v1160) :: q2 ((.ptr 16 0) :: (appD 25 (List.map eI y1681.1)) :: q5 ((appD 21 (List.map eI v1683.1)) :: q1 ((dI (v1683.1.length : Int)) :: q21 ((dP e37 a0.fClasses) :: (dI (a0.fClasses.length : Int)) :: (dI v1160) :: q5 ((dP e34 v1172.fItems) :: (dI (v1172.fItems.length : Int)) :: (dI v1548) :: q40 (q40 (q40 (q14 [])))))))))), [(b6_0 a0), b6_1, b6_2, (b6_3 v1), .dead, .dead, (.cells [(dI v1549), (appD 26 (List.map e40 v1550)), (.v (.sl .nonfull (List.map e42 ([(⟨(a0.fClasses.length : Int), 0⟩ : S42)]))))]), .dead, .dead, .dead, .dead, (b6_4 v1172), .dead, .dead, .dead, .dead, (b6_5 v1560), .dead, (b6_6 v1561), .dead, .dead, (appO 1 (List.map eI v1683.1)), (b6_6 v1683), .dead, .dead, (appO 1 (List.map eI y1681.1)), (appO 5 (List.map e40 v1550))]⟩ (by generalize y1681.1 = z0; generalize v1683.1 = z1; generalize v1550 = z2; cases z0 <;> cases z1 <;> cases z2 <;> (as_aux_lemma => kernel_rfl)) ?_
      exact J6j1687 (v1683.1.length : Int)  h
     ·refine Wp.sk ?_
      refine sqQ.n ⟨q2 ((.ptr 1 0) :: (.ptr 2 0) :: q1 ((dP eS v2) :: (dI (a0.fClasses.length : Int)) :: (.ptr 6 0) :: (dI v1160) :: q2 ((.ptr 16 0) :: (appD 25 (List.map eI y1681.1)) :: q5 ((appD 21 (List.map eI v1683.1)) :: q1 ((dI v1684) :: q21 ((dP e37 a0.fClasses) :: (dI (a0.fClasses.length : Int)) :: (dI v1160) :: q5 ((dP e34 v1172.fItems) :: (dI (v1172.fItems.length : Int)) :: (dI v1548) :: q40 (q40 (q40 (q14 [])))))))))), [(b6_0 a0), b6_1, b6_2, (b6_3 v1), .dead, .dead, (.cells [(dI v1549), (appD 26 (List.map e40 v1550)), (.v (.sl .nonfull (List.map e42 ([(⟨(a0.fClasses.length : Int), 0⟩ : S42)]))))]), .dead, .dead, .dead, .dead, (b6_4 v1172), .dead, .dead, .dead, .dead, (b6_5 v1560), .dead, (b6_6 v1561), .dead, .dead, (appO 1 (List.map eI v1683.1)), (b6_6 v1683), .dead, .dead, (appO 1 (List.map eI y1681.1)), (appO 5 (List.map e40 v1550))]⟩ (by generalize y1681.1 = z0; generalize v1683.1 = z1; generalize v1550 = z2; cases z0 <;> cases z1 <;> cases z2 <;> (as_aux_lemma => kernel_rfl)) ?_
      exact J6j1687 v1684  h
    refine Wp.cnd h [2, 3, 5, 6, 7, 8, 11, 12, 18, 20, 42, 43, 44, 50, 51, 52] 23 (by kernel_rfl) (fun h => ?_) (fun h => ?_)
    ·refine Wp.rg ?_
     refine Ops.sg 1 1 ?_
     refine Ops.on 2 (fun h0 e0 => (len_a (T := T) (g := .nil) h0 47 3 19 eI y1681.1 (by kernel_rfl))) ?_
     refine Ops.sg 1 3 ?_
     refine Ops.dn ?_
     refine sqQ.n ⟨q2 ((.ptr 1 0) :: (.ptr 2 0) :: q1 ((dP eS v2) :: (dI (a0.fClasses.length : Int)) :: (.ptr 6 0) :: (dI v1160) :: q2 ((.ptr 16 0) :: (appD 23 (List.map eI y1681.1)) :: q5 ((appD 21 (List.map eI v1683.1)) :: q1 ((dI (y1681.1.length : Int)) :: q21 ((dP e37 a0.fClasses) :: (dI (a0.fClasses.length : Int)) :: (dI v1160) :: q5 ((dP e34 v1172.fItems) :: (dI (v1172.fItems.length : Int)) :: (dI v1548) :: q40 (q40 (q40 (q14 [])))))))))), [(b6_0 a0), b6_1, b6_2, (b6_3 v1), .dead, .dead, (.cells [(dI v1549), (appD 24 (List.map e40 v1550)), (.v (.sl .nonfull (List.map e42 ([(⟨(a0.fClasses.length : Int), 0⟩ : S42)]))))]), .dead, .dead, .dead, .dead, (b6_4 v1172), .dead, .dead, .dead, .dead, (b6_5 v1560), .dead, (b6_6 v1561), .dead, .dead, (appO 1 (List.map eI v1683.1)), (b6_6 v1683), (appO 1 (List.map eI y1681.1)), (appO 5 (List.map e40 v1550))]⟩ (by generalize y1681.1 = z0; generalize v1683.1 = z1; generalize v1550 = z2; cases z0 <;> cases z1 <;> cases z2 <;> (as_aux_lemma => kernel_rfl)) ?_
     exact J6j1685 (y1681.1.length : Int)  h
    ·refine Wp.sk ?_
     refine sqQ.n ⟨q2 ((.ptr 1 0) :: (.ptr 2 0) :: q1 ((dP eS v2) :: (dI (a0.fClasses.length : Int)) :: (.ptr 6 0) :: (dI v1160) :: q2 ((.ptr 16 0) :: (appD 23 (List.map eI y1681.1)) :: q5 ((appD 21 (List.map eI v1683.1)) :: q1 ((dI 1) :: q21 ((dP e37 a0.fClasses) :: (dI (a0.fClasses.length : Int)) :: (dI v1160) :: q5 ((dP e34 v1172.fItems) :: (dI (v1172.fItems.length : Int)) :: (dI v1548) :: q40 (q40 (q40 (q14 [])))))))))), [(b6_0 a0), b6_1, b6_2, (b6_3 v1), .dead, .dead, (.cells [(dI v1549), (appD 24 (List.map e40 v1550)), (.v (.sl .nonfull (List.map e42 ([(⟨(a0.fClasses.length : Int), 0⟩ : S42)]))))]), .dead, .dead, .dead, .dead, (b6_4 v1172), .dead, .dead, .dead, .dead, (b6_5 v1560), .dead, (b6_6 v1561), .dead, .dead, (appO 1 (List.map eI v1683.1)), (b6_6 v1683), (appO 1 (List.map eI y1681.1)), (appO 5 (List.map e40 v1550))]⟩ (by generalize y1681.1 = z0; generalize v1683.1 = z1; generalize v1550 = z2; cases z0 <;> cases z1 <;> cases z2 <;> (as_aux_lemma => kernel_rfl)) ?_
     exact J6j1685 1  h
  ·refine Wp.exit (id := 2) (by kernel_rfl) ?_
   refine sqQ.x ?_
   refine seqQ.x ?_
   cases h
   refine lpQ.x ?_
   refine blkQ.x ⟨q2 ((.ptr 1 0) :: (.ptr 2 0) :: q1 ((dP eS v2) :: (dI (a0.fClasses.length : Int)) :: (.ptr 6 0) :: q34 ((dP e37 a0.fClasses) :: (dI (a0.fClasses.length : Int)) :: (dI v1160) :: q40 (q40 (q40 (q22 [])))))), [(b6_0 a0), b6_1, b6_2, (b6_3 v1), .dead, .dead, (.cells [(dI v1549), (appD 13 (List.map e40 v1550)), (.v (.sl .nonfull (List.map e42 ([(⟨(a0.fClasses.length : Int), 0⟩ : S42)]))))]), .dead, .dead, .dead, .dead, (b6_4 v1172), .dead, (appO 5 (List.map e40 v1550))]⟩ (by generalize v1550 = z0; cases z0 <;> kernel_rfl) ?_
   exact hxx1556 (v1548, v1549, v1550)  hsx1559
theorem f6_hLx1749 (m : Nat) (a0 : S23) (o : (S27 × S29)) (n : Nat) (hn : m + 7 ≤ n + 1) (v2 : (List ByteArray)) (v1 : S29) : ∀ (kx1164 : Nat) (v1160 : Int) (v1161 : Int) (v1162 : (List S40))  (ox1163 : (S27 × S29) ⊕ (Int × Int × (List S40))), iter (fun (y : Int × Int × (List S40)) => f6_B14 m a0 v2 y.1 y.2.1 y.2.2) kx1164 (v1160, v1161, v1162) = some ox1163 → ∀ nx1165, kx1164 ≤ nx1165 → (∀ r, ox1163 = .inl r → ∀ σ, RetOk (X6 n) (resOf Proofs.Tryd.prog 6) (.tuple [e27 r.1, e29 r.2]) σ → (seqQ (X6 n) p6_0 (fnQ (X6 n).E.T (resOf Proofs.Tryd.prog 6) (.tuple [e27 o.1, e29 o.2]))) .ret σ) → (∀ (y : Int × Int × (List S40)) , ox1163 = .inr y → (seqQ (X6 n) p6_0 (fnQ (X6 n).E.T (resOf Proofs.Tryd.prog 6) (.tuple [e27 o.1, e29 o.2]))) .normal ⟨q2 ((.ptr 1 0) :: (.ptr 2 0) :: q3 ((.ptr 6 0) :: q40 (q40 (q40 (q40 (q19 [])))))), [(b6_0 a0), b6_1, b6_2, (b6_3 v1), .dead, .dead, (.cells [(dI y.2.1), (appD 8 (List.map e40 y.2.2)), (.v (.sl .nonfull (List.map e42 ([(⟨(a0.fClasses.length : Int), 0⟩ : S42)]))))]), .dead, (appO 5 (List.map e40 y.2.2))]⟩) → Lp (X6 n) k6_1 7 p6_1 nx1165 ⟨q2 ((.ptr 1 0) :: (.ptr 2 0) :: q1 ((dP eS v2) :: (dI (a0.fClasses.length : Int)) :: (.ptr 6 0) :: q34 ((dP e37 a0.fClasses) :: (dI (a0.fClasses.length : Int)) :: (dI v1160) :: q40 (q40 (q40 (q22 [])))))), [(b6_0 a0), b6_1, b6_2, (b6_3 v1), .dead, .dead, (.cells [(dI v1161), (appD 8 (List.map e40 v1162)), (.v (.sl .nonfull (List.map e42 ([(⟨(a0.fClasses.length : Int), 0⟩ : S42)]))))]), .dead, (appO 5 (List.map e40 v1162))]⟩ (blkQ (X6 n) 0 [2, 3, 7] 7 (seqQ (X6 n) p6_0 (fnQ (X6 n).E.T (resOf Proofs.Tryd.prog 6) (.tuple [e27 o.1, e29 o.2])))) := by
 intro kx1164
 induction kx1164 with
 | zero => intro v1160 v1161 v1162  ox1163 h; exact (iter_zero h).elim
 | succ kx1164 ihx1166 =>
  intro v1160 v1161 v1162  ox1163 h nx1165 hnx1169 hrx1167 hxx1168
  obtain ⟨nx1165, rfl⟩ : ∃ q, nx1165 = q + 1 := ⟨nx1165 - 1, by omega⟩
  obtain ⟨sx1170, h, hsx1171⟩ := iter_some h
  have h : f6_B14 m a0 v2 v1160 v1161 v1162 = some sx1170 := h
  unfold f6_B14 at h
  refine Lp.succ ?_
  refine Wp.sq ?_
  refine Wp.rg ?_
  refine Ops.sg 1 1 ?_
  refine Ops.dn ?_
  refine seqQ.n ?_
  refine Wp.sq ?_
  refine Wp.cnd h k6_1 9 (by kernel_rfl) (fun h => ?_) (fun h => ?_)
  ·refine Wp.sk ?_
   refine sqQ.n ⟨q2 ((.ptr 1 0) :: (.ptr 2 0) :: q1 ((dP eS v2) :: (dI (a0.fClasses.length : Int)) :: (.ptr 6 0) :: q34 ((dP e37 a0.fClasses) :: (dI (a0.fClasses.length : Int)) :: (dI v1160) :: q40 (q40 (q40 (q22 [])))))), [(b6_0 a0), b6_1, b6_2, (b6_3 v1), .dead, .dead, (.cells [(dI v1161), (appD 10 (List.map e40 v1162)), (.v (.sl .nonfull (List.map e42 ([(⟨(a0.fClasses.length : Int), 0⟩ : S42)]))))]), .dead, .dead, .dead, (appO 5 (List.map e40 v1162))]⟩ (by generalize v1162 = z0; cases z0 <;> kernel_rfl) ?_
   refine seqQ.n ?_
   refine Wp.sq ?_
   refine Wp.block' 1 k6_1 11 (by kernel_rfl) ?_
   refine Wp.sq ?_
   refine Wp.rg ?_
   refine Ops.sg 1 1 ?_
   obtain ⟨v1172, ev1172, h⟩ := bnd_some h
   refine Ops.on 2 (fun h0 e0 => (ix_r (T := T) h0 22 38 2 .plain e37 a0.fClasses v1160 v1172 ev1172 (by kernel_rfl) (by kernel_rfl) (fun _ => rfl))) ?_
   refine Ops.sg 4 6 ?_
   refine Ops.dn ?_
   refine seqQ.n ?_
   refine Wp.sq ?_
   refine Wp.rg ?_
   refine Ops.sg 2 2 ?_
   refine Ops.on 3 (fun h0 e0 => (len_r (T := T) h0 36 35 .plain e34 v1172.fItems (by kernel_rfl))) ?_
   refine Ops.seg 1 4 (by kernel_rfl) ⟨q2 ((.ptr 1 0) :: (.ptr 2 0) :: q1 ((dP eS v2) :: (dI (a0.fClasses.length : Int)) :: (.ptr 6 0) :: (dI v1160) :: (.ptr 11 0) :: q32 ((dP e37 a0.fClasses) :: (dI (a0.fClasses.length : Int)) :: (dI v1160) :: q1 ((dI v1160) :: (.vptr [(.str v1172.fName), (vP e34 v1172.fItems)]) :: (.v (.agg [(.str v1172.fName), (vP e34 v1172.fItems)])) :: (.ptr 11 1) :: (dP e34 v1172.fItems) :: (dI (v1172.fItems.length : Int)) :: (dI 0) :: q40 (q40 (q40 (q14 []))))))), [(b6_0 a0), b6_1, b6_2, (b6_3 v1), .dead, .dead, (.cells [(dI v1161), (appD 10 (List.map e40 v1162)), (.v (.sl .nonfull (List.map e42 ([(⟨(a0.fClasses.length : Int), 0⟩ : S42)]))))]), .dead, .dead, .dead, (appO 5 (List.map e40 v1162)), (b6_4 v1172)]⟩ (by kernel_rfl) ?_
   refine Ops.dn ?_
   refine seqQ.n ?_
   refine Wp.block' 2 k6_1 12 (by kernel_rfl) ?_
   have hLx1746 := f6_hLx1746 m a0 o n hn v2 v1160 v1172 nx1165 v1
   refine Wp.loop' k6_0 12 (by kernel_rfl) ⟨q2 ((.ptr 1 0) :: (.ptr 2 0) :: q1 ((dP eS v2) :: (dI (a0.fClasses.length : Int)) :: (.ptr 6 0) :: (dI v1160) :: q33 ((dP e37 a0.fClasses) :: (dI (a0.fClasses.length : Int)) :: (dI v1160) :: q5 ((dP e34 v1172.fItems) :: (dI (v1172.fItems.length : Int)) :: (dI 0) :: q40 (q40 (q40 (q14 []))))))), [(b6_0 a0), b6_1, b6_2, (b6_3 v1), .dead, .dead, (.cells [(dI v1161), (appD 13 (List.map e40 v1162)), (.v (.sl .nonfull (List.map e42 ([(⟨(a0.fClasses.length : Int), 0⟩ : S42)]))))]), .dead, .dead, .dead, .dead, (b6_4 v1172), .dead, (appO 5 (List.map e40 v1162))]⟩ (by generalize v1162 = z0; cases z0 <;> kernel_rfl) ?_
   rcases brk_some h with ⟨r1748, er1748, h⟩ | ⟨y1747, ey1747, h⟩
   ·refine hLx1746 _ 0 v1161 v1162  _ er1748 n (by omega) (fun r er σ hσ => ?_) (fun y  ey => by cases ey)
    cases er
    refine blkQ.r ?_
    refine seqQ.r ?_
    refine lpQ.r ?_
    cases h
    refine blkQ.r ?_
    exact hrx1167 _ hsx1171 _ (RetOk.forget k6_1 (by kernel_rfl) hσ)
   ·refine hLx1746 _ 0 v1161 v1162  _ ey1747 n (by omega) (fun r er => by cases er) (fun y  ey => ?_)
    cases ey
    refine blkQ.n ⟨q2 ((.ptr 1 0) :: (.ptr 2 0) :: q1 ((dP eS v2) :: (dI (a0.fClasses.length : Int)) :: (.ptr 6 0) :: q34 ((dP e37 a0.fClasses) :: (dI (a0.fClasses.length : Int)) :: (dI v1160) :: q40 (q40 (q40 (q22 [])))))), [(b6_0 a0), b6_1, b6_2, (b6_3 v1), .dead, .dead, (.cells [(dI y1747.2.1), (appD 12 (List.map e40 y1747.2.2)), (.v (.sl .nonfull (List.map e42 ([(⟨(a0.fClasses.length : Int), 0⟩ : S42)]))))]), .dead, .dead, .dead, .dead, .dead, (appO 5 (List.map e40 y1747.2.2))]⟩ (by generalize y1747.2.2 = z0; cases z0 <;> kernel_rfl) ?_
    refine seqQ.n ?_
    refine Wp.rg ?_
    refine Ops.sg 2 2 ?_
    refine Ops.dn ?_
    refine lpQ.n ⟨q2 ((.ptr 1 0) :: (.ptr 2 0) :: q1 ((dP eS v2) :: (dI (a0.fClasses.length : Int)) :: (.ptr 6 0) :: q34 ((dP e37 a0.fClasses) :: (dI (a0.fClasses.length : Int)) :: (dI (w64 (v1160 + 1))) :: q40 (q40 (q40 (q22 [])))))), [(b6_0 a0), b6_1, b6_2, (b6_3 v1), .dead, .dead, (.cells [(dI y1747.2.1), (appD 8 (List.map e40 y1747.2.2)), (.v (.sl .nonfull (List.map e42 ([(⟨(a0.fClasses.length : Int), 0⟩ : S42)]))))]), .dead, (appO 5 (List.map e40 y1747.2.2))]⟩ (by generalize y1747.2.2 = z0; cases z0 <;> kernel_rfl) ?_
    cases h
    exact ihx1166 (w64 (v1160 + 1)) y1747.2.1 y1747.2.2  _ hsx1171 _ (by omega) hrx1167 hxx1168
  ·refine Wp.exit (id := 0) (by kernel_rfl) ?_
   refine sqQ.x ?_
   refine seqQ.x ?_
   cases h
   refine lpQ.x ?_
   refine blkQ.x ⟨q2 ((.ptr 1 0) :: (.ptr 2 0) :: q3 ((.ptr 6 0) :: q40 (q40 (q40 (q40 (q19 [])))))), [(b6_0 a0), b6_1, b6_2, (b6_3 v1), .dead, .dead, (.cells [(dI v1161), (appD 8 (List.map e40 v1162)), (.v (.sl .nonfull (List.map e42 ([(⟨(a0.fClasses.length : Int), 0⟩ : S42)]))))]), .dead, (appO 5 (List.map e40 v1162))]⟩ (by generalize v1162 = z0; cases z0 <;> kernel_rfl) ?_
   exact hxx1168 (v1160, v1161, v1162)  hsx1171
theorem ok6 (m : Nat) (a0 : S23) (o : (S27 × S29)) (h : f6 m a0 = some o) (n : Nat) (hn : m + 7 ≤ n) : Fn Proofs.Tryd.prog EG n 6 [.v (e23 a0)] (.tuple [e27 o.1, e29 o.2]) := by
 obtain ⟨n, rfl⟩ : ∃ q, n = q + 1 := ⟨n - 1, by omega⟩
 unfold f6 at h
 refine Fn.of (by kernel_rfl) (by kernel_rfl) (by kernel_rfl) ⟨(.v (.agg [(vP e37 a0.fClasses)])) :: u40 (u40 (u40 (u40 (u26 [])))), []⟩ (by kernel_rfl) ?_
 refine Wp.sq ?_
 refine Wp.rg ?_
 refine Ops.sg 3 3 ?_
 refine Ops.dn ?_
 refine seqQ.n ?_
 refine Wp.sq ?_
 refine Wp.sq ?_
 refine Wp.rg ?_
 refine Ops.sg 1 1 ?_
 obtain ⟨v1, ev1, h⟩ := bnd_some h
 refine Ops.on 2 (fun h0 e0 => (call_ok (E' := EG) (h := h0) (by kernel_rfl) (Args.v (.agg [(vP e37 a0.fClasses)]) (e23 a0) (by kernel_rfl) Args.nil) (ok15 m a0 v1 ev1 n (by omega)))) ?_
 refine Ops.sg 2 4 ?_
 refine Ops.dn ?_
 refine seqQ.n ?_
 refine Wp.sq ?_
 refine Wp.rg ?_
 refine Ops.seg 3 3 (by kernel_rfl) ⟨(.v (.agg [(vP e37 a0.fClasses)])) :: (.ptr 0 0) :: (.ptr 1 0) :: (.ptr 2 0) :: (.ptr 3 0) :: u18 ((.v (.agg [(vP e37 a0.fClasses)])) :: (.v (.agg [(vI v1.fCode), (vI v1.fIndex)])) :: (.v (.agg [(vI v1.fCode), (vI v1.fIndex)])) :: (.v (.agg [(vI 0), (vI 0)])) :: (dB (!((v1.fCode == 0) && ((v1.fIndex == 0) && true)))) :: u40 (u40 (u40 (u39 [])))), [(b6_0 a0), b6_1, b6_2, (b6_3 v1)]⟩ (by kernel_rfl) ?_
 refine Ops.dn ?_
 refine seqQ.n ?_
 refine Wp.cnd h [1, 2, 3] 4 (by kernel_rfl) (fun h => ?_) (fun h => ?_)
 ·refine Wp.sq ?_
  refine Wp.regionF (by kernel_rfl) ?_
  refine Ops.sg 4 4 ?_
  refine Ops.dn ?_
  refine seqQ.n ?_
  refine Wp.ret (by kernel_rfl) ?_
  refine sqQ.r ?_
  refine seqQ.r ?_
  exact fnQ.r' (X6 n) (fun z => (.tuple [e27 z.1, e29 z.2])) h (RetOk.mk' (.v (.tuple [(.agg [(vI 0), (.sl .nil (List.map e40 [])), (.sl .nil (List.map e42 []))]), (.agg [(vI v1.fCode), (vI v1.fIndex)])])) (by kernel_rfl) (by kernel_rfl))
 ·refine Wp.sk ?_
  refine sqQ.n' ?_
  refine seqQ.n ?_
  refine Wp.sq ?_
  refine Wp.rg ?_
  refine Ops.sg 1 1 ?_
  obtain ⟨v2, ev2, h⟩ := bnd_some h
  refine Ops.on 2 (fun h0 e0 => (call_ok (E' := EG) (h := h0) (by kernel_rfl) (Args.v (.agg [(vP e37 a0.fClasses)]) (e23 a0) (by kernel_rfl) Args.nil) (ok16 m a0 v2 ev2 n (by omega)))) ?_
  refine Ops.sg 1 3 ?_
  refine Ops.dn ?_
  refine seqQ.n ?_
  refine Wp.sq ?_
  refine Wp.rg ?_
  refine Ops.sg 2 2 ?_
  refine Ops.on 3 (fun h0 e0 => (len_r (T := T) h0 22 38 .plain e37 a0.fClasses (by kernel_rfl))) ?_
  refine Ops.seg 1 4 (by kernel_rfl) ⟨q1 ((.ptr 0 0) :: (.ptr 1 0) :: (.ptr 2 0) :: q1 ((dP eS v2) :: (dI (a0.fClasses.length : Int)) :: q23 ((.v (.agg [(vP e37 a0.fClasses)])) :: (dP eS v2) :: (.ptr 0 0) :: (dP e37 a0.fClasses) :: (dI (a0.fClasses.length : Int)) :: q40 (q40 (q40 (q32 [])))))), [(b6_0 a0), b6_1, b6_2, (b6_3 v1), .dead, .dead]⟩ (by kernel_rfl) ?_
  refine Ops.dn ?_
  refine seqQ.n ?_
  refine Wp.sq ?_
  refine Wp.rg ?_
  refine Ops.sg 8 8 ?_
  refine Ops.dn ?_
  refine seqQ.n ?_
  refine Wp.sq ?_
  refine Wp.sq ?_
  refine Wp.rg ?_
  refine Ops.sg 2 2 ?_
  refine Ops.on 3 (fun h0 e0 => (len_r (T := T) h0 22 38 .plain e37 a0.fClasses (by kernel_rfl))) ?_
  refine Ops.seg 1 4 (by kernel_rfl) ⟨q1 ((.ptr 0 0) :: (.ptr 1 0) :: (.ptr 2 0) :: q1 ((dP eS v2) :: (dI (a0.fClasses.length : Int)) :: (.ptr 6 0) :: q22 ((.v (.agg [(vP e37 a0.fClasses)])) :: (dP eS v2) :: (.ptr 0 0) :: (dP e37 a0.fClasses) :: (dI (a0.fClasses.length : Int)) :: (dI (a0.fClasses.length : Int)) :: (dI (w64 ((a0.fClasses.length : Int) + 1))) :: (dI (a0.fClasses.length : Int)) :: (.v (.agg [(vI (a0.fClasses.length : Int)), (vI 0)])) :: (.v (.sl .nonfull (List.map e42 ([(⟨(a0.fClasses.length : Int), 0⟩ : S42)])))) :: (.v (.agg [(vI (w64 ((a0.fClasses.length : Int) + 1))), (.sl .nil (List.map e40 [])), (.sl .nonfull (List.map e42 ([(⟨(a0.fClasses.length : Int), 0⟩ : S42)])))])) :: (.ptr 0 0) :: (dP e37 a0.fClasses) :: (dI (a0.fClasses.length : Int)) :: (dI 0) :: q40 (q40 (q40 (q22 [])))))), [(b6_0 a0), b6_1, b6_2, (b6_3 v1), .dead, .dead, (.cells [(dI (w64 ((a0.fClasses.length : Int) + 1))), (.v (.sl .nil (List.map e40 []))), (.v (.sl .nonfull (List.map e42 ([(⟨(a0.fClasses.length : Int), 0⟩ : S42)]))))])]⟩ (by kernel_rfl) ?_
  refine Ops.dn ?_
  refine seqQ.n ?_
  refine Wp.block' 0 [2, 3, 7] 7 (by kernel_rfl) ?_
  have hLx1749 := f6_hLx1749 m a0 o n hn v2 v1
  refine Wp.loop' k6_1 7 (by kernel_rfl) ⟨q2 ((.ptr 1 0) :: (.ptr 2 0) :: q1 ((dP eS v2) :: (dI (a0.fClasses.length : Int)) :: (.ptr 6 0) :: q34 ((dP e37 a0.fClasses) :: (dI (a0.fClasses.length : Int)) :: (dI 0) :: q40 (q40 (q40 (q22 [])))))), [(b6_0 a0), b6_1, b6_2, (b6_3 v1), .dead, .dead, (.cells [(dI (w64 ((a0.fClasses.length : Int) + 1))), (appD 8 (List.map e40 [])), (.v (.sl .nonfull (List.map e42 ([(⟨(a0.fClasses.length : Int), 0⟩ : S42)]))))]), .dead, .dead]⟩ (by kernel_rfl) ?_
  rcases brk_some h with ⟨r1751, er1751, h⟩ | ⟨y1750, ey1750, h⟩
  ·refine hLx1749 _ 0 (w64 ((a0.fClasses.length : Int) + 1)) []  _ er1751 n (by omega) (fun r er σ hσ => ?_) (fun y  ey => by cases ey)
   cases er
   refine seqQ.r ?_
   exact fnQ.r' (X6 n) (fun z => (.tuple [e27 z.1, e29 z.2])) h hσ
  ·refine hLx1749 _ 0 (w64 ((a0.fClasses.length : Int) + 1)) []  _ ey1750 n (by omega) (fun r er => by cases er) (fun y  ey => ?_)
   cases ey
   refine seqQ.n ?_
   refine Wp.sq ?_
   refine Wp.sq ?_
   refine Wp.rg ?_
   refine Ops.sg 3 3 ?_
   refine Ops.dn ?_
   refine seqQ.n ?_
   refine Wp.cnd h [2, 3, 7] 9 (by kernel_rfl) (fun h => ?_) (fun h => ?_)
   ·refine Wp.sq ?_
    refine Wp.rg ?_
    refine Ops.sg 1 1 ?_
    obtain ⟨v1752, ev1752, h⟩ := bnd_some h
    refine Ops.on 2 (fun h0 e0 => (call_ok (E' := EG) (h := h0) (by kernel_rfl) (Args.v (vI 17) (eI 17) (by kernel_rfl) (Args.v (vI (-1)) (eI (-1)) (by kernel_rfl) Args.nil)) (ok18 m 17 (-1) v1752 ev1752 n (by omega)))) ?_
    refine Ops.sg 2 4 ?_
    refine Ops.dn ?_
    refine seqQ.n ?_
    refine Wp.ret (by kernel_rfl) ?_
    refine sqQ.r ?_
    refine seqQ.r ?_
    exact fnQ.r' (X6 n) (fun z => (.tuple [e27 z.1, e29 z.2])) h (RetOk.mk' (.v (.tuple [(.agg [(vI 0), (.sl .nil (List.map e40 [])), (.sl .nil (List.map e42 []))]), (.agg [(vI v1752.fCode), (vI v1752.fIndex)])])) (by kernel_rfl) (by kernel_rfl))
   ·refine Wp.sk ?_
    refine sqQ.n ⟨q2 ((.ptr 1 0) :: (.ptr 2 0) :: q3 ((.ptr 6 0) :: q40 (q40 (q40 (q40 (q19 [])))))), [(b6_0 a0), b6_1, b6_2, (b6_3 v1), .dead, .dead, (.cells [(dI y1750.2.1), (appD 10 (List.map e40 y1750.2.2)), (.v (.sl .nonfull (List.map e42 ([(⟨(a0.fClasses.length : Int), 0⟩ : S42)]))))]), .dead, .dead, .dead, (appO 5 (List.map e40 y1750.2.2))]⟩ (by generalize y1750.2.2 = z0; cases z0 <;> kernel_rfl) ?_
    refine seqQ.n ?_
    refine Wp.sq ?_
    refine Wp.rg ?_
    refine Ops.sg 2 2 ?_
    obtain ⟨v1753, ev1753, h⟩ := bnd_some h
    refine Ops.on 3 (fun h0 e0 => (call_ok (E' := EG) (h := h0) (by kernel_rfl) (Args.app (g := .nil) 10 (List.map e40 y1750.2.2) (Args.v (vB false) (eB false) (by kernel_rfl) Args.nil)) (ok19 m y1750.2.2 false v1753 ev1753 n (by omega)))) ?_
    refine Ops.sg 2 5 ?_
    refine Ops.dn ?_
    refine seqQ.n ?_
    refine Wp.sq ?_
    refine Wp.sq ?_
    refine Wp.rg ?_
    refine Ops.sg 2 2 ?_
    refine Ops.on 3 (fun h0 e0 => (len_r (T := T) h0 25 41 .plain e40 v1753 (by kernel_rfl))) ?_
    refine Ops.seg 1 4 (by kernel_rfl) ⟨q2 ((.ptr 1 0) :: (.ptr 2 0) :: q3 ((.ptr 6 0) :: q40 (q40 (q40 (q40 (q7 ((.ptr 6 1) :: (appD 10 (List.map e40 y1750.2.2)) :: (dP e40 v1753) :: (.ptr 6 1) :: (.ptr 6 1) :: (dP e40 v1753) :: (dI (v1753.length : Int)) :: (dB (decide ((v1753.length : Int) > 2000))) :: q4 []))))))), [(b6_0 a0), b6_1, b6_2, (b6_3 v1), .dead, .dead, (.cells [(dI y1750.2.1), (dP e40 v1753), (.v (.sl .nonfull (List.map e42 ([(⟨(a0.fClasses.length : Int), 0⟩ : S42)]))))]), .dead, .dead, .dead, (appO 5 (List.map e40 y1750.2.2))]⟩ (by kernel_rfl) ?_
    refine Ops.dn ?_
    refine seqQ.n ?_
    refine Wp.cnd h [2, 3, 7] 11 (by kernel_rfl) (fun h => ?_) (fun h => ?_)
    ·refine Wp.sq ?_
     refine Wp.rg ?_
     refine Ops.sg 1 1 ?_
     obtain ⟨v1754, ev1754, h⟩ := bnd_some h
     refine Ops.on 2 (fun h0 e0 => (call_ok (E' := EG) (h := h0) (by kernel_rfl) (Args.v (vI 17) (eI 17) (by kernel_rfl) (Args.v (vI (-1)) (eI (-1)) (by kernel_rfl) Args.nil)) (ok18 m 17 (-1) v1754 ev1754 n (by omega)))) ?_
     refine Ops.sg 2 4 ?_
     refine Ops.dn ?_
     refine seqQ.n ?_
     refine Wp.ret (by kernel_rfl) ?_
     refine sqQ.r ?_
     refine seqQ.r ?_
     exact fnQ.r' (X6 n) (fun z => (.tuple [e27 z.1, e29 z.2])) h (RetOk.mk' (.v (.tuple [(.agg [(vI 0), (.sl .nil (List.map e40 [])), (.sl .nil (List.map e42 []))]), (.agg [(vI v1754.fCode), (vI v1754.fIndex)])])) (by kernel_rfl) (by kernel_rfl))
    ·refine Wp.sk ?_
     refine sqQ.n ⟨q2 ((.ptr 1 0) :: (.ptr 2 0) :: q3 ((.ptr 6 0) :: q40 (q40 (q40 (q40 (q19 [])))))), [(b6_0 a0), b6_1, b6_2, (b6_3 v1), .dead, .dead, (.cells [(dI y1750.2.1), (dP e40 v1753), (.v (.sl .nonfull (List.map e42 ([(⟨(a0.fClasses.length : Int), 0⟩ : S42)]))))]), .dead, .dead, .dead, (appO 5 (List.map e40 y1750.2.2)), .dead, .dead]⟩ (by generalize y1750.2.2 = z0; cases z0 <;> kernel_rfl) ?_
     refine seqQ.n ?_
     refine Wp.sq ?_
     refine Wp.rg ?_
     refine Ops.sg 4 4 ?_
     refine Ops.dn ?_
     refine seqQ.n ?_
     refine Wp.ret (by kernel_rfl) ?_
     exact fnQ.r' (X6 n) (fun z => (.tuple [e27 z.1, e29 z.2])) h (RetOk.mk' (.v (.tuple [(.agg [(vI y1750.2.1), (vP e40 v1753), (.sl .nonfull (List.map e42 ([(⟨(a0.fClasses.length : Int), 0⟩ : S42)])))]), (.agg [(vI 0), (vI 0)])])) (by kernel_rfl) (by kernel_rfl))
def f3_r1 (m : Nat) (v24 : Bool) : Option Bool :=
 some v24
def f3_r2 (m : Nat) (a0 : S23) (v14 : Bool) : Option Bool :=
 cnd v14
 (some false)
 (bnd (f4 m a0) fun v16 =>
 bnd (f6 m a0) fun v17 =>
 bnd (cnd ((v16.2.fCode == v17.2.fCode) && ((v16.2.fIndex == v17.2.fIndex) && true))
 (bnd (f5 m v16.1 v17.1) fun v26 =>
 some v26)
 (some false)) fun v24 =>
 f3_r1 m v24)
def f3 (m : Nat) (a0 : S23) : Option Bool :=
 bnd (f4 m ((⟨[(⟨(⟨#[97]⟩ : ByteArray), [(⟨(⟨#[120]⟩ : ByteArray), (⟨#[121, 122]⟩ : ByteArray), [], (-1), 3⟩ : S34)]⟩ : S37)]⟩ : S23))) fun v1 =>
 bnd (cnd (!((v1.2.fCode == 0) && ((v1.2.fIndex == 0) && true)))
 (some true)
 (bnd (f5 m v1.1 ((⟨3, [(⟨0, 2, 120, 121, 3⟩ : S40), (⟨2, 1, 0, 122, 0⟩ : S40)], [(⟨1, 0⟩ : S42)]⟩ : S27))) fun v27 =>
 some (!v27))) fun v14 =>
 f3_r2 m a0 v14
noncomputable abbrev X3 (n : Nat) : Cx := cxOf Proofs.Tryd.prog EG 3 n
abbrev b3_0 (w0 : (S27 × S29)) : AObj := .cells [(dI w0.1.fStates), (dP e40 w0.1.fArcs), (dP e42 w0.1.fFinals)]
abbrev b3_1 (w0 : (S27 × S29)) : AObj := .cells [(dI w0.2.fCode), (dI w0.2.fIndex)]
theorem ok3 (m : Nat) (a0 : S23) (o : Bool) (h : f3 m a0 = some o) (n : Nat) (hn : m + 8 ≤ n) : Fn Proofs.Tryd.prog EG n 3 [.v (e23 a0)] (eB o) := by
 obtain ⟨n, rfl⟩ : ∃ q, n = q + 1 := ⟨n - 1, by omega⟩
 unfold f3 at h
 refine Fn.of (by kernel_rfl) (by kernel_rfl) (by kernel_rfl) ⟨(.v (.agg [(vP e37 a0.fClasses)])) :: u40 (u7 []), []⟩ (by kernel_rfl) ?_
 refine Wp.sq ?_
 refine Wp.rg ?_
 refine Ops.sg 2 2 ?_
 refine Ops.dn ?_
 refine seqQ.n ?_
 refine Wp.sq ?_
 refine Wp.rg ?_
 refine Ops.sg 5 5 ?_
 obtain ⟨v1, ev1, h⟩ := bnd_some h
 refine Ops.on 6 (fun h0 e0 => (call_ok (E' := EG) (h := h0) (by kernel_rfl) (Args.v (.agg [(.sl .nonfull (List.map e37 ([(⟨(⟨#[97]⟩ : ByteArray), [(⟨(⟨#[120]⟩ : ByteArray), (⟨#[121, 122]⟩ : ByteArray), [], (-1), 3⟩ : S34)]⟩ : S37)])))]) (e23 ((⟨[(⟨(⟨#[97]⟩ : ByteArray), [(⟨(⟨#[120]⟩ : ByteArray), (⟨#[121, 122]⟩ : ByteArray), [], (-1), 3⟩ : S34)]⟩ : S37)]⟩ : S23))) (by kernel_rfl) Args.nil) (ok4 m ((⟨[(⟨(⟨#[97]⟩ : ByteArray), [(⟨(⟨#[120]⟩ : ByteArray), (⟨#[121, 122]⟩ : ByteArray), [], (-1), 3⟩ : S34)]⟩ : S37)]⟩ : S23)) v1 ev1 n (by omega)))) ?_
 refine Ops.sg 7 13 ?_
 refine Ops.dn ?_
 refine seqQ.n ?_
 refine Wp.sq ?_
 refine Wp.sq ?_
 refine Wp.rg ?_
 refine Ops.sg 4 4 ?_
 refine Ops.hv (fun KQ => ∀ (d4 d5 d6 d7 d8 d9 d10 d11 d12 : D) (v13 : Bool) (v14 : Bool), f3_r2 m a0 v14 = some o → KQ 14 ⟨(.v (.agg [(vP e37 a0.fClasses)])) :: (.ptr 0 0) :: (dB false) :: (.ptr 1 0) :: (.ptr 2 0) :: u2 ((.v (.tuple [(.agg [(vI v1.1.fStates), (vP e40 v1.1.fArcs), (vP e42 v1.1.fFinals)]), (.agg [(vI v1.2.fCode), (vI v1.2.fIndex)])])) :: (.v (.agg [(.str (⟨#[120]⟩ : ByteArray)), (.str ((⟨#[121, 122]⟩ : ByteArray))), (.sl .nil (List.map eS [])), (vI (-1)), (vI 3)])) :: (.v (.sl .nonfull (List.map e34 ([(⟨(⟨#[120]⟩ : ByteArray), (⟨#[121, 122]⟩ : ByteArray), [], (-1), 3⟩ : S34)])))) :: (.v (.agg [(.str (⟨#[97]⟩ : ByteArray)), (.sl .nonfull (List.map e34 ([(⟨(⟨#[120]⟩ : ByteArray), (⟨#[121, 122]⟩ : ByteArray), [], (-1), 3⟩ : S34)])))])) :: (.v (.sl .nonfull (List.map e37 ([(⟨(⟨#[97]⟩ : ByteArray), [(⟨(⟨#[120]⟩ : ByteArray), (⟨#[121, 122]⟩ : ByteArray), [], (-1), 3⟩ : S34)]⟩ : S37)])))) :: (.v (.agg [(.sl .nonfull (List.map e37 ([(⟨(⟨#[97]⟩ : ByteArray), [(⟨(⟨#[120]⟩ : ByteArray), (⟨#[121, 122]⟩ : ByteArray), [], (-1), 3⟩ : S34)]⟩ : S37)])))])) :: (.v (.tuple [(.agg [(vI v1.1.fStates), (vP e40 v1.1.fArcs), (vP e42 v1.1.fFinals)]), (.agg [(vI v1.2.fCode), (vI v1.2.fIndex)])])) :: (.v (.agg [(vI v1.1.fStates), (vP e40 v1.1.fArcs), (vP e42 v1.1.fFinals)])) :: (.v (.agg [(vI v1.2.fCode), (vI v1.2.fIndex)])) :: (.v (.agg [(vI v1.2.fCode), (vI v1.2.fIndex)])) :: (.v (.agg [(vI 0), (vI 0)])) :: (dB v13) :: (dB v13) :: d4 :: d5 :: d6 :: d7 :: d8 :: d9 :: d10 :: d11 :: d12 :: (dB v14) :: u18 []), [(.cells [(dP e37 a0.fClasses)]), (b3_0 v1), (b3_1 v1)]⟩) ?_ fun J3j15 => ?_
 ·intro d4 d5 d6 d7 d8 d9 d10 d11 d12 v13 v14 h
  unfold f3_r2 at h
  refine Ops.dn ?_
  refine seqQ.n ?_
  refine Wp.cnd h [1, 2, 3, 4] 3 (by kernel_rfl) (fun h => ?_) (fun h => ?_)
  ·refine Wp.sq ?_
   refine Wp.rg ?_
   refine Ops.sg 1 1 ?_
   refine Ops.dn ?_
   refine seqQ.n ?_
   refine Wp.ret (by kernel_rfl) ?_
   refine sqQ.r ?_
   refine seqQ.r ?_
   exact fnQ.r' (X3 n) (fun z => (eB z)) h (RetOk.mk' (dB false) (by kernel_rfl) (by kernel_rfl))
  ·refine Wp.sk ?_
   refine sqQ.n' ?_
   refine seqQ.n ?_
   refine Wp.sq ?_
   refine Wp.rg ?_
   refine Ops.sg 1 1 ?_
   obtain ⟨v16, ev16, h⟩ := bnd_some h
   refine Ops.on 2 (fun h0 e0 => (call_ok (E' := EG) (h := h0) (by kernel_rfl) (Args.v (.agg [(vP e37 a0.fClasses)]) (e23 a0) (by kernel_rfl) Args.nil) (ok4 m a0 v16 ev16 n (by omega)))) ?_
   refine Ops.sg 5 7 ?_
   refine Ops.dn ?_
   refine seqQ.n ?_
   refine Wp.sq ?_
   refine Wp.rg ?_
   refine Ops.sg 1 1 ?_
   obtain ⟨v17, ev17, h⟩ := bnd_some h
   refine Ops.on 2 (fun h0 e0 => (call_ok (E' := EG) (h := h0) (by kernel_rfl) (Args.v (.agg [(vP e37 a0.fClasses)]) (e23 a0) (by kernel_rfl) Args.nil) (ok6 m a0 v17 ev17 n (by omega)))) ?_
   refine Ops.sg 7 9 ?_
   refine Ops.dn ?_
   refine seqQ.n ?_
   refine Wp.sq ?_
   refine Wp.rg ?_
   refine Ops.sg 4 4 ?_
   refine Ops.hv (fun KQ => ∀ (d20 d21 d22 : D) (v23 : Bool) (v24 : Bool), f3_r1 m v24 = some o → KQ 8 ⟨(.v (.agg [(vP e37 a0.fClasses)])) :: (.ptr 0 0) :: (dB false) :: (.ptr 1 0) :: (.ptr 2 0) :: (.ptr 3 0) :: (.ptr 4 0) :: (.v (.tuple [(.agg [(vI v1.1.fStates), (vP e40 v1.1.fArcs), (vP e42 v1.1.fFinals)]), (.agg [(vI v1.2.fCode), (vI v1.2.fIndex)])])) :: (.v (.agg [(.str (⟨#[120]⟩ : ByteArray)), (.str ((⟨#[121, 122]⟩ : ByteArray))), (.sl .nil (List.map eS [])), (vI (-1)), (vI 3)])) :: (.v (.sl .nonfull (List.map e34 ([(⟨(⟨#[120]⟩ : ByteArray), (⟨#[121, 122]⟩ : ByteArray), [], (-1), 3⟩ : S34)])))) :: (.v (.agg [(.str (⟨#[97]⟩ : ByteArray)), (.sl .nonfull (List.map e34 ([(⟨(⟨#[120]⟩ : ByteArray), (⟨#[121, 122]⟩ : ByteArray), [], (-1), 3⟩ : S34)])))])) :: (.v (.sl .nonfull (List.map e37 ([(⟨(⟨#[97]⟩ : ByteArray), [(⟨(⟨#[120]⟩ : ByteArray), (⟨#[121, 122]⟩ : ByteArray), [], (-1), 3⟩ : S34)]⟩ : S37)])))) :: (.v (.agg [(.sl .nonfull (List.map e37 ([(⟨(⟨#[97]⟩ : ByteArray), [(⟨(⟨#[120]⟩ : ByteArray), (⟨#[121, 122]⟩ : ByteArray), [], (-1), 3⟩ : S34)]⟩ : S37)])))])) :: (.v (.tuple [(.agg [(vI v1.1.fStates), (vP e40 v1.1.fArcs), (vP e42 v1.1.fFinals)]), (.agg [(vI v1.2.fCode), (vI v1.2.fIndex)])])) :: (.v (.agg [(vI v1.1.fStates), (vP e40 v1.1.fArcs), (vP e42 v1.1.fFinals)])) :: (.v (.agg [(vI v1.2.fCode), (vI v1.2.fIndex)])) :: (.v (.agg [(vI v1.2.fCode), (vI v1.2.fIndex)])) :: (.v (.agg [(vI 0), (vI 0)])) :: (dB v13) :: (dB v13) :: d4 :: d5 :: d6 :: d7 :: d8 :: d9 :: d10 :: d11 :: d12 :: (dB v14) :: (.v (.tuple [(.agg [(vI v16.1.fStates), (vP e40 v16.1.fArcs), (vP e42 v16.1.fFinals)]), (.agg [(vI v16.2.fCode), (vI v16.2.fIndex)])])) :: (.v (.agg [(vP e37 a0.fClasses)])) :: (.v (.tuple [(.agg [(vI v16.1.fStates), (vP e40 v16.1.fArcs), (vP e42 v16.1.fFinals)]), (.agg [(vI v16.2.fCode), (vI v16.2.fIndex)])])) :: (.v (.agg [(vI v16.1.fStates), (vP e40 v16.1.fArcs), (vP e42 v16.1.fFinals)])) :: (.v (.agg [(vI v16.2.fCode), (vI v16.2.fIndex)])) :: (.v (.tuple [(.agg [(vI v17.1.fStates), (vP e40 v17.1.fArcs), (vP e42 v17.1.fFinals)]), (.agg [(vI v17.2.fCode), (vI v17.2.fIndex)])])) :: (.v (.agg [(vP e37 a0.fClasses)])) :: (.v (.tuple [(.agg [(vI v17.1.fStates), (vP e40 v17.1.fArcs), (vP e42 v17.1.fFinals)]), (.agg [(vI v17.2.fCode), (vI v17.2.fIndex)])])) :: (.v (.agg [(vI v17.1.fStates), (vP e40 v17.1.fArcs), (vP e42 v17.1.fFinals)])) :: (.v (.agg [(vI v17.2.fCode), (vI v17.2.fIndex)])) :: (.v (.agg [(vI v16.2.fCode), (vI v16.2.fIndex)])) :: (.v (.agg [(vI v17.2.fCode), (vI v17.2.fIndex)])) :: (dB v23) :: (dB v23) :: d20 :: d21 :: d22 :: (dB v24) :: [], [(.cells [(dP e37 a0.fClasses)]), (b3_0 v16), (b3_1 v16), (b3_0 v17), (b3_1 v17)]⟩) ?_ fun J3j25 => ?_
   ·intro d20 d21 d22 v23 v24 h
    unfold f3_r1 at h
    refine Ops.sg 1 9 ?_
    refine Ops.dn ?_
    refine seqQ.n ?_
    refine Wp.ret (by kernel_rfl) ?_
    exact fnQ.r' (X3 n) (fun z => (eB z)) h (RetOk.mk' (dB v24) (by kernel_rfl) (by kernel_rfl))
   obtain ⟨v24, ev24, h⟩ := bnd_some h
   refine Ops.hv (fun KQ => ∀ v18 : Bool, (cnd v18 (bnd (f5 m v16.1 v17.1) fun v26 => some v26) (some false)) = some v24 → KQ 4 ⟨(.v (.agg [(vP e37 a0.fClasses)])) :: (.ptr 0 0) :: (dB false) :: (.ptr 1 0) :: (.ptr 2 0) :: (.ptr 3 0) :: (.ptr 4 0) :: (.v (.tuple [(.agg [(vI v1.1.fStates), (vP e40 v1.1.fArcs), (vP e42 v1.1.fFinals)]), (.agg [(vI v1.2.fCode), (vI v1.2.fIndex)])])) :: (.v (.agg [(.str (⟨#[120]⟩ : ByteArray)), (.str ((⟨#[121, 122]⟩ : ByteArray))), (.sl .nil (List.map eS [])), (vI (-1)), (vI 3)])) :: (.v (.sl .nonfull (List.map e34 ([(⟨(⟨#[120]⟩ : ByteArray), (⟨#[121, 122]⟩ : ByteArray), [], (-1), 3⟩ : S34)])))) :: (.v (.agg [(.str (⟨#[97]⟩ : ByteArray)), (.sl .nonfull (List.map e34 ([(⟨(⟨#[120]⟩ : ByteArray), (⟨#[121, 122]⟩ : ByteArray), [], (-1), 3⟩ : S34)])))])) :: (.v (.sl .nonfull (List.map e37 ([(⟨(⟨#[97]⟩ : ByteArray), [(⟨(⟨#[120]⟩ : ByteArray), (⟨#[121, 122]⟩ : ByteArray), [], (-1), 3⟩ : S34)]⟩ : S37)])))) :: (.v (.agg [(.sl .nonfull (List.map e37 ([(⟨(⟨#[97]⟩ : ByteArray), [(⟨(⟨#[120]⟩ : ByteArray), (⟨#[121, 122]⟩ : ByteArray), [], (-1), 3⟩ : S34)]⟩ : S37)])))])) :: (.v (.tuple [(.agg [(vI v1.1.fStates), (vP e40 v1.1.fArcs), (vP e42 v1.1.fFinals)]), (.agg [(vI v1.2.fCode), (vI v1.2.fIndex)])])) :: (.v (.agg [(vI v1.1.fStates), (vP e40 v1.1.fArcs), (vP e42 v1.1.fFinals)])) :: (.v (.agg [(vI v1.2.fCode), (vI v1.2.fIndex)])) :: (.v (.agg [(vI v1.2.fCode), (vI v1.2.fIndex)])) :: (.v (.agg [(vI 0), (vI 0)])) :: (dB v13) :: (dB v13) :: d4 :: d5 :: d6 :: d7 :: d8 :: d9 :: d10 :: d11 :: d12 :: (dB v14) :: (.v (.tuple [(.agg [(vI v16.1.fStates), (vP e40 v16.1.fArcs), (vP e42 v16.1.fFinals)]), (.agg [(vI v16.2.fCode), (vI v16.2.fIndex)])])) :: (.v (.agg [(vP e37 a0.fClasses)])) :: (.v (.tuple [(.agg [(vI v16.1.fStates), (vP e40 v16.1.fArcs), (vP e42 v16.1.fFinals)]), (.agg [(vI v16.2.fCode), (vI v16.2.fIndex)])])) :: (.v (.agg [(vI v16.1.fStates), (vP e40 v16.1.fArcs), (vP e42 v16.1.fFinals)])) :: (.v (.agg [(vI v16.2.fCode), (vI v16.2.fIndex)])) :: (.v (.tuple [(.agg [(vI v17.1.fStates), (vP e40 v17.1.fArcs), (vP e42 v17.1.fFinals)]), (.agg [(vI v17.2.fCode), (vI v17.2.fIndex)])])) :: (.v (.agg [(vP e37 a0.fClasses)])) :: (.v (.tuple [(.agg [(vI v17.1.fStates), (vP e40 v17.1.fArcs), (vP e42 v17.1.fFinals)]), (.agg [(vI v17.2.fCode), (vI v17.2.fIndex)])])) :: (.v (.agg [(vI v17.1.fStates), (vP e40 v17.1.fArcs), (vP e42 v17.1.fFinals)])) :: (.v (.agg [(vI v17.2.fCode), (vI v17.2.fIndex)])) :: (.v (.agg [(vI v16.2.fCode), (vI v16.2.fIndex)])) :: (.v (.agg [(vI v17.2.fCode), (vI v17.2.fIndex)])) :: (dB v18) :: (dB v18) :: u4 [], [(.cells [(dP e37 a0.fClasses)]), (b3_0 v16), (b3_1 v16), (b3_0 v17), (b3_1 v17)]⟩) ?_ fun G3g19 => Ops.st _ (by kernel_rfl) (G3g19 ((v16.2.fCode == v17.2.fCode) && ((v16.2.fIndex == v17.2.fIndex) && true)) ev24)
   intro v18 ev24
   cases v18
   ·have ev24 := cnd_f ev24
    refine Ops.sg 4 8 ?_
    exact Ops.st _ (by kernel_rfl) (J3j25 U U U false false (some_sub (fun v24 => f3_r1 m v24 = some o) ev24 h))
   ·have ev24 := cnd_t ev24
    refine Ops.sg 2 6 ?_
    obtain ⟨v26, ev26, ev24⟩ := bnd_some ev24
    refine Ops.on 7 (fun h0 e0 => (call_ok (E' := EG) (h := h0) (by kernel_rfl) (Args.v (.agg [(vI v16.1.fStates), (vP e40 v16.1.fArcs), (vP e42 v16.1.fFinals)]) (e27 v16.1) (by kernel_rfl) (Args.v (.agg [(vI v17.1.fStates), (vP e40 v17.1.fArcs), (vP e42 v17.1.fFinals)]) (e27 v17.1) (by kernel_rfl) Args.nil)) (ok5 m v16.1 v17.1 v26 ev26 n (by omega)))) ?_
    refine Ops.sg 1 8 ?_
    exact Ops.st _ (by kernel_rfl) (J3j25 ((.v (.agg [(vI v16.1.fStates), (vP e40 v16.1.fArcs), (vP e42 v16.1.fFinals)]))) ((.v (.agg [(vI v17.1.fStates), (vP e40 v17.1.fArcs), (vP e42 v17.1.fFinals)]))) (dB v26) true v26 (some_sub (fun v24 => f3_r1 m v24 = some o) ev24 h))
 obtain ⟨v14, ev14, h⟩ := bnd_some h
 refine Ops.hv (fun KQ => ∀ v2 : Bool, (cnd v2 (some true) (bnd (f5 m v1.1 ((⟨3, [(⟨0, 2, 120, 121, 3⟩ : S40), (⟨2, 1, 0, 122, 0⟩ : S40)], [(⟨1, 0⟩ : S42)]⟩ : S27))) fun v27 => some (!v27))) = some v14 → KQ 4 ⟨(.v (.agg [(vP e37 a0.fClasses)])) :: (.ptr 0 0) :: (dB false) :: (.ptr 1 0) :: (.ptr 2 0) :: u2 ((.v (.tuple [(.agg [(vI v1.1.fStates), (vP e40 v1.1.fArcs), (vP e42 v1.1.fFinals)]), (.agg [(vI v1.2.fCode), (vI v1.2.fIndex)])])) :: (.v (.agg [(.str (⟨#[120]⟩ : ByteArray)), (.str ((⟨#[121, 122]⟩ : ByteArray))), (.sl .nil (List.map eS [])), (vI (-1)), (vI 3)])) :: (.v (.sl .nonfull (List.map e34 ([(⟨(⟨#[120]⟩ : ByteArray), (⟨#[121, 122]⟩ : ByteArray), [], (-1), 3⟩ : S34)])))) :: (.v (.agg [(.str (⟨#[97]⟩ : ByteArray)), (.sl .nonfull (List.map e34 ([(⟨(⟨#[120]⟩ : ByteArray), (⟨#[121, 122]⟩ : ByteArray), [], (-1), 3⟩ : S34)])))])) :: (.v (.sl .nonfull (List.map e37 ([(⟨(⟨#[97]⟩ : ByteArray), [(⟨(⟨#[120]⟩ : ByteArray), (⟨#[121, 122]⟩ : ByteArray), [], (-1), 3⟩ : S34)]⟩ : S37)])))) :: (.v (.agg [(.sl .nonfull (List.map e37 ([(⟨(⟨#[97]⟩ : ByteArray), [(⟨(⟨#[120]⟩ : ByteArray), (⟨#[121, 122]⟩ : ByteArray), [], (-1), 3⟩ : S34)]⟩ : S37)])))])) :: (.v (.tuple [(.agg [(vI v1.1.fStates), (vP e40 v1.1.fArcs), (vP e42 v1.1.fFinals)]), (.agg [(vI v1.2.fCode), (vI v1.2.fIndex)])])) :: (.v (.agg [(vI v1.1.fStates), (vP e40 v1.1.fArcs), (vP e42 v1.1.fFinals)])) :: (.v (.agg [(vI v1.2.fCode), (vI v1.2.fIndex)])) :: (.v (.agg [(vI v1.2.fCode), (vI v1.2.fIndex)])) :: (.v (.agg [(vI 0), (vI 0)])) :: (dB v2) :: (dB v2) :: u28 []), [(.cells [(dP e37 a0.fClasses)]), (b3_0 v1), (b3_1 v1)]⟩) ?_ fun G3g3 => Ops.st _ (by kernel_rfl) (G3g3 (!((v1.2.fCode == 0) && ((v1.2.fIndex == 0) && true))) ev14)
 intro v2 ev14
 cases v2
 ·have ev14 := cnd_f ev14
  refine Ops.sg 7 11 ?_
  obtain ⟨v27, ev27, ev14⟩ := bnd_some ev14
  refine Ops.on 12 (fun h0 e0 => (call_ok (E' := EG) (h := h0) (by kernel_rfl) (Args.v (.agg [(vI v1.1.fStates), (vP e40 v1.1.fArcs), (vP e42 v1.1.fFinals)]) (e27 v1.1) (by kernel_rfl) (Args.v (.agg [(vI 3), (.sl .nonfull (List.map e40 ([(⟨0, 2, 120, 121, 3⟩ : S40), (⟨2, 1, 0, 122, 0⟩ : S40)]))), (.sl .nonfull (List.map e42 ([(⟨1, 0⟩ : S42)])))]) (e27 ((⟨3, [(⟨0, 2, 120, 121, 3⟩ : S40), (⟨2, 1, 0, 122, 0⟩ : S40)], [(⟨1, 0⟩ : S42)]⟩ : S27))) (by kernel_rfl) Args.nil)) (ok5 m v1.1 ((⟨3, [(⟨0, 2, 120, 121, 3⟩ : S40), (⟨2, 1, 0, 122, 0⟩ : S40)], [(⟨1, 0⟩ : S42)]⟩ : S27)) v27 ev27 n (by omega)))) ?_
  refine Ops.sg 2 14 ?_
  exact Ops.st _ (by kernel_rfl) (J3j15 ((.v (.agg [(vI v1.1.fStates), (vP e40 v1.1.fArcs), (vP e42 v1.1.fFinals)]))) ((.v (.agg [(vI 0), (vI 2), (vI 120), (vI 121), (vI 3)]))) ((.v (.agg [(vI 2), (vI 1), (vI 0), (vI 122), (vI 0)]))) ((.v (.sl .nonfull (List.map e40 ([(⟨0, 2, 120, 121, 3⟩ : S40), (⟨2, 1, 0, 122, 0⟩ : S40)]))))) ((.v (.agg [(vI 1), (vI 0)]))) ((.v (.sl .nonfull (List.map e42 ([(⟨1, 0⟩ : S42)]))))) ((.v (.agg [(vI 3), (.sl .nonfull (List.map e40 ([(⟨0, 2, 120, 121, 3⟩ : S40), (⟨2, 1, 0, 122, 0⟩ : S40)]))), (.sl .nonfull (List.map e42 ([(⟨1, 0⟩ : S42)])))]))) (dB v27) (dB (!v27)) false (!v27) (some_sub (fun v14 => f3_r2 m a0 v14 = some o) ev14 h))
 ·have ev14 := cnd_t ev14
  refine Ops.sg 10 14 ?_
  exact Ops.st _ (by kernel_rfl) (J3j15 U U U U U U U U U true true (some_sub (fun v14 => f3_r2 m a0 v14 = some o) ev14 h))
end Go.Abs
