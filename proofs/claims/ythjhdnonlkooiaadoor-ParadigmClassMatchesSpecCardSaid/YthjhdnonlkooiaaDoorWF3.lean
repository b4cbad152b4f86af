import Derived.Test.YthjhdnonlkooiaaDoorWF2
namespace Go.Abs
set_option linter.unusedVariables false
set_option maxRecDepth 100000

/-! ### 24 glosswright/glosswrightref6.ClassesOf -/
def f24_B1 (m : Nat) (a0 : (List S23)) (v9 : Int) : Option (Stp (((List Int) × S27)) (Int)) :=
  cnd (decide (v9 < (a0.length : Int)))
  (bnd (idx a0 v9) fun v19 =>
  bnd (f14 m v19) fun v20 =>
  cnd (!((v20.fCode == 0) && ((v20.fIndex == 0) && true)))
  (bnd (f36 m v20.fCode v9) fun v21 =>
  some (.ret (([], v21))))
  (some (.nxt (w64 (v9 + 1)))))
  (some (.brk v9))
def f24_B2 (m : Nat) (a1 : (List S41)) (v45 : Int) : Option (Stp (((List Int) × S27)) (Int)) :=
  cnd (decide (v45 < (a1.length : Int)))
  (bnd (idx a1 v45) fun v55 =>
  bnd (f37 m v55.fTags 4) fun v56 =>
  cnd (v56 != 0)
  (bnd (f36 m v56 v45) fun v57 =>
  some (.ret (([], v57))))
  (bnd (f16 m v55.fForm) fun v58 =>
  cnd (!v58)
  (bnd (f36 m 5 v45) fun v59 =>
  some (.ret (([], v59))))
  (some (.nxt (w64 (v45 + 1))))))
  (some (.brk v45))
def f24_j3 (m : Nat) (v378 : Int) (v388 : (List Int)) : Option (Stp (((List Int) × S27)) ((List Int) × Int)) :=
  some (.nxt (v388, w64 (v378 + 1)))
def f24_r4 (m : Nat) (v509 : Int) (v526 : Bool) : Option (Stp (((List Int) × S27)) (Bool × Int)) :=
  some (.nxt (v526, w64 (v509 + 1)))
def f24_B5 (m : Nat) (a1 : (List S41)) (v493 : (List S41)) (v508 : Bool) (v509 : Int) : Option (Stp (((List Int) × S27)) (Bool × Int)) :=
  cnd (decide (v509 < (a1.length : Int)))
  (bnd (idx a1 v509) fun v519 =>
  bnd (cnd v508
  (bnd (f50 m v493 v519) fun v528 =>
  some v528)
  (some false)) fun v526 =>
  f24_r4 m v509 v526)
  (some (.brk (v508, v509)))
def f24_r6 (m : Nat) (v482 : Int) (v536 : Bool) : Option (Stp (((List Int) × S27)) (Bool × Int)) :=
  some (.nxt (v536, w64 (v482 + 1)))
def f24_B7 (m : Nat) (a1 : (List S41)) (v390 : S23) (v392 : (List ByteArray)) (v481 : Bool) (v482 : Int) : Option (Stp (((List Int) × S27)) (Bool × Int)) :=
  cnd (decide (v482 < (v392.length : Int)))
  (bnd (idx v392 v482) fun v492 =>
  bnd (f18 m v390 v492) fun v493 =>
  brk (iter (fun (y : Bool × Int) => f24_B5 m a1 v493 y.1 y.2) m (true, 0)) (fun r => some (.ret r)) fun y530 =>
  f24_r6 m v482 ((v481 || y530.1)))
  (some (.brk (v481, v482)))
def f24_j8 (m : Nat) (v378 : Int) (v541 : (List Int)) : Option (Stp (((List Int) × S27)) ((List Int) × Int)) :=
  f24_j3 m v378 v541
def f24_B9 (m : Nat) (a0 : (List S23)) (a1 : (List S41)) (v377 : (List Int)) (v378 : Int) : Option (Stp (((List Int) × S27)) ((List Int) × Int)) :=
  cnd (decide (v378 < (a0.length : Int)))
  (bnd (idx a0 v378) fun v390 =>
  bnd (idx a1 (w64 ((a1.length : Int) - 1))) fun v391 =>
  bnd (f21 m v390 v391.fForm) fun v392 =>
  brk (iter (fun (y : Bool × Int) => f24_B7 m a1 v390 v392 y.1 y.2) m (false, 0)) (fun r => some (.ret r)) fun y539 =>
  cnd y539.1
  (bnd (app 8 v377 [v378]) fun v543 =>
  f24_j8 m v378 v543)
  (f24_j8 m v378 v377))
  (some (.brk (v377, v378)))
def f24_r10 (m : Nat) (a0 : (List S23)) (a1 : (List S41)) (v31 : Bool) : Option ((List Int) × S27) :=
  cnd v31
  (bnd (f36 m 9 ((-2))) fun v33 =>
  some (([], v33)))
  (brk (iter (fun (y : Int) => f24_B2 m a1 y) m 0) some fun y61 =>
  brk (iter (fun (y : (List Int) × Int) => f24_B9 m a0 a1 y.1 y.2) m ([], 0)) some fun y545 =>
  some ((y545.1, (⟨0, 0⟩ : S27))))
def f24 (m : Nat) (a0 : (List S23)) (a1 : (List S41)) : Option ((List Int) × S27) :=
  cnd (decide ((a0.length : Int) > 40))
  (bnd (f36 m 2 ((-1))) fun v1 =>
  some (([], v1)))
  (brk (iter (fun (y : Int) => f24_B1 m a0 y) m 0) some fun y23 =>
  f24_r10 m a0 a1 (((((a1.length : Int)) == 0) || (decide ((a1.length : Int) > 300)))))
noncomputable abbrev X24 (n : Nat) : Cx := cxOf Proofs.Tryd.prog E 24 n
noncomputable def C24 : Code := bodyOf Proofs.Tryd.prog 24
theorem f24_hLx529 (m : Nat) (a0 : (List S23)) (a1 : (List S41)) (o : ((List Int) × S27)) (n : Nat) (hn : m + 8 ≤ n + 1) (v493 : (List S41)) (nx485 : Nat) (nx381 : Nat) (v377 : (List Int)) (v378 : Int) (v481 : Bool) (v392 : (List ByteArray)) (v482 : Int) (v390 : S23) : ∀ (kx511 : Nat) (v508 : Bool) (v509 : Int)  (ox510 : ((List Int) × S27) ⊕ (Bool × Int)), iter (fun (y : Bool × Int) => f24_B5 m a1 v493 y.1 y.2) kx511 (v508, v509) = some ox510 → ∀ nx512, kx511 ≤ nx512 → (∀ r, ox510 = .inl r → ∀ σ, RetOk (X24 n) (resOf Proofs.Tryd.prog 24) (.tuple [(eL eI) r.1, e27 r.2]) σ → (seqQ (X24 n) (cR (cR (cR (cR (cL (cL (cR (cR (cL (cL (cR (cL (cR (cR (cL (cL (cR (cR (cL (cL (cR (cL (cR (cR (cR (cR (cR (cR C24)))))))))))))))))))))))))))) (blkQ (X24 n) 7 [1, 4, 5, 12, 13, 14, 15, 74, 75, 76, 89, 90, 91] 10 (seqQ (X24 n) (cR (cR (cR (cL (cL (cR (cL (cR (cR (cL (cL (cR (cR (cL (cL (cR (cL (cR (cR (cR (cR (cR (cR C24))))))))))))))))))))))) (lpQ (X24 n) [1, 4, 5, 12, 13, 14, 15, 74, 75, 76, 89, 90, 91] 8 (cL (cL (cR (cL (cR (cR (cL (cL (cR (cR (cL (cL (cR (cL (cR (cR (cR (cR (cR (cR C24)))))))))))))))))))) nx485 (blkQ (X24 n) 6 [1, 4, 5, 12, 13, 15, 74, 75, 76] 8 (seqQ (X24 n) (cR (cR (cR (cL (cL (cR (cR (cL (cL (cR (cL (cR (cR (cR (cR (cR (cR C24))))))))))))))))) (blkQ (X24 n) 5 [1, 4, 5, 12, 74, 75, 76] 7 (seqQ (X24 n) (cR (cR (cR (cL (cL (cR (cL (cR (cR (cR (cR (cR (cR C24))))))))))))) (lpQ (X24 n) [1, 4, 5, 12, 74, 75, 76] 5 (cL (cL (cR (cL (cR (cR (cR (cR (cR (cR C24)))))))))) nx381 (blkQ (X24 n) 4 [4, 5, 12] 5 (seqQ (X24 n) (cR (cR (cR (cR (cR (cR (cR C24))))))) (fnQ (X24 n).E.T (resOf Proofs.Tryd.prog 24) (.tuple [(eL eI) o.1, e27 o.2]))))))))))))) .ret σ) → (∀ (y : Bool × Int) , ox510 = .inr y → (seqQ (X24 n) (cR (cR (cR (cR (cL (cL (cR (cR (cL (cL (cR (cL (cR (cR (cL (cL (cR (cR (cL (cL (cR (cL (cR (cR (cR (cR (cR (cR C24)))))))))))))))))))))))))))) (blkQ (X24 n) 7 [1, 4, 5, 12, 13, 14, 15, 74, 75, 76, 89, 90, 91] 10 (seqQ (X24 n) (cR (cR (cR (cL (cL (cR (cL (cR (cR (cL (cL (cR (cR (cL (cL (cR (cL (cR (cR (cR (cR (cR (cR C24))))))))))))))))))))))) (lpQ (X24 n) [1, 4, 5, 12, 13, 14, 15, 74, 75, 76, 89, 90, 91] 8 (cL (cL (cR (cL (cR (cR (cL (cL (cR (cR (cL (cL (cR (cL (cR (cR (cR (cR (cR (cR C24)))))))))))))))))))) nx485 (blkQ (X24 n) 6 [1, 4, 5, 12, 13, 15, 74, 75, 76] 8 (seqQ (X24 n) (cR (cR (cR (cL (cL (cR (cR (cL (cL (cR (cL (cR (cR (cR (cR (cR (cR C24))))))))))))))))) (blkQ (X24 n) 5 [1, 4, 5, 12, 74, 75, 76] 7 (seqQ (X24 n) (cR (cR (cR (cL (cL (cR (cL (cR (cR (cR (cR (cR (cR C24))))))))))))) (lpQ (X24 n) [1, 4, 5, 12, 74, 75, 76] 5 (cL (cL (cR (cL (cR (cR (cR (cR (cR (cR C24)))))))))) nx381 (blkQ (X24 n) 4 [4, 5, 12] 5 (seqQ (X24 n) (cR (cR (cR (cR (cR (cR (cR C24))))))) (fnQ (X24 n).E.T (resOf Proofs.Tryd.prog 24) (.tuple [(eL eI) o.1, e27 o.2]))))))))))))) .normal ⟨q1 ((dP e41 a1) :: q2 ((.v (.sl .nil (List.map eI []))) :: (.ptr 0 0) :: q6 ((appD 10 (List.map eI v377)) :: (dI v378) :: (.ptr 7 0) :: (dB v481) :: q3 ((dB y.1) :: q40 (q14 ((dP e23 a0) :: (dI ((a0.length : Int))) :: (dI v378) :: q12 ((dP eS v392) :: (dI ((v392.length : Int))) :: (dI v482) :: q32 []))))))), [(.cells [(dI 0), (dI 0)]), .dead, .dead, .dead, .dead, .dead, .dead, (.cells [(.v (.str v390.fName)), (dP e67 v390.fCells)]), .dead, .dead, (appO 1 (List.map eI v377))]⟩) → Lp (X24 n) [1, 4, 5, 12, 13, 14, 15, 18, 19, 74, 75, 76, 89, 90, 91, 98, 99, 100] 10 (cL (cL (cR (cL (cR (cR (cR (cL (cL (cR (cR (cL (cL (cR (cL (cR (cR (cL (cL (cR (cR (cL (cL (cR (cL (cR (cR (cR (cR (cR (cR C24))))))))))))))))))))))))))))))) nx512 ⟨q1 ((dP e41 a1) :: q2 ((.v (.sl .nil (List.map eI []))) :: (.ptr 0 0) :: q6 ((appD 10 (List.map eI v377)) :: (dI v378) :: (.ptr 7 0) :: (dB v481) :: q2 ((dP e41 v493) :: (dB v508) :: q40 (q14 ((dP e23 a0) :: (dI ((a0.length : Int))) :: (dI v378) :: q12 ((dP eS v392) :: (dI ((v392.length : Int))) :: (dI v482) :: q6 ((dP e41 a1) :: (dI ((a1.length : Int))) :: (dI v509) :: q23 [])))))))), [(.cells [(dI 0), (dI 0)]), .dead, .dead, .dead, .dead, .dead, .dead, (.cells [(.v (.str v390.fName)), (dP e67 v390.fCells)]), .dead, .dead, (appO 1 (List.map eI v377))]⟩ (blkQ (X24 n) 8 [1, 4, 5, 12, 13, 14, 15, 19, 74, 75, 76, 89, 90, 91] 10 (seqQ (X24 n) (cR (cR (cR (cR (cL (cL (cR (cR (cL (cL (cR (cL (cR (cR (cL (cL (cR (cR (cL (cL (cR (cL (cR (cR (cR (cR (cR (cR C24)))))))))))))))))))))))))))) (blkQ (X24 n) 7 [1, 4, 5, 12, 13, 14, 15, 74, 75, 76, 89, 90, 91] 10 (seqQ (X24 n) (cR (cR (cR (cL (cL (cR (cL (cR (cR (cL (cL (cR (cR (cL (cL (cR (cL (cR (cR (cR (cR (cR (cR C24))))))))))))))))))))))) (lpQ (X24 n) [1, 4, 5, 12, 13, 14, 15, 74, 75, 76, 89, 90, 91] 8 (cL (cL (cR (cL (cR (cR (cL (cL (cR (cR (cL (cL (cR (cL (cR (cR (cR (cR (cR (cR C24)))))))))))))))))))) nx485 (blkQ (X24 n) 6 [1, 4, 5, 12, 13, 15, 74, 75, 76] 8 (seqQ (X24 n) (cR (cR (cR (cL (cL (cR (cR (cL (cL (cR (cL (cR (cR (cR (cR (cR (cR C24))))))))))))))))) (blkQ (X24 n) 5 [1, 4, 5, 12, 74, 75, 76] 7 (seqQ (X24 n) (cR (cR (cR (cL (cL (cR (cL (cR (cR (cR (cR (cR (cR C24))))))))))))) (lpQ (X24 n) [1, 4, 5, 12, 74, 75, 76] 5 (cL (cL (cR (cL (cR (cR (cR (cR (cR (cR C24)))))))))) nx381 (blkQ (X24 n) 4 [4, 5, 12] 5 (seqQ (X24 n) (cR (cR (cR (cR (cR (cR (cR C24))))))) (fnQ (X24 n).E.T (resOf Proofs.Tryd.prog 24) (.tuple [(eL eI) o.1, e27 o.2])))))))))))))) := by
  intro kx511
  induction kx511 with
  | zero => intro v508 v509  ox510 h; exact (iter_zero h).elim
  | succ kx511 ihx513 =>
    intro v508 v509  ox510 h nx512 hnx516 hrx514 hxx515
    obtain ⟨nx512, rfl⟩ : ∃ q, nx512 = q + 1 := ⟨nx512 - 1, by omega⟩
    obtain ⟨sx517, h, hsx518⟩ := iter_some h
    have h : f24_B5 m a1 v493 v508 v509 = some sx517 := h
    unfold f24_B5 at h
    refine Lp.succ ?_
    refine Wp.seq' (by kernel_rfl) ?_
    refine Wp.region (by kernel_rfl) ?_
    refine Ops.seg' 1 1 (by kernel_rfl) ?_
    refine Ops.done (by kernel_rfl) ?_
    refine seqQ.n ?_
    refine Wp.seq' (by kernel_rfl) ?_
    refine Wp.cnd h [1, 4, 5, 12, 13, 14, 15, 18, 19, 74, 75, 76, 89, 90, 91, 98, 99, 100] 11 (by kernel_rfl) (fun h => ?_) (fun h => ?_)
    · refine Wp.skip (by kernel_rfl) ?_
      refine sqQ.n ⟨q1 ((dP e41 a1) :: q2 ((.v (.sl .nil (List.map eI []))) :: (.ptr 0 0) :: q6 ((appD 11 (List.map eI v377)) :: (dI v378) :: (.ptr 7 0) :: (dB v481) :: q2 ((dP e41 v493) :: (dB v508) :: q40 (q14 ((dP e23 a0) :: (dI ((a0.length : Int))) :: (dI v378) :: q12 ((dP eS v392) :: (dI ((v392.length : Int))) :: (dI v482) :: q6 ((dP e41 a1) :: (dI ((a1.length : Int))) :: (dI v509) :: q23 [])))))))), [(.cells [(dI 0), (dI 0)]), .dead, .dead, .dead, .dead, .dead, .dead, (.cells [(.v (.str v390.fName)), (dP e67 v390.fCells)]), .dead, .dead, .dead, (appO 1 (List.map eI v377))]⟩ (by generalize v377 = z0; cases z0 <;> kernel_rfl) ?_
      refine seqQ.n ?_
      refine Wp.seq' (by kernel_rfl) ?_
      refine Wp.block' 9 [1, 4, 5, 12, 13, 14, 15, 18, 19, 74, 75, 76, 89, 90, 91, 98, 99, 100] 12 (by kernel_rfl) ?_
      refine Wp.seq' (by kernel_rfl) ?_
      refine Wp.region (by kernel_rfl) ?_
      obtain ⟨v519, ev519, h⟩ := bnd_some h
      refine Ops.one' 1 (fun h0 e0 => (ix_r (T := T) h0 26 42 2 .plain e41 a1 v509 v519 ev519 (by kernel_rfl) (by kernel_rfl) (fun _ => rfl))) (by kernel_rfl) (by kernel_rfl) ?_
      refine Ops.seg' 3 4 (by kernel_rfl) ?_
      refine Ops.done (by kernel_rfl) ?_
      refine seqQ.n ?_
      refine Wp.region (by kernel_rfl) ?_
      refine Ops.seg' 2 2 (by kernel_rfl) ?_
      have J24j527 : ∀ (d522 d523 d524 : D) (v525 : Bool) (v526 : Bool), f24_r4 m v509 v526 = some sx517 → Ops (X24 n) (opl (cR (cL (cL (cR (cR (cL (cL (cR (cL (cR (cR (cR (cL (cL (cR (cR (cL (cL (cR (cL (cR (cR (cL (cL (cR (cR (cL (cL (cR (cL (cR (cR (cR (cR (cR (cR C24))))))))))))))))))))))))))))))))))))) 6 ⟨q1 ((dP e41 a1) :: q2 ((.v (.sl .nil (List.map eI []))) :: (.ptr 0 0) :: q6 ((appD 11 (List.map eI v377)) :: (dI v378) :: (.ptr 7 0) :: (dB v481) :: q2 ((dP e41 v493) :: (dB v525) :: q1 ((.ptr 12 0) :: q40 (q12 ((dP e23 a0) :: (dI ((a0.length : Int))) :: (dI v378) :: q12 ((dP eS v392) :: (dI ((v392.length : Int))) :: (dI v482) :: q6 ((dP e41 a1) :: (dI ((a1.length : Int))) :: (dI v509) :: q1 ((.vptr [(vP eS v519.fTags), (.str v519.fForm)]) :: (.v (.agg [(vP eS v519.fTags), (.str v519.fForm)])) :: (dB v525) :: (dB v525) :: d522 :: d523 :: d524 :: (dB v526) :: q14 [])))))))))), [(.cells [(dI 0), (dI 0)]), .dead, .dead, .dead, .dead, .dead, .dead, (.cells [(.v (.str v390.fName)), (dP e67 v390.fCells)]), .dead, .dead, .dead, (appO 1 (List.map eI v377)), (.cells [(dP eS v519.fTags), (.v (.str v519.fForm))])]⟩ ((blkQ (X24 n) 9 [1, 4, 5, 12, 13, 14, 15, 18, 19, 74, 75, 76, 89, 90, 91, 98, 99, 100] 12 (seqQ (X24 n) (cR (cR (cR (cL (cL (cR (cL (cR (cR (cR (cL (cL (cR (cR (cL (cL (cR (cL (cR (cR (cL (cL (cR (cR (cL (cL (cR (cL (cR (cR (cR (cR (cR (cR C24)))))))))))))))))))))))))))))))))) (lpQ (X24 n) [1, 4, 5, 12, 13, 14, 15, 18, 19, 74, 75, 76, 89, 90, 91, 98, 99, 100] 10 (cL (cL (cR (cL (cR (cR (cR (cL (cL (cR (cR (cL (cL (cR (cL (cR (cR (cL (cL (cR (cR (cL (cL (cR (cL (cR (cR (cR (cR (cR (cR C24))))))))))))))))))))))))))))))) nx512 (blkQ (X24 n) 8 [1, 4, 5, 12, 13, 14, 15, 19, 74, 75, 76, 89, 90, 91] 10 (seqQ (X24 n) (cR (cR (cR (cR (cL (cL (cR (cR (cL (cL (cR (cL (cR (cR (cL (cL (cR (cR (cL (cL (cR (cL (cR (cR (cR (cR (cR (cR C24)))))))))))))))))))))))))))) (blkQ (X24 n) 7 [1, 4, 5, 12, 13, 14, 15, 74, 75, 76, 89, 90, 91] 10 (seqQ (X24 n) (cR (cR (cR (cL (cL (cR (cL (cR (cR (cL (cL (cR (cR (cL (cL (cR (cL (cR (cR (cR (cR (cR (cR C24))))))))))))))))))))))) (lpQ (X24 n) [1, 4, 5, 12, 13, 14, 15, 74, 75, 76, 89, 90, 91] 8 (cL (cL (cR (cL (cR (cR (cL (cL (cR (cR (cL (cL (cR (cL (cR (cR (cR (cR (cR (cR C24)))))))))))))))))))) nx485 (blkQ (X24 n) 6 [1, 4, 5, 12, 13, 15, 74, 75, 76] 8 (seqQ (X24 n) (cR (cR (cR (cL (cL (cR (cR (cL (cL (cR (cL (cR (cR (cR (cR (cR (cR C24))))))))))))))))) (blkQ (X24 n) 5 [1, 4, 5, 12, 74, 75, 76] 7 (seqQ (X24 n) (cR (cR (cR (cL (cL (cR (cL (cR (cR (cR (cR (cR (cR C24))))))))))))) (lpQ (X24 n) [1, 4, 5, 12, 74, 75, 76] 5 (cL (cL (cR (cL (cR (cR (cR (cR (cR (cR C24)))))))))) nx381 (blkQ (X24 n) 4 [4, 5, 12] 5 (seqQ (X24 n) (cR (cR (cR (cR (cR (cR (cR C24))))))) (fnQ (X24 n).E.T (resOf Proofs.Tryd.prog 24) (.tuple [(eL eI) o.1, e27 o.2]))))))))))))))))) .normal) := by
        intro d522 d523 d524 v525 v526 h
        unfold f24_r4 at h
        refine Ops.seg' 1 7 (by kernel_rfl) ?_
        refine Ops.done (by kernel_rfl) ?_
        refine blkQ.n ⟨q1 ((dP e41 a1) :: q2 ((.v (.sl .nil (List.map eI []))) :: (.ptr 0 0) :: q6 ((appD 12 (List.map eI v377)) :: (dI v378) :: (.ptr 7 0) :: (dB v481) :: q2 ((dP e41 v493) :: (dB v526) :: q40 (q14 ((dP e23 a0) :: (dI ((a0.length : Int))) :: (dI v378) :: q12 ((dP eS v392) :: (dI ((v392.length : Int))) :: (dI v482) :: q6 ((dP e41 a1) :: (dI ((a1.length : Int))) :: (dI v509) :: q23 [])))))))), [(.cells [(dI 0), (dI 0)]), .dead, .dead, .dead, .dead, .dead, .dead, (.cells [(.v (.str v390.fName)), (dP e67 v390.fCells)]), .dead, .dead, .dead, .dead, (appO 1 (List.map eI v377))]⟩ (by generalize v377 = z0; cases z0 <;> kernel_rfl) ?_
        refine seqQ.n ?_
        refine Wp.region (by kernel_rfl) ?_
        refine Ops.seg' 2 2 (by kernel_rfl) ?_
        refine Ops.done (by kernel_rfl) ?_
        refine lpQ.n ⟨q1 ((dP e41 a1) :: q2 ((.v (.sl .nil (List.map eI []))) :: (.ptr 0 0) :: q6 ((appD 10 (List.map eI v377)) :: (dI v378) :: (.ptr 7 0) :: (dB v481) :: q2 ((dP e41 v493) :: (dB v526) :: q40 (q14 ((dP e23 a0) :: (dI ((a0.length : Int))) :: (dI v378) :: q12 ((dP eS v392) :: (dI ((v392.length : Int))) :: (dI v482) :: q6 ((dP e41 a1) :: (dI ((a1.length : Int))) :: (dI (w64 (v509 + 1))) :: q23 [])))))))), [(.cells [(dI 0), (dI 0)]), .dead, .dead, .dead, .dead, .dead, .dead, (.cells [(.v (.str v390.fName)), (dP e67 v390.fCells)]), .dead, .dead, (appO 1 (List.map eI v377))]⟩ (by generalize v377 = z0; cases z0 <;> kernel_rfl) ?_
        cases h
        exact ihx513 v526 (w64 (v509 + 1))  _ hsx518 _ (by omega) hrx514 hxx515
      obtain ⟨v526, ev526, h⟩ := bnd_some h
      have G24g521 : ∀ v520 : Bool, (cnd v520 (bnd (f50 m v493 v519) fun v528 => some v528) (some false)) = some v526 → Ops (X24 n) (opl (cR (cL (cL (cR (cR (cL (cL (cR (cL (cR (cR (cR (cL (cL (cR (cR (cL (cL (cR (cL (cR (cR (cL (cL (cR (cR (cL (cL (cR (cL (cR (cR (cR (cR (cR (cR C24))))))))))))))))))))))))))))))))))))) 2 ⟨q1 ((dP e41 a1) :: q2 ((.v (.sl .nil (List.map eI []))) :: (.ptr 0 0) :: q6 ((appD 11 (List.map eI v377)) :: (dI v378) :: (.ptr 7 0) :: (dB v481) :: q2 ((dP e41 v493) :: (dB v520) :: q1 ((.ptr 12 0) :: q40 (q12 ((dP e23 a0) :: (dI ((a0.length : Int))) :: (dI v378) :: q12 ((dP eS v392) :: (dI ((v392.length : Int))) :: (dI v482) :: q6 ((dP e41 a1) :: (dI ((a1.length : Int))) :: (dI v509) :: q1 ((.vptr [(vP eS v519.fTags), (.str v519.fForm)]) :: (.v (.agg [(vP eS v519.fTags), (.str v519.fForm)])) :: (dB v520) :: (dB v520) :: q18 [])))))))))), [(.cells [(dI 0), (dI 0)]), .dead, .dead, .dead, .dead, .dead, .dead, (.cells [(.v (.str v390.fName)), (dP e67 v390.fCells)]), .dead, .dead, .dead, (appO 1 (List.map eI v377)), (.cells [(dP eS v519.fTags), (.v (.str v519.fForm))])]⟩ ((blkQ (X24 n) 9 [1, 4, 5, 12, 13, 14, 15, 18, 19, 74, 75, 76, 89, 90, 91, 98, 99, 100] 12 (seqQ (X24 n) (cR (cR (cR (cL (cL (cR (cL (cR (cR (cR (cL (cL (cR (cR (cL (cL (cR (cL (cR (cR (cL (cL (cR (cR (cL (cL (cR (cL (cR (cR (cR (cR (cR (cR C24)))))))))))))))))))))))))))))))))) (lpQ (X24 n) [1, 4, 5, 12, 13, 14, 15, 18, 19, 74, 75, 76, 89, 90, 91, 98, 99, 100] 10 (cL (cL (cR (cL (cR (cR (cR (cL (cL (cR (cR (cL (cL (cR (cL (cR (cR (cL (cL (cR (cR (cL (cL (cR (cL (cR (cR (cR (cR (cR (cR C24))))))))))))))))))))))))))))))) nx512 (blkQ (X24 n) 8 [1, 4, 5, 12, 13, 14, 15, 19, 74, 75, 76, 89, 90, 91] 10 (seqQ (X24 n) (cR (cR (cR (cR (cL (cL (cR (cR (cL (cL (cR (cL (cR (cR (cL (cL (cR (cR (cL (cL (cR (cL (cR (cR (cR (cR (cR (cR C24)))))))))))))))))))))))))))) (blkQ (X24 n) 7 [1, 4, 5, 12, 13, 14, 15, 74, 75, 76, 89, 90, 91] 10 (seqQ (X24 n) (cR (cR (cR (cL (cL (cR (cL (cR (cR (cL (cL (cR (cR (cL (cL (cR (cL (cR (cR (cR (cR (cR (cR C24))))))))))))))))))))))) (lpQ (X24 n) [1, 4, 5, 12, 13, 14, 15, 74, 75, 76, 89, 90, 91] 8 (cL (cL (cR (cL (cR (cR (cL (cL (cR (cR (cL (cL (cR (cL (cR (cR (cR (cR (cR (cR C24)))))))))))))))))))) nx485 (blkQ (X24 n) 6 [1, 4, 5, 12, 13, 15, 74, 75, 76] 8 (seqQ (X24 n) (cR (cR (cR (cL (cL (cR (cR (cL (cL (cR (cL (cR (cR (cR (cR (cR (cR C24))))))))))))))))) (blkQ (X24 n) 5 [1, 4, 5, 12, 74, 75, 76] 7 (seqQ (X24 n) (cR (cR (cR (cL (cL (cR (cL (cR (cR (cR (cR (cR (cR C24))))))))))))) (lpQ (X24 n) [1, 4, 5, 12, 74, 75, 76] 5 (cL (cL (cR (cL (cR (cR (cR (cR (cR (cR C24)))))))))) nx381 (blkQ (X24 n) 4 [4, 5, 12] 5 (seqQ (X24 n) (cR (cR (cR (cR (cR (cR (cR C24))))))) (fnQ (X24 n).E.T (resOf Proofs.Tryd.prog 24) (.tuple [(eL eI) o.1, e27 o.2]))))))))))))))))) .normal) := by
        intro v520 ev526
        cases v520
        · have ev526 := cnd_f ev526
          refine Ops.seg' 4 6 (by kernel_rfl) ?_
          refine Ops.st ⟨q1 ((dP e41 a1) :: q2 ((.v (.sl .nil (List.map eI []))) :: (.ptr 0 0) :: q6 ((appD 11 (List.map eI v377)) :: (dI v378) :: (.ptr 7 0) :: (dB v481) :: q2 ((dP e41 v493) :: (dB false) :: q1 ((.ptr 12 0) :: q40 (q12 ((dP e23 a0) :: (dI ((a0.length : Int))) :: (dI v378) :: q12 ((dP eS v392) :: (dI ((v392.length : Int))) :: (dI v482) :: q6 ((dP e41 a1) :: (dI ((a1.length : Int))) :: (dI v509) :: q1 ((.vptr [(vP eS v519.fTags), (.str v519.fForm)]) :: (.v (.agg [(vP eS v519.fTags), (.str v519.fForm)])) :: (dB false) :: (dB false) :: u3 ((dB false) :: q14 []))))))))))), [(.cells [(dI 0), (dI 0)]), .dead, .dead, .dead, .dead, .dead, .dead, (.cells [(.v (.str v390.fName)), (dP e67 v390.fCells)]), .dead, .dead, .dead, (appO 1 (List.map eI v377)), (.cells [(dP eS v519.fTags), (.v (.str v519.fForm))])]⟩ (by kernel_rfl) ?_
          exact J24j527 _ _ _ _ _ (some_sub (fun v526 => f24_r4 m v509 v526 = some sx517) ev526 h)
        · have ev526 := cnd_t ev526
          refine Ops.seg' 2 4 (by kernel_rfl) ?_
          obtain ⟨v528, ev528, ev526⟩ := bnd_some ev526
          refine Ops.one' 5 (fun h0 e0 => (call_ok (E' := E) (h := h0) (by kernel_rfl) (Args.v (vP e41 v493) ((eL e41) v493) (by kernel_rfl) (Args.v (.agg [(vP eS v519.fTags), (.str v519.fForm)]) (e41 v519) (by kernel_rfl) Args.nil)) (ok50 m v493 v519 v528 ev528 n (by omega)))) (by kernel_rfl) (by kernel_rfl) ?_
          refine Ops.seg' 1 6 (by kernel_rfl) ?_
          refine Ops.st ⟨q1 ((dP e41 a1) :: q2 ((.v (.sl .nil (List.map eI []))) :: (.ptr 0 0) :: q6 ((appD 11 (List.map eI v377)) :: (dI v378) :: (.ptr 7 0) :: (dB v481) :: q2 ((dP e41 v493) :: (dB true) :: q1 ((.ptr 12 0) :: q40 (q12 ((dP e23 a0) :: (dI ((a0.length : Int))) :: (dI v378) :: q12 ((dP eS v392) :: (dI ((v392.length : Int))) :: (dI v482) :: q6 ((dP e41 a1) :: (dI ((a1.length : Int))) :: (dI v509) :: q1 ((.vptr [(vP eS v519.fTags), (.str v519.fForm)]) :: (.v (.agg [(vP eS v519.fTags), (.str v519.fForm)])) :: (dB true) :: (dB true) :: (dP e41 v493) :: (.v (.agg [(vP eS v519.fTags), (.str v519.fForm)])) :: (dB v528) :: (dB v528) :: q14 [])))))))))), [(.cells [(dI 0), (dI 0)]), .dead, .dead, .dead, .dead, .dead, .dead, (.cells [(.v (.str v390.fName)), (dP e67 v390.fCells)]), .dead, .dead, .dead, (appO 1 (List.map eI v377)), (.cells [(dP eS v519.fTags), (.v (.str v519.fForm))])]⟩ (by kernel_rfl) ?_
          exact J24j527 _ _ _ _ _ (some_sub (fun v526 => f24_r4 m v509 v526 = some sx517) ev526 h)
      exact Ops.st ⟨q1 ((dP e41 a1) :: q2 ((.v (.sl .nil (List.map eI []))) :: (.ptr 0 0) :: q6 ((appD 11 (List.map eI v377)) :: (dI v378) :: (.ptr 7 0) :: (dB v481) :: q2 ((dP e41 v493) :: (dB v508) :: q1 ((.ptr 12 0) :: q40 (q12 ((dP e23 a0) :: (dI ((a0.length : Int))) :: (dI v378) :: q12 ((dP eS v392) :: (dI ((v392.length : Int))) :: (dI v482) :: q6 ((dP e41 a1) :: (dI ((a1.length : Int))) :: (dI v509) :: q1 ((.vptr [(vP eS v519.fTags), (.str v519.fForm)]) :: (.v (.agg [(vP eS v519.fTags), (.str v519.fForm)])) :: (dB v508) :: (dB v508) :: q18 [])))))))))), [(.cells [(dI 0), (dI 0)]), .dead, .dead, .dead, .dead, .dead, .dead, (.cells [(.v (.str v390.fName)), (dP e67 v390.fCells)]), .dead, .dead, .dead, (appO 1 (List.map eI v377)), (.cells [(dP eS v519.fTags), (.v (.str v519.fForm))])]⟩ (by kernel_rfl) (G24g521 v508 ev526)
    · refine Wp.exit (id := 8) (by kernel_rfl) ?_
      refine sqQ.x ?_
      refine seqQ.x ?_
      cases h
      refine lpQ.x ?_
      refine blkQ.x ⟨q1 ((dP e41 a1) :: q2 ((.v (.sl .nil (List.map eI []))) :: (.ptr 0 0) :: q6 ((appD 10 (List.map eI v377)) :: (dI v378) :: (.ptr 7 0) :: (dB v481) :: q3 ((dB v508) :: q40 (q14 ((dP e23 a0) :: (dI ((a0.length : Int))) :: (dI v378) :: q12 ((dP eS v392) :: (dI ((v392.length : Int))) :: (dI v482) :: q32 []))))))), [(.cells [(dI 0), (dI 0)]), .dead, .dead, .dead, .dead, .dead, .dead, (.cells [(.v (.str v390.fName)), (dP e67 v390.fCells)]), .dead, .dead, (appO 1 (List.map eI v377))]⟩ (by generalize v377 = z0; cases z0 <;> kernel_rfl) ?_
      exact hxx515 (v508, v509)  hsx518
theorem f24_hLx538 (m : Nat) (a0 : (List S23)) (a1 : (List S41)) (o : ((List Int) × S27)) (n : Nat) (hn : m + 8 ≤ n + 1) (v390 : S23) (v392 : (List ByteArray)) (nx381 : Nat) (v377 : (List Int)) (v378 : Int) : ∀ (kx484 : Nat) (v481 : Bool) (v482 : Int)  (ox483 : ((List Int) × S27) ⊕ (Bool × Int)), iter (fun (y : Bool × Int) => f24_B7 m a1 v390 v392 y.1 y.2) kx484 (v481, v482) = some ox483 → ∀ nx485, kx484 ≤ nx485 → (∀ r, ox483 = .inl r → ∀ σ, RetOk (X24 n) (resOf Proofs.Tryd.prog 24) (.tuple [(eL eI) r.1, e27 r.2]) σ → (seqQ (X24 n) (cR (cR (cR (cL (cL (cR (cR (cL (cL (cR (cL (cR (cR (cR (cR (cR (cR C24))))))))))))))))) (blkQ (X24 n) 5 [1, 4, 5, 12, 74, 75, 76] 7 (seqQ (X24 n) (cR (cR (cR (cL (cL (cR (cL (cR (cR (cR (cR (cR (cR C24))))))))))))) (lpQ (X24 n) [1, 4, 5, 12, 74, 75, 76] 5 (cL (cL (cR (cL (cR (cR (cR (cR (cR (cR C24)))))))))) nx381 (blkQ (X24 n) 4 [4, 5, 12] 5 (seqQ (X24 n) (cR (cR (cR (cR (cR (cR (cR C24))))))) (fnQ (X24 n).E.T (resOf Proofs.Tryd.prog 24) (.tuple [(eL eI) o.1, e27 o.2])))))))) .ret σ) → (∀ (y : Bool × Int) , ox483 = .inr y → (seqQ (X24 n) (cR (cR (cR (cL (cL (cR (cR (cL (cL (cR (cL (cR (cR (cR (cR (cR (cR C24))))))))))))))))) (blkQ (X24 n) 5 [1, 4, 5, 12, 74, 75, 76] 7 (seqQ (X24 n) (cR (cR (cR (cL (cL (cR (cL (cR (cR (cR (cR (cR (cR C24))))))))))))) (lpQ (X24 n) [1, 4, 5, 12, 74, 75, 76] 5 (cL (cL (cR (cL (cR (cR (cR (cR (cR (cR C24)))))))))) nx381 (blkQ (X24 n) 4 [4, 5, 12] 5 (seqQ (X24 n) (cR (cR (cR (cR (cR (cR (cR C24))))))) (fnQ (X24 n).E.T (resOf Proofs.Tryd.prog 24) (.tuple [(eL eI) o.1, e27 o.2])))))))) .normal ⟨q1 ((dP e41 a1) :: q2 ((.v (.sl .nil (List.map eI []))) :: (.ptr 0 0) :: q6 ((appD 8 (List.map eI v377)) :: (dI v378) :: q1 ((dB y.1) :: q40 (q18 ((dP e23 a0) :: (dI ((a0.length : Int))) :: (dI v378) :: q40 (q7 []))))))), [(.cells [(dI 0), (dI 0)]), .dead, .dead, .dead, .dead, .dead, .dead, (.cells [(.v (.str v390.fName)), (dP e67 v390.fCells)]), (appO 1 (List.map eI v377))]⟩) → Lp (X24 n) [1, 4, 5, 12, 13, 14, 15, 74, 75, 76, 89, 90, 91] 8 (cL (cL (cR (cL (cR (cR (cL (cL (cR (cR (cL (cL (cR (cL (cR (cR (cR (cR (cR (cR C24)))))))))))))))))))) nx485 ⟨q1 ((dP e41 a1) :: q2 ((.v (.sl .nil (List.map eI []))) :: (.ptr 0 0) :: q6 ((appD 8 (List.map eI v377)) :: (dI v378) :: (.ptr 7 0) :: (dB v481) :: q40 (q18 ((dP e23 a0) :: (dI ((a0.length : Int))) :: (dI v378) :: q12 ((dP eS v392) :: (dI ((v392.length : Int))) :: (dI v482) :: q32 [])))))), [(.cells [(dI 0), (dI 0)]), .dead, .dead, .dead, .dead, .dead, .dead, (.cells [(.v (.str v390.fName)), (dP e67 v390.fCells)]), (appO 1 (List.map eI v377))]⟩ (blkQ (X24 n) 6 [1, 4, 5, 12, 13, 15, 74, 75, 76] 8 (seqQ (X24 n) (cR (cR (cR (cL (cL (cR (cR (cL (cL (cR (cL (cR (cR (cR (cR (cR (cR C24))))))))))))))))) (blkQ (X24 n) 5 [1, 4, 5, 12, 74, 75, 76] 7 (seqQ (X24 n) (cR (cR (cR (cL (cL (cR (cL (cR (cR (cR (cR (cR (cR C24))))))))))))) (lpQ (X24 n) [1, 4, 5, 12, 74, 75, 76] 5 (cL (cL (cR (cL (cR (cR (cR (cR (cR (cR C24)))))))))) nx381 (blkQ (X24 n) 4 [4, 5, 12] 5 (seqQ (X24 n) (cR (cR (cR (cR (cR (cR (cR C24))))))) (fnQ (X24 n).E.T (resOf Proofs.Tryd.prog 24) (.tuple [(eL eI) o.1, e27 o.2]))))))))) := by
  intro kx484
  induction kx484 with
  | zero => intro v481 v482  ox483 h; exact (iter_zero h).elim
  | succ kx484 ihx486 =>
    intro v481 v482  ox483 h nx485 hnx489 hrx487 hxx488
    obtain ⟨nx485, rfl⟩ : ∃ q, nx485 = q + 1 := ⟨nx485 - 1, by omega⟩
    obtain ⟨sx490, h, hsx491⟩ := iter_some h
    have h : f24_B7 m a1 v390 v392 v481 v482 = some sx490 := h
    unfold f24_B7 at h
    refine Lp.succ ?_
    refine Wp.seq' (by kernel_rfl) ?_
    refine Wp.region (by kernel_rfl) ?_
    refine Ops.seg' 1 1 (by kernel_rfl) ?_
    refine Ops.done (by kernel_rfl) ?_
    refine seqQ.n ?_
    refine Wp.seq' (by kernel_rfl) ?_
    refine Wp.cnd h [1, 4, 5, 12, 13, 14, 15, 74, 75, 76, 89, 90, 91] 9 (by kernel_rfl) (fun h => ?_) (fun h => ?_)
    · refine Wp.skip (by kernel_rfl) ?_
      refine sqQ.n ⟨q1 ((dP e41 a1) :: q2 ((.v (.sl .nil (List.map eI []))) :: (.ptr 0 0) :: q6 ((appD 9 (List.map eI v377)) :: (dI v378) :: (.ptr 7 0) :: (dB v481) :: q40 (q18 ((dP e23 a0) :: (dI ((a0.length : Int))) :: (dI v378) :: q12 ((dP eS v392) :: (dI ((v392.length : Int))) :: (dI v482) :: q32 [])))))), [(.cells [(dI 0), (dI 0)]), .dead, .dead, .dead, .dead, .dead, .dead, (.cells [(.v (.str v390.fName)), (dP e67 v390.fCells)]), .dead, (appO 1 (List.map eI v377))]⟩ (by generalize v377 = z0; cases z0 <;> kernel_rfl) ?_
      refine seqQ.n ?_
      refine Wp.seq' (by kernel_rfl) ?_
      refine Wp.block' 7 [1, 4, 5, 12, 13, 14, 15, 74, 75, 76, 89, 90, 91] 10 (by kernel_rfl) ?_
      refine Wp.seq' (by kernel_rfl) ?_
      refine Wp.region (by kernel_rfl) ?_
      obtain ⟨v492, ev492, h⟩ := bnd_some h
      refine Ops.one' 1 (fun h0 e0 => (ix_r (T := T) h0 36 9 1 .plain eS v392 v482 v492 ev492 (by kernel_rfl) (by kernel_rfl) (fun _ => rfl))) (by kernel_rfl) (by kernel_rfl) ?_
      refine Ops.seg' 2 3 (by kernel_rfl) ?_
      refine Ops.done (by kernel_rfl) ?_
      refine seqQ.n ?_
      refine Wp.seq' (by kernel_rfl) ?_
      refine Wp.region (by kernel_rfl) ?_
      refine Ops.seg' 2 2 (by kernel_rfl) ?_
      obtain ⟨v493, ev493, h⟩ := bnd_some h
      refine Ops.one' 3 (fun h0 e0 => (call_ok (E' := E) (h := h0) (by kernel_rfl) (Args.v (.agg [(.str v390.fName), (vP e67 v390.fCells)]) (e23 v390) (by kernel_rfl) (Args.v (.str v492) (eS v492) (by kernel_rfl) Args.nil)) (ok18 m v390 v492 v493 ev493 n (by omega)))) (by kernel_rfl) (by kernel_rfl) ?_
      refine Ops.seg' 1 4 (by kernel_rfl) ?_
      refine Ops.done (by kernel_rfl) ?_
      refine seqQ.n ?_
      refine Wp.seq' (by kernel_rfl) ?_
      refine Wp.region (by kernel_rfl) ?_
      refine Ops.seg' 1 1 (by kernel_rfl) ?_
      refine Ops.done (by kernel_rfl) ?_
      refine seqQ.n ?_
      refine Wp.seq' (by kernel_rfl) ?_
      refine Wp.seq' (by kernel_rfl) ?_
      refine Wp.region (by kernel_rfl) ?_
      refine Ops.seg' 1 1 (by kernel_rfl) ?_
      refine Ops.one' 2 (fun h0 e0 => (len_r (T := T) h0 26 42 .plain e41 a1 (by kernel_rfl))) (by kernel_rfl) (by kernel_rfl) ?_
      refine Ops.seg' 1 3 (by kernel_rfl) ?_
      refine Ops.done (by kernel_rfl) ?_
      refine seqQ.n ?_
      refine Wp.block' 8 [1, 4, 5, 12, 13, 14, 15, 19, 74, 75, 76, 89, 90, 91] 10 (by kernel_rfl) ?_
      have hLx529 := f24_hLx529 m a0 a1 o n hn v493 nx485 nx381 v377 v378 v481 v392 v482 v390
      refine Wp.loop' [1, 4, 5, 12, 13, 14, 15, 18, 19, 74, 75, 76, 89, 90, 91, 98, 99, 100] 10 (by kernel_rfl) ⟨q1 ((dP e41 a1) :: q2 ((.v (.sl .nil (List.map eI []))) :: (.ptr 0 0) :: q6 ((appD 10 (List.map eI v377)) :: (dI v378) :: (.ptr 7 0) :: (dB v481) :: q2 ((dP e41 v493) :: (dB true) :: q40 (q14 ((dP e23 a0) :: (dI ((a0.length : Int))) :: (dI v378) :: q12 ((dP eS v392) :: (dI ((v392.length : Int))) :: (dI v482) :: q6 ((dP e41 a1) :: (dI ((a1.length : Int))) :: (dI 0) :: q23 [])))))))), [(.cells [(dI 0), (dI 0)]), .dead, .dead, .dead, .dead, .dead, .dead, (.cells [(.v (.str v390.fName)), (dP e67 v390.fCells)]), .dead, .dead, (appO 1 (List.map eI v377))]⟩ (by generalize v377 = z0; cases z0 <;> kernel_rfl) ?_
      rcases brk_some h with ⟨r531, er531, h⟩ | ⟨y530, ey530, h⟩
      · refine hLx529 _ true 0  _ er531 n (by omega) (fun r er σ hσ => ?_) (fun y  ey => by cases ey)
        cases er
        refine seqQ.r ?_
        refine blkQ.r ?_
        refine seqQ.r ?_
        refine lpQ.r ?_
        cases h
        refine blkQ.r ?_
        exact hrx487 _ hsx491 _ (RetOk.forget [1, 4, 5, 12, 13, 14, 15, 74, 75, 76, 89, 90, 91] (by kernel_rfl) hσ)
      · refine hLx529 _ true 0  _ ey530 n (by omega) (fun r er => by cases er) (fun y  ey => ?_)
        cases ey
        refine seqQ.n ?_
        refine Wp.region (by kernel_rfl) ?_
        refine Ops.seg' 2 2 (by kernel_rfl) ?_
        have J24j537 : ∀ (d534 : D) (v535 : Bool) (v536 : Bool), f24_r6 m v482 v536 = some sx490 → Ops (X24 n) (opl (cR (cR (cR (cR (cL (cL (cR (cR (cL (cL (cR (cL (cR (cR (cL (cL (cR (cR (cL (cL (cR (cL (cR (cR (cR (cR (cR (cR C24))))))))))))))))))))))))))))) 4 ⟨q1 ((dP e41 a1) :: q2 ((.v (.sl .nil (List.map eI []))) :: (.ptr 0 0) :: q6 ((appD 10 (List.map eI v377)) :: (dI v378) :: (.ptr 7 0) :: (dB v535) :: q3 ((dB y530.1) :: q40 (q14 ((dP e23 a0) :: (dI ((a0.length : Int))) :: (dI v378) :: q12 ((dP eS v392) :: (dI ((v392.length : Int))) :: (dI v482) :: q19 ((dB v535) :: (dB v535) :: d534 :: (dB v536) :: q9 [])))))))), [(.cells [(dI 0), (dI 0)]), .dead, .dead, .dead, .dead, .dead, .dead, (.cells [(.v (.str v390.fName)), (dP e67 v390.fCells)]), .dead, .dead, (appO 1 (List.map eI v377))]⟩ ((blkQ (X24 n) 7 [1, 4, 5, 12, 13, 14, 15, 74, 75, 76, 89, 90, 91] 10 (seqQ (X24 n) (cR (cR (cR (cL (cL (cR (cL (cR (cR (cL (cL (cR (cR (cL (cL (cR (cL (cR (cR (cR (cR (cR (cR C24))))))))))))))))))))))) (lpQ (X24 n) [1, 4, 5, 12, 13, 14, 15, 74, 75, 76, 89, 90, 91] 8 (cL (cL (cR (cL (cR (cR (cL (cL (cR (cR (cL (cL (cR (cL (cR (cR (cR (cR (cR (cR C24)))))))))))))))))))) nx485 (blkQ (X24 n) 6 [1, 4, 5, 12, 13, 15, 74, 75, 76] 8 (seqQ (X24 n) (cR (cR (cR (cL (cL (cR (cR (cL (cL (cR (cL (cR (cR (cR (cR (cR (cR C24))))))))))))))))) (blkQ (X24 n) 5 [1, 4, 5, 12, 74, 75, 76] 7 (seqQ (X24 n) (cR (cR (cR (cL (cL (cR (cL (cR (cR (cR (cR (cR (cR C24))))))))))))) (lpQ (X24 n) [1, 4, 5, 12, 74, 75, 76] 5 (cL (cL (cR (cL (cR (cR (cR (cR (cR (cR C24)))))))))) nx381 (blkQ (X24 n) 4 [4, 5, 12] 5 (seqQ (X24 n) (cR (cR (cR (cR (cR (cR (cR C24))))))) (fnQ (X24 n).E.T (resOf Proofs.Tryd.prog 24) (.tuple [(eL eI) o.1, e27 o.2])))))))))))) .normal) := by
          intro d534 v535 v536 h
          unfold f24_r6 at h
          refine Ops.seg' 1 5 (by kernel_rfl) ?_
          refine Ops.done (by kernel_rfl) ?_
          refine blkQ.n ⟨q1 ((dP e41 a1) :: q2 ((.v (.sl .nil (List.map eI []))) :: (.ptr 0 0) :: q6 ((appD 10 (List.map eI v377)) :: (dI v378) :: (.ptr 7 0) :: (dB v536) :: q40 (q18 ((dP e23 a0) :: (dI ((a0.length : Int))) :: (dI v378) :: q12 ((dP eS v392) :: (dI ((v392.length : Int))) :: (dI v482) :: q32 [])))))), [(.cells [(dI 0), (dI 0)]), .dead, .dead, .dead, .dead, .dead, .dead, (.cells [(.v (.str v390.fName)), (dP e67 v390.fCells)]), .dead, .dead, (appO 1 (List.map eI v377))]⟩ (by generalize v377 = z0; cases z0 <;> kernel_rfl) ?_
          refine seqQ.n ?_
          refine Wp.region (by kernel_rfl) ?_
          refine Ops.seg' 2 2 (by kernel_rfl) ?_
          refine Ops.done (by kernel_rfl) ?_
          refine lpQ.n ⟨q1 ((dP e41 a1) :: q2 ((.v (.sl .nil (List.map eI []))) :: (.ptr 0 0) :: q6 ((appD 8 (List.map eI v377)) :: (dI v378) :: (.ptr 7 0) :: (dB v536) :: q40 (q18 ((dP e23 a0) :: (dI ((a0.length : Int))) :: (dI v378) :: q12 ((dP eS v392) :: (dI ((v392.length : Int))) :: (dI (w64 (v482 + 1))) :: q32 [])))))), [(.cells [(dI 0), (dI 0)]), .dead, .dead, .dead, .dead, .dead, .dead, (.cells [(.v (.str v390.fName)), (dP e67 v390.fCells)]), (appO 1 (List.map eI v377))]⟩ (by generalize v377 = z0; cases z0 <;> kernel_rfl) ?_
          cases h
          exact ihx486 v536 (w64 (v482 + 1))  _ hsx491 _ (by omega) hrx487 hxx488
        have G24g533 : ∀ v532 : Bool, f24_r6 m v482 ((v532 || y530.1)) = some sx490 → Ops (X24 n) (opl (cR (cR (cR (cR (cL (cL (cR (cR (cL (cL (cR (cL (cR (cR (cL (cL (cR (cR (cL (cL (cR (cL (cR (cR (cR (cR (cR (cR C24))))))))))))))))))))))))))))) 2 ⟨q1 ((dP e41 a1) :: q2 ((.v (.sl .nil (List.map eI []))) :: (.ptr 0 0) :: q6 ((appD 10 (List.map eI v377)) :: (dI v378) :: (.ptr 7 0) :: (dB v532) :: q3 ((dB y530.1) :: q40 (q14 ((dP e23 a0) :: (dI ((a0.length : Int))) :: (dI v378) :: q12 ((dP eS v392) :: (dI ((v392.length : Int))) :: (dI v482) :: q19 ((dB v532) :: (dB v532) :: q11 [])))))))), [(.cells [(dI 0), (dI 0)]), .dead, .dead, .dead, .dead, .dead, .dead, (.cells [(.v (.str v390.fName)), (dP e67 v390.fCells)]), .dead, .dead, (appO 1 (List.map eI v377))]⟩ ((blkQ (X24 n) 7 [1, 4, 5, 12, 13, 14, 15, 74, 75, 76, 89, 90, 91] 10 (seqQ (X24 n) (cR (cR (cR (cL (cL (cR (cL (cR (cR (cL (cL (cR (cR (cL (cL (cR (cL (cR (cR (cR (cR (cR (cR C24))))))))))))))))))))))) (lpQ (X24 n) [1, 4, 5, 12, 13, 14, 15, 74, 75, 76, 89, 90, 91] 8 (cL (cL (cR (cL (cR (cR (cL (cL (cR (cR (cL (cL (cR (cL (cR (cR (cR (cR (cR (cR C24)))))))))))))))))))) nx485 (blkQ (X24 n) 6 [1, 4, 5, 12, 13, 15, 74, 75, 76] 8 (seqQ (X24 n) (cR (cR (cR (cL (cL (cR (cR (cL (cL (cR (cL (cR (cR (cR (cR (cR (cR C24))))))))))))))))) (blkQ (X24 n) 5 [1, 4, 5, 12, 74, 75, 76] 7 (seqQ (X24 n) (cR (cR (cR (cL (cL (cR (cL (cR (cR (cR (cR (cR (cR C24))))))))))))) (lpQ (X24 n) [1, 4, 5, 12, 74, 75, 76] 5 (cL (cL (cR (cL (cR (cR (cR (cR (cR (cR C24)))))))))) nx381 (blkQ (X24 n) 4 [4, 5, 12] 5 (seqQ (X24 n) (cR (cR (cR (cR (cR (cR (cR C24))))))) (fnQ (X24 n).E.T (resOf Proofs.Tryd.prog 24) (.tuple [(eL eI) o.1, e27 o.2])))))))))))) .normal) := by
          intro v532 h
          cases v532
          · refine Ops.seg' 2 4 (by kernel_rfl) ?_
            refine Ops.st ⟨q1 ((dP e41 a1) :: q2 ((.v (.sl .nil (List.map eI []))) :: (.ptr 0 0) :: q6 ((appD 10 (List.map eI v377)) :: (dI v378) :: (.ptr 7 0) :: (dB false) :: q3 ((dB y530.1) :: q40 (q14 ((dP e23 a0) :: (dI ((a0.length : Int))) :: (dI v378) :: q12 ((dP eS v392) :: (dI ((v392.length : Int))) :: (dI v482) :: q19 ((dB false) :: (dB false) :: (dB y530.1) :: (dB y530.1) :: q9 [])))))))), [(.cells [(dI 0), (dI 0)]), .dead, .dead, .dead, .dead, .dead, .dead, (.cells [(.v (.str v390.fName)), (dP e67 v390.fCells)]), .dead, .dead, (appO 1 (List.map eI v377))]⟩ (by kernel_rfl) ?_
            exact J24j537 _ _ _ h
          · refine Ops.seg' 2 4 (by kernel_rfl) ?_
            refine Ops.st ⟨q1 ((dP e41 a1) :: q2 ((.v (.sl .nil (List.map eI []))) :: (.ptr 0 0) :: q6 ((appD 10 (List.map eI v377)) :: (dI v378) :: (.ptr 7 0) :: (dB true) :: q3 ((dB y530.1) :: q40 (q14 ((dP e23 a0) :: (dI ((a0.length : Int))) :: (dI v378) :: q12 ((dP eS v392) :: (dI ((v392.length : Int))) :: (dI v482) :: q19 ((dB true) :: (dB true) :: u1 ((dB true) :: q9 []))))))))), [(.cells [(dI 0), (dI 0)]), .dead, .dead, .dead, .dead, .dead, .dead, (.cells [(.v (.str v390.fName)), (dP e67 v390.fCells)]), .dead, .dead, (appO 1 (List.map eI v377))]⟩ (by kernel_rfl) ?_
            exact J24j537 _ _ _ h
        exact Ops.st ⟨q1 ((dP e41 a1) :: q2 ((.v (.sl .nil (List.map eI []))) :: (.ptr 0 0) :: q6 ((appD 10 (List.map eI v377)) :: (dI v378) :: (.ptr 7 0) :: (dB v481) :: q3 ((dB y530.1) :: q40 (q14 ((dP e23 a0) :: (dI ((a0.length : Int))) :: (dI v378) :: q12 ((dP eS v392) :: (dI ((v392.length : Int))) :: (dI v482) :: q19 ((dB v481) :: (dB v481) :: q11 [])))))))), [(.cells [(dI 0), (dI 0)]), .dead, .dead, .dead, .dead, .dead, .dead, (.cells [(.v (.str v390.fName)), (dP e67 v390.fCells)]), .dead, .dead, (appO 1 (List.map eI v377))]⟩ (by kernel_rfl) (G24g533 v481 h)
    · refine Wp.exit (id := 6) (by kernel_rfl) ?_
      refine sqQ.x ?_
      refine seqQ.x ?_
      cases h
      refine lpQ.x ?_
      refine blkQ.x ⟨q1 ((dP e41 a1) :: q2 ((.v (.sl .nil (List.map eI []))) :: (.ptr 0 0) :: q6 ((appD 8 (List.map eI v377)) :: (dI v378) :: q1 ((dB v481) :: q40 (q18 ((dP e23 a0) :: (dI ((a0.length : Int))) :: (dI v378) :: q40 (q7 []))))))), [(.cells [(dI 0), (dI 0)]), .dead, .dead, .dead, .dead, .dead, .dead, (.cells [(.v (.str v390.fName)), (dP e67 v390.fCells)]), (appO 1 (List.map eI v377))]⟩ (by generalize v377 = z0; cases z0 <;> kernel_rfl) ?_
      exact hxx488 (v481, v482)  hsx491
theorem ok24 (m : Nat) (a0 : (List S23)) (a1 : (List S41)) (o : ((List Int) × S27)) (h : f24 m a0 a1 = some o) (n : Nat) (hn : m + 8 ≤ n) : Fn Proofs.Tryd.prog E n 24 [.v ((eL e23) a0), .v ((eL e41) a1)] (.tuple [(eL eI) o.1, e27 o.2]) := by
  obtain ⟨n, rfl⟩ : ∃ q, n = q + 1 := ⟨n - 1, by omega⟩
  unfold f24 at h
  refine Fn.of (by kernel_rfl) (by kernel_rfl) (by kernel_rfl) ⟨(dP e23 a0) :: (dP e41 a1) :: u40 (u40 (u40 (u2 []))), []⟩ (by kernel_rfl) ?_
  refine Wp.seq' (by kernel_rfl) ?_
  refine Wp.region (by kernel_rfl) ?_
  refine Ops.seg' 2 2 (by kernel_rfl) ?_
  refine Ops.done (by kernel_rfl) ?_
  refine seqQ.n ?_
  refine Wp.seq' (by kernel_rfl) ?_
  refine Wp.seq' (by kernel_rfl) ?_
  refine Wp.region (by kernel_rfl) ?_
  refine Ops.seg' 1 1 (by kernel_rfl) ?_
  refine Ops.one' 2 (fun h0 e0 => (len_r (T := T) h0 43 24 .plain e23 a0 (by kernel_rfl))) (by kernel_rfl) (by kernel_rfl) ?_
  refine Ops.seg' 1 3 (by kernel_rfl) ?_
  refine Ops.done (by kernel_rfl) ?_
  refine seqQ.n ?_
  refine Wp.cnd h [0, 1, 4, 5] 1 (by kernel_rfl) (fun h => ?_) (fun h => ?_)
  · refine Wp.seq' (by kernel_rfl) ?_
    refine Wp.region (by kernel_rfl) ?_
    obtain ⟨v1, ev1, h⟩ := bnd_some h
    refine Ops.one' 1 (fun h0 e0 => (call_ok (E' := E) (h := h0) (by kernel_rfl) (Args.v (vI 2) (eI 2) (by kernel_rfl) (Args.v (vI ((-1))) (eI ((-1))) (by kernel_rfl) Args.nil)) (ok36 m 2 ((-1)) v1 ev1 n (by omega)))) (by kernel_rfl) (by kernel_rfl) ?_
    refine Ops.seg' 2 3 (by kernel_rfl) ?_
    refine Ops.done (by kernel_rfl) ?_
    refine seqQ.n ?_
    refine Wp.ret (by kernel_rfl) ?_
    refine sqQ.r ?_
    refine seqQ.r ?_
    exact fnQ.r' (X24 n) (fun z => (.tuple [(eL eI) z.1, e27 z.2])) h (RetOk.mk' (.v (.tuple [(.sl .nil (List.map eI [])), (.agg [(vI v1.fCode), (vI v1.fIndex)])])) (by kernel_rfl) (by kernel_rfl))
  · refine Wp.skip (by kernel_rfl) ?_
    refine sqQ.n' ?_
    refine seqQ.n ?_
    refine Wp.seq' (by kernel_rfl) ?_
    refine Wp.seq' (by kernel_rfl) ?_
    refine Wp.region (by kernel_rfl) ?_
    refine Ops.seg' 1 1 (by kernel_rfl) ?_
    refine Ops.one' 2 (fun h0 e0 => (len_r (T := T) h0 43 24 .plain e23 a0 (by kernel_rfl))) (by kernel_rfl) (by kernel_rfl) ?_
    refine Ops.seg' 1 3 (by kernel_rfl) ?_
    refine Ops.done (by kernel_rfl) ?_
    refine seqQ.n ?_
    refine Wp.block' 0 [0, 1, 4, 5] 2 (by kernel_rfl) ?_
    have hLx22 : ∀ (kx11 : Nat) (v9 : Int)  (ox10 : ((List Int) × S27) ⊕ (Int)), iter (fun (y : Int) => f24_B1 m a0 y) kx11 v9 = some ox10 → ∀ nx12, kx11 ≤ nx12 → (∀ r, ox10 = .inl r → ∀ σ, RetOk (X24 n) (resOf Proofs.Tryd.prog 24) (.tuple [(eL eI) r.1, e27 r.2]) σ → (seqQ (X24 n) (cR (cR (cR C24))) (fnQ (X24 n).E.T (resOf Proofs.Tryd.prog 24) (.tuple [(eL eI) o.1, e27 o.2]))) .ret σ) → (∀ (y : Int) , ox10 = .inr y → (seqQ (X24 n) (cR (cR (cR C24))) (fnQ (X24 n).E.T (resOf Proofs.Tryd.prog 24) (.tuple [(eL eI) o.1, e27 o.2]))) .normal ⟨(dP e23 a0) :: (dP e41 a1) :: q2 ((.v (.sl .nil (List.map eI []))) :: (.ptr 0 0) :: q40 (q40 (q38 []))), [(.cells [(dI 0), (dI 0)]), .dead, .dead]⟩) → Lp (X24 n) [0, 1, 4, 5, 26, 27, 28] 2 (cL (cL (cR (cL (cR (cR C24)))))) nx12 ⟨(dP e23 a0) :: (dP e41 a1) :: q2 ((.v (.sl .nil (List.map eI []))) :: (.ptr 0 0) :: q20 ((dP e23 a0) :: (dI ((a0.length : Int))) :: (dI v9) :: q40 (q40 (q15 [])))), [(.cells [(dI 0), (dI 0)]), .dead, .dead]⟩ (blkQ (X24 n) 0 [0, 1, 4, 5] 2 (seqQ (X24 n) (cR (cR (cR C24))) (fnQ (X24 n).E.T (resOf Proofs.Tryd.prog 24) (.tuple [(eL eI) o.1, e27 o.2])))) := by
      intro kx11
      induction kx11 with
      | zero => intro v9  ox10 h; exact (iter_zero h).elim
      | succ kx11 ihx13 =>
        intro v9  ox10 h nx12 hnx16 hrx14 hxx15
        obtain ⟨nx12, rfl⟩ : ∃ q, nx12 = q + 1 := ⟨nx12 - 1, by omega⟩
        obtain ⟨sx17, h, hsx18⟩ := iter_some h
        have h : f24_B1 m a0 v9 = some sx17 := h
        unfold f24_B1 at h
        refine Lp.succ ?_
        refine Wp.seq' (by kernel_rfl) ?_
        refine Wp.region (by kernel_rfl) ?_
        refine Ops.seg' 1 1 (by kernel_rfl) ?_
        refine Ops.done (by kernel_rfl) ?_
        refine seqQ.n ?_
        refine Wp.seq' (by kernel_rfl) ?_
        refine Wp.cnd h [0, 1, 4, 5, 26, 27, 28] 3 (by kernel_rfl) (fun h => ?_) (fun h => ?_)
        · refine Wp.skip (by kernel_rfl) ?_
          refine sqQ.n' ?_
          refine seqQ.n ?_
          refine Wp.seq' (by kernel_rfl) ?_
          refine Wp.block' 1 [0, 1, 4, 5, 26, 27, 28] 4 (by kernel_rfl) ?_
          refine Wp.seq' (by kernel_rfl) ?_
          refine Wp.region (by kernel_rfl) ?_
          refine Ops.seg' 1 1 (by kernel_rfl) ?_
          obtain ⟨v19, ev19, h⟩ := bnd_some h
          refine Ops.one' 2 (fun h0 e0 => (ix_r (T := T) h0 43 24 2 .plain e23 a0 v9 v19 ev19 (by kernel_rfl) (by kernel_rfl) (fun _ => rfl))) (by kernel_rfl) (by kernel_rfl) ?_
          refine Ops.seg' 4 6 (by kernel_rfl) ?_
          refine Ops.done (by kernel_rfl) ?_
          refine seqQ.n ?_
          refine Wp.seq' (by kernel_rfl) ?_
          refine Wp.region (by kernel_rfl) ?_
          refine Ops.seg' 1 1 (by kernel_rfl) ?_
          obtain ⟨v20, ev20, h⟩ := bnd_some h
          refine Ops.one' 2 (fun h0 e0 => (call_ok (E' := E) (h := h0) (by kernel_rfl) (Args.v (.agg [(.str v19.fName), (vP e67 v19.fCells)]) (e23 v19) (by kernel_rfl) Args.nil) (ok14 m v19 v20 ev20 n (by omega)))) (by kernel_rfl) (by kernel_rfl) ?_
          refine Ops.seg' 2 4 (by kernel_rfl) ?_
          refine Ops.done (by kernel_rfl) ?_
          refine seqQ.n ?_
          refine Wp.seq' (by kernel_rfl) ?_
          refine Wp.region (by kernel_rfl) ?_
          refine Ops.seg' 3 3 (by kernel_rfl) ?_
          refine Ops.done (by kernel_rfl) ?_
          refine seqQ.n ?_
          refine Wp.cnd h [0, 1, 4, 5, 26, 27, 28] 6 (by kernel_rfl) (fun h => ?_) (fun h => ?_)
          · refine Wp.seq' (by kernel_rfl) ?_
            refine Wp.region (by kernel_rfl) ?_
            refine Ops.seg' 3 3 (by kernel_rfl) ?_
            obtain ⟨v21, ev21, h⟩ := bnd_some h
            refine Ops.one' 4 (fun h0 e0 => (call_ok (E' := E) (h := h0) (by kernel_rfl) (Args.v (vI v20.fCode) (eI v20.fCode) (by kernel_rfl) (Args.v (vI v9) (eI v9) (by kernel_rfl) Args.nil)) (ok36 m v20.fCode v9 v21 ev21 n (by omega)))) (by kernel_rfl) (by kernel_rfl) ?_
            refine Ops.seg' 2 6 (by kernel_rfl) ?_
            refine Ops.done (by kernel_rfl) ?_
            refine seqQ.n ?_
            refine Wp.ret (by kernel_rfl) ?_
            refine sqQ.r ?_
            refine blkQ.r ?_
            refine seqQ.r ?_
            cases h
            refine lpQ.r ?_
            refine blkQ.r ?_
            exact hrx14 _ hsx18 _ (RetOk.forget [0, 1, 4, 5, 26, 27, 28] (by kernel_rfl) (RetOk.mk' (.v (.tuple [(.sl .nil (List.map eI [])), (.agg [(vI v21.fCode), (vI v21.fIndex)])])) (by kernel_rfl) (by kernel_rfl)))
          · refine Wp.skip (by kernel_rfl) ?_
            refine sqQ.n' ?_
            refine blkQ.n' ?_
            refine seqQ.n ?_
            refine Wp.region (by kernel_rfl) ?_
            refine Ops.seg' 2 2 (by kernel_rfl) ?_
            refine Ops.done (by kernel_rfl) ?_
            refine lpQ.n ⟨(dP e23 a0) :: (dP e41 a1) :: q2 ((.v (.sl .nil (List.map eI []))) :: (.ptr 0 0) :: q20 ((dP e23 a0) :: (dI ((a0.length : Int))) :: (dI (w64 (v9 + 1))) :: q40 (q40 (q15 [])))), [(.cells [(dI 0), (dI 0)]), .dead, .dead]⟩ (by kernel_rfl) ?_
            cases h
            exact ihx13 (w64 (v9 + 1))  _ hsx18 _ (by omega) hrx14 hxx15
        · refine Wp.exit (id := 0) (by kernel_rfl) ?_
          refine sqQ.x ?_
          refine seqQ.x ?_
          cases h
          refine lpQ.x ?_
          refine blkQ.x ⟨(dP e23 a0) :: (dP e41 a1) :: q2 ((.v (.sl .nil (List.map eI []))) :: (.ptr 0 0) :: q40 (q40 (q38 []))), [(.cells [(dI 0), (dI 0)]), .dead, .dead]⟩ (by kernel_rfl) ?_
          exact hxx15 v9  hsx18
    refine Wp.loop' [0, 1, 4, 5, 26, 27, 28] 2 (by kernel_rfl) ⟨(dP e23 a0) :: (dP e41 a1) :: q2 ((.v (.sl .nil (List.map eI []))) :: (.ptr 0 0) :: q20 ((dP e23 a0) :: (dI ((a0.length : Int))) :: (dI 0) :: q40 (q40 (q15 [])))), [(.cells [(dI 0), (dI 0)]), .dead, .dead]⟩ (by kernel_rfl) ?_
    rcases brk_some h with ⟨r24, er24, h⟩ | ⟨y23, ey23, h⟩
    · refine hLx22 _ 0  _ er24 n (by omega) (fun r er σ hσ => ?_) (fun y  ey => by cases ey)
      cases er
      refine seqQ.r ?_
      exact fnQ.r' (X24 n) (fun z => (.tuple [(eL eI) z.1, e27 z.2])) h hσ
    · refine hLx22 _ 0  _ ey23 n (by omega) (fun r er => by cases er) (fun y  ey => ?_)
      cases ey
      refine seqQ.n ?_
      refine Wp.seq' (by kernel_rfl) ?_
      refine Wp.seq' (by kernel_rfl) ?_
      refine Wp.region (by kernel_rfl) ?_
      refine Ops.seg' 1 1 (by kernel_rfl) ?_
      refine Ops.one' 2 (fun h0 e0 => (len_r (T := T) h0 26 42 .plain e41 a1 (by kernel_rfl))) (by kernel_rfl) (by kernel_rfl) ?_
      refine Ops.seg' 2 4 (by kernel_rfl) ?_
      have J24j32 : ∀ (d27 d28 d29 : D) (v30 : Bool) (v31 : Bool), f24_r10 m a0 a1 v31 = some o → Ops (X24 n) (opl (cL (cL (cR (cR (cR C24)))))) 8 ⟨(dP e23 a0) :: (dP e41 a1) :: q2 ((.v (.sl .nil (List.map eI []))) :: (.ptr 0 0) :: q37 ((dP e41 a1) :: (dI ((a1.length : Int))) :: (dB v30) :: (dB v30) :: d27 :: d28 :: d29 :: (dB v31) :: q40 (q33 []))), [(.cells [(dI 0), (dI 0)]), .dead, .dead]⟩ ((seqQ (X24 n) (cR (cL (cR (cR (cR C24))))) (seqQ (X24 n) (cR (cR (cR (cR C24)))) (fnQ (X24 n).E.T (resOf Proofs.Tryd.prog 24) (.tuple [(eL eI) o.1, e27 o.2])))) .normal) := by
        intro d27 d28 d29 v30 v31 h
        unfold f24_r10 at h
        refine Ops.done (by kernel_rfl) ?_
        refine seqQ.n ?_
        refine Wp.cnd h [0, 1, 4, 5] 3 (by kernel_rfl) (fun h => ?_) (fun h => ?_)
        · refine Wp.seq' (by kernel_rfl) ?_
          refine Wp.region (by kernel_rfl) ?_
          obtain ⟨v33, ev33, h⟩ := bnd_some h
          refine Ops.one' 1 (fun h0 e0 => (call_ok (E' := E) (h := h0) (by kernel_rfl) (Args.v (vI 9) (eI 9) (by kernel_rfl) (Args.v (vI ((-2))) (eI ((-2))) (by kernel_rfl) Args.nil)) (ok36 m 9 ((-2)) v33 ev33 n (by omega)))) (by kernel_rfl) (by kernel_rfl) ?_
          refine Ops.seg' 2 3 (by kernel_rfl) ?_
          refine Ops.done (by kernel_rfl) ?_
          refine seqQ.n ?_
          refine Wp.ret (by kernel_rfl) ?_
          refine sqQ.r ?_
          refine seqQ.r ?_
          exact fnQ.r' (X24 n) (fun z => (.tuple [(eL eI) z.1, e27 z.2])) h (RetOk.mk' (.v (.tuple [(.sl .nil (List.map eI [])), (.agg [(vI v33.fCode), (vI v33.fIndex)])])) (by kernel_rfl) (by kernel_rfl))
        · refine Wp.skip (by kernel_rfl) ?_
          refine sqQ.n' ?_
          refine seqQ.n ?_
          refine Wp.seq' (by kernel_rfl) ?_
          refine Wp.seq' (by kernel_rfl) ?_
          refine Wp.region (by kernel_rfl) ?_
          refine Ops.seg' 1 1 (by kernel_rfl) ?_
          refine Ops.one' 2 (fun h0 e0 => (len_r (T := T) h0 26 42 .plain e41 a1 (by kernel_rfl))) (by kernel_rfl) (by kernel_rfl) ?_
          refine Ops.seg' 1 3 (by kernel_rfl) ?_
          refine Ops.done (by kernel_rfl) ?_
          refine seqQ.n ?_
          refine Wp.block' 2 [0, 1, 4, 5] 4 (by kernel_rfl) ?_
          have hLx60 : ∀ (kx47 : Nat) (v45 : Int)  (ox46 : ((List Int) × S27) ⊕ (Int)), iter (fun (y : Int) => f24_B2 m a1 y) kx47 v45 = some ox46 → ∀ nx48, kx47 ≤ nx48 → (∀ r, ox46 = .inl r → ∀ σ, RetOk (X24 n) (resOf Proofs.Tryd.prog 24) (.tuple [(eL eI) r.1, e27 r.2]) σ → (seqQ (X24 n) (cR (cR (cR (cR (cR C24))))) (fnQ (X24 n).E.T (resOf Proofs.Tryd.prog 24) (.tuple [(eL eI) o.1, e27 o.2]))) .ret σ) → (∀ (y : Int) , ox46 = .inr y → (seqQ (X24 n) (cR (cR (cR (cR (cR C24))))) (fnQ (X24 n).E.T (resOf Proofs.Tryd.prog 24) (.tuple [(eL eI) o.1, e27 o.2]))) .normal ⟨(dP e23 a0) :: (dP e41 a1) :: q2 ((.v (.sl .nil (List.map eI []))) :: (.ptr 0 0) :: q40 (q40 (q38 []))), [(.cells [(dI 0), (dI 0)]), .dead, .dead, .dead, .dead]⟩) → Lp (X24 n) [0, 1, 4, 5, 52, 53, 54] 4 (cL (cL (cR (cL (cR (cR (cR (cR C24)))))))) nx48 ⟨(dP e23 a0) :: (dP e41 a1) :: q2 ((.v (.sl .nil (List.map eI []))) :: (.ptr 0 0) :: q40 (q6 ((dP e41 a1) :: (dI ((a1.length : Int))) :: (dI v45) :: q40 (q29 [])))), [(.cells [(dI 0), (dI 0)]), .dead, .dead, .dead, .dead]⟩ (blkQ (X24 n) 2 [0, 1, 4, 5] 4 (seqQ (X24 n) (cR (cR (cR (cR (cR C24))))) (fnQ (X24 n).E.T (resOf Proofs.Tryd.prog 24) (.tuple [(eL eI) o.1, e27 o.2])))) := by
            intro kx47
            induction kx47 with
            | zero => intro v45  ox46 h; exact (iter_zero h).elim
            | succ kx47 ihx49 =>
              intro v45  ox46 h nx48 hnx52 hrx50 hxx51
              obtain ⟨nx48, rfl⟩ : ∃ q, nx48 = q + 1 := ⟨nx48 - 1, by omega⟩
              obtain ⟨sx53, h, hsx54⟩ := iter_some h
              have h : f24_B2 m a1 v45 = some sx53 := h
              unfold f24_B2 at h
              refine Lp.succ ?_
              refine Wp.seq' (by kernel_rfl) ?_
              refine Wp.region (by kernel_rfl) ?_
              refine Ops.seg' 1 1 (by kernel_rfl) ?_
              refine Ops.done (by kernel_rfl) ?_
              refine seqQ.n ?_
              refine Wp.seq' (by kernel_rfl) ?_
              refine Wp.cnd h [0, 1, 4, 5, 52, 53, 54] 5 (by kernel_rfl) (fun h => ?_) (fun h => ?_)
              · refine Wp.skip (by kernel_rfl) ?_
                refine sqQ.n' ?_
                refine seqQ.n ?_
                refine Wp.seq' (by kernel_rfl) ?_
                refine Wp.block' 3 [0, 1, 4, 5, 52, 53, 54] 6 (by kernel_rfl) ?_
                refine Wp.seq' (by kernel_rfl) ?_
                refine Wp.region (by kernel_rfl) ?_
                refine Ops.seg' 1 1 (by kernel_rfl) ?_
                obtain ⟨v55, ev55, h⟩ := bnd_some h
                refine Ops.one' 2 (fun h0 e0 => (ix_r (T := T) h0 26 42 2 .plain e41 a1 v45 v55 ev55 (by kernel_rfl) (by kernel_rfl) (fun _ => rfl))) (by kernel_rfl) (by kernel_rfl) ?_
                refine Ops.seg' 4 6 (by kernel_rfl) ?_
                refine Ops.done (by kernel_rfl) ?_
                refine seqQ.n ?_
                refine Wp.seq' (by kernel_rfl) ?_
                refine Wp.seq' (by kernel_rfl) ?_
                refine Wp.region (by kernel_rfl) ?_
                refine Ops.seg' 2 2 (by kernel_rfl) ?_
                obtain ⟨v56, ev56, h⟩ := bnd_some h
                refine Ops.one' 3 (fun h0 e0 => (call_ok (E' := E) (h := h0) (by kernel_rfl) (Args.v (vP eS v55.fTags) ((eL eS) v55.fTags) (by kernel_rfl) (Args.v (vI 4) (eI 4) (by kernel_rfl) Args.nil)) (ok37 m v55.fTags 4 v56 ev56 n (by omega)))) (by kernel_rfl) (by kernel_rfl) ?_
                refine Ops.seg' 1 4 (by kernel_rfl) ?_
                refine Ops.done (by kernel_rfl) ?_
                refine seqQ.n ?_
                refine Wp.seq' (by kernel_rfl) ?_
                refine Wp.region (by kernel_rfl) ?_
                refine Ops.seg' 2 2 (by kernel_rfl) ?_
                refine Ops.done (by kernel_rfl) ?_
                refine seqQ.n ?_
                refine Wp.cnd h [0, 1, 4, 5, 9, 10, 52, 53, 54] 7 (by kernel_rfl) (fun h => ?_) (fun h => ?_)
                · refine Wp.seq' (by kernel_rfl) ?_
                  refine Wp.region (by kernel_rfl) ?_
                  refine Ops.seg' 2 2 (by kernel_rfl) ?_
                  obtain ⟨v57, ev57, h⟩ := bnd_some h
                  refine Ops.one' 3 (fun h0 e0 => (call_ok (E' := E) (h := h0) (by kernel_rfl) (Args.v (vI v56) (eI v56) (by kernel_rfl) (Args.v (vI v45) (eI v45) (by kernel_rfl) Args.nil)) (ok36 m v56 v45 v57 ev57 n (by omega)))) (by kernel_rfl) (by kernel_rfl) ?_
                  refine Ops.seg' 2 5 (by kernel_rfl) ?_
                  refine Ops.done (by kernel_rfl) ?_
                  refine seqQ.n ?_
                  refine Wp.ret (by kernel_rfl) ?_
                  refine sqQ.r ?_
                  refine seqQ.r ?_
                  refine blkQ.r ?_
                  refine seqQ.r ?_
                  cases h
                  refine lpQ.r ?_
                  refine blkQ.r ?_
                  exact hrx50 _ hsx54 _ (RetOk.forget [0, 1, 4, 5, 52, 53, 54] (by kernel_rfl) (RetOk.mk' (.v (.tuple [(.sl .nil (List.map eI [])), (.agg [(vI v57.fCode), (vI v57.fIndex)])])) (by kernel_rfl) (by kernel_rfl)))
                · refine Wp.skip (by kernel_rfl) ?_
                  refine sqQ.n' ?_
                  refine seqQ.n ?_
                  refine Wp.seq' (by kernel_rfl) ?_
                  refine Wp.region (by kernel_rfl) ?_
                  refine Ops.seg' 2 2 (by kernel_rfl) ?_
                  obtain ⟨v58, ev58, h⟩ := bnd_some h
                  refine Ops.one' 3 (fun h0 e0 => (call_ok (E' := E) (h := h0) (by kernel_rfl) (Args.v (.str v55.fForm) (eS v55.fForm) (by kernel_rfl) Args.nil) (ok16 m v55.fForm v58 ev58 n (by omega)))) (by kernel_rfl) (by kernel_rfl) ?_
                  refine Ops.seg' 1 4 (by kernel_rfl) ?_
                  refine Ops.done (by kernel_rfl) ?_
                  refine seqQ.n ?_
                  refine Wp.cnd h [0, 1, 4, 5, 52, 53, 54] 8 (by kernel_rfl) (fun h => ?_) (fun h => ?_)
                  · refine Wp.seq' (by kernel_rfl) ?_
                    refine Wp.region (by kernel_rfl) ?_
                    refine Ops.seg' 1 1 (by kernel_rfl) ?_
                    obtain ⟨v59, ev59, h⟩ := bnd_some h
                    refine Ops.one' 2 (fun h0 e0 => (call_ok (E' := E) (h := h0) (by kernel_rfl) (Args.v (vI 5) (eI 5) (by kernel_rfl) (Args.v (vI v45) (eI v45) (by kernel_rfl) Args.nil)) (ok36 m 5 v45 v59 ev59 n (by omega)))) (by kernel_rfl) (by kernel_rfl) ?_
                    refine Ops.seg' 2 4 (by kernel_rfl) ?_
                    refine Ops.done (by kernel_rfl) ?_
                    refine seqQ.n ?_
                    refine Wp.ret (by kernel_rfl) ?_
                    refine sqQ.r ?_
                    refine blkQ.r ?_
                    refine seqQ.r ?_
                    cases h
                    refine lpQ.r ?_
                    refine blkQ.r ?_
                    exact hrx50 _ hsx54 _ (RetOk.forget [0, 1, 4, 5, 52, 53, 54] (by kernel_rfl) (RetOk.mk' (.v (.tuple [(.sl .nil (List.map eI [])), (.agg [(vI v59.fCode), (vI v59.fIndex)])])) (by kernel_rfl) (by kernel_rfl)))
                  · refine Wp.skip (by kernel_rfl) ?_
                    refine sqQ.n' ?_
                    refine blkQ.n' ?_
                    refine seqQ.n ?_
                    refine Wp.region (by kernel_rfl) ?_
                    refine Ops.seg' 2 2 (by kernel_rfl) ?_
                    refine Ops.done (by kernel_rfl) ?_
                    refine lpQ.n ⟨(dP e23 a0) :: (dP e41 a1) :: q2 ((.v (.sl .nil (List.map eI []))) :: (.ptr 0 0) :: q40 (q6 ((dP e41 a1) :: (dI ((a1.length : Int))) :: (dI (w64 (v45 + 1))) :: q40 (q29 [])))), [(.cells [(dI 0), (dI 0)]), .dead, .dead, .dead, .dead]⟩ (by kernel_rfl) ?_
                    cases h
                    exact ihx49 (w64 (v45 + 1))  _ hsx54 _ (by omega) hrx50 hxx51
              · refine Wp.exit (id := 2) (by kernel_rfl) ?_
                refine sqQ.x ?_
                refine seqQ.x ?_
                cases h
                refine lpQ.x ?_
                refine blkQ.x ⟨(dP e23 a0) :: (dP e41 a1) :: q2 ((.v (.sl .nil (List.map eI []))) :: (.ptr 0 0) :: q40 (q40 (q38 []))), [(.cells [(dI 0), (dI 0)]), .dead, .dead, .dead, .dead]⟩ (by kernel_rfl) ?_
                exact hxx51 v45  hsx54
          refine Wp.loop' [0, 1, 4, 5, 52, 53, 54] 4 (by kernel_rfl) ⟨(dP e23 a0) :: (dP e41 a1) :: q2 ((.v (.sl .nil (List.map eI []))) :: (.ptr 0 0) :: q40 (q6 ((dP e41 a1) :: (dI ((a1.length : Int))) :: (dI 0) :: q40 (q29 [])))), [(.cells [(dI 0), (dI 0)]), .dead, .dead, .dead, .dead]⟩ (by kernel_rfl) ?_
          rcases brk_some h with ⟨r62, er62, h⟩ | ⟨y61, ey61, h⟩
          · refine hLx60 _ 0  _ er62 n (by omega) (fun r er σ hσ => ?_) (fun y  ey => by cases ey)
            cases er
            refine seqQ.r ?_
            exact fnQ.r' (X24 n) (fun z => (.tuple [(eL eI) z.1, e27 z.2])) h hσ
          · refine hLx60 _ 0  _ ey61 n (by omega) (fun r er => by cases er) (fun y  ey => ?_)
            cases ey
            refine seqQ.n ?_
            refine Wp.seq' (by kernel_rfl) ?_
            refine Wp.region (by kernel_rfl) ?_
            refine Ops.seg' 1 1 (by kernel_rfl) ?_
            refine Ops.done (by kernel_rfl) ?_
            refine seqQ.n ?_
            refine Wp.seq' (by kernel_rfl) ?_
            refine Wp.seq' (by kernel_rfl) ?_
            refine Wp.region (by kernel_rfl) ?_
            refine Ops.seg' 1 1 (by kernel_rfl) ?_
            refine Ops.one' 2 (fun h0 e0 => (len_r (T := T) h0 43 24 .plain e23 a0 (by kernel_rfl))) (by kernel_rfl) (by kernel_rfl) ?_
            refine Ops.seg' 1 3 (by kernel_rfl) ?_
            refine Ops.done (by kernel_rfl) ?_
            refine seqQ.n ?_
            refine Wp.block' 4 [4, 5, 12] 5 (by kernel_rfl) ?_
            have hLx544 : ∀ (kx380 : Nat) (v377 : (List Int)) (v378 : Int)  (ox379 : ((List Int) × S27) ⊕ ((List Int) × Int)), iter (fun (y : (List Int) × Int) => f24_B9 m a0 a1 y.1 y.2) kx380 (v377, v378) = some ox379 → ∀ nx381, kx380 ≤ nx381 → (∀ r, ox379 = .inl r → ∀ σ, RetOk (X24 n) (resOf Proofs.Tryd.prog 24) (.tuple [(eL eI) r.1, e27 r.2]) σ → (seqQ (X24 n) (cR (cR (cR (cR (cR (cR (cR C24))))))) (fnQ (X24 n).E.T (resOf Proofs.Tryd.prog 24) (.tuple [(eL eI) o.1, e27 o.2]))) .ret σ) → (∀ (y : (List Int) × Int) , ox379 = .inr y → (seqQ (X24 n) (cR (cR (cR (cR (cR (cR (cR C24))))))) (fnQ (X24 n).E.T (resOf Proofs.Tryd.prog 24) (.tuple [(eL eI) o.1, e27 o.2]))) .normal ⟨q4 ((.v (.sl .nil (List.map eI []))) :: (.ptr 0 0) :: q6 ((appD 5 (List.map eI y.1)) :: q40 (q40 (q31 [])))), [(.cells [(dI 0), (dI 0)]), .dead, .dead, .dead, .dead, (appO 1 (List.map eI y.1))]⟩) → Lp (X24 n) [1, 4, 5, 12, 74, 75, 76] 5 (cL (cL (cR (cL (cR (cR (cR (cR (cR (cR C24)))))))))) nx381 ⟨q1 ((dP e41 a1) :: q2 ((.v (.sl .nil (List.map eI []))) :: (.ptr 0 0) :: q6 ((appD 5 (List.map eI v377)) :: q40 (q21 ((dP e23 a0) :: (dI ((a0.length : Int))) :: (dI v378) :: q40 (q7 [])))))), [(.cells [(dI 0), (dI 0)]), .dead, .dead, .dead, .dead, (appO 1 (List.map eI v377))]⟩ (blkQ (X24 n) 4 [4, 5, 12] 5 (seqQ (X24 n) (cR (cR (cR (cR (cR (cR (cR C24))))))) (fnQ (X24 n).E.T (resOf Proofs.Tryd.prog 24) (.tuple [(eL eI) o.1, e27 o.2])))) := by
              intro kx380
              induction kx380 with
              | zero => intro v377 v378  ox379 h; exact (iter_zero h).elim
              | succ kx380 ihx382 =>
                intro v377 v378  ox379 h nx381 hnx385 hrx383 hxx384
                obtain ⟨nx381, rfl⟩ : ∃ q, nx381 = q + 1 := ⟨nx381 - 1, by omega⟩
                obtain ⟨sx386, h, hsx387⟩ := iter_some h
                have h : f24_B9 m a0 a1 v377 v378 = some sx386 := h
                unfold f24_B9 at h
                refine Lp.succ ?_
                refine Wp.seq' (by kernel_rfl) ?_
                refine Wp.region (by kernel_rfl) ?_
                refine Ops.seg' 1 1 (by kernel_rfl) ?_
                refine Ops.done (by kernel_rfl) ?_
                refine seqQ.n ?_
                refine Wp.seq' (by kernel_rfl) ?_
                refine Wp.cnd h [1, 4, 5, 12, 74, 75, 76] 6 (by kernel_rfl) (fun h => ?_) (fun h => ?_)
                · refine Wp.skip (by kernel_rfl) ?_
                  refine sqQ.n ⟨q1 ((dP e41 a1) :: q2 ((.v (.sl .nil (List.map eI []))) :: (.ptr 0 0) :: q6 ((appD 6 (List.map eI v377)) :: q40 (q21 ((dP e23 a0) :: (dI ((a0.length : Int))) :: (dI v378) :: q40 (q7 [])))))), [(.cells [(dI 0), (dI 0)]), .dead, .dead, .dead, .dead, .dead, (appO 1 (List.map eI v377))]⟩ (by generalize v377 = z0; cases z0 <;> kernel_rfl) ?_
                  refine seqQ.n ?_
                  refine Wp.seq' (by kernel_rfl) ?_
                  have J24j389 : ∀ (v388 : (List Int)) , f24_j3 m v378 v388 = some sx386 → (seqQ (X24 n) (cR (cR (cR (cL (cL (cR (cL (cR (cR (cR (cR (cR (cR C24))))))))))))) (lpQ (X24 n) [1, 4, 5, 12, 74, 75, 76] 5 (cL (cL (cR (cL (cR (cR (cR (cR (cR (cR C24)))))))))) nx381 (blkQ (X24 n) 4 [4, 5, 12] 5 (seqQ (X24 n) (cR (cR (cR (cR (cR (cR (cR C24))))))) (fnQ (X24 n).E.T (resOf Proofs.Tryd.prog 24) (.tuple [(eL eI) o.1, e27 o.2])))))) .normal ⟨q1 ((dP e41 a1) :: q2 ((.v (.sl .nil (List.map eI []))) :: (.ptr 0 0) :: q6 ((appD 7 (List.map eI v388)) :: q40 (q21 ((dP e23 a0) :: (dI ((a0.length : Int))) :: (dI v378) :: q40 (q7 [])))))), [(.cells [(dI 0), (dI 0)]), .dead, .dead, .dead, .dead, .dead, .dead, (appO 1 (List.map eI v388))]⟩ := by
                    intro v388  h
                    unfold f24_j3 at h
                    refine seqQ.n ?_
                    refine Wp.region (by kernel_rfl) ?_
                    refine Ops.seg' 2 2 (by kernel_rfl) ?_
                    refine Ops.done (by kernel_rfl) ?_
                    refine lpQ.n ⟨q1 ((dP e41 a1) :: q2 ((.v (.sl .nil (List.map eI []))) :: (.ptr 0 0) :: q6 ((appD 5 (List.map eI v388)) :: q40 (q21 ((dP e23 a0) :: (dI ((a0.length : Int))) :: (dI (w64 (v378 + 1))) :: q40 (q7 [])))))), [(.cells [(dI 0), (dI 0)]), .dead, .dead, .dead, .dead, (appO 1 (List.map eI v388))]⟩ (by generalize v388 = z0; cases z0 <;> kernel_rfl) ?_
                    cases h
                    exact ihx382 v388 (w64 (v378 + 1))  _ hsx387 _ (by omega) hrx383 hxx384
                  refine Wp.block' 5 [1, 4, 5, 12, 74, 75, 76] 7 (by kernel_rfl) ?_
                  refine Wp.seq' (by kernel_rfl) ?_
                  refine Wp.region (by kernel_rfl) ?_
                  refine Ops.seg' 1 1 (by kernel_rfl) ?_
                  obtain ⟨v390, ev390, h⟩ := bnd_some h
                  refine Ops.one' 2 (fun h0 e0 => (ix_r (T := T) h0 43 24 2 .plain e23 a0 v378 v390 ev390 (by kernel_rfl) (by kernel_rfl) (fun _ => rfl))) (by kernel_rfl) (by kernel_rfl) ?_
                  refine Ops.seg' 4 6 (by kernel_rfl) ?_
                  refine Ops.done (by kernel_rfl) ?_
                  refine seqQ.n ?_
                  refine Wp.seq' (by kernel_rfl) ?_
                  refine Wp.region (by kernel_rfl) ?_
                  refine Ops.seg' 1 1 (by kernel_rfl) ?_
                  refine Ops.done (by kernel_rfl) ?_
                  refine seqQ.n ?_
                  refine Wp.seq' (by kernel_rfl) ?_
                  refine Wp.seq' (by kernel_rfl) ?_
                  refine Wp.region (by kernel_rfl) ?_
                  refine Ops.seg' 3 3 (by kernel_rfl) ?_
                  refine Ops.one' 4 (fun h0 e0 => (len_r (T := T) h0 26 42 .plain e41 a1 (by kernel_rfl))) (by kernel_rfl) (by kernel_rfl) ?_
                  refine Ops.seg' 1 5 (by kernel_rfl) ?_
                  obtain ⟨v391, ev391, h⟩ := bnd_some h
                  refine Ops.one' 6 (fun h0 e0 => (ix_r (T := T) h0 26 42 2 .plain e41 a1 (w64 ((a1.length : Int) - 1)) v391 ev391 (by kernel_rfl) (by kernel_rfl) (fun _ => rfl))) (by kernel_rfl) (by kernel_rfl) ?_
                  refine Ops.seg' 2 8 (by kernel_rfl) ?_
                  obtain ⟨v392, ev392, h⟩ := bnd_some h
                  refine Ops.one' 9 (fun h0 e0 => (call_ok (E' := E) (h := h0) (by kernel_rfl) (Args.v (.agg [(.str v390.fName), (vP e67 v390.fCells)]) (e23 v390) (by kernel_rfl) (Args.v (.str v391.fForm) (eS v391.fForm) (by kernel_rfl) Args.nil)) (ok21 m v390 v391.fForm v392 ev392 n (by omega)))) (by kernel_rfl) (by kernel_rfl) ?_
                  refine Ops.one' 10 (fun h0 e0 => (len_r (T := T) h0 36 9 .plain eS v392 (by kernel_rfl))) (by kernel_rfl) (by kernel_rfl) ?_
                  refine Ops.seg' 1 11 (by kernel_rfl) ?_
                  refine Ops.done (by kernel_rfl) ?_
                  refine seqQ.n ?_
                  refine Wp.block' 6 [1, 4, 5, 12, 13, 15, 74, 75, 76] 8 (by kernel_rfl) ?_
                  have hLx538 := f24_hLx538 m a0 a1 o n hn v390 v392 nx381 v377 v378
                  refine Wp.loop' [1, 4, 5, 12, 13, 14, 15, 74, 75, 76, 89, 90, 91] 8 (by kernel_rfl) ⟨q1 ((dP e41 a1) :: q2 ((.v (.sl .nil (List.map eI []))) :: (.ptr 0 0) :: q6 ((appD 8 (List.map eI v377)) :: (dI v378) :: (.ptr 7 0) :: (dB false) :: q40 (q18 ((dP e23 a0) :: (dI ((a0.length : Int))) :: (dI v378) :: q12 ((dP eS v392) :: (dI ((v392.length : Int))) :: (dI 0) :: q32 [])))))), [(.cells [(dI 0), (dI 0)]), .dead, .dead, .dead, .dead, .dead, .dead, (.cells [(.v (.str v390.fName)), (dP e67 v390.fCells)]), (appO 1 (List.map eI v377))]⟩ (by generalize v377 = z0; cases z0 <;> kernel_rfl) ?_
                  rcases brk_some h with ⟨r540, er540, h⟩ | ⟨y539, ey539, h⟩
                  · refine hLx538 _ false 0  _ er540 n (by omega) (fun r er σ hσ => ?_) (fun y  ey => by cases ey)
                    cases er
                    refine seqQ.r ?_
                    refine blkQ.r ?_
                    refine seqQ.r ?_
                    refine lpQ.r ?_
                    cases h
                    refine blkQ.r ?_
                    exact hrx383 _ hsx387 _ (RetOk.forget [1, 4, 5, 12, 74, 75, 76] (by kernel_rfl) hσ)
                  · refine hLx538 _ false 0  _ ey539 n (by omega) (fun r er => by cases er) (fun y  ey => ?_)
                    cases ey
                    refine seqQ.n ?_
                    refine Wp.seq' (by kernel_rfl) ?_
                    refine Wp.region (by kernel_rfl) ?_
                    refine Ops.seg' 1 1 (by kernel_rfl) ?_
                    refine Ops.done (by kernel_rfl) ?_
                    refine seqQ.n ?_
                    have J24j542 : ∀ (v541 : (List Int)) , f24_j8 m v378 v541 = some sx386 → (blkQ (X24 n) 5 [1, 4, 5, 12, 74, 75, 76] 7 (seqQ (X24 n) (cR (cR (cR (cL (cL (cR (cL (cR (cR (cR (cR (cR (cR C24))))))))))))) (lpQ (X24 n) [1, 4, 5, 12, 74, 75, 76] 5 (cL (cL (cR (cL (cR (cR (cR (cR (cR (cR C24)))))))))) nx381 (blkQ (X24 n) 4 [4, 5, 12] 5 (seqQ (X24 n) (cR (cR (cR (cR (cR (cR (cR C24))))))) (fnQ (X24 n).E.T (resOf Proofs.Tryd.prog 24) (.tuple [(eL eI) o.1, e27 o.2]))))))) .normal ⟨q1 ((dP e41 a1) :: q2 ((.v (.sl .nil (List.map eI []))) :: (.ptr 0 0) :: q6 ((appD 9 (List.map eI v541)) :: q40 (q21 ((dP e23 a0) :: (dI ((a0.length : Int))) :: (dI v378) :: q40 (q7 [])))))), [(.cells [(dI 0), (dI 0)]), .dead, .dead, .dead, .dead, .dead, .dead, (.cells [(.v (.str v390.fName)), (dP e67 v390.fCells)]), .dead, (appO 1 (List.map eI v541))]⟩ := by
                      intro v541  h
                      unfold f24_j8 at h
                      refine blkQ.n ⟨q1 ((dP e41 a1) :: q2 ((.v (.sl .nil (List.map eI []))) :: (.ptr 0 0) :: q6 ((appD 7 (List.map eI v541)) :: q40 (q21 ((dP e23 a0) :: (dI ((a0.length : Int))) :: (dI v378) :: q40 (q7 [])))))), [(.cells [(dI 0), (dI 0)]), .dead, .dead, .dead, .dead, .dead, .dead, (appO 1 (List.map eI v541))]⟩ (by generalize v541 = z0; cases z0 <;> kernel_rfl) ?_
                      exact J24j389 v541  h
                    refine Wp.cnd h [1, 4, 5, 12, 74, 75, 76] 9 (by kernel_rfl) (fun h => ?_) (fun h => ?_)
                    · refine Wp.region (by kernel_rfl) ?_
                      refine Ops.seg' 3 3 (by kernel_rfl) ?_
                      obtain ⟨v543, ev543, h⟩ := bnd_some h
                      refine Ops.one' 4 (fun h0 e0 => (app_r (T := T) (g := .nil) h0 44 3 8 1 ti3 .nonfull eI v377 [v378] v543 ev543 (by kernel_rfl) (by kernel_rfl) (by kernel_rfl) (by kernel_rfl) (fun _ => rfl) (hq_of e0 (by kernel_rfl)))) (by kernel_rfl) (by kernel_rfl) ?_
                      refine Ops.seg' 1 5 (by kernel_rfl) ?_
                      refine Ops.done (by kernel_rfl) ?_
                      refine sqQ.n ⟨q1 ((dP e41 a1) :: q2 ((.v (.sl .nil (List.map eI []))) :: (.ptr 0 0) :: q6 ((appD 9 (List.map eI v543)) :: q40 (q21 ((dP e23 a0) :: (dI ((a0.length : Int))) :: (dI v378) :: q40 (q7 [])))))), [(.cells [(dI 0), (dI 0)]), .dead, .dead, .dead, .dead, .dead, .dead, (.cells [(.v (.str v390.fName)), (dP e67 v390.fCells)]), .dead, (appO 1 (List.map eI v543))]⟩ (by generalize v543 = z0; cases z0 <;> kernel_rfl) ?_
                      exact J24j542 v543  h
                    · refine Wp.skip (by kernel_rfl) ?_
                      refine sqQ.n ⟨q1 ((dP e41 a1) :: q2 ((.v (.sl .nil (List.map eI []))) :: (.ptr 0 0) :: q6 ((appD 9 (List.map eI v377)) :: q40 (q21 ((dP e23 a0) :: (dI ((a0.length : Int))) :: (dI v378) :: q40 (q7 [])))))), [(.cells [(dI 0), (dI 0)]), .dead, .dead, .dead, .dead, .dead, .dead, (.cells [(.v (.str v390.fName)), (dP e67 v390.fCells)]), .dead, (appO 1 (List.map eI v377))]⟩ (by generalize v377 = z0; cases z0 <;> kernel_rfl) ?_
                      exact J24j542 v377  h
                · refine Wp.exit (id := 4) (by kernel_rfl) ?_
                  refine sqQ.x ?_
                  refine seqQ.x ?_
                  cases h
                  refine lpQ.x ?_
                  refine blkQ.x ⟨q4 ((.v (.sl .nil (List.map eI []))) :: (.ptr 0 0) :: q6 ((appD 5 (List.map eI v377)) :: q40 (q40 (q31 [])))), [(.cells [(dI 0), (dI 0)]), .dead, .dead, .dead, .dead, (appO 1 (List.map eI v377))]⟩ (by generalize v377 = z0; cases z0 <;> kernel_rfl) ?_
                  exact hxx384 (v377, v378)  hsx387
            refine Wp.loop' [1, 4, 5, 12, 74, 75, 76] 5 (by kernel_rfl) ⟨q1 ((dP e41 a1) :: q2 ((.v (.sl .nil (List.map eI []))) :: (.ptr 0 0) :: q6 ((appD 5 (List.map eI [])) :: q40 (q21 ((dP e23 a0) :: (dI ((a0.length : Int))) :: (dI 0) :: q40 (q7 [])))))), [(.cells [(dI 0), (dI 0)]), .dead, .dead, .dead, .dead, .dead]⟩ (by kernel_rfl) ?_
            rcases brk_some h with ⟨r546, er546, h⟩ | ⟨y545, ey545, h⟩
            · refine hLx544 _ [] 0  _ er546 n (by omega) (fun r er σ hσ => ?_) (fun y  ey => by cases ey)
              cases er
              refine seqQ.r ?_
              exact fnQ.r' (X24 n) (fun z => (.tuple [(eL eI) z.1, e27 z.2])) h hσ
            · refine hLx544 _ [] 0  _ ey545 n (by omega) (fun r er => by cases er) (fun y  ey => ?_)
              cases ey
              refine seqQ.n ?_
              refine Wp.seq' (by kernel_rfl) ?_
              refine Wp.region (by kernel_rfl) ?_
              refine Ops.seg' 4 4 (by kernel_rfl) ?_
              refine Ops.done (by kernel_rfl) ?_
              refine seqQ.n ?_
              refine Wp.ret (by kernel_rfl) ?_
              exact fnQ.r' (X24 n) (fun z => (.tuple [(eL eI) z.1, e27 z.2])) h (RetOk.tup [(appD 5 (List.map eI y545.1)), (.v (.agg [(vI 0), (vI 0)]))] (by kernel_rfl) (.d (appD 5 (List.map eI y545.1)) _ (appD_frz _ _ _ _) (appF_nt _ _ _) (.v (.agg [(vI 0), (vI 0)]) _ (by kernel_rfl) (by kernel_rfl) .nil)))
      have G24g26 : ∀ v25 : Bool, f24_r10 m a0 a1 ((v25 || (decide ((a1.length : Int) > 300)))) = some o → Ops (X24 n) (opl (cL (cL (cR (cR (cR C24)))))) 4 ⟨(dP e23 a0) :: (dP e41 a1) :: q2 ((.v (.sl .nil (List.map eI []))) :: (.ptr 0 0) :: q37 ((dP e41 a1) :: (dI ((a1.length : Int))) :: (dB v25) :: (dB v25) :: q40 (q37 []))), [(.cells [(dI 0), (dI 0)]), .dead, .dead]⟩ ((seqQ (X24 n) (cR (cL (cR (cR (cR C24))))) (seqQ (X24 n) (cR (cR (cR (cR C24)))) (fnQ (X24 n).E.T (resOf Proofs.Tryd.prog 24) (.tuple [(eL eI) o.1, e27 o.2])))) .normal) := by
        intro v25 h
        cases v25
        · refine Ops.seg' 1 5 (by kernel_rfl) ?_
          refine Ops.one' 6 (fun h0 e0 => (len_r (T := T) h0 26 42 .plain e41 a1 (by kernel_rfl))) (by kernel_rfl) (by kernel_rfl) ?_
          refine Ops.seg' 2 8 (by kernel_rfl) ?_
          refine Ops.st ⟨(dP e23 a0) :: (dP e41 a1) :: q2 ((.v (.sl .nil (List.map eI []))) :: (.ptr 0 0) :: q37 ((dP e41 a1) :: (dI ((a1.length : Int))) :: (dB false) :: (dB false) :: (dP e41 a1) :: (dI ((a1.length : Int))) :: (dB (decide ((a1.length : Int) > 300))) :: (dB (decide ((a1.length : Int) > 300))) :: q40 (q33 []))), [(.cells [(dI 0), (dI 0)]), .dead, .dead]⟩ (by kernel_rfl) ?_
          exact J24j32 _ _ _ _ _ h
        · refine Ops.seg' 4 8 (by kernel_rfl) ?_
          refine Ops.st ⟨(dP e23 a0) :: (dP e41 a1) :: q2 ((.v (.sl .nil (List.map eI []))) :: (.ptr 0 0) :: q37 ((dP e41 a1) :: (dI ((a1.length : Int))) :: (dB true) :: (dB true) :: u3 ((dB true) :: q40 (q33 [])))), [(.cells [(dI 0), (dI 0)]), .dead, .dead]⟩ (by kernel_rfl) ?_
          exact J24j32 _ _ _ _ _ h
      exact Ops.st ⟨(dP e23 a0) :: (dP e41 a1) :: q2 ((.v (.sl .nil (List.map eI []))) :: (.ptr 0 0) :: q37 ((dP e41 a1) :: (dI ((a1.length : Int))) :: (dB ((((a1.length : Int)) == 0))) :: (dB ((((a1.length : Int)) == 0))) :: q40 (q37 []))), [(.cells [(dI 0), (dI 0)]), .dead, .dead]⟩ (by kernel_rfl) (G24g26 (((a1.length : Int)) == 0) h)

/-! ### 25 glosswright/glosswrightequal.Numbers -/
def f25_B1 (m : Nat) (a0 : (List Int)) (a1 : (List Int)) (v6 : Int) : Option (Stp Bool (Int)) :=
  cnd (decide (v6 < (a0.length : Int)))
  (bnd (idx a0 v6) fun v16 =>
  bnd (idx a1 v6) fun v17 =>
  cnd (v16 != v17)
  (some (.ret false))
  (some (.nxt (w64 (v6 + 1)))))
  (some (.brk v6))
def f25 (m : Nat) (a0 : (List Int)) (a1 : (List Int)) : Option Bool :=
  cnd (((a0.length : Int)) != ((a1.length : Int)))
  (some false)
  (brk (iter (fun (y : Int) => f25_B1 m a0 a1 y) m 0) some fun y19 =>
  some true)
noncomputable abbrev X25 (n : Nat) : Cx := cxOf Proofs.Tryd.prog E 25 n
noncomputable def C25 : Code := bodyOf Proofs.Tryd.prog 25
theorem ok25 (m : Nat) (a0 : (List Int)) (a1 : (List Int)) (o : Bool) (h : f25 m a0 a1 = some o) (n : Nat) (hn : m + 1 ≤ n) : Fn Proofs.Tryd.prog E n 25 [.v ((eL eI) a0), .v ((eL eI) a1)] (eB o) := by
  obtain ⟨n, rfl⟩ : ∃ q, n = q + 1 := ⟨n - 1, by omega⟩
  unfold f25 at h
  refine Fn.of (by kernel_rfl) (by kernel_rfl) (by kernel_rfl) ⟨(dP eI a0) :: (dP eI a1) :: u24 [], []⟩ (by kernel_rfl) ?_
  refine Wp.seq' (by kernel_rfl) ?_
  refine Wp.region (by kernel_rfl) ?_
  refine Ops.seg' 1 1 (by kernel_rfl) ?_
  refine Ops.done (by kernel_rfl) ?_
  refine seqQ.n ?_
  refine Wp.seq' (by kernel_rfl) ?_
  refine Wp.seq' (by kernel_rfl) ?_
  refine Wp.region (by kernel_rfl) ?_
  refine Ops.seg' 1 1 (by kernel_rfl) ?_
  refine Ops.one' 2 (fun h0 e0 => (len_r (T := T) h0 44 3 .plain eI a0 (by kernel_rfl))) (by kernel_rfl) (by kernel_rfl) ?_
  refine Ops.seg' 1 3 (by kernel_rfl) ?_
  refine Ops.one' 4 (fun h0 e0 => (len_r (T := T) h0 44 3 .plain eI a1 (by kernel_rfl))) (by kernel_rfl) (by kernel_rfl) ?_
  refine Ops.seg' 1 5 (by kernel_rfl) ?_
  refine Ops.done (by kernel_rfl) ?_
  refine seqQ.n ?_
  refine Wp.cnd h [0, 1, 4] 0 (by kernel_rfl) (fun h => ?_) (fun h => ?_)
  · refine Wp.seq' (by kernel_rfl) ?_
    refine Wp.region (by kernel_rfl) ?_
    refine Ops.seg' 1 1 (by kernel_rfl) ?_
    refine Ops.done (by kernel_rfl) ?_
    refine seqQ.n ?_
    refine Wp.ret (by kernel_rfl) ?_
    refine sqQ.r ?_
    refine seqQ.r ?_
    exact fnQ.r' (X25 n) (fun z => (eB z)) h (RetOk.mk' (dB false) (by kernel_rfl) (by kernel_rfl))
  · refine Wp.skip (by kernel_rfl) ?_
    refine sqQ.n' ?_
    refine seqQ.n ?_
    refine Wp.seq' (by kernel_rfl) ?_
    refine Wp.seq' (by kernel_rfl) ?_
    refine Wp.region (by kernel_rfl) ?_
    refine Ops.seg' 1 1 (by kernel_rfl) ?_
    refine Ops.one' 2 (fun h0 e0 => (len_r (T := T) h0 44 3 .plain eI a0 (by kernel_rfl))) (by kernel_rfl) (by kernel_rfl) ?_
    refine Ops.seg' 1 3 (by kernel_rfl) ?_
    refine Ops.done (by kernel_rfl) ?_
    refine seqQ.n ?_
    refine Wp.block' 0 [4] 0 (by kernel_rfl) ?_
    have hLx18 : ∀ (kx8 : Nat) (v6 : Int)  (ox7 : Bool ⊕ (Int)), iter (fun (y : Int) => f25_B1 m a0 a1 y) kx8 v6 = some ox7 → ∀ nx9, kx8 ≤ nx9 → (∀ r, ox7 = .inl r → ∀ σ, RetOk (X25 n) (resOf Proofs.Tryd.prog 25) (eB r) σ → (seqQ (X25 n) (cR (cR (cR C25))) (fnQ (X25 n).E.T (resOf Proofs.Tryd.prog 25) (eB o))) .ret σ) → (∀ (y : Int) , ox7 = .inr y → (seqQ (X25 n) (cR (cR (cR C25))) (fnQ (X25 n).E.T (resOf Proofs.Tryd.prog 25) (eB o))) .normal ⟨(dP eI a0) :: (dP eI a1) :: q2 ((dB false) :: q7 ((dI ((a0.length : Int))) :: (dI y) :: q12 [])), []⟩) → Lp (X25 n) [0, 1, 4, 12, 13] 0 (cL (cL (cR (cL (cR (cR C25)))))) nx9 ⟨(dP eI a0) :: (dP eI a1) :: q2 ((dB false) :: q7 ((dI ((a0.length : Int))) :: (dI v6) :: q12 [])), []⟩ (blkQ (X25 n) 0 [4] 0 (seqQ (X25 n) (cR (cR (cR C25))) (fnQ (X25 n).E.T (resOf Proofs.Tryd.prog 25) (eB o)))) := by
      intro kx8
      induction kx8 with
      | zero => intro v6  ox7 h; exact (iter_zero h).elim
      | succ kx8 ihx10 =>
        intro v6  ox7 h nx9 hnx13 hrx11 hxx12
        obtain ⟨nx9, rfl⟩ : ∃ q, nx9 = q + 1 := ⟨nx9 - 1, by omega⟩
        obtain ⟨sx14, h, hsx15⟩ := iter_some h
        have h : f25_B1 m a0 a1 v6 = some sx14 := h
        unfold f25_B1 at h
        refine Lp.succ ?_
        refine Wp.seq' (by kernel_rfl) ?_
        refine Wp.region (by kernel_rfl) ?_
        refine Ops.seg' 1 1 (by kernel_rfl) ?_
        refine Ops.done (by kernel_rfl) ?_
        refine seqQ.n ?_
        refine Wp.seq' (by kernel_rfl) ?_
        refine Wp.cnd h [0, 1, 4, 12, 13] 0 (by kernel_rfl) (fun h => ?_) (fun h => ?_)
        · refine Wp.skip (by kernel_rfl) ?_
          refine sqQ.n' ?_
          refine seqQ.n ?_
          refine Wp.seq' (by kernel_rfl) ?_
          refine Wp.block' 1 [0, 1, 4, 12, 13] 0 (by kernel_rfl) ?_
          refine Wp.seq' (by kernel_rfl) ?_
          refine Wp.region (by kernel_rfl) ?_
          refine Ops.seg' 2 2 (by kernel_rfl) ?_
          refine Ops.done (by kernel_rfl) ?_
          refine seqQ.n ?_
          refine Wp.seq' (by kernel_rfl) ?_
          refine Wp.region (by kernel_rfl) ?_
          refine Ops.seg' 2 2 (by kernel_rfl) ?_
          obtain ⟨v16, ev16, h⟩ := bnd_some h
          refine Ops.one' 3 (fun h0 e0 => (ix_r (T := T) h0 44 3 1 .plain eI a0 v6 v16 ev16 (by kernel_rfl) (by kernel_rfl) (fun _ => rfl))) (by kernel_rfl) (by kernel_rfl) ?_
          refine Ops.seg' 3 6 (by kernel_rfl) ?_
          obtain ⟨v17, ev17, h⟩ := bnd_some h
          refine Ops.one' 7 (fun h0 e0 => (ix_r (T := T) h0 44 3 1 .plain eI a1 v6 v17 ev17 (by kernel_rfl) (by kernel_rfl) (fun _ => rfl))) (by kernel_rfl) (by kernel_rfl) ?_
          refine Ops.seg' 2 9 (by kernel_rfl) ?_
          refine Ops.done (by kernel_rfl) ?_
          refine seqQ.n ?_
          refine Wp.cnd h [0, 1, 4, 12, 13] 0 (by kernel_rfl) (fun h => ?_) (fun h => ?_)
          · refine Wp.seq' (by kernel_rfl) ?_
            refine Wp.region (by kernel_rfl) ?_
            refine Ops.seg' 1 1 (by kernel_rfl) ?_
            refine Ops.done (by kernel_rfl) ?_
            refine seqQ.n ?_
            refine Wp.ret (by kernel_rfl) ?_
            refine sqQ.r ?_
            refine blkQ.r ?_
            refine seqQ.r ?_
            cases h
            refine lpQ.r ?_
            refine blkQ.r ?_
            exact hrx11 _ hsx15 _ (RetOk.forget [0, 1, 4, 12, 13] (by kernel_rfl) (RetOk.mk' (dB false) (by kernel_rfl) (by kernel_rfl)))
          · refine Wp.skip (by kernel_rfl) ?_
            refine sqQ.n' ?_
            refine blkQ.n' ?_
            refine seqQ.n ?_
            refine Wp.region (by kernel_rfl) ?_
            refine Ops.seg' 2 2 (by kernel_rfl) ?_
            refine Ops.done (by kernel_rfl) ?_
            refine lpQ.n ⟨(dP eI a0) :: (dP eI a1) :: q2 ((dB false) :: q7 ((dI ((a0.length : Int))) :: (dI (w64 (v6 + 1))) :: q12 [])), []⟩ (by kernel_rfl) ?_
            cases h
            exact ihx10 (w64 (v6 + 1))  _ hsx15 _ (by omega) hrx11 hxx12
        · refine Wp.exit (id := 0) (by kernel_rfl) ?_
          refine sqQ.x ?_
          refine seqQ.x ?_
          cases h
          refine lpQ.x ?_
          refine blkQ.x ⟨(dP eI a0) :: (dP eI a1) :: q2 ((dB false) :: q7 ((dI ((a0.length : Int))) :: (dI v6) :: q12 [])), []⟩ (by kernel_rfl) ?_
          exact hxx12 v6  hsx15
    refine Wp.loop' [0, 1, 4, 12, 13] 0 (by kernel_rfl) ⟨(dP eI a0) :: (dP eI a1) :: q2 ((dB false) :: q7 ((dI ((a0.length : Int))) :: (dI 0) :: q12 [])), []⟩ (by kernel_rfl) ?_
    rcases brk_some h with ⟨r20, er20, h⟩ | ⟨y19, ey19, h⟩
    · refine hLx18 _ 0  _ er20 n (by omega) (fun r er σ hσ => ?_) (fun y  ey => by cases ey)
      cases er
      refine seqQ.r ?_
      exact fnQ.r' (X25 n) (fun z => (eB z)) h hσ
    · refine hLx18 _ 0  _ ey19 n (by omega) (fun r er => by cases er) (fun y  ey => ?_)
      cases ey
      refine seqQ.n ?_
      refine Wp.seq' (by kernel_rfl) ?_
      refine Wp.region (by kernel_rfl) ?_
      refine Ops.seg' 1 1 (by kernel_rfl) ?_
      refine Ops.done (by kernel_rfl) ?_
      refine seqQ.n ?_
      refine Wp.ret (by kernel_rfl) ?_
      exact fnQ.r' (X25 n) (fun z => (eB z)) h (RetOk.mk' (dB true) (by kernel_rfl) (by kernel_rfl))

/-! ### 7 glosswright/glosswrightlaw6.ParadigmClassMatchesSpec -/
def f7_r1 (m : Nat) (v10 : Bool) : Option Bool :=
  some v10
def f7 (m : Nat) (a0 : (List S23)) (a1 : (List S41)) : Option Bool :=
  bnd (f22 m ) fun v1 =>
  cnd (!v1)
  (some false)
  (bnd (f23 m a0 a1) fun v2 =>
  bnd (f24 m a0 a1) fun v3 =>
  bnd (cnd (((v2.2.fCode == v3.2.fCode) && ((v2.2.fIndex == v3.2.fIndex) && true)))
  (bnd (f25 m v2.1 v3.1) fun v12 =>
  some v12)
  (some false)) fun v10 =>
  f7_r1 m v10)
noncomputable abbrev X7 (n : Nat) : Cx := cxOf Proofs.Tryd.prog E 7 n
noncomputable def C7 : Code := bodyOf Proofs.Tryd.prog 7
theorem ok7 (m : Nat) (a0 : (List S23)) (a1 : (List S41)) (o : Bool) (h : f7 m a0 a1 = some o) (n : Nat) (hn : m + 10 ≤ n) : Fn Proofs.Tryd.prog E n 7 [.v ((eL e23) a0), .v ((eL e41) a1)] (eB o) := by
  obtain ⟨n, rfl⟩ : ∃ q, n = q + 1 := ⟨n - 1, by omega⟩
  unfold f7 at h
  refine Fn.of (by kernel_rfl) (by kernel_rfl) (by kernel_rfl) ⟨(dP e23 a0) :: (dP e41 a1) :: u29 [], []⟩ (by kernel_rfl) ?_
  refine Wp.seq' (by kernel_rfl) ?_
  refine Wp.region (by kernel_rfl) ?_
  refine Ops.seg' 1 1 (by kernel_rfl) ?_
  refine Ops.done (by kernel_rfl) ?_
  refine seqQ.n ?_
  refine Wp.seq' (by kernel_rfl) ?_
  refine Wp.seq' (by kernel_rfl) ?_
  refine Wp.region (by kernel_rfl) ?_
  obtain ⟨v1, ev1, h⟩ := bnd_some h
  refine Ops.one' 1 (fun h0 e0 => (call_ok (E' := E) (h := h0) (by kernel_rfl) Args.nil (ok22 m  v1 ev1 n (by omega)))) (by kernel_rfl) (by kernel_rfl) ?_
  refine Ops.seg' 1 2 (by kernel_rfl) ?_
  refine Ops.done (by kernel_rfl) ?_
  refine seqQ.n ?_
  refine Wp.cnd h [0, 1, 4] 0 (by kernel_rfl) (fun h => ?_) (fun h => ?_)
  · refine Wp.seq' (by kernel_rfl) ?_
    refine Wp.region (by kernel_rfl) ?_
    refine Ops.seg' 1 1 (by kernel_rfl) ?_
    refine Ops.done (by kernel_rfl) ?_
    refine seqQ.n ?_
    refine Wp.ret (by kernel_rfl) ?_
    refine sqQ.r ?_
    refine seqQ.r ?_
    exact fnQ.r' (X7 n) (fun z => (eB z)) h (RetOk.mk' (dB false) (by kernel_rfl) (by kernel_rfl))
  · refine Wp.skip (by kernel_rfl) ?_
    refine sqQ.n' ?_
    refine seqQ.n ?_
    refine Wp.seq' (by kernel_rfl) ?_
    refine Wp.region (by kernel_rfl) ?_
    refine Ops.seg' 2 2 (by kernel_rfl) ?_
    obtain ⟨v2, ev2, h⟩ := bnd_some h
    refine Ops.one' 3 (fun h0 e0 => (call_ok (E' := E) (h := h0) (by kernel_rfl) (Args.v (vP e23 a0) ((eL e23) a0) (by kernel_rfl) (Args.v (vP e41 a1) ((eL e41) a1) (by kernel_rfl) Args.nil)) (ok23 m a0 a1 v2 ev2 n (by omega)))) (by kernel_rfl) (by kernel_rfl) ?_
    refine Ops.seg' 6 9 (by kernel_rfl) ?_
    refine Ops.done (by kernel_rfl) ?_
    refine seqQ.n ?_
    refine Wp.seq' (by kernel_rfl) ?_
    refine Wp.region (by kernel_rfl) ?_
    refine Ops.seg' 2 2 (by kernel_rfl) ?_
    obtain ⟨v3, ev3, h⟩ := bnd_some h
    refine Ops.one' 3 (fun h0 e0 => (call_ok (E' := E) (h := h0) (by kernel_rfl) (Args.v (vP e23 a0) ((eL e23) a0) (by kernel_rfl) (Args.v (vP e41 a1) ((eL e41) a1) (by kernel_rfl) Args.nil)) (ok24 m a0 a1 v3 ev3 n (by omega)))) (by kernel_rfl) (by kernel_rfl) ?_
    refine Ops.seg' 6 9 (by kernel_rfl) ?_
    refine Ops.done (by kernel_rfl) ?_
    refine seqQ.n ?_
    refine Wp.seq' (by kernel_rfl) ?_
    refine Wp.region (by kernel_rfl) ?_
    refine Ops.seg' 4 4 (by kernel_rfl) ?_
    have J7j11 : ∀ (d6 d7 d8 : D) (v9 : Bool) (v10 : Bool), f7_r1 m v10 = some o → Ops (X7 n) (opl (cL (cR (cR (cR (cR C7)))))) 8 ⟨(dP e23 a0) :: (dP e41 a1) :: u2 ((dB false) :: (dP eI v2.1) :: (.ptr 0 0) :: (dP eI v3.1) :: (.ptr 1 0) :: (dB v1) :: (dB (!v1)) :: (.v (.tuple [(vP eI v2.1), (.agg [(vI v2.2.fCode), (vI v2.2.fIndex)])])) :: (dP e23 a0) :: (dP e41 a1) :: (.v (.tuple [(vP eI v2.1), (.agg [(vI v2.2.fCode), (vI v2.2.fIndex)])])) :: (dP eI v2.1) :: (.v (.agg [(vI v2.2.fCode), (vI v2.2.fIndex)])) :: (.v (.tuple [(vP eI v3.1), (.agg [(vI v3.2.fCode), (vI v3.2.fIndex)])])) :: (dP e23 a0) :: (dP e41 a1) :: (.v (.tuple [(vP eI v3.1), (.agg [(vI v3.2.fCode), (vI v3.2.fIndex)])])) :: (dP eI v3.1) :: (.v (.agg [(vI v3.2.fCode), (vI v3.2.fIndex)])) :: (.v (.agg [(vI v2.2.fCode), (vI v2.2.fIndex)])) :: (.v (.agg [(vI v3.2.fCode), (vI v3.2.fIndex)])) :: (dB v9) :: (dB v9) :: d6 :: d7 :: d8 :: (dB v10) :: []), [(.cells [(dI v2.2.fCode), (dI v2.2.fIndex)]), (.cells [(dI v3.2.fCode), (dI v3.2.fIndex)])]⟩ ((seqQ (X7 n) (cR (cR (cR (cR (cR C7))))) (fnQ (X7 n).E.T (resOf Proofs.Tryd.prog 7) (eB o))) .normal) := by
      intro d6 d7 d8 v9 v10 h
      unfold f7_r1 at h
      refine Ops.seg' 1 9 (by kernel_rfl) ?_
      refine Ops.done (by kernel_rfl) ?_
      refine seqQ.n ?_
      refine Wp.ret (by kernel_rfl) ?_
      exact fnQ.r' (X7 n) (fun z => (eB z)) h (RetOk.mk' (dB v10) (by kernel_rfl) (by kernel_rfl))
    obtain ⟨v10, ev10, h⟩ := bnd_some h
    have G7g5 : ∀ v4 : Bool, (cnd v4 (bnd (f25 m v2.1 v3.1) fun v12 => some v12) (some false)) = some v10 → Ops (X7 n) (opl (cL (cR (cR (cR (cR C7)))))) 4 ⟨(dP e23 a0) :: (dP e41 a1) :: u2 ((dB false) :: (dP eI v2.1) :: (.ptr 0 0) :: (dP eI v3.1) :: (.ptr 1 0) :: (dB v1) :: (dB (!v1)) :: (.v (.tuple [(vP eI v2.1), (.agg [(vI v2.2.fCode), (vI v2.2.fIndex)])])) :: (dP e23 a0) :: (dP e41 a1) :: (.v (.tuple [(vP eI v2.1), (.agg [(vI v2.2.fCode), (vI v2.2.fIndex)])])) :: (dP eI v2.1) :: (.v (.agg [(vI v2.2.fCode), (vI v2.2.fIndex)])) :: (.v (.tuple [(vP eI v3.1), (.agg [(vI v3.2.fCode), (vI v3.2.fIndex)])])) :: (dP e23 a0) :: (dP e41 a1) :: (.v (.tuple [(vP eI v3.1), (.agg [(vI v3.2.fCode), (vI v3.2.fIndex)])])) :: (dP eI v3.1) :: (.v (.agg [(vI v3.2.fCode), (vI v3.2.fIndex)])) :: (.v (.agg [(vI v2.2.fCode), (vI v2.2.fIndex)])) :: (.v (.agg [(vI v3.2.fCode), (vI v3.2.fIndex)])) :: (dB v4) :: (dB v4) :: u4 []), [(.cells [(dI v2.2.fCode), (dI v2.2.fIndex)]), (.cells [(dI v3.2.fCode), (dI v3.2.fIndex)])]⟩ ((seqQ (X7 n) (cR (cR (cR (cR (cR C7))))) (fnQ (X7 n).E.T (resOf Proofs.Tryd.prog 7) (eB o))) .normal) := by
      intro v4 ev10
      cases v4
      · have ev10 := cnd_f ev10
        refine Ops.seg' 4 8 (by kernel_rfl) ?_
        refine Ops.st ⟨(dP e23 a0) :: (dP e41 a1) :: u2 ((dB false) :: (dP eI v2.1) :: (.ptr 0 0) :: (dP eI v3.1) :: (.ptr 1 0) :: (dB v1) :: (dB (!v1)) :: (.v (.tuple [(vP eI v2.1), (.agg [(vI v2.2.fCode), (vI v2.2.fIndex)])])) :: (dP e23 a0) :: (dP e41 a1) :: (.v (.tuple [(vP eI v2.1), (.agg [(vI v2.2.fCode), (vI v2.2.fIndex)])])) :: (dP eI v2.1) :: (.v (.agg [(vI v2.2.fCode), (vI v2.2.fIndex)])) :: (.v (.tuple [(vP eI v3.1), (.agg [(vI v3.2.fCode), (vI v3.2.fIndex)])])) :: (dP e23 a0) :: (dP e41 a1) :: (.v (.tuple [(vP eI v3.1), (.agg [(vI v3.2.fCode), (vI v3.2.fIndex)])])) :: (dP eI v3.1) :: (.v (.agg [(vI v3.2.fCode), (vI v3.2.fIndex)])) :: (.v (.agg [(vI v2.2.fCode), (vI v2.2.fIndex)])) :: (.v (.agg [(vI v3.2.fCode), (vI v3.2.fIndex)])) :: (dB false) :: (dB false) :: u3 ((dB false) :: [])), [(.cells [(dI v2.2.fCode), (dI v2.2.fIndex)]), (.cells [(dI v3.2.fCode), (dI v3.2.fIndex)])]⟩ (by kernel_rfl) ?_
        exact J7j11 _ _ _ _ _ (some_sub (fun v10 => f7_r1 m v10 = some o) ev10 h)
      · have ev10 := cnd_t ev10
        refine Ops.seg' 2 6 (by kernel_rfl) ?_
        obtain ⟨v12, ev12, ev10⟩ := bnd_some ev10
        refine Ops.one' 7 (fun h0 e0 => (call_ok (E' := E) (h := h0) (by kernel_rfl) (Args.v (vP eI v2.1) ((eL eI) v2.1) (by kernel_rfl) (Args.v (vP eI v3.1) ((eL eI) v3.1) (by kernel_rfl) Args.nil)) (ok25 m v2.1 v3.1 v12 ev12 n (by omega)))) (by kernel_rfl) (by kernel_rfl) ?_
        refine Ops.seg' 1 8 (by kernel_rfl) ?_
        refine Ops.st ⟨(dP e23 a0) :: (dP e41 a1) :: u2 ((dB false) :: (dP eI v2.1) :: (.ptr 0 0) :: (dP eI v3.1) :: (.ptr 1 0) :: (dB v1) :: (dB (!v1)) :: (.v (.tuple [(vP eI v2.1), (.agg [(vI v2.2.fCode), (vI v2.2.fIndex)])])) :: (dP e23 a0) :: (dP e41 a1) :: (.v (.tuple [(vP eI v2.1), (.agg [(vI v2.2.fCode), (vI v2.2.fIndex)])])) :: (dP eI v2.1) :: (.v (.agg [(vI v2.2.fCode), (vI v2.2.fIndex)])) :: (.v (.tuple [(vP eI v3.1), (.agg [(vI v3.2.fCode), (vI v3.2.fIndex)])])) :: (dP e23 a0) :: (dP e41 a1) :: (.v (.tuple [(vP eI v3.1), (.agg [(vI v3.2.fCode), (vI v3.2.fIndex)])])) :: (dP eI v3.1) :: (.v (.agg [(vI v3.2.fCode), (vI v3.2.fIndex)])) :: (.v (.agg [(vI v2.2.fCode), (vI v2.2.fIndex)])) :: (.v (.agg [(vI v3.2.fCode), (vI v3.2.fIndex)])) :: (dB true) :: (dB true) :: (dP eI v2.1) :: (dP eI v3.1) :: (dB v12) :: (dB v12) :: []), [(.cells [(dI v2.2.fCode), (dI v2.2.fIndex)]), (.cells [(dI v3.2.fCode), (dI v3.2.fIndex)])]⟩ (by kernel_rfl) ?_
        exact J7j11 _ _ _ _ _ (some_sub (fun v10 => f7_r1 m v10 = some o) ev10 h)
    exact Ops.st ⟨(dP e23 a0) :: (dP e41 a1) :: u2 ((dB false) :: (dP eI v2.1) :: (.ptr 0 0) :: (dP eI v3.1) :: (.ptr 1 0) :: (dB v1) :: (dB (!v1)) :: (.v (.tuple [(vP eI v2.1), (.agg [(vI v2.2.fCode), (vI v2.2.fIndex)])])) :: (dP e23 a0) :: (dP e41 a1) :: (.v (.tuple [(vP eI v2.1), (.agg [(vI v2.2.fCode), (vI v2.2.fIndex)])])) :: (dP eI v2.1) :: (.v (.agg [(vI v2.2.fCode), (vI v2.2.fIndex)])) :: (.v (.tuple [(vP eI v3.1), (.agg [(vI v3.2.fCode), (vI v3.2.fIndex)])])) :: (dP e23 a0) :: (dP e41 a1) :: (.v (.tuple [(vP eI v3.1), (.agg [(vI v3.2.fCode), (vI v3.2.fIndex)])])) :: (dP eI v3.1) :: (.v (.agg [(vI v3.2.fCode), (vI v3.2.fIndex)])) :: (.v (.agg [(vI v2.2.fCode), (vI v2.2.fIndex)])) :: (.v (.agg [(vI v3.2.fCode), (vI v3.2.fIndex)])) :: (dB ((((v2.2.fCode == v3.2.fCode) && ((v2.2.fIndex == v3.2.fIndex) && true))))) :: (dB ((((v2.2.fCode == v3.2.fCode) && ((v2.2.fIndex == v3.2.fIndex) && true))))) :: u4 []), [(.cells [(dI v2.2.fCode), (dI v2.2.fIndex)]), (.cells [(dI v3.2.fCode), (dI v3.2.fIndex)])]⟩ (by kernel_rfl) (G7g5 (((v2.2.fCode == v3.2.fCode) && ((v2.2.fIndex == v3.2.fIndex) && true))) ev10)

end Go.Abs
