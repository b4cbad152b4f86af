import Derived.Test.YthjhdnonlkooiaaDoorWEnv
namespace Go.Abs
set_option linter.unusedVariables false
set_option maxRecDepth 100000

/-! ### 22 glosswright/glosswrightlaw6.classed -/
def f22 (m : Nat) : Option Bool := some true
theorem ok22 (m : Nat) (o : Bool) (h : f22 m = some o) (n : Nat) (hn : m + 1 ≤ n) : Fn Proofs.Tryd.prog E n 22 [] (eB o) := by
  cases h
  obtain ⟨n, rfl⟩ : ∃ q, n = q + 1 := ⟨n - 1, by omega⟩
  exact ora_fn (xs := []) (by kernel_rfl) (by kernel_rfl) (by kernel_rfl) (F := trueF) rfl rfl

/-! ### 33 glosswright/paradigm.fault -/
def f33 (m : Nat) (a0 : Int) (a1 : Int) : Option S27 :=
  some ((⟨a0, a1⟩ : S27))
noncomputable abbrev X33 (n : Nat) : Cx := cxOf Proofs.Tryd.prog E 33 n
noncomputable def C33 : Code := bodyOf Proofs.Tryd.prog 33
theorem ok33 (m : Nat) (a0 : Int) (a1 : Int) (o : S27) (h : f33 m a0 a1 = some o) (n : Nat) (hn : m + 1 ≤ n) : Fn Proofs.Tryd.prog E n 33 [.v (eI a0), .v (eI a1)] (e27 o) := by
  obtain ⟨n, rfl⟩ : ∃ q, n = q + 1 := ⟨n - 1, by omega⟩
  unfold f33 at h
  refine Fn.of (by kernel_rfl) (by kernel_rfl) (by kernel_rfl) ⟨(dI a0) :: (dI a1) :: u6 [], []⟩ (by kernel_rfl) ?_
  refine Wp.seq' (by kernel_rfl) ?_
  refine Wp.region (by kernel_rfl) ?_
  refine Ops.seg' 1 1 (by kernel_rfl) ?_
  refine Ops.done (by kernel_rfl) ?_
  refine seqQ.n ?_
  refine Wp.seq' (by kernel_rfl) ?_
  refine Wp.region (by kernel_rfl) ?_
  refine Ops.seg' 4 4 (by kernel_rfl) ?_
  refine Ops.done (by kernel_rfl) ?_
  refine seqQ.n ?_
  refine Wp.ret (by kernel_rfl) ?_
  exact fnQ.r' (X33 n) (fun z => (e27 z)) h (RetOk.mk' (.v (.agg [(vI a0), (vI a1)])) (by kernel_rfl) (by kernel_rfl))

/-! ### 39 glosswright/lexicon.Name -/
def f39_r1 (m : Nat) (v88 : Int) (v127 : Bool) : Option (Stp Bool (Int)) :=
  cnd v127
  (some (.ret false))
  (some (.nxt (w64 (v88 + 1))))
def f39_r2 (m : Nat) (v88 : Int) (v98 : Int) (v104 : Bool) : Option (Stp Bool (Int)) :=
  f39_r1 m v88 (((!v104) && (((v88 == 0) || (((v98 != 95) && (((v98 != 45) && (((decide (v98 < 48)) || (decide (v98 > 57))))))))))))
def f39_B3 (m : Nat) (a0 : ByteArray) (v88 : Int) : Option (Stp Bool (Int)) :=
  cnd (decide (v88 < (a0.size : Int)))
  (bnd (sidx a0 v88) fun v98 =>
  f39_r2 m v88 v98 (((decide (v98 ≥ 97)) && (decide (v98 ≤ 122)))))
  (some (.brk v88))
def f39_r4 (m : Nat) (a0 : ByteArray) (v7 : Bool) : Option Bool :=
  cnd v7
  (some false)
  (brk (iter (fun (y : Int) => f39_B3 m a0 y) m 0) some fun y138 =>
  some true)
def f39 (m : Nat) (a0 : ByteArray) : Option Bool :=
  f39_r4 m a0 (((decide ((a0.size : Int) < 1)) || (decide ((a0.size : Int) > 30))))
noncomputable abbrev X39 (n : Nat) : Cx := cxOf Proofs.Tryd.prog E 39 n
noncomputable def C39 : Code := bodyOf Proofs.Tryd.prog 39
theorem ok39 (m : Nat) (a0 : ByteArray) (o : Bool) (h : f39 m a0 = some o) (n : Nat) (hn : m + 1 ≤ n) : Fn Proofs.Tryd.prog E n 39 [.v (eS a0)] (eB o) := by
  obtain ⟨n, rfl⟩ : ∃ q, n = q + 1 := ⟨n - 1, by omega⟩
  unfold f39 at h
  refine Fn.of (by kernel_rfl) (by kernel_rfl) (by kernel_rfl) ⟨(.v (.str a0)) :: u40 (u10 []), []⟩ (by kernel_rfl) ?_
  refine Wp.seq' (by kernel_rfl) ?_
  refine Wp.region (by kernel_rfl) ?_
  refine Ops.seg' 1 1 (by kernel_rfl) ?_
  refine Ops.done (by kernel_rfl) ?_
  refine seqQ.n ?_
  refine Wp.seq' (by kernel_rfl) ?_
  refine Wp.seq' (by kernel_rfl) ?_
  refine Wp.region (by kernel_rfl) ?_
  refine Ops.seg' 4 4 (by kernel_rfl) ?_
  have J39j8 : ∀ (d3 d4 d5 : D) (v6 : Bool) (v7 : Bool), f39_r4 m a0 v7 = some o → Ops (X39 n) (opl (cL (cL (cR C39)))) 8 ⟨(.v (.str a0)) :: u1 ((dB false) :: u3 ((.v (.str a0)) :: (dI ((a0.size : Int))) :: (dB v6) :: (dB v6) :: d3 :: d4 :: d5 :: (dB v7) :: u37 [])), []⟩ ((seqQ (X39 n) (cR (cL (cR C39))) (seqQ (X39 n) (cR (cR C39)) (fnQ (X39 n).E.T (resOf Proofs.Tryd.prog 39) (eB o)))) .normal) := by
    intro d3 d4 d5 v6 v7 h
    unfold f39_r4 at h
    refine Ops.done (by kernel_rfl) ?_
    refine seqQ.n ?_
    refine Wp.cnd h [0, 2] 0 (by kernel_rfl) (fun h => ?_) (fun h => ?_)
    · refine Wp.seq' (by kernel_rfl) ?_
      refine Wp.region (by kernel_rfl) ?_
      refine Ops.seg' 1 1 (by kernel_rfl) ?_
      refine Ops.done (by kernel_rfl) ?_
      refine seqQ.n ?_
      refine Wp.ret (by kernel_rfl) ?_
      refine sqQ.r ?_
      refine seqQ.r ?_
      exact fnQ.r' (X39 n) (fun z => (eB z)) h (RetOk.mk' (dB false) (by kernel_rfl) (by kernel_rfl))
    · refine Wp.skip (by kernel_rfl) ?_
      refine sqQ.n' ?_
      refine seqQ.n ?_
      refine Wp.seq' (by kernel_rfl) ?_
      refine Wp.seq' (by kernel_rfl) ?_
      refine Wp.region (by kernel_rfl) ?_
      refine Ops.seg' 3 3 (by kernel_rfl) ?_
      refine Ops.done (by kernel_rfl) ?_
      refine seqQ.n ?_
      refine Wp.block' 0 [2] 0 (by kernel_rfl) ?_
      have hLx137 : ∀ (kx90 : Nat) (v88 : Int)  (ox89 : Bool ⊕ (Int)), iter (fun (y : Int) => f39_B3 m a0 y) kx90 v88 = some ox89 → ∀ nx91, kx90 ≤ nx91 → (∀ r, ox89 = .inl r → ∀ σ, RetOk (X39 n) (resOf Proofs.Tryd.prog 39) (eB r) σ → (seqQ (X39 n) (cR (cR (cR C39))) (fnQ (X39 n).E.T (resOf Proofs.Tryd.prog 39) (eB o))) .ret σ) → (∀ (y : Int) , ox89 = .inr y → (seqQ (X39 n) (cR (cR (cR C39))) (fnQ (X39 n).E.T (resOf Proofs.Tryd.prog 39) (eB o))) .normal ⟨(.v (.str a0)) :: q1 ((dB false) :: q12 ((dI ((a0.size : Int))) :: (dI y) :: q34 [])), []⟩) → Lp (X39 n) [0, 2, 15, 16] 0 (cL (cL (cR (cL (cR (cR C39)))))) nx91 ⟨(.v (.str a0)) :: q1 ((dB false) :: q12 ((dI ((a0.size : Int))) :: (dI v88) :: q34 [])), []⟩ (blkQ (X39 n) 0 [2] 0 (seqQ (X39 n) (cR (cR (cR C39))) (fnQ (X39 n).E.T (resOf Proofs.Tryd.prog 39) (eB o)))) := by
        intro kx90
        induction kx90 with
        | zero => intro v88  ox89 h; exact (iter_zero h).elim
        | succ kx90 ihx92 =>
          intro v88  ox89 h nx91 hnx95 hrx93 hxx94
          obtain ⟨nx91, rfl⟩ : ∃ q, nx91 = q + 1 := ⟨nx91 - 1, by omega⟩
          obtain ⟨sx96, h, hsx97⟩ := iter_some h
          have h : f39_B3 m a0 v88 = some sx96 := h
          unfold f39_B3 at h
          refine Lp.succ ?_
          refine Wp.seq' (by kernel_rfl) ?_
          refine Wp.region (by kernel_rfl) ?_
          refine Ops.seg' 1 1 (by kernel_rfl) ?_
          refine Ops.done (by kernel_rfl) ?_
          refine seqQ.n ?_
          refine Wp.seq' (by kernel_rfl) ?_
          refine Wp.cnd h [0, 2, 15, 16] 0 (by kernel_rfl) (fun h => ?_) (fun h => ?_)
          · refine Wp.skip (by kernel_rfl) ?_
            refine sqQ.n' ?_
            refine seqQ.n ?_
            refine Wp.seq' (by kernel_rfl) ?_
            refine Wp.block' 1 [0, 2, 15, 16] 0 (by kernel_rfl) ?_
            refine Wp.seq' (by kernel_rfl) ?_
            refine Wp.region (by kernel_rfl) ?_
            refine Ops.seg' 2 2 (by kernel_rfl) ?_
            refine Ops.done (by kernel_rfl) ?_
            refine seqQ.n ?_
            refine Wp.seq' (by kernel_rfl) ?_
            refine Wp.region (by kernel_rfl) ?_
            refine Ops.seg' 2 2 (by kernel_rfl) ?_
            obtain ⟨v98, ev98, h⟩ := bnd_some h
            refine Ops.one' 3 (fun h0 e0 => (str_ix (T := T) h0 9 a0 v88 v98 ev98 (by kernel_rfl))) (by kernel_rfl) (by kernel_rfl) ?_
            refine Ops.seg' 1 4 (by kernel_rfl) ?_
            refine Ops.done (by kernel_rfl) ?_
            refine seqQ.n ?_
            refine Wp.seq' (by kernel_rfl) ?_
            refine Wp.region (by kernel_rfl) ?_
            refine Ops.seg' 3 3 (by kernel_rfl) ?_
            have J39j105 : ∀ (d101 d102 : D) (v103 : Bool) (v104 : Bool), f39_r2 m v88 v98 v104 = some sx96 → Ops (X39 n) (opl (cL (cR (cR (cL (cL (cR (cR (cL (cL (cR (cL (cR (cR C39)))))))))))))) 6 ⟨(.v (.str a0)) :: q1 ((dB false) :: (dI v88) :: (.v (.int .u8 v98)) :: q10 ((dI ((a0.size : Int))) :: (dI v88) :: (dB (decide (v88 < (a0.size : Int)))) :: (dI v88) :: (.v (.str a0)) :: (dI v88) :: (.v (.int .u8 v98)) :: (.v (.int .u8 v98)) :: (dB v103) :: (dB v103) :: d101 :: d102 :: (dB v104) :: q23 [])), []⟩ ((seqQ (X39 n) (cR (cR (cR (cL (cL (cR (cR (cL (cL (cR (cL (cR (cR C39))))))))))))) (blkQ (X39 n) 1 [0, 2, 15, 16] 0 (seqQ (X39 n) (cR (cR (cR (cL (cL (cR (cL (cR (cR C39))))))))) (lpQ (X39 n) [0, 2, 15, 16] 0 (cL (cL (cR (cL (cR (cR C39)))))) nx91 (blkQ (X39 n) 0 [2] 0 (seqQ (X39 n) (cR (cR (cR C39))) (fnQ (X39 n).E.T (resOf Proofs.Tryd.prog 39) (eB o)))))))) .normal) := by
              intro d101 d102 v103 v104 h
              unfold f39_r2 at h
              refine Ops.seg' 1 7 (by kernel_rfl) ?_
              refine Ops.done (by kernel_rfl) ?_
              refine seqQ.n ?_
              refine Wp.seq' (by kernel_rfl) ?_
              refine Wp.region (by kernel_rfl) ?_
              refine Ops.seg' 3 3 (by kernel_rfl) ?_
              have J39j128 : ∀ (d108 d109 d110 d111 d112 d113 d114 d115 d116 d117 d118 d119 d120 d121 d122 d123 d124 d125 : D) (v126 : Bool) (v127 : Bool), f39_r1 m v88 v127 = some sx96 → Ops (X39 n) (opl (cL (cR (cR (cR (cL (cL (cR (cR (cL (cL (cR (cL (cR (cR C39))))))))))))))) 22 ⟨(.v (.str a0)) :: q1 ((dB false) :: (dI v88) :: (.v (.int .u8 v98)) :: (dB v104) :: q9 ((dI ((a0.size : Int))) :: (dI v88) :: (dB (decide (v88 < (a0.size : Int)))) :: (dI v88) :: (.v (.str a0)) :: (dI v88) :: (.v (.int .u8 v98)) :: (.v (.int .u8 v98)) :: (dB v103) :: (dB v103) :: d101 :: d102 :: (dB v104) :: (dB v104) :: (dB v126) :: (dB v126) :: d108 :: d109 :: d110 :: d111 :: d112 :: d113 :: d114 :: d115 :: d116 :: d117 :: d118 :: d119 :: d120 :: d121 :: d122 :: d123 :: d124 :: d125 :: (dB v127) :: q1 [])), []⟩ ((seqQ (X39 n) (cR (cR (cR (cR (cL (cL (cR (cR (cL (cL (cR (cL (cR (cR C39)))))))))))))) (blkQ (X39 n) 1 [0, 2, 15, 16] 0 (seqQ (X39 n) (cR (cR (cR (cL (cL (cR (cL (cR (cR C39))))))))) (lpQ (X39 n) [0, 2, 15, 16] 0 (cL (cL (cR (cL (cR (cR C39)))))) nx91 (blkQ (X39 n) 0 [2] 0 (seqQ (X39 n) (cR (cR (cR C39))) (fnQ (X39 n).E.T (resOf Proofs.Tryd.prog 39) (eB o)))))))) .normal) := by
                intro d108 d109 d110 d111 d112 d113 d114 d115 d116 d117 d118 d119 d120 d121 d122 d123 d124 d125 v126 v127 h
                unfold f39_r1 at h
                refine Ops.done (by kernel_rfl) ?_
                refine seqQ.n ?_
                refine Wp.cnd h [0, 2, 15, 16] 0 (by kernel_rfl) (fun h => ?_) (fun h => ?_)
                · refine Wp.seq' (by kernel_rfl) ?_
                  refine Wp.region (by kernel_rfl) ?_
                  refine Ops.seg' 1 1 (by kernel_rfl) ?_
                  refine Ops.done (by kernel_rfl) ?_
                  refine seqQ.n ?_
                  refine Wp.ret (by kernel_rfl) ?_
                  refine sqQ.r ?_
                  refine blkQ.r ?_
                  refine seqQ.r ?_
                  cases h
                  refine lpQ.r ?_
                  refine blkQ.r ?_
                  exact hrx93 _ hsx97 _ (RetOk.forget [0, 2, 15, 16] (by kernel_rfl) (RetOk.mk' (dB false) (by kernel_rfl) (by kernel_rfl)))
                · refine Wp.skip (by kernel_rfl) ?_
                  refine sqQ.n' ?_
                  refine blkQ.n' ?_
                  refine seqQ.n ?_
                  refine Wp.region (by kernel_rfl) ?_
                  refine Ops.seg' 2 2 (by kernel_rfl) ?_
                  refine Ops.done (by kernel_rfl) ?_
                  refine lpQ.n ⟨(.v (.str a0)) :: q1 ((dB false) :: q12 ((dI ((a0.size : Int))) :: (dI (w64 (v88 + 1))) :: q34 [])), []⟩ (by kernel_rfl) ?_
                  cases h
                  exact ihx92 (w64 (v88 + 1))  _ hsx97 _ (by omega) hrx93 hxx94
              have G39g107 : ∀ v106 : Bool, f39_r1 m v88 ((v106 && (((v88 == 0) || (((v98 != 95) && (((v98 != 45) && (((decide (v98 < 48)) || (decide (v98 > 57)))))))))))) = some sx96 → Ops (X39 n) (opl (cL (cR (cR (cR (cL (cL (cR (cR (cL (cL (cR (cL (cR (cR C39))))))))))))))) 3 ⟨(.v (.str a0)) :: q1 ((dB false) :: (dI v88) :: (.v (.int .u8 v98)) :: (dB v104) :: q9 ((dI ((a0.size : Int))) :: (dI v88) :: (dB (decide (v88 < (a0.size : Int)))) :: (dI v88) :: (.v (.str a0)) :: (dI v88) :: (.v (.int .u8 v98)) :: (.v (.int .u8 v98)) :: (dB v103) :: (dB v103) :: d101 :: d102 :: (dB v104) :: (dB v104) :: (dB v106) :: (dB v106) :: q20 [])), []⟩ ((seqQ (X39 n) (cR (cR (cR (cR (cL (cL (cR (cR (cL (cL (cR (cL (cR (cR C39)))))))))))))) (blkQ (X39 n) 1 [0, 2, 15, 16] 0 (seqQ (X39 n) (cR (cR (cR (cL (cL (cR (cL (cR (cR C39))))))))) (lpQ (X39 n) [0, 2, 15, 16] 0 (cL (cL (cR (cL (cR (cR C39)))))) nx91 (blkQ (X39 n) 0 [2] 0 (seqQ (X39 n) (cR (cR (cR C39))) (fnQ (X39 n).E.T (resOf Proofs.Tryd.prog 39) (eB o)))))))) .normal) := by
                intro v106 h
                cases v106
                · refine Ops.seg' 19 22 (by kernel_rfl) ?_
                  refine Ops.st ⟨(.v (.str a0)) :: q1 ((dB false) :: (dI v88) :: (.v (.int .u8 v98)) :: (dB v104) :: q9 ((dI ((a0.size : Int))) :: (dI v88) :: (dB (decide (v88 < (a0.size : Int)))) :: (dI v88) :: (.v (.str a0)) :: (dI v88) :: (.v (.int .u8 v98)) :: (.v (.int .u8 v98)) :: (dB v103) :: (dB v103) :: d101 :: d102 :: (dB v104) :: (dB v104) :: (dB false) :: (dB false) :: u18 ((dB false) :: q1 []))), []⟩ (by kernel_rfl) ?_
                  exact J39j128 _ _ _ _ _ _ _ _ _ _ _ _ _ _ _ _ _ _ _ _ h
                · refine Ops.seg' 3 6 (by kernel_rfl) ?_
                  have G39g130 : ∀ v129 : Bool, (f39_r1 m v88 ((true && ((v129 || (((v98 != 95) && (((v98 != 45) && (((decide (v98 < 48)) || (decide (v98 > 57))))))))))))) = some sx96 → Ops (X39 n) (opl (cL (cR (cR (cR (cL (cL (cR (cR (cL (cL (cR (cL (cR (cR C39))))))))))))))) 6 ⟨(.v (.str a0)) :: q1 ((dB false) :: (dI v88) :: (.v (.int .u8 v98)) :: (dB v104) :: q9 ((dI ((a0.size : Int))) :: (dI v88) :: (dB (decide (v88 < (a0.size : Int)))) :: (dI v88) :: (.v (.str a0)) :: (dI v88) :: (.v (.int .u8 v98)) :: (.v (.int .u8 v98)) :: (dB v103) :: (dB v103) :: d101 :: d102 :: (dB v104) :: (dB v104) :: (dB true) :: (dB true) :: (dI v88) :: (dB v129) :: (dB v129) :: q17 [])), []⟩ ((seqQ (X39 n) (cR (cR (cR (cR (cL (cL (cR (cR (cL (cL (cR (cL (cR (cR C39)))))))))))))) (blkQ (X39 n) 1 [0, 2, 15, 16] 0 (seqQ (X39 n) (cR (cR (cR (cL (cL (cR (cL (cR (cR C39))))))))) (lpQ (X39 n) [0, 2, 15, 16] 0 (cL (cL (cR (cL (cR (cR C39)))))) nx91 (blkQ (X39 n) 0 [2] 0 (seqQ (X39 n) (cR (cR (cR C39))) (fnQ (X39 n).E.T (resOf Proofs.Tryd.prog 39) (eB o)))))))) .normal) := by
                    intro v129 h
                    cases v129
                    · refine Ops.seg' 3 9 (by kernel_rfl) ?_
                      have G39g132 : ∀ v131 : Bool, (f39_r1 m v88 ((true && ((false || ((v131 && (((v98 != 45) && (((decide (v98 < 48)) || (decide (v98 > 57))))))))))))) = some sx96 → Ops (X39 n) (opl (cL (cR (cR (cR (cL (cL (cR (cR (cL (cL (cR (cL (cR (cR C39))))))))))))))) 9 ⟨(.v (.str a0)) :: q1 ((dB false) :: (dI v88) :: (.v (.int .u8 v98)) :: (dB v104) :: q9 ((dI ((a0.size : Int))) :: (dI v88) :: (dB (decide (v88 < (a0.size : Int)))) :: (dI v88) :: (.v (.str a0)) :: (dI v88) :: (.v (.int .u8 v98)) :: (.v (.int .u8 v98)) :: (dB v103) :: (dB v103) :: d101 :: d102 :: (dB v104) :: (dB v104) :: (dB true) :: (dB true) :: (dI v88) :: (dB false) :: (dB false) :: (.v (.int .u8 v98)) :: (dB v131) :: (dB v131) :: q14 [])), []⟩ ((seqQ (X39 n) (cR (cR (cR (cR (cL (cL (cR (cR (cL (cL (cR (cL (cR (cR C39)))))))))))))) (blkQ (X39 n) 1 [0, 2, 15, 16] 0 (seqQ (X39 n) (cR (cR (cR (cL (cL (cR (cL (cR (cR C39))))))))) (lpQ (X39 n) [0, 2, 15, 16] 0 (cL (cL (cR (cL (cR (cR C39)))))) nx91 (blkQ (X39 n) 0 [2] 0 (seqQ (X39 n) (cR (cR (cR C39))) (fnQ (X39 n).E.T (resOf Proofs.Tryd.prog 39) (eB o)))))))) .normal) := by
                        intro v131 h
                        cases v131
                        · refine Ops.seg' 13 22 (by kernel_rfl) ?_
                          refine Ops.st ⟨(.v (.str a0)) :: q1 ((dB false) :: (dI v88) :: (.v (.int .u8 v98)) :: (dB v104) :: q9 ((dI ((a0.size : Int))) :: (dI v88) :: (dB (decide (v88 < (a0.size : Int)))) :: (dI v88) :: (.v (.str a0)) :: (dI v88) :: (.v (.int .u8 v98)) :: (.v (.int .u8 v98)) :: (dB v103) :: (dB v103) :: d101 :: d102 :: (dB v104) :: (dB v104) :: (dB true) :: (dB true) :: (dI v88) :: (dB false) :: (dB false) :: (.v (.int .u8 v98)) :: (dB false) :: (dB false) :: u2 ((dB false) :: (dB false) :: u6 ((dB false) :: (dB false) :: (dB false) :: q1 [])))), []⟩ (by kernel_rfl) ?_
                          exact J39j128 _ _ _ _ _ _ _ _ _ _ _ _ _ _ _ _ _ _ _ _ h
                        · refine Ops.seg' 4 13 (by kernel_rfl) ?_
                          have G39g134 : ∀ v133 : Bool, (f39_r1 m v88 ((true && ((false || ((true && ((v133 && (((decide (v98 < 48)) || (decide (v98 > 57))))))))))))) = some sx96 → Ops (X39 n) (opl (cL (cR (cR (cR (cL (cL (cR (cR (cL (cL (cR (cL (cR (cR C39))))))))))))))) 13 ⟨(.v (.str a0)) :: q1 ((dB false) :: (dI v88) :: (.v (.int .u8 v98)) :: (dB v104) :: q9 ((dI ((a0.size : Int))) :: (dI v88) :: (dB (decide (v88 < (a0.size : Int)))) :: (dI v88) :: (.v (.str a0)) :: (dI v88) :: (.v (.int .u8 v98)) :: (.v (.int .u8 v98)) :: (dB v103) :: (dB v103) :: d101 :: d102 :: (dB v104) :: (dB v104) :: (dB true) :: (dB true) :: (dI v88) :: (dB false) :: (dB false) :: (.v (.int .u8 v98)) :: (dB true) :: (dB true) :: (.v (.int .u8 v98)) :: (dB v133) :: (dB v133) :: (dB v133) :: q10 [])), []⟩ ((seqQ (X39 n) (cR (cR (cR (cR (cL (cL (cR (cR (cL (cL (cR (cL (cR (cR C39)))))))))))))) (blkQ (X39 n) 1 [0, 2, 15, 16] 0 (seqQ (X39 n) (cR (cR (cR (cL (cL (cR (cL (cR (cR C39))))))))) (lpQ (X39 n) [0, 2, 15, 16] 0 (cL (cL (cR (cL (cR (cR C39)))))) nx91 (blkQ (X39 n) 0 [2] 0 (seqQ (X39 n) (cR (cR (cR C39))) (fnQ (X39 n).E.T (resOf Proofs.Tryd.prog 39) (eB o)))))))) .normal) := by
                            intro v133 h
                            cases v133
                            · refine Ops.seg' 9 22 (by kernel_rfl) ?_
                              refine Ops.st ⟨(.v (.str a0)) :: q1 ((dB false) :: (dI v88) :: (.v (.int .u8 v98)) :: (dB v104) :: q9 ((dI ((a0.size : Int))) :: (dI v88) :: (dB (decide (v88 < (a0.size : Int)))) :: (dI v88) :: (.v (.str a0)) :: (dI v88) :: (.v (.int .u8 v98)) :: (.v (.int .u8 v98)) :: (dB v103) :: (dB v103) :: d101 :: d102 :: (dB v104) :: (dB v104) :: (dB true) :: (dB true) :: (dI v88) :: (dB false) :: (dB false) :: (.v (.int .u8 v98)) :: (dB true) :: (dB true) :: (.v (.int .u8 v98)) :: (dB false) :: (dB false) :: (dB false) :: u6 ((dB false) :: (dB false) :: (dB false) :: q1 []))), []⟩ (by kernel_rfl) ?_
                              exact J39j128 _ _ _ _ _ _ _ _ _ _ _ _ _ _ _ _ _ _ _ _ h
                            · refine Ops.seg' 3 16 (by kernel_rfl) ?_
                              have G39g136 : ∀ v135 : Bool, (f39_r1 m v88 ((true && ((false || ((true && ((true && ((v135 || (decide (v98 > 57))))))))))))) = some sx96 → Ops (X39 n) (opl (cL (cR (cR (cR (cL (cL (cR (cR (cL (cL (cR (cL (cR (cR C39))))))))))))))) 16 ⟨(.v (.str a0)) :: q1 ((dB false) :: (dI v88) :: (.v (.int .u8 v98)) :: (dB v104) :: q9 ((dI ((a0.size : Int))) :: (dI v88) :: (dB (decide (v88 < (a0.size : Int)))) :: (dI v88) :: (.v (.str a0)) :: (dI v88) :: (.v (.int .u8 v98)) :: (.v (.int .u8 v98)) :: (dB v103) :: (dB v103) :: d101 :: d102 :: (dB v104) :: (dB v104) :: (dB true) :: (dB true) :: (dI v88) :: (dB false) :: (dB false) :: (.v (.int .u8 v98)) :: (dB true) :: (dB true) :: (.v (.int .u8 v98)) :: (dB true) :: (dB true) :: (dB true) :: (.v (.int .u8 v98)) :: (dB v135) :: (dB v135) :: q7 [])), []⟩ ((seqQ (X39 n) (cR (cR (cR (cR (cL (cL (cR (cR (cL (cL (cR (cL (cR (cR C39)))))))))))))) (blkQ (X39 n) 1 [0, 2, 15, 16] 0 (seqQ (X39 n) (cR (cR (cR (cL (cL (cR (cL (cR (cR C39))))))))) (lpQ (X39 n) [0, 2, 15, 16] 0 (cL (cL (cR (cL (cR (cR C39)))))) nx91 (blkQ (X39 n) 0 [2] 0 (seqQ (X39 n) (cR (cR (cR C39))) (fnQ (X39 n).E.T (resOf Proofs.Tryd.prog 39) (eB o)))))))) .normal) := by
                                intro v135 h
                                cases v135
                                · refine Ops.seg' 6 22 (by kernel_rfl) ?_
                                  refine Ops.st ⟨(.v (.str a0)) :: q1 ((dB false) :: (dI v88) :: (.v (.int .u8 v98)) :: (dB v104) :: q9 ((dI ((a0.size : Int))) :: (dI v88) :: (dB (decide (v88 < (a0.size : Int)))) :: (dI v88) :: (.v (.str a0)) :: (dI v88) :: (.v (.int .u8 v98)) :: (.v (.int .u8 v98)) :: (dB v103) :: (dB v103) :: d101 :: d102 :: (dB v104) :: (dB v104) :: (dB true) :: (dB true) :: (dI v88) :: (dB false) :: (dB false) :: (.v (.int .u8 v98)) :: (dB true) :: (dB true) :: (.v (.int .u8 v98)) :: (dB true) :: (dB true) :: (dB true) :: (.v (.int .u8 v98)) :: (dB false) :: (dB false) :: (.v (.int .u8 v98)) :: (dB (decide (v98 > 57))) :: (dB (decide (v98 > 57))) :: (dB (decide (v98 > 57))) :: (dB (decide (v98 > 57))) :: (dB (decide (v98 > 57))) :: q1 [])), []⟩ (by kernel_rfl) ?_
                                  exact J39j128 _ _ _ _ _ _ _ _ _ _ _ _ _ _ _ _ _ _ _ _ h
                                · refine Ops.seg' 6 22 (by kernel_rfl) ?_
                                  refine Ops.st ⟨(.v (.str a0)) :: q1 ((dB false) :: (dI v88) :: (.v (.int .u8 v98)) :: (dB v104) :: q9 ((dI ((a0.size : Int))) :: (dI v88) :: (dB (decide (v88 < (a0.size : Int)))) :: (dI v88) :: (.v (.str a0)) :: (dI v88) :: (.v (.int .u8 v98)) :: (.v (.int .u8 v98)) :: (dB v103) :: (dB v103) :: d101 :: d102 :: (dB v104) :: (dB v104) :: (dB true) :: (dB true) :: (dI v88) :: (dB false) :: (dB false) :: (.v (.int .u8 v98)) :: (dB true) :: (dB true) :: (.v (.int .u8 v98)) :: (dB true) :: (dB true) :: (dB true) :: (.v (.int .u8 v98)) :: (dB true) :: (dB true) :: u2 ((dB true) :: (dB true) :: (dB true) :: (dB true) :: q1 []))), []⟩ (by kernel_rfl) ?_
                                  exact J39j128 _ _ _ _ _ _ _ _ _ _ _ _ _ _ _ _ _ _ _ _ h
                              exact Ops.st ⟨(.v (.str a0)) :: q1 ((dB false) :: (dI v88) :: (.v (.int .u8 v98)) :: (dB v104) :: q9 ((dI ((a0.size : Int))) :: (dI v88) :: (dB (decide (v88 < (a0.size : Int)))) :: (dI v88) :: (.v (.str a0)) :: (dI v88) :: (.v (.int .u8 v98)) :: (.v (.int .u8 v98)) :: (dB v103) :: (dB v103) :: d101 :: d102 :: (dB v104) :: (dB v104) :: (dB true) :: (dB true) :: (dI v88) :: (dB false) :: (dB false) :: (.v (.int .u8 v98)) :: (dB true) :: (dB true) :: (.v (.int .u8 v98)) :: (dB true) :: (dB true) :: (dB true) :: (.v (.int .u8 v98)) :: (dB ((decide (v98 < 48)))) :: (dB ((decide (v98 < 48)))) :: q7 [])), []⟩ (by kernel_rfl) (G39g136 (decide (v98 < 48)) h)
                          exact Ops.st ⟨(.v (.str a0)) :: q1 ((dB false) :: (dI v88) :: (.v (.int .u8 v98)) :: (dB v104) :: q9 ((dI ((a0.size : Int))) :: (dI v88) :: (dB (decide (v88 < (a0.size : Int)))) :: (dI v88) :: (.v (.str a0)) :: (dI v88) :: (.v (.int .u8 v98)) :: (.v (.int .u8 v98)) :: (dB v103) :: (dB v103) :: d101 :: d102 :: (dB v104) :: (dB v104) :: (dB true) :: (dB true) :: (dI v88) :: (dB false) :: (dB false) :: (.v (.int .u8 v98)) :: (dB true) :: (dB true) :: (.v (.int .u8 v98)) :: (dB ((v98 != 45))) :: (dB ((v98 != 45))) :: (dB ((v98 != 45))) :: q10 [])), []⟩ (by kernel_rfl) (G39g134 (v98 != 45) h)
                      exact Ops.st ⟨(.v (.str a0)) :: q1 ((dB false) :: (dI v88) :: (.v (.int .u8 v98)) :: (dB v104) :: q9 ((dI ((a0.size : Int))) :: (dI v88) :: (dB (decide (v88 < (a0.size : Int)))) :: (dI v88) :: (.v (.str a0)) :: (dI v88) :: (.v (.int .u8 v98)) :: (.v (.int .u8 v98)) :: (dB v103) :: (dB v103) :: d101 :: d102 :: (dB v104) :: (dB v104) :: (dB true) :: (dB true) :: (dI v88) :: (dB false) :: (dB false) :: (.v (.int .u8 v98)) :: (dB ((v98 != 95))) :: (dB ((v98 != 95))) :: q14 [])), []⟩ (by kernel_rfl) (G39g132 (v98 != 95) h)
                    · refine Ops.seg' 16 22 (by kernel_rfl) ?_
                      refine Ops.st ⟨(.v (.str a0)) :: q1 ((dB false) :: (dI v88) :: (.v (.int .u8 v98)) :: (dB v104) :: q9 ((dI ((a0.size : Int))) :: (dI v88) :: (dB (decide (v88 < (a0.size : Int)))) :: (dI v88) :: (.v (.str a0)) :: (dI v88) :: (.v (.int .u8 v98)) :: (.v (.int .u8 v98)) :: (dB v103) :: (dB v103) :: d101 :: d102 :: (dB v104) :: (dB v104) :: (dB true) :: (dB true) :: (dI v88) :: (dB true) :: (dB true) :: u14 ((dB true) :: (dB true) :: q1 []))), []⟩ (by kernel_rfl) ?_
                      exact J39j128 _ _ _ _ _ _ _ _ _ _ _ _ _ _ _ _ _ _ _ _ h
                  exact Ops.st ⟨(.v (.str a0)) :: q1 ((dB false) :: (dI v88) :: (.v (.int .u8 v98)) :: (dB v104) :: q9 ((dI ((a0.size : Int))) :: (dI v88) :: (dB (decide (v88 < (a0.size : Int)))) :: (dI v88) :: (.v (.str a0)) :: (dI v88) :: (.v (.int .u8 v98)) :: (.v (.int .u8 v98)) :: (dB v103) :: (dB v103) :: d101 :: d102 :: (dB v104) :: (dB v104) :: (dB true) :: (dB true) :: (dI v88) :: (dB ((v88 == 0))) :: (dB ((v88 == 0))) :: q17 [])), []⟩ (by kernel_rfl) (G39g130 (v88 == 0) h)
              exact Ops.st ⟨(.v (.str a0)) :: q1 ((dB false) :: (dI v88) :: (.v (.int .u8 v98)) :: (dB v104) :: q9 ((dI ((a0.size : Int))) :: (dI v88) :: (dB (decide (v88 < (a0.size : Int)))) :: (dI v88) :: (.v (.str a0)) :: (dI v88) :: (.v (.int .u8 v98)) :: (.v (.int .u8 v98)) :: (dB v103) :: (dB v103) :: d101 :: d102 :: (dB v104) :: (dB v104) :: (dB ((!v104))) :: (dB ((!v104))) :: q20 [])), []⟩ (by kernel_rfl) (G39g107 (!v104) h)
            have G39g100 : ∀ v99 : Bool, f39_r2 m v88 v98 ((v99 && (decide (v98 ≤ 122)))) = some sx96 → Ops (X39 n) (opl (cL (cR (cR (cL (cL (cR (cR (cL (cL (cR (cL (cR (cR C39)))))))))))))) 3 ⟨(.v (.str a0)) :: q1 ((dB false) :: (dI v88) :: (.v (.int .u8 v98)) :: q10 ((dI ((a0.size : Int))) :: (dI v88) :: (dB (decide (v88 < (a0.size : Int)))) :: (dI v88) :: (.v (.str a0)) :: (dI v88) :: (.v (.int .u8 v98)) :: (.v (.int .u8 v98)) :: (dB v99) :: (dB v99) :: q26 [])), []⟩ ((seqQ (X39 n) (cR (cR (cR (cL (cL (cR (cR (cL (cL (cR (cL (cR (cR C39))))))))))))) (blkQ (X39 n) 1 [0, 2, 15, 16] 0 (seqQ (X39 n) (cR (cR (cR (cL (cL (cR (cL (cR (cR C39))))))))) (lpQ (X39 n) [0, 2, 15, 16] 0 (cL (cL (cR (cL (cR (cR C39)))))) nx91 (blkQ (X39 n) 0 [2] 0 (seqQ (X39 n) (cR (cR (cR C39))) (fnQ (X39 n).E.T (resOf Proofs.Tryd.prog 39) (eB o)))))))) .normal) := by
              intro v99 h
              cases v99
              · refine Ops.seg' 3 6 (by kernel_rfl) ?_
                refine Ops.st ⟨(.v (.str a0)) :: q1 ((dB false) :: (dI v88) :: (.v (.int .u8 v98)) :: q10 ((dI ((a0.size : Int))) :: (dI v88) :: (dB (decide (v88 < (a0.size : Int)))) :: (dI v88) :: (.v (.str a0)) :: (dI v88) :: (.v (.int .u8 v98)) :: (.v (.int .u8 v98)) :: (dB false) :: (dB false) :: u2 ((dB false) :: q23 []))), []⟩ (by kernel_rfl) ?_
                exact J39j105 _ _ _ _ h
              · refine Ops.seg' 3 6 (by kernel_rfl) ?_
                refine Ops.st ⟨(.v (.str a0)) :: q1 ((dB false) :: (dI v88) :: (.v (.int .u8 v98)) :: q10 ((dI ((a0.size : Int))) :: (dI v88) :: (dB (decide (v88 < (a0.size : Int)))) :: (dI v88) :: (.v (.str a0)) :: (dI v88) :: (.v (.int .u8 v98)) :: (.v (.int .u8 v98)) :: (dB true) :: (dB true) :: (.v (.int .u8 v98)) :: (dB (decide (v98 ≤ 122))) :: (dB (decide (v98 ≤ 122))) :: q23 [])), []⟩ (by kernel_rfl) ?_
                exact J39j105 _ _ _ _ h
            exact Ops.st ⟨(.v (.str a0)) :: q1 ((dB false) :: (dI v88) :: (.v (.int .u8 v98)) :: q10 ((dI ((a0.size : Int))) :: (dI v88) :: (dB (decide (v88 < (a0.size : Int)))) :: (dI v88) :: (.v (.str a0)) :: (dI v88) :: (.v (.int .u8 v98)) :: (.v (.int .u8 v98)) :: (dB ((decide (v98 ≥ 97)))) :: (dB ((decide (v98 ≥ 97)))) :: q26 [])), []⟩ (by kernel_rfl) (G39g100 (decide (v98 ≥ 97)) h)
          · refine Wp.exit (id := 0) (by kernel_rfl) ?_
            refine sqQ.x ?_
            refine seqQ.x ?_
            cases h
            refine lpQ.x ?_
            refine blkQ.x ⟨(.v (.str a0)) :: q1 ((dB false) :: q12 ((dI ((a0.size : Int))) :: (dI v88) :: q34 [])), []⟩ (by kernel_rfl) ?_
            exact hxx94 v88  hsx97
      refine Wp.loop' [0, 2, 15, 16] 0 (by kernel_rfl) ⟨(.v (.str a0)) :: q1 ((dB false) :: q12 ((dI ((a0.size : Int))) :: (dI 0) :: q34 [])), []⟩ (by kernel_rfl) ?_
      rcases brk_some h with ⟨r139, er139, h⟩ | ⟨y138, ey138, h⟩
      · refine hLx137 _ 0  _ er139 n (by omega) (fun r er σ hσ => ?_) (fun y  ey => by cases ey)
        cases er
        refine seqQ.r ?_
        exact fnQ.r' (X39 n) (fun z => (eB z)) h hσ
      · refine hLx137 _ 0  _ ey138 n (by omega) (fun r er => by cases er) (fun y  ey => ?_)
        cases ey
        refine seqQ.n ?_
        refine Wp.seq' (by kernel_rfl) ?_
        refine Wp.region (by kernel_rfl) ?_
        refine Ops.seg' 1 1 (by kernel_rfl) ?_
        refine Ops.done (by kernel_rfl) ?_
        refine seqQ.n ?_
        refine Wp.ret (by kernel_rfl) ?_
        exact fnQ.r' (X39 n) (fun z => (eB z)) h (RetOk.mk' (dB true) (by kernel_rfl) (by kernel_rfl))
  have G39g2 : ∀ v1 : Bool, f39_r4 m a0 ((v1 || (decide ((a0.size : Int) > 30)))) = some o → Ops (X39 n) (opl (cL (cL (cR C39)))) 4 ⟨(.v (.str a0)) :: u1 ((dB false) :: u3 ((.v (.str a0)) :: (dI ((a0.size : Int))) :: (dB v1) :: (dB v1) :: u40 (u1 []))), []⟩ ((seqQ (X39 n) (cR (cL (cR C39))) (seqQ (X39 n) (cR (cR C39)) (fnQ (X39 n).E.T (resOf Proofs.Tryd.prog 39) (eB o)))) .normal) := by
    intro v1 h
    cases v1
    · refine Ops.seg' 4 8 (by kernel_rfl) ?_
      refine Ops.st ⟨(.v (.str a0)) :: u1 ((dB false) :: u3 ((.v (.str a0)) :: (dI ((a0.size : Int))) :: (dB false) :: (dB false) :: (.v (.str a0)) :: (dI ((a0.size : Int))) :: (dB (decide ((a0.size : Int) > 30))) :: (dB (decide ((a0.size : Int) > 30))) :: u37 [])), []⟩ (by kernel_rfl) ?_
      exact J39j8 _ _ _ _ _ h
    · refine Ops.seg' 4 8 (by kernel_rfl) ?_
      refine Ops.st ⟨(.v (.str a0)) :: u1 ((dB false) :: u3 ((.v (.str a0)) :: (dI ((a0.size : Int))) :: (dB true) :: (dB true) :: u3 ((dB true) :: u37 []))), []⟩ (by kernel_rfl) ?_
      exact J39j8 _ _ _ _ _ h
  exact Ops.st ⟨(.v (.str a0)) :: u1 ((dB false) :: u3 ((.v (.str a0)) :: (dI ((a0.size : Int))) :: (dB ((decide ((a0.size : Int) < 1)))) :: (dB ((decide ((a0.size : Int) < 1)))) :: u40 (u1 []))), []⟩ (by kernel_rfl) (G39g2 (decide ((a0.size : Int) < 1)) h)

/-! ### 40 glosswright/paradigm.tags -/
def f40_B1 (m : Nat) (a0 : (List ByteArray)) (v6 : Int) : Option (Stp Int (Int)) :=
  cnd (decide (v6 < (a0.length : Int)))
  (bnd (idx a0 v6) fun v16 =>
  bnd (f39 m v16) fun v17 =>
  cnd (!v17)
  (some (.ret 10))
  (some (.nxt (w64 (v6 + 1)))))
  (some (.brk v6))
def f40 (m : Nat) (a0 : (List ByteArray)) : Option Int :=
  cnd (decide ((a0.length : Int) > 4))
  (some 2)
  (brk (iter (fun (y : Int) => f40_B1 m a0 y) m 0) some fun y19 =>
  some 0)
noncomputable abbrev X40 (n : Nat) : Cx := cxOf Proofs.Tryd.prog E 40 n
noncomputable def C40 : Code := bodyOf Proofs.Tryd.prog 40
theorem ok40 (m : Nat) (a0 : (List ByteArray)) (o : Int) (h : f40 m a0 = some o) (n : Nat) (hn : m + 2 ≤ n) : Fn Proofs.Tryd.prog E n 40 [.v ((eL eS) a0)] (eI o) := by
  obtain ⟨n, rfl⟩ : ∃ q, n = q + 1 := ⟨n - 1, by omega⟩
  unfold f40 at h
  refine Fn.of (by kernel_rfl) (by kernel_rfl) (by kernel_rfl) ⟨(dP eS a0) :: u17 [], []⟩ (by kernel_rfl) ?_
  refine Wp.seq' (by kernel_rfl) ?_
  refine Wp.region (by kernel_rfl) ?_
  refine Ops.seg' 1 1 (by kernel_rfl) ?_
  refine Ops.done (by kernel_rfl) ?_
  refine seqQ.n ?_
  refine Wp.seq' (by kernel_rfl) ?_
  refine Wp.seq' (by kernel_rfl) ?_
  refine Wp.region (by kernel_rfl) ?_
  refine Ops.seg' 1 1 (by kernel_rfl) ?_
  refine Ops.one' 2 (fun h0 e0 => (len_r (T := T) h0 36 9 .plain eS a0 (by kernel_rfl))) (by kernel_rfl) (by kernel_rfl) ?_
  refine Ops.seg' 1 3 (by kernel_rfl) ?_
  refine Ops.done (by kernel_rfl) ?_
  refine seqQ.n ?_
  refine Wp.cnd h [0, 2] 0 (by kernel_rfl) (fun h => ?_) (fun h => ?_)
  · refine Wp.seq' (by kernel_rfl) ?_
    refine Wp.region (by kernel_rfl) ?_
    refine Ops.seg' 1 1 (by kernel_rfl) ?_
    refine Ops.done (by kernel_rfl) ?_
    refine seqQ.n ?_
    refine Wp.ret (by kernel_rfl) ?_
    refine sqQ.r ?_
    refine seqQ.r ?_
    exact fnQ.r' (X40 n) (fun z => (eI z)) h (RetOk.mk' (dI 2) (by kernel_rfl) (by kernel_rfl))
  · refine Wp.skip (by kernel_rfl) ?_
    refine sqQ.n' ?_
    refine seqQ.n ?_
    refine Wp.seq' (by kernel_rfl) ?_
    refine Wp.seq' (by kernel_rfl) ?_
    refine Wp.region (by kernel_rfl) ?_
    refine Ops.seg' 1 1 (by kernel_rfl) ?_
    refine Ops.one' 2 (fun h0 e0 => (len_r (T := T) h0 36 9 .plain eS a0 (by kernel_rfl))) (by kernel_rfl) (by kernel_rfl) ?_
    refine Ops.seg' 1 3 (by kernel_rfl) ?_
    refine Ops.done (by kernel_rfl) ?_
    refine seqQ.n ?_
    refine Wp.block' 0 [2] 0 (by kernel_rfl) ?_
    have hLx18 : ∀ (kx8 : Nat) (v6 : Int)  (ox7 : Int ⊕ (Int)), iter (fun (y : Int) => f40_B1 m a0 y) kx8 v6 = some ox7 → ∀ nx9, kx8 ≤ nx9 → (∀ r, ox7 = .inl r → ∀ σ, RetOk (X40 n) (resOf Proofs.Tryd.prog 40) (eI r) σ → (seqQ (X40 n) (cR (cR (cR C40))) (fnQ (X40 n).E.T (resOf Proofs.Tryd.prog 40) (eI o))) .ret σ) → (∀ (y : Int) , ox7 = .inr y → (seqQ (X40 n) (cR (cR (cR C40))) (fnQ (X40 n).E.T (resOf Proofs.Tryd.prog 40) (eI o))) .normal ⟨q2 ((dI 0) :: q5 ((dP eS a0) :: (dI ((a0.length : Int))) :: (dI y) :: q7 [])), []⟩) → Lp (X40 n) [2, 8, 9, 10] 0 (cL (cL (cR (cL (cR (cR C40)))))) nx9 ⟨q2 ((dI 0) :: q5 ((dP eS a0) :: (dI ((a0.length : Int))) :: (dI v6) :: q7 [])), []⟩ (blkQ (X40 n) 0 [2] 0 (seqQ (X40 n) (cR (cR (cR C40))) (fnQ (X40 n).E.T (resOf Proofs.Tryd.prog 40) (eI o)))) := by
      intro kx8
      induction kx8 with
      | zero => intro v6  ox7 h; exact (iter_zero h).elim
      | succ kx8 ihx10 =>
        intro v6  ox7 h nx9 hnx13 hrx11 hxx12
        obtain ⟨nx9, rfl⟩ : ∃ q, nx9 = q + 1 := ⟨nx9 - 1, by omega⟩
        obtain ⟨sx14, h, hsx15⟩ := iter_some h
        have h : f40_B1 m a0 v6 = some sx14 := h
        unfold f40_B1 at h
        refine Lp.succ ?_
        refine Wp.seq' (by kernel_rfl) ?_
        refine Wp.region (by kernel_rfl) ?_
        refine Ops.seg' 1 1 (by kernel_rfl) ?_
        refine Ops.done (by kernel_rfl) ?_
        refine seqQ.n ?_
        refine Wp.seq' (by kernel_rfl) ?_
        refine Wp.cnd h [2, 8, 9, 10] 0 (by kernel_rfl) (fun h => ?_) (fun h => ?_)
        · refine Wp.skip (by kernel_rfl) ?_
          refine sqQ.n' ?_
          refine seqQ.n ?_
          refine Wp.seq' (by kernel_rfl) ?_
          refine Wp.block' 1 [2, 8, 9, 10] 0 (by kernel_rfl) ?_
          refine Wp.seq' (by kernel_rfl) ?_
          refine Wp.region (by kernel_rfl) ?_
          obtain ⟨v16, ev16, h⟩ := bnd_some h
          refine Ops.one' 1 (fun h0 e0 => (ix_r (T := T) h0 36 9 1 .plain eS a0 v6 v16 ev16 (by kernel_rfl) (by kernel_rfl) (fun _ => rfl))) (by kernel_rfl) (by kernel_rfl) ?_
          refine Ops.seg' 2 3 (by kernel_rfl) ?_
          refine Ops.done (by kernel_rfl) ?_
          refine seqQ.n ?_
          refine Wp.seq' (by kernel_rfl) ?_
          refine Wp.region (by kernel_rfl) ?_
          refine Ops.seg' 1 1 (by kernel_rfl) ?_
          obtain ⟨v17, ev17, h⟩ := bnd_some h
          refine Ops.one' 2 (fun h0 e0 => (call_ok (E' := E) (h := h0) (by kernel_rfl) (Args.v (.str v16) (eS v16) (by kernel_rfl) Args.nil) (ok39 m v16 v17 ev17 n (by omega)))) (by kernel_rfl) (by kernel_rfl) ?_
          refine Ops.seg' 1 3 (by kernel_rfl) ?_
          refine Ops.done (by kernel_rfl) ?_
          refine seqQ.n ?_
          refine Wp.cnd h [2, 8, 9, 10] 0 (by kernel_rfl) (fun h => ?_) (fun h => ?_)
          · refine Wp.seq' (by kernel_rfl) ?_
            refine Wp.region (by kernel_rfl) ?_
            refine Ops.seg' 1 1 (by kernel_rfl) ?_
            refine Ops.done (by kernel_rfl) ?_
            refine seqQ.n ?_
            refine Wp.ret (by kernel_rfl) ?_
            refine sqQ.r ?_
            refine blkQ.r ?_
            refine seqQ.r ?_
            cases h
            refine lpQ.r ?_
            refine blkQ.r ?_
            exact hrx11 _ hsx15 _ (RetOk.forget [2, 8, 9, 10] (by kernel_rfl) (RetOk.mk' (dI 10) (by kernel_rfl) (by kernel_rfl)))
          · refine Wp.skip (by kernel_rfl) ?_
            refine sqQ.n' ?_
            refine blkQ.n' ?_
            refine seqQ.n ?_
            refine Wp.region (by kernel_rfl) ?_
            refine Ops.seg' 2 2 (by kernel_rfl) ?_
            refine Ops.done (by kernel_rfl) ?_
            refine lpQ.n ⟨q2 ((dI 0) :: q5 ((dP eS a0) :: (dI ((a0.length : Int))) :: (dI (w64 (v6 + 1))) :: q7 [])), []⟩ (by kernel_rfl) ?_
            cases h
            exact ihx10 (w64 (v6 + 1))  _ hsx15 _ (by omega) hrx11 hxx12
        · refine Wp.exit (id := 0) (by kernel_rfl) ?_
          refine sqQ.x ?_
          refine seqQ.x ?_
          cases h
          refine lpQ.x ?_
          refine blkQ.x ⟨q2 ((dI 0) :: q5 ((dP eS a0) :: (dI ((a0.length : Int))) :: (dI v6) :: q7 [])), []⟩ (by kernel_rfl) ?_
          exact hxx12 v6  hsx15
    refine Wp.loop' [2, 8, 9, 10] 0 (by kernel_rfl) ⟨q2 ((dI 0) :: q5 ((dP eS a0) :: (dI ((a0.length : Int))) :: (dI 0) :: q7 [])), []⟩ (by kernel_rfl) ?_
    rcases brk_some h with ⟨r20, er20, h⟩ | ⟨y19, ey19, h⟩
    · refine hLx18 _ 0  _ er20 n (by omega) (fun r er σ hσ => ?_) (fun y  ey => by cases ey)
      cases er
      refine seqQ.r ?_
      exact fnQ.r' (X40 n) (fun z => (eI z)) h hσ
    · refine hLx18 _ 0  _ ey19 n (by omega) (fun r er => by cases er) (fun y  ey => ?_)
      cases ey
      refine seqQ.n ?_
      refine Wp.seq' (by kernel_rfl) ?_
      refine Wp.region (by kernel_rfl) ?_
      refine Ops.seg' 1 1 (by kernel_rfl) ?_
      refine Ops.done (by kernel_rfl) ?_
      refine seqQ.n ?_
      refine Wp.ret (by kernel_rfl) ?_
      exact fnQ.r' (X40 n) (fun z => (eI z)) h (RetOk.mk' (dI 0) (by kernel_rfl) (by kernel_rfl))

/-! ### 80 glosswright/letters.fault -/
def f80 (m : Nat) (a0 : Int) (a1 : Int) : Option S27 :=
  some ((⟨a0, a1⟩ : S27))
noncomputable abbrev X80 (n : Nat) : Cx := cxOf Proofs.Tryd.prog E 80 n
noncomputable def C80 : Code := bodyOf Proofs.Tryd.prog 80
theorem ok80 (m : Nat) (a0 : Int) (a1 : Int) (o : S27) (h : f80 m a0 a1 = some o) (n : Nat) (hn : m + 1 ≤ n) : Fn Proofs.Tryd.prog E n 80 [.v (eI a0), .v (eI a1)] (e27 o) := by
  obtain ⟨n, rfl⟩ : ∃ q, n = q + 1 := ⟨n - 1, by omega⟩
  unfold f80 at h
  refine Fn.of (by kernel_rfl) (by kernel_rfl) (by kernel_rfl) ⟨(dI a0) :: (dI a1) :: u6 [], []⟩ (by kernel_rfl) ?_
  refine Wp.seq' (by kernel_rfl) ?_
  refine Wp.region (by kernel_rfl) ?_
  refine Ops.seg' 1 1 (by kernel_rfl) ?_
  refine Ops.done (by kernel_rfl) ?_
  refine seqQ.n ?_
  refine Wp.seq' (by kernel_rfl) ?_
  refine Wp.region (by kernel_rfl) ?_
  refine Ops.seg' 4 4 (by kernel_rfl) ?_
  refine Ops.done (by kernel_rfl) ?_
  refine seqQ.n ?_
  refine Wp.ret (by kernel_rfl) ?_
  exact fnQ.r' (X80 n) (fun z => (e27 z)) h (RetOk.mk' (.v (.agg [(vI a0), (vI a1)])) (by kernel_rfl) (by kernel_rfl))

/-! ### 81 unicode/utf8.DecodeRuneInString -/
def f81 (m : Nat) (a0 : ByteArray) : Option (Int × Int) := some (((Lib.decodeGo a0).1 : Int), ((Lib.decodeGo a0).2 : Int))
theorem ok81 (m : Nat) (a0 : ByteArray) (o : (Int × Int)) (h : f81 m a0 = some o) (n : Nat) (hn : m + 1 ≤ n) : Fn Proofs.Tryd.prog E n 81 [.v (eS a0)] (.tuple [(eK .i32) o.1, eI o.2]) := by
  obtain ⟨n, rfl⟩ : ∃ q, n = q + 1 := ⟨n - 1, by omega⟩
  refine ora_fn (xs := [eS a0]) (by kernel_rfl) (by kernel_rfl) (by kernel_rfl) (F := decodeF) ?_ rfl
  cases h
  rfl

/-! ### 60 glosswright/letters.Decode -/
def f60_r1 (m : Nat) (v26 : (List Int)) (v27 : Int) (v38 : (Int × Int)) (v44 : Bool) : Option (Stp (((List Int) × S27)) ((List Int) × Int)) :=
  cnd v44
  (bnd (f80 m 5 v27) fun v46 =>
  some (.ret (([], v46))))
  (bnd (app 8 v26 ([w64 v38.1])) fun v47 =>
  some (.nxt (v47, w64 (v27 + v38.2))))
def f60_B2 (m : Nat) (a0 : ByteArray) (v26 : (List Int)) (v27 : Int) : Option (Stp (((List Int) × S27)) ((List Int) × Int)) :=
  cnd (decide (v27 < (a0.size : Int)))
  (bnd (ssub a0 v27 (a0.size : Int)) fun v37 =>
  bnd (f81 m v37) fun v38 =>
  f60_r1 m v26 v27 v38 (((v38.1 == 65533) && (decide (v38.2 ≤ 1)))))
  (some (.brk (v26, v27)))
def f60 (m : Nat) (a0 : ByteArray) : Option ((List Int) × S27) :=
  cnd (decide ((a0.size : Int) > 4000))
  (bnd (f80 m 1 ((-1))) fun v1 =>
  some (([], v1)))
  (brk (iter (fun (y : (List Int) × Int) => f60_B2 m a0 y.1 y.2) m ([], 0)) some fun y49 =>
  some ((y49.1, (⟨0, 0⟩ : S27))))
noncomputable abbrev X60 (n : Nat) : Cx := cxOf Proofs.Tryd.prog E 60 n
noncomputable def C60 : Code := bodyOf Proofs.Tryd.prog 60
theorem ok60 (m : Nat) (a0 : ByteArray) (o : ((List Int) × S27)) (h : f60 m a0 = some o) (n : Nat) (hn : m + 2 ≤ n) : Fn Proofs.Tryd.prog E n 60 [.v (eS a0)] (.tuple [(eL eI) o.1, e27 o.2]) := by
  obtain ⟨n, rfl⟩ : ∃ q, n = q + 1 := ⟨n - 1, by omega⟩
  unfold f60 at h
  refine Fn.of (by kernel_rfl) (by kernel_rfl) (by kernel_rfl) ⟨(.v (.str a0)) :: u40 [], []⟩ (by kernel_rfl) ?_
  refine Wp.seq' (by kernel_rfl) ?_
  refine Wp.region (by kernel_rfl) ?_
  refine Ops.seg' 2 2 (by kernel_rfl) ?_
  refine Ops.done (by kernel_rfl) ?_
  refine seqQ.n ?_
  refine Wp.seq' (by kernel_rfl) ?_
  refine Wp.seq' (by kernel_rfl) ?_
  refine Wp.region (by kernel_rfl) ?_
  refine Ops.seg' 3 3 (by kernel_rfl) ?_
  refine Ops.done (by kernel_rfl) ?_
  refine seqQ.n ?_
  refine Wp.cnd h [0, 2, 3] 1 (by kernel_rfl) (fun h => ?_) (fun h => ?_)
  · refine Wp.seq' (by kernel_rfl) ?_
    refine Wp.region (by kernel_rfl) ?_
    obtain ⟨v1, ev1, h⟩ := bnd_some h
    refine Ops.one' 1 (fun h0 e0 => (call_ok (E' := E) (h := h0) (by kernel_rfl) (Args.v (vI 1) (eI 1) (by kernel_rfl) (Args.v (vI ((-1))) (eI ((-1))) (by kernel_rfl) Args.nil)) (ok80 m 1 ((-1)) v1 ev1 n (by omega)))) (by kernel_rfl) (by kernel_rfl) ?_
    refine Ops.seg' 2 3 (by kernel_rfl) ?_
    refine Ops.done (by kernel_rfl) ?_
    refine seqQ.n ?_
    refine Wp.ret (by kernel_rfl) ?_
    refine sqQ.r ?_
    refine seqQ.r ?_
    exact fnQ.r' (X60 n) (fun z => (.tuple [(eL eI) z.1, e27 z.2])) h (RetOk.mk' (.v (.tuple [(.sl .nil (List.map eI [])), (.agg [(vI v1.fCode), (vI v1.fIndex)])])) (by kernel_rfl) (by kernel_rfl))
  · refine Wp.skip (by kernel_rfl) ?_
    refine sqQ.n' ?_
    refine seqQ.n ?_
    refine Wp.seq' (by kernel_rfl) ?_
    refine Wp.region (by kernel_rfl) ?_
    refine Ops.seg' 1 1 (by kernel_rfl) ?_
    refine Ops.done (by kernel_rfl) ?_
    refine seqQ.n ?_
    refine Wp.seq' (by kernel_rfl) ?_
    refine Wp.seq' (by kernel_rfl) ?_
    refine Wp.region (by kernel_rfl) ?_
    refine Ops.seg' 1 1 (by kernel_rfl) ?_
    refine Ops.done (by kernel_rfl) ?_
    refine seqQ.n ?_
    refine Wp.block' 0 [2, 3, 4] 2 (by kernel_rfl) ?_
    have hLx48 : ∀ (kx29 : Nat) (v26 : (List Int)) (v27 : Int)  (ox28 : ((List Int) × S27) ⊕ ((List Int) × Int)), iter (fun (y : (List Int) × Int) => f60_B2 m a0 y.1 y.2) kx29 (v26, v27) = some ox28 → ∀ nx30, kx29 ≤ nx30 → (∀ r, ox28 = .inl r → ∀ σ, RetOk (X60 n) (resOf Proofs.Tryd.prog 60) (.tuple [(eL eI) r.1, e27 r.2]) σ → (seqQ (X60 n) (cR (cR (cR (cR C60)))) (fnQ (X60 n).E.T (resOf Proofs.Tryd.prog 60) (.tuple [(eL eI) o.1, e27 o.2]))) .ret σ) → (∀ (y : (List Int) × Int) , ox28 = .inr y → (seqQ (X60 n) (cR (cR (cR (cR C60)))) (fnQ (X60 n).E.T (resOf Proofs.Tryd.prog 60) (.tuple [(eL eI) o.1, e27 o.2]))) .normal ⟨q2 ((.v (.sl .nil (List.map eI []))) :: (.ptr 0 0) :: (appD 2 (List.map eI y.1)) :: q36 []), [(.cells [(dI 0), (dI 0)]), .dead, (appO 1 (List.map eI y.1))]⟩) → Lp (X60 n) [0, 2, 3, 4, 5] 2 (cL (cL (cR (cL (cR (cR (cR C60))))))) nx30 ⟨(.v (.str a0)) :: q1 ((.v (.sl .nil (List.map eI []))) :: (.ptr 0 0) :: (appD 2 (List.map eI v26)) :: (dI v27) :: q35 []), [(.cells [(dI 0), (dI 0)]), .dead, (appO 1 (List.map eI v26))]⟩ (blkQ (X60 n) 0 [2, 3, 4] 2 (seqQ (X60 n) (cR (cR (cR (cR C60)))) (fnQ (X60 n).E.T (resOf Proofs.Tryd.prog 60) (.tuple [(eL eI) o.1, e27 o.2])))) := by
      intro kx29
      induction kx29 with
      | zero => intro v26 v27  ox28 h; exact (iter_zero h).elim
      | succ kx29 ihx31 =>
        intro v26 v27  ox28 h nx30 hnx34 hrx32 hxx33
        obtain ⟨nx30, rfl⟩ : ∃ q, nx30 = q + 1 := ⟨nx30 - 1, by omega⟩
        obtain ⟨sx35, h, hsx36⟩ := iter_some h
        have h : f60_B2 m a0 v26 v27 = some sx35 := h
        unfold f60_B2 at h
        refine Lp.succ ?_
        refine Wp.seq' (by kernel_rfl) ?_
        refine Wp.seq' (by kernel_rfl) ?_
        refine Wp.region (by kernel_rfl) ?_
        refine Ops.seg' 4 4 (by kernel_rfl) ?_
        refine Ops.done (by kernel_rfl) ?_
        refine seqQ.n ?_
        refine Wp.cnd h [0, 2, 3, 4, 5] 3 (by kernel_rfl) (fun h => ?_) (fun h => ?_)
        · refine Wp.skip (by kernel_rfl) ?_
          refine sqQ.n ⟨(.v (.str a0)) :: q1 ((.v (.sl .nil (List.map eI []))) :: (.ptr 0 0) :: (appD 3 (List.map eI v26)) :: (dI v27) :: q35 []), [(.cells [(dI 0), (dI 0)]), .dead, .dead, (appO 1 (List.map eI v26))]⟩ (by generalize v26 = z0; cases z0 <;> kernel_rfl) ?_
          refine seqQ.n ?_
          refine Wp.block' 1 [0, 2, 3, 4, 5] 4 (by kernel_rfl) ?_
          refine Wp.seq' (by kernel_rfl) ?_
          refine Wp.region (by kernel_rfl) ?_
          refine Ops.seg' 2 2 (by kernel_rfl) ?_
          obtain ⟨v37, ev37, h⟩ := bnd_some h
          refine Ops.one' 3 (fun h0 e0 => (str_sub (T := T) h0 9 a0 v37 (some v27) none ev37 (by kernel_rfl))) (by kernel_rfl) (by kernel_rfl) ?_
          obtain ⟨v38, ev38, h⟩ := bnd_some h
          refine Ops.one' 4 (fun h0 e0 => (call_ok (E' := E) (h := h0) (by kernel_rfl) (Args.v (.str v37) (eS v37) (by kernel_rfl) Args.nil) (ok81 m v37 v38 ev38 n (by omega)))) (by kernel_rfl) (by kernel_rfl) ?_
          refine Ops.seg' 5 9 (by kernel_rfl) ?_
          refine Ops.done (by kernel_rfl) ?_
          refine seqQ.n ?_
          refine Wp.seq' (by kernel_rfl) ?_
          refine Wp.seq' (by kernel_rfl) ?_
          refine Wp.region (by kernel_rfl) ?_
          refine Ops.seg' 3 3 (by kernel_rfl) ?_
          have J60j45 : ∀ (d41 d42 : D) (v43 : Bool) (v44 : Bool), f60_r1 m v26 v27 v38 v44 = some sx35 → Ops (X60 n) (opl (cL (cL (cR (cL (cR (cL (cL (cR (cL (cR (cR (cR C60))))))))))))) 6 ⟨(.v (.str a0)) :: q1 ((.v (.sl .nil (List.map eI []))) :: (.ptr 0 0) :: (appD 3 (List.map eI v26)) :: (dI v27) :: (.v (.int .i32 v38.1)) :: (dI v38.2) :: q8 ((.v (.tuple [(.int .i32 v38.1), (vI v38.2)])) :: (.v (.str a0)) :: (dI v27) :: (.v (.str v37)) :: (.v (.tuple [(.int .i32 v38.1), (vI v38.2)])) :: (.v (.int .i32 v38.1)) :: (dI v38.2) :: (.v (.int .i32 v38.1)) :: (dB v43) :: (dB v43) :: d41 :: d42 :: (dB v44) :: q12 [])), [(.cells [(dI 0), (dI 0)]), .dead, .dead, (appO 1 (List.map eI v26))]⟩ ((seqQ (X60 n) (cR (cL (cR (cL (cR (cL (cL (cR (cL (cR (cR (cR C60)))))))))))) (seqQ (X60 n) (cR (cR (cL (cR (cL (cL (cR (cL (cR (cR (cR C60))))))))))) (blkQ (X60 n) 1 [0, 2, 3, 4, 5] 4 (lpQ (X60 n) [0, 2, 3, 4, 5] 2 (cL (cL (cR (cL (cR (cR (cR C60))))))) nx30 (blkQ (X60 n) 0 [2, 3, 4] 2 (seqQ (X60 n) (cR (cR (cR (cR C60)))) (fnQ (X60 n).E.T (resOf Proofs.Tryd.prog 60) (.tuple [(eL eI) o.1, e27 o.2])))))))) .normal) := by
            intro d41 d42 v43 v44 h
            unfold f60_r1 at h
            refine Ops.done (by kernel_rfl) ?_
            refine seqQ.n ?_
            refine Wp.cnd h [0, 2, 3, 4, 5, 6, 7] 4 (by kernel_rfl) (fun h => ?_) (fun h => ?_)
            · refine Wp.seq' (by kernel_rfl) ?_
              refine Wp.region (by kernel_rfl) ?_
              refine Ops.seg' 1 1 (by kernel_rfl) ?_
              obtain ⟨v46, ev46, h⟩ := bnd_some h
              refine Ops.one' 2 (fun h0 e0 => (call_ok (E' := E) (h := h0) (by kernel_rfl) (Args.v (vI 5) (eI 5) (by kernel_rfl) (Args.v (vI v27) (eI v27) (by kernel_rfl) Args.nil)) (ok80 m 5 v27 v46 ev46 n (by omega)))) (by kernel_rfl) (by kernel_rfl) ?_
              refine Ops.seg' 2 4 (by kernel_rfl) ?_
              refine Ops.done (by kernel_rfl) ?_
              refine seqQ.n ?_
              refine Wp.ret (by kernel_rfl) ?_
              refine sqQ.r ?_
              refine seqQ.r ?_
              refine blkQ.r ?_
              cases h
              refine lpQ.r ?_
              refine blkQ.r ?_
              exact hrx32 _ hsx36 _ (RetOk.forget [0, 2, 3, 4, 5] (by kernel_rfl) (RetOk.mk' (.v (.tuple [(.sl .nil (List.map eI [])), (.agg [(vI v46.fCode), (vI v46.fIndex)])])) (by kernel_rfl) (by kernel_rfl)))
            · refine Wp.skip (by kernel_rfl) ?_
              refine sqQ.n ⟨(.v (.str a0)) :: q1 ((.v (.sl .nil (List.map eI []))) :: (.ptr 0 0) :: (appD 4 (List.map eI v26)) :: (dI v27) :: (.v (.int .i32 v38.1)) :: (dI v38.2) :: q33 []), [(.cells [(dI 0), (dI 0)]), .dead, .dead, .dead, (appO 1 (List.map eI v26))]⟩ (by generalize v26 = z0; cases z0 <;> kernel_rfl) ?_
              refine seqQ.n ?_
              refine Wp.seq' (by kernel_rfl) ?_
              refine Wp.region (by kernel_rfl) ?_
              refine Ops.seg' 4 4 (by kernel_rfl) ?_
              obtain ⟨v47, ev47, h⟩ := bnd_some h
              refine Ops.one' 5 (fun h0 e0 => (app_r (T := T) (g := .nil) h0 44 3 4 1 ti3 .nonfull eI v26 ([w64 v38.1]) v47 ev47 (by kernel_rfl) (by kernel_rfl) (by kernel_rfl) (by kernel_rfl) (fun _ => rfl) (hq_of e0 (by kernel_rfl)))) (by kernel_rfl) (by kernel_rfl) ?_
              refine Ops.seg' 1 6 (by kernel_rfl) ?_
              refine Ops.done (by kernel_rfl) ?_
              refine seqQ.n ?_
              refine Wp.region (by kernel_rfl) ?_
              refine Ops.seg' 4 4 (by kernel_rfl) ?_
              refine Ops.done (by kernel_rfl) ?_
              refine blkQ.n ⟨(.v (.str a0)) :: q1 ((.v (.sl .nil (List.map eI []))) :: (.ptr 0 0) :: (appD 4 (List.map eI v47)) :: (dI (w64 (v27 + v38.2))) :: q35 []), [(.cells [(dI 0), (dI 0)]), .dead, .dead, .dead, (appO 1 (List.map eI v47))]⟩ (by generalize v47 = z0; cases z0 <;> kernel_rfl) ?_
              refine lpQ.n ⟨(.v (.str a0)) :: q1 ((.v (.sl .nil (List.map eI []))) :: (.ptr 0 0) :: (appD 2 (List.map eI v47)) :: (dI (w64 (v27 + v38.2))) :: q35 []), [(.cells [(dI 0), (dI 0)]), .dead, (appO 1 (List.map eI v47))]⟩ (by generalize v47 = z0; cases z0 <;> kernel_rfl) ?_
              cases h
              exact ihx31 v47 (w64 (v27 + v38.2))  _ hsx36 _ (by omega) hrx32 hxx33
          have G60g40 : ∀ v39 : Bool, f60_r1 m v26 v27 v38 ((v39 && (decide (v38.2 ≤ 1)))) = some sx35 → Ops (X60 n) (opl (cL (cL (cR (cL (cR (cL (cL (cR (cL (cR (cR (cR C60))))))))))))) 3 ⟨(.v (.str a0)) :: q1 ((.v (.sl .nil (List.map eI []))) :: (.ptr 0 0) :: (appD 3 (List.map eI v26)) :: (dI v27) :: (.v (.int .i32 v38.1)) :: (dI v38.2) :: q8 ((.v (.tuple [(.int .i32 v38.1), (vI v38.2)])) :: (.v (.str a0)) :: (dI v27) :: (.v (.str v37)) :: (.v (.tuple [(.int .i32 v38.1), (vI v38.2)])) :: (.v (.int .i32 v38.1)) :: (dI v38.2) :: (.v (.int .i32 v38.1)) :: (dB v39) :: (dB v39) :: q15 [])), [(.cells [(dI 0), (dI 0)]), .dead, .dead, (appO 1 (List.map eI v26))]⟩ ((seqQ (X60 n) (cR (cL (cR (cL (cR (cL (cL (cR (cL (cR (cR (cR C60)))))))))))) (seqQ (X60 n) (cR (cR (cL (cR (cL (cL (cR (cL (cR (cR (cR C60))))))))))) (blkQ (X60 n) 1 [0, 2, 3, 4, 5] 4 (lpQ (X60 n) [0, 2, 3, 4, 5] 2 (cL (cL (cR (cL (cR (cR (cR C60))))))) nx30 (blkQ (X60 n) 0 [2, 3, 4] 2 (seqQ (X60 n) (cR (cR (cR (cR C60)))) (fnQ (X60 n).E.T (resOf Proofs.Tryd.prog 60) (.tuple [(eL eI) o.1, e27 o.2])))))))) .normal) := by
            intro v39 h
            cases v39
            · refine Ops.seg' 3 6 (by kernel_rfl) ?_
              refine Ops.st ⟨(.v (.str a0)) :: q1 ((.v (.sl .nil (List.map eI []))) :: (.ptr 0 0) :: (appD 3 (List.map eI v26)) :: (dI v27) :: (.v (.int .i32 v38.1)) :: (dI v38.2) :: q8 ((.v (.tuple [(.int .i32 v38.1), (vI v38.2)])) :: (.v (.str a0)) :: (dI v27) :: (.v (.str v37)) :: (.v (.tuple [(.int .i32 v38.1), (vI v38.2)])) :: (.v (.int .i32 v38.1)) :: (dI v38.2) :: (.v (.int .i32 v38.1)) :: (dB false) :: (dB false) :: u2 ((dB false) :: q12 []))), [(.cells [(dI 0), (dI 0)]), .dead, .dead, (appO 1 (List.map eI v26))]⟩ (by kernel_rfl) ?_
              exact J60j45 _ _ _ _ h
            · refine Ops.seg' 3 6 (by kernel_rfl) ?_
              refine Ops.st ⟨(.v (.str a0)) :: q1 ((.v (.sl .nil (List.map eI []))) :: (.ptr 0 0) :: (appD 3 (List.map eI v26)) :: (dI v27) :: (.v (.int .i32 v38.1)) :: (dI v38.2) :: q8 ((.v (.tuple [(.int .i32 v38.1), (vI v38.2)])) :: (.v (.str a0)) :: (dI v27) :: (.v (.str v37)) :: (.v (.tuple [(.int .i32 v38.1), (vI v38.2)])) :: (.v (.int .i32 v38.1)) :: (dI v38.2) :: (.v (.int .i32 v38.1)) :: (dB true) :: (dB true) :: (dI v38.2) :: (dB (decide (v38.2 ≤ 1))) :: (dB (decide (v38.2 ≤ 1))) :: q12 [])), [(.cells [(dI 0), (dI 0)]), .dead, .dead, (appO 1 (List.map eI v26))]⟩ (by kernel_rfl) ?_
              exact J60j45 _ _ _ _ h
          exact Ops.st ⟨(.v (.str a0)) :: q1 ((.v (.sl .nil (List.map eI []))) :: (.ptr 0 0) :: (appD 3 (List.map eI v26)) :: (dI v27) :: (.v (.int .i32 v38.1)) :: (dI v38.2) :: q8 ((.v (.tuple [(.int .i32 v38.1), (vI v38.2)])) :: (.v (.str a0)) :: (dI v27) :: (.v (.str v37)) :: (.v (.tuple [(.int .i32 v38.1), (vI v38.2)])) :: (.v (.int .i32 v38.1)) :: (dI v38.2) :: (.v (.int .i32 v38.1)) :: (dB ((v38.1 == 65533))) :: (dB ((v38.1 == 65533))) :: q15 [])), [(.cells [(dI 0), (dI 0)]), .dead, .dead, (appO 1 (List.map eI v26))]⟩ (by kernel_rfl) (G60g40 (v38.1 == 65533) h)
        · refine Wp.exit (id := 0) (by kernel_rfl) ?_
          refine sqQ.x ?_
          refine seqQ.x ?_
          cases h
          refine lpQ.x ?_
          refine blkQ.x ⟨q2 ((.v (.sl .nil (List.map eI []))) :: (.ptr 0 0) :: (appD 2 (List.map eI v26)) :: q36 []), [(.cells [(dI 0), (dI 0)]), .dead, (appO 1 (List.map eI v26))]⟩ (by generalize v26 = z0; cases z0 <;> kernel_rfl) ?_
          exact hxx33 (v26, v27)  hsx36
    refine Wp.loop' [0, 2, 3, 4, 5] 2 (by kernel_rfl) ⟨(.v (.str a0)) :: q1 ((.v (.sl .nil (List.map eI []))) :: (.ptr 0 0) :: (appD 2 (List.map eI [])) :: (dI 0) :: q35 []), [(.cells [(dI 0), (dI 0)]), .dead, .dead]⟩ (by kernel_rfl) ?_
    rcases brk_some h with ⟨r50, er50, h⟩ | ⟨y49, ey49, h⟩
    · refine hLx48 _ [] 0  _ er50 n (by omega) (fun r er σ hσ => ?_) (fun y  ey => by cases ey)
      cases er
      refine seqQ.r ?_
      exact fnQ.r' (X60 n) (fun z => (.tuple [(eL eI) z.1, e27 z.2])) h hσ
    · refine hLx48 _ [] 0  _ ey49 n (by omega) (fun r er => by cases er) (fun y  ey => ?_)
      cases ey
      refine seqQ.n ?_
      refine Wp.seq' (by kernel_rfl) ?_
      refine Wp.region (by kernel_rfl) ?_
      refine Ops.seg' 4 4 (by kernel_rfl) ?_
      refine Ops.done (by kernel_rfl) ?_
      refine seqQ.n ?_
      refine Wp.ret (by kernel_rfl) ?_
      exact fnQ.r' (X60 n) (fun z => (.tuple [(eL eI) z.1, e27 z.2])) h (RetOk.tup [(appD 2 (List.map eI y49.1)), (.v (.agg [(vI 0), (vI 0)]))] (by kernel_rfl) (.d (appD 2 (List.map eI y49.1)) _ (appD_frz _ _ _ _) (appF_nt _ _ _) (.v (.agg [(vI 0), (vI 0)]) _ (by kernel_rfl) (by kernel_rfl) .nil)))

/-! ### 61 strings.IndexByte -/
def f61 (m : Nat) (a0 : ByteArray) (a1 : Int) : Option Int := some (Lib.indexByte a0.data.toList a1.toNat.toUInt8)
theorem ok61 (m : Nat) (a0 : ByteArray) (a1 : Int) (o : Int) (h : f61 m a0 a1 = some o) (n : Nat) (hn : m + 1 ≤ n) : Fn Proofs.Tryd.prog E n 61 [.v (eS a0), .v ((eK .u8) a1)] (eI o) := by
  obtain ⟨n, rfl⟩ : ∃ q, n = q + 1 := ⟨n - 1, by omega⟩
  refine ora_fn (xs := [eS a0, (eK .u8) a1]) (by kernel_rfl) (by kernel_rfl) (by kernel_rfl) (F := ixbyteF) ?_ rfl
  cases h
  rfl

/-! ### 32 glosswright/lexicon.Word -/
def f32_r1 (m : Nat) (v67 : Int) (v96 : Bool) : Option (Stp Bool (Int)) :=
  cnd v96
  (some (.ret false))
  (some (.nxt (w64 (v67 + 1))))
def f32_r2 (m : Nat) (v67 : Int) (v77 : Int) (v83 : Bool) : Option (Stp Bool (Int)) :=
  bnd (cnd v83
  (some true)
  (cnd (decide (v77 < 128))
  (bnd (f61 m ((⟨#[32, 9, 10, 40, 41, 91, 93, 44, 59]⟩ : ByteArray)) (IntKind.u8.wrap v77)) fun v100 =>
  some (decide (v100 ≥ 0)))
  (some false))) fun v96 =>
  f32_r1 m v67 v96
def f32_B3 (m : Nat) (v1 : ((List Int) × S27)) (v67 : Int) : Option (Stp Bool (Int)) :=
  cnd (decide (v67 < (v1.1.length : Int)))
  (bnd (idx v1.1 v67) fun v77 =>
  f32_r2 m v67 v77 (((v77 == 0) || (decide (v77 ≥ 983040)))))
  (some (.brk v67))
def f32_r4 (m : Nat) (v1 : ((List Int) × S27)) (v16 : Bool) : Option Bool :=
  cnd v16
  (some false)
  (brk (iter (fun (y : Int) => f32_B3 m v1 y) m 0) some fun y102 =>
  some true)
def f32_r5 (m : Nat) (v1 : ((List Int) × S27)) (v8 : Bool) : Option Bool :=
  f32_r4 m v1 ((v8 || (decide ((v1.1.length : Int) > 30))))
def f32 (m : Nat) (a0 : ByteArray) : Option Bool :=
  bnd (f60 m a0) fun v1 =>
  f32_r5 m v1 (((!((v1.2.fCode == 0) && ((v1.2.fIndex == 0) && true))) || (decide ((v1.1.length : Int) < 1))))
noncomputable abbrev X32 (n : Nat) : Cx := cxOf Proofs.Tryd.prog E 32 n
noncomputable def C32 : Code := bodyOf Proofs.Tryd.prog 32
theorem ok32 (m : Nat) (a0 : ByteArray) (o : Bool) (h : f32 m a0 = some o) (n : Nat) (hn : m + 3 ≤ n) : Fn Proofs.Tryd.prog E n 32 [.v (eS a0)] (eB o) := by
  obtain ⟨n, rfl⟩ : ∃ q, n = q + 1 := ⟨n - 1, by omega⟩
  unfold f32 at h
  refine Fn.of (by kernel_rfl) (by kernel_rfl) (by kernel_rfl) ⟨(.v (.str a0)) :: u40 (u7 []), []⟩ (by kernel_rfl) ?_
  refine Wp.seq' (by kernel_rfl) ?_
  refine Wp.region (by kernel_rfl) ?_
  refine Ops.seg' 1 1 (by kernel_rfl) ?_
  refine Ops.done (by kernel_rfl) ?_
  refine seqQ.n ?_
  refine Wp.seq' (by kernel_rfl) ?_
  refine Wp.region (by kernel_rfl) ?_
  refine Ops.seg' 1 1 (by kernel_rfl) ?_
  obtain ⟨v1, ev1, h⟩ := bnd_some h
  refine Ops.one' 2 (fun h0 e0 => (call_ok (E' := E) (h := h0) (by kernel_rfl) (Args.v (.str a0) (eS a0) (by kernel_rfl) Args.nil) (ok60 m a0 v1 ev1 n (by omega)))) (by kernel_rfl) (by kernel_rfl) ?_
  refine Ops.seg' 6 8 (by kernel_rfl) ?_
  refine Ops.done (by kernel_rfl) ?_
  refine seqQ.n ?_
  refine Wp.seq' (by kernel_rfl) ?_
  refine Wp.seq' (by kernel_rfl) ?_
  refine Wp.region (by kernel_rfl) ?_
  refine Ops.seg' 4 4 (by kernel_rfl) ?_
  have J32j9 : ∀ (d4 d5 d6 : D) (v7 : Bool) (v8 : Bool), f32_r5 m v1 v8 = some o → Ops (X32 n) (opl (cL (cL (cR (cR C32))))) 8 ⟨(.v (.str a0)) :: u1 ((dB false) :: (dP eI v1.1) :: (.ptr 0 0) :: u2 ((.v (.tuple [(vP eI v1.1), (.agg [(vI v1.2.fCode), (vI v1.2.fIndex)])])) :: (.v (.str a0)) :: (.v (.tuple [(vP eI v1.1), (.agg [(vI v1.2.fCode), (vI v1.2.fIndex)])])) :: (dP eI v1.1) :: (.v (.agg [(vI v1.2.fCode), (vI v1.2.fIndex)])) :: (.v (.agg [(vI v1.2.fCode), (vI v1.2.fIndex)])) :: (.v (.agg [(vI 0), (vI 0)])) :: (dB v7) :: (dB v7) :: d4 :: d5 :: d6 :: (dB v8) :: u28 [])), [(.cells [(dI v1.2.fCode), (dI v1.2.fIndex)])]⟩ ((seqQ (X32 n) (cR (cL (cR (cR C32)))) (seqQ (X32 n) (cR (cR (cR C32))) (fnQ (X32 n).E.T (resOf Proofs.Tryd.prog 32) (eB o)))) .normal) := by
    intro d4 d5 d6 v7 v8 h
    unfold f32_r5 at h
    refine Ops.seg' 1 9 (by kernel_rfl) ?_
    have J32j17 : ∀ (d12 d13 d14 : D) (v15 : Bool) (v16 : Bool), f32_r4 m v1 v16 = some o → Ops (X32 n) (opl (cL (cL (cR (cR C32))))) 13 ⟨(.v (.str a0)) :: u1 ((dB false) :: (dP eI v1.1) :: (.ptr 0 0) :: u2 ((.v (.tuple [(vP eI v1.1), (.agg [(vI v1.2.fCode), (vI v1.2.fIndex)])])) :: (.v (.str a0)) :: (.v (.tuple [(vP eI v1.1), (.agg [(vI v1.2.fCode), (vI v1.2.fIndex)])])) :: (dP eI v1.1) :: (.v (.agg [(vI v1.2.fCode), (vI v1.2.fIndex)])) :: (.v (.agg [(vI v1.2.fCode), (vI v1.2.fIndex)])) :: (.v (.agg [(vI 0), (vI 0)])) :: (dB v7) :: (dB v7) :: d4 :: d5 :: d6 :: (dB v15) :: (dB v15) :: d12 :: d13 :: d14 :: (dB v16) :: u23 [])), [(.cells [(dI v1.2.fCode), (dI v1.2.fIndex)])]⟩ ((seqQ (X32 n) (cR (cL (cR (cR C32)))) (seqQ (X32 n) (cR (cR (cR C32))) (fnQ (X32 n).E.T (resOf Proofs.Tryd.prog 32) (eB o)))) .normal) := by
      intro d12 d13 d14 v15 v16 h
      unfold f32_r4 at h
      refine Ops.done (by kernel_rfl) ?_
      refine seqQ.n ?_
      refine Wp.cnd h [2, 3] 1 (by kernel_rfl) (fun h => ?_) (fun h => ?_)
      · refine Wp.seq' (by kernel_rfl) ?_
        refine Wp.region (by kernel_rfl) ?_
        refine Ops.seg' 1 1 (by kernel_rfl) ?_
        refine Ops.done (by kernel_rfl) ?_
        refine seqQ.n ?_
        refine Wp.ret (by kernel_rfl) ?_
        refine sqQ.r ?_
        refine seqQ.r ?_
        exact fnQ.r' (X32 n) (fun z => (eB z)) h (RetOk.mk' (dB false) (by kernel_rfl) (by kernel_rfl))
      · refine Wp.skip (by kernel_rfl) ?_
        refine sqQ.n' ?_
        refine seqQ.n ?_
        refine Wp.seq' (by kernel_rfl) ?_
        refine Wp.seq' (by kernel_rfl) ?_
        refine Wp.region (by kernel_rfl) ?_
        refine Ops.seg' 1 1 (by kernel_rfl) ?_
        refine Ops.one' 2 (fun h0 e0 => (len_r (T := T) h0 44 3 .plain eI v1.1 (by kernel_rfl))) (by kernel_rfl) (by kernel_rfl) ?_
        refine Ops.seg' 1 3 (by kernel_rfl) ?_
        refine Ops.done (by kernel_rfl) ?_
        refine seqQ.n ?_
        refine Wp.block' 0 [2] 1 (by kernel_rfl) ?_
        have hLx101 : ∀ (kx69 : Nat) (v67 : Int)  (ox68 : Bool ⊕ (Int)), iter (fun (y : Int) => f32_B3 m v1 y) kx69 v67 = some ox68 → ∀ nx70, kx69 ≤ nx70 → (∀ r, ox68 = .inl r → ∀ σ, RetOk (X32 n) (resOf Proofs.Tryd.prog 32) (eB r) σ → (seqQ (X32 n) (cR (cR (cR (cR C32)))) (fnQ (X32 n).E.T (resOf Proofs.Tryd.prog 32) (eB o))) .ret σ) → (∀ (y : Int) , ox68 = .inr y → (seqQ (X32 n) (cR (cR (cR (cR C32)))) (fnQ (X32 n).E.T (resOf Proofs.Tryd.prog 32) (eB o))) .normal ⟨q2 ((dB false) :: q22 ((dP eI v1.1) :: (dI ((v1.1.length : Int))) :: (dI y) :: q20 [])), [(.cells [(dI v1.2.fCode), (dI v1.2.fIndex)])]⟩) → Lp (X32 n) [2, 25, 26, 27] 1 (cL (cL (cR (cL (cR (cR (cR C32))))))) nx70 ⟨q2 ((dB false) :: q22 ((dP eI v1.1) :: (dI ((v1.1.length : Int))) :: (dI v67) :: q20 [])), [(.cells [(dI v1.2.fCode), (dI v1.2.fIndex)])]⟩ (blkQ (X32 n) 0 [2] 1 (seqQ (X32 n) (cR (cR (cR (cR C32)))) (fnQ (X32 n).E.T (resOf Proofs.Tryd.prog 32) (eB o)))) := by
          intro kx69
          induction kx69 with
          | zero => intro v67  ox68 h; exact (iter_zero h).elim
          | succ kx69 ihx71 =>
            intro v67  ox68 h nx70 hnx74 hrx72 hxx73
            obtain ⟨nx70, rfl⟩ : ∃ q, nx70 = q + 1 := ⟨nx70 - 1, by omega⟩
            obtain ⟨sx75, h, hsx76⟩ := iter_some h
            have h : f32_B3 m v1 v67 = some sx75 := h
            unfold f32_B3 at h
            refine Lp.succ ?_
            refine Wp.seq' (by kernel_rfl) ?_
            refine Wp.region (by kernel_rfl) ?_
            refine Ops.seg' 1 1 (by kernel_rfl) ?_
            refine Ops.done (by kernel_rfl) ?_
            refine seqQ.n ?_
            refine Wp.seq' (by kernel_rfl) ?_
            refine Wp.cnd h [2, 25, 26, 27] 1 (by kernel_rfl) (fun h => ?_) (fun h => ?_)
            · refine Wp.skip (by kernel_rfl) ?_
              refine sqQ.n' ?_
              refine seqQ.n ?_
              refine Wp.seq' (by kernel_rfl) ?_
              refine Wp.block' 1 [2, 25, 26, 27] 1 (by kernel_rfl) ?_
              refine Wp.seq' (by kernel_rfl) ?_
              refine Wp.region (by kernel_rfl) ?_
              obtain ⟨v77, ev77, h⟩ := bnd_some h
              refine Ops.one' 1 (fun h0 e0 => (ix_r (T := T) h0 44 3 1 .plain eI v1.1 v67 v77 ev77 (by kernel_rfl) (by kernel_rfl) (fun _ => rfl))) (by kernel_rfl) (by kernel_rfl) ?_
              refine Ops.seg' 2 3 (by kernel_rfl) ?_
              refine Ops.done (by kernel_rfl) ?_
              refine seqQ.n ?_
              refine Wp.seq' (by kernel_rfl) ?_
              refine Wp.region (by kernel_rfl) ?_
              refine Ops.seg' 3 3 (by kernel_rfl) ?_
              have J32j84 : ∀ (d80 d81 : D) (v82 : Bool) (v83 : Bool), f32_r2 m v67 v77 v83 = some sx75 → Ops (X32 n) (opl (cL (cR (cL (cL (cR (cR (cL (cL (cR (cL (cR (cR (cR C32)))))))))))))) 6 ⟨q2 ((dB false) :: q3 ((dI v77) :: q18 ((dP eI v1.1) :: (dI ((v1.1.length : Int))) :: (dI v67) :: (dB (decide (v67 < (v1.1.length : Int)))) :: (.vptr [(vI v77)]) :: (dI v77) :: (dI v77) :: (dB v82) :: (dB v82) :: d80 :: d81 :: (dB v83) :: q11 []))), [(.cells [(dI v1.2.fCode), (dI v1.2.fIndex)])]⟩ ((seqQ (X32 n) (cR (cR (cL (cL (cR (cR (cL (cL (cR (cL (cR (cR (cR C32))))))))))))) (blkQ (X32 n) 1 [2, 25, 26, 27] 1 (seqQ (X32 n) (cR (cR (cR (cL (cL (cR (cL (cR (cR (cR C32)))))))))) (lpQ (X32 n) [2, 25, 26, 27] 1 (cL (cL (cR (cL (cR (cR (cR C32))))))) nx70 (blkQ (X32 n) 0 [2] 1 (seqQ (X32 n) (cR (cR (cR (cR C32)))) (fnQ (X32 n).E.T (resOf Proofs.Tryd.prog 32) (eB o)))))))) .normal) := by
                intro d80 d81 v82 v83 h
                unfold f32_r2 at h
                refine Ops.seg' 1 7 (by kernel_rfl) ?_
                have J32j97 : ∀ (d87 d88 d89 d90 d91 d92 d93 d94 : D) (v95 : Bool) (v96 : Bool), f32_r1 m v67 v96 = some sx75 → Ops (X32 n) (opl (cL (cR (cL (cL (cR (cR (cL (cL (cR (cL (cR (cR (cR C32)))))))))))))) 16 ⟨q2 ((dB false) :: q3 ((dI v77) :: q18 ((dP eI v1.1) :: (dI ((v1.1.length : Int))) :: (dI v67) :: (dB (decide (v67 < (v1.1.length : Int)))) :: (.vptr [(vI v77)]) :: (dI v77) :: (dI v77) :: (dB v82) :: (dB v82) :: d80 :: d81 :: (dB v95) :: (dB v95) :: d87 :: d88 :: d89 :: d90 :: d91 :: d92 :: d93 :: d94 :: (dB v96) :: q1 []))), [(.cells [(dI v1.2.fCode), (dI v1.2.fIndex)])]⟩ ((seqQ (X32 n) (cR (cR (cL (cL (cR (cR (cL (cL (cR (cL (cR (cR (cR C32))))))))))))) (blkQ (X32 n) 1 [2, 25, 26, 27] 1 (seqQ (X32 n) (cR (cR (cR (cL (cL (cR (cL (cR (cR (cR C32)))))))))) (lpQ (X32 n) [2, 25, 26, 27] 1 (cL (cL (cR (cL (cR (cR (cR C32))))))) nx70 (blkQ (X32 n) 0 [2] 1 (seqQ (X32 n) (cR (cR (cR (cR C32)))) (fnQ (X32 n).E.T (resOf Proofs.Tryd.prog 32) (eB o)))))))) .normal) := by
                  intro d87 d88 d89 d90 d91 d92 d93 d94 v95 v96 h
                  unfold f32_r1 at h
                  refine Ops.done (by kernel_rfl) ?_
                  refine seqQ.n ?_
                  refine Wp.cnd h [2, 25, 26, 27] 1 (by kernel_rfl) (fun h => ?_) (fun h => ?_)
                  · refine Wp.seq' (by kernel_rfl) ?_
                    refine Wp.region (by kernel_rfl) ?_
                    refine Ops.seg' 1 1 (by kernel_rfl) ?_
                    refine Ops.done (by kernel_rfl) ?_
                    refine seqQ.n ?_
                    refine Wp.ret (by kernel_rfl) ?_
                    refine sqQ.r ?_
                    refine blkQ.r ?_
                    refine seqQ.r ?_
                    cases h
                    refine lpQ.r ?_
                    refine blkQ.r ?_
                    exact hrx72 _ hsx76 _ (RetOk.forget [2, 25, 26, 27] (by kernel_rfl) (RetOk.mk' (dB false) (by kernel_rfl) (by kernel_rfl)))
                  · refine Wp.skip (by kernel_rfl) ?_
                    refine sqQ.n' ?_
                    refine blkQ.n' ?_
                    refine seqQ.n ?_
                    refine Wp.region (by kernel_rfl) ?_
                    refine Ops.seg' 2 2 (by kernel_rfl) ?_
                    refine Ops.done (by kernel_rfl) ?_
                    refine lpQ.n ⟨q2 ((dB false) :: q22 ((dP eI v1.1) :: (dI ((v1.1.length : Int))) :: (dI (w64 (v67 + 1))) :: q20 [])), [(.cells [(dI v1.2.fCode), (dI v1.2.fIndex)])]⟩ (by kernel_rfl) ?_
                    cases h
                    exact ihx71 (w64 (v67 + 1))  _ hsx76 _ (by omega) hrx72 hxx73
                obtain ⟨v96, ev96, h⟩ := bnd_some h
                have G32g86 : ∀ v85 : Bool, (cnd v85 (some true) (cnd (decide (v77 < 128)) (bnd (f61 m ((⟨#[32, 9, 10, 40, 41, 91, 93, 44, 59]⟩ : ByteArray)) (IntKind.u8.wrap v77)) fun v100 => some (decide (v100 ≥ 0))) (some false))) = some v96 → Ops (X32 n) (opl (cL (cR (cL (cL (cR (cR (cL (cL (cR (cL (cR (cR (cR C32)))))))))))))) 7 ⟨q2 ((dB false) :: q3 ((dI v77) :: q18 ((dP eI v1.1) :: (dI ((v1.1.length : Int))) :: (dI v67) :: (dB (decide (v67 < (v1.1.length : Int)))) :: (.vptr [(vI v77)]) :: (dI v77) :: (dI v77) :: (dB v82) :: (dB v82) :: d80 :: d81 :: (dB v85) :: (dB v85) :: q10 []))), [(.cells [(dI v1.2.fCode), (dI v1.2.fIndex)])]⟩ ((seqQ (X32 n) (cR (cR (cL (cL (cR (cR (cL (cL (cR (cL (cR (cR (cR C32))))))))))))) (blkQ (X32 n) 1 [2, 25, 26, 27] 1 (seqQ (X32 n) (cR (cR (cR (cL (cL (cR (cL (cR (cR (cR C32)))))))))) (lpQ (X32 n) [2, 25, 26, 27] 1 (cL (cL (cR (cL (cR (cR (cR C32))))))) nx70 (blkQ (X32 n) 0 [2] 1 (seqQ (X32 n) (cR (cR (cR (cR C32)))) (fnQ (X32 n).E.T (resOf Proofs.Tryd.prog 32) (eB o)))))))) .normal) := by
                  intro v85 ev96
                  cases v85
                  · have ev96 := cnd_f ev96
                    refine Ops.seg' 3 10 (by kernel_rfl) ?_
                    have G32g99 : ∀ v98 : Bool, (cnd v98 (bnd (f61 m ((⟨#[32, 9, 10, 40, 41, 91, 93, 44, 59]⟩ : ByteArray)) (IntKind.u8.wrap v77)) fun v100 => some (decide (v100 ≥ 0))) (some false)) = some v96 → Ops (X32 n) (opl (cL (cR (cL (cL (cR (cR (cL (cL (cR (cL (cR (cR (cR C32)))))))))))))) 10 ⟨q2 ((dB false) :: q3 ((dI v77) :: q18 ((dP eI v1.1) :: (dI ((v1.1.length : Int))) :: (dI v67) :: (dB (decide (v67 < (v1.1.length : Int)))) :: (.vptr [(vI v77)]) :: (dI v77) :: (dI v77) :: (dB v82) :: (dB v82) :: d80 :: d81 :: (dB false) :: (dB false) :: (dI v77) :: (dB v98) :: (dB v98) :: q7 []))), [(.cells [(dI v1.2.fCode), (dI v1.2.fIndex)])]⟩ ((seqQ (X32 n) (cR (cR (cL (cL (cR (cR (cL (cL (cR (cL (cR (cR (cR C32))))))))))))) (blkQ (X32 n) 1 [2, 25, 26, 27] 1 (seqQ (X32 n) (cR (cR (cR (cL (cL (cR (cL (cR (cR (cR C32)))))))))) (lpQ (X32 n) [2, 25, 26, 27] 1 (cL (cL (cR (cL (cR (cR (cR C32))))))) nx70 (blkQ (X32 n) 0 [2] 1 (seqQ (X32 n) (cR (cR (cR (cR C32)))) (fnQ (X32 n).E.T (resOf Proofs.Tryd.prog 32) (eB o)))))))) .normal) := by
                      intro v98 ev96
                      cases v98
                      · have ev96 := cnd_f ev96
                        refine Ops.seg' 6 16 (by kernel_rfl) ?_
                        refine Ops.st ⟨q2 ((dB false) :: q3 ((dI v77) :: q18 ((dP eI v1.1) :: (dI ((v1.1.length : Int))) :: (dI v67) :: (dB (decide (v67 < (v1.1.length : Int)))) :: (.vptr [(vI v77)]) :: (dI v77) :: (dI v77) :: (dB v82) :: (dB v82) :: d80 :: d81 :: (dB false) :: (dB false) :: (dI v77) :: (dB false) :: (dB false) :: u4 ((dB false) :: (dB false) :: q1 [])))), [(.cells [(dI v1.2.fCode), (dI v1.2.fIndex)])]⟩ (by kernel_rfl) ?_
                        exact J32j97 _ _ _ _ _ _ _ _ _ _ (some_sub (fun v96 => f32_r1 m v67 v96 = some sx75) ev96 h)
                      · have ev96 := cnd_t ev96
                        refine Ops.seg' 2 12 (by kernel_rfl) ?_
                        obtain ⟨v100, ev100, ev96⟩ := bnd_some ev96
                        refine Ops.one' 13 (fun h0 e0 => (call_ok (E' := E) (h := h0) (by kernel_rfl) (Args.v (.str ((⟨#[32, 9, 10, 40, 41, 91, 93, 44, 59]⟩ : ByteArray))) (eS ((⟨#[32, 9, 10, 40, 41, 91, 93, 44, 59]⟩ : ByteArray))) (by kernel_rfl) (Args.v (.int .u8 (IntKind.u8.wrap v77)) ((eK .u8) (IntKind.u8.wrap v77)) (by kernel_rfl) Args.nil)) (ok61 m ((⟨#[32, 9, 10, 40, 41, 91, 93, 44, 59]⟩ : ByteArray)) (IntKind.u8.wrap v77) v100 ev100 n (by omega)))) (by kernel_rfl) (by kernel_rfl) ?_
                        refine Ops.seg' 3 16 (by kernel_rfl) ?_
                        refine Ops.st ⟨q2 ((dB false) :: q3 ((dI v77) :: q18 ((dP eI v1.1) :: (dI ((v1.1.length : Int))) :: (dI v67) :: (dB (decide (v67 < (v1.1.length : Int)))) :: (.vptr [(vI v77)]) :: (dI v77) :: (dI v77) :: (dB v82) :: (dB v82) :: d80 :: d81 :: (dB false) :: (dB false) :: (dI v77) :: (dB true) :: (dB true) :: (dI v77) :: (.v (.int .u8 (IntKind.u8.wrap v77))) :: (dI v100) :: (dB (decide (v100 ≥ 0))) :: (dB (decide (v100 ≥ 0))) :: (dB (decide (v100 ≥ 0))) :: q1 []))), [(.cells [(dI v1.2.fCode), (dI v1.2.fIndex)])]⟩ (by kernel_rfl) ?_
                        exact J32j97 _ _ _ _ _ _ _ _ _ _ (some_sub (fun v96 => f32_r1 m v67 v96 = some sx75) ev96 h)
                    exact Ops.st ⟨q2 ((dB false) :: q3 ((dI v77) :: q18 ((dP eI v1.1) :: (dI ((v1.1.length : Int))) :: (dI v67) :: (dB (decide (v67 < (v1.1.length : Int)))) :: (.vptr [(vI v77)]) :: (dI v77) :: (dI v77) :: (dB v82) :: (dB v82) :: d80 :: d81 :: (dB false) :: (dB false) :: (dI v77) :: (dB ((decide (v77 < 128)))) :: (dB ((decide (v77 < 128)))) :: q7 []))), [(.cells [(dI v1.2.fCode), (dI v1.2.fIndex)])]⟩ (by kernel_rfl) (G32g99 (decide (v77 < 128)) ev96)
                  · have ev96 := cnd_t ev96
                    refine Ops.seg' 9 16 (by kernel_rfl) ?_
                    refine Ops.st ⟨q2 ((dB false) :: q3 ((dI v77) :: q18 ((dP eI v1.1) :: (dI ((v1.1.length : Int))) :: (dI v67) :: (dB (decide (v67 < (v1.1.length : Int)))) :: (.vptr [(vI v77)]) :: (dI v77) :: (dI v77) :: (dB v82) :: (dB v82) :: d80 :: d81 :: (dB true) :: (dB true) :: u8 ((dB true) :: q1 [])))), [(.cells [(dI v1.2.fCode), (dI v1.2.fIndex)])]⟩ (by kernel_rfl) ?_
                    exact J32j97 _ _ _ _ _ _ _ _ _ _ (some_sub (fun v96 => f32_r1 m v67 v96 = some sx75) ev96 h)
                exact Ops.st ⟨q2 ((dB false) :: q3 ((dI v77) :: q18 ((dP eI v1.1) :: (dI ((v1.1.length : Int))) :: (dI v67) :: (dB (decide (v67 < (v1.1.length : Int)))) :: (.vptr [(vI v77)]) :: (dI v77) :: (dI v77) :: (dB v82) :: (dB v82) :: d80 :: d81 :: (dB v83) :: (dB v83) :: q10 []))), [(.cells [(dI v1.2.fCode), (dI v1.2.fIndex)])]⟩ (by kernel_rfl) (G32g86 v83 ev96)
              have G32g79 : ∀ v78 : Bool, f32_r2 m v67 v77 ((v78 || (decide (v77 ≥ 983040)))) = some sx75 → Ops (X32 n) (opl (cL (cR (cL (cL (cR (cR (cL (cL (cR (cL (cR (cR (cR C32)))))))))))))) 3 ⟨q2 ((dB false) :: q3 ((dI v77) :: q18 ((dP eI v1.1) :: (dI ((v1.1.length : Int))) :: (dI v67) :: (dB (decide (v67 < (v1.1.length : Int)))) :: (.vptr [(vI v77)]) :: (dI v77) :: (dI v77) :: (dB v78) :: (dB v78) :: q14 []))), [(.cells [(dI v1.2.fCode), (dI v1.2.fIndex)])]⟩ ((seqQ (X32 n) (cR (cR (cL (cL (cR (cR (cL (cL (cR (cL (cR (cR (cR C32))))))))))))) (blkQ (X32 n) 1 [2, 25, 26, 27] 1 (seqQ (X32 n) (cR (cR (cR (cL (cL (cR (cL (cR (cR (cR C32)))))))))) (lpQ (X32 n) [2, 25, 26, 27] 1 (cL (cL (cR (cL (cR (cR (cR C32))))))) nx70 (blkQ (X32 n) 0 [2] 1 (seqQ (X32 n) (cR (cR (cR (cR C32)))) (fnQ (X32 n).E.T (resOf Proofs.Tryd.prog 32) (eB o)))))))) .normal) := by
                intro v78 h
                cases v78
                · refine Ops.seg' 3 6 (by kernel_rfl) ?_
                  refine Ops.st ⟨q2 ((dB false) :: q3 ((dI v77) :: q18 ((dP eI v1.1) :: (dI ((v1.1.length : Int))) :: (dI v67) :: (dB (decide (v67 < (v1.1.length : Int)))) :: (.vptr [(vI v77)]) :: (dI v77) :: (dI v77) :: (dB false) :: (dB false) :: (dI v77) :: (dB (decide (v77 ≥ 983040))) :: (dB (decide (v77 ≥ 983040))) :: q11 []))), [(.cells [(dI v1.2.fCode), (dI v1.2.fIndex)])]⟩ (by kernel_rfl) ?_
                  exact J32j84 _ _ _ _ h
                · refine Ops.seg' 3 6 (by kernel_rfl) ?_
                  refine Ops.st ⟨q2 ((dB false) :: q3 ((dI v77) :: q18 ((dP eI v1.1) :: (dI ((v1.1.length : Int))) :: (dI v67) :: (dB (decide (v67 < (v1.1.length : Int)))) :: (.vptr [(vI v77)]) :: (dI v77) :: (dI v77) :: (dB true) :: (dB true) :: u2 ((dB true) :: q11 [])))), [(.cells [(dI v1.2.fCode), (dI v1.2.fIndex)])]⟩ (by kernel_rfl) ?_
                  exact J32j84 _ _ _ _ h
              exact Ops.st ⟨q2 ((dB false) :: q3 ((dI v77) :: q18 ((dP eI v1.1) :: (dI ((v1.1.length : Int))) :: (dI v67) :: (dB (decide (v67 < (v1.1.length : Int)))) :: (.vptr [(vI v77)]) :: (dI v77) :: (dI v77) :: (dB ((v77 == 0))) :: (dB ((v77 == 0))) :: q14 []))), [(.cells [(dI v1.2.fCode), (dI v1.2.fIndex)])]⟩ (by kernel_rfl) (G32g79 (v77 == 0) h)
            · refine Wp.exit (id := 0) (by kernel_rfl) ?_
              refine sqQ.x ?_
              refine seqQ.x ?_
              cases h
              refine lpQ.x ?_
              refine blkQ.x ⟨q2 ((dB false) :: q22 ((dP eI v1.1) :: (dI ((v1.1.length : Int))) :: (dI v67) :: q20 [])), [(.cells [(dI v1.2.fCode), (dI v1.2.fIndex)])]⟩ (by kernel_rfl) ?_
              exact hxx73 v67  hsx76
        refine Wp.loop' [2, 25, 26, 27] 1 (by kernel_rfl) ⟨q2 ((dB false) :: q22 ((dP eI v1.1) :: (dI ((v1.1.length : Int))) :: (dI 0) :: q20 [])), [(.cells [(dI v1.2.fCode), (dI v1.2.fIndex)])]⟩ (by kernel_rfl) ?_
        rcases brk_some h with ⟨r103, er103, h⟩ | ⟨y102, ey102, h⟩
        · refine hLx101 _ 0  _ er103 n (by omega) (fun r er σ hσ => ?_) (fun y  ey => by cases ey)
          cases er
          refine seqQ.r ?_
          exact fnQ.r' (X32 n) (fun z => (eB z)) h hσ
        · refine hLx101 _ 0  _ ey102 n (by omega) (fun r er => by cases er) (fun y  ey => ?_)
          cases ey
          refine seqQ.n ?_
          refine Wp.seq' (by kernel_rfl) ?_
          refine Wp.region (by kernel_rfl) ?_
          refine Ops.seg' 1 1 (by kernel_rfl) ?_
          refine Ops.done (by kernel_rfl) ?_
          refine seqQ.n ?_
          refine Wp.ret (by kernel_rfl) ?_
          exact fnQ.r' (X32 n) (fun z => (eB z)) h (RetOk.mk' (dB true) (by kernel_rfl) (by kernel_rfl))
    have G32g11 : ∀ v10 : Bool, f32_r4 m v1 ((v10 || (decide ((v1.1.length : Int) > 30)))) = some o → Ops (X32 n) (opl (cL (cL (cR (cR C32))))) 9 ⟨(.v (.str a0)) :: u1 ((dB false) :: (dP eI v1.1) :: (.ptr 0 0) :: u2 ((.v (.tuple [(vP eI v1.1), (.agg [(vI v1.2.fCode), (vI v1.2.fIndex)])])) :: (.v (.str a0)) :: (.v (.tuple [(vP eI v1.1), (.agg [(vI v1.2.fCode), (vI v1.2.fIndex)])])) :: (dP eI v1.1) :: (.v (.agg [(vI v1.2.fCode), (vI v1.2.fIndex)])) :: (.v (.agg [(vI v1.2.fCode), (vI v1.2.fIndex)])) :: (.v (.agg [(vI 0), (vI 0)])) :: (dB v7) :: (dB v7) :: d4 :: d5 :: d6 :: (dB v10) :: (dB v10) :: u27 [])), [(.cells [(dI v1.2.fCode), (dI v1.2.fIndex)])]⟩ ((seqQ (X32 n) (cR (cL (cR (cR C32)))) (seqQ (X32 n) (cR (cR (cR C32))) (fnQ (X32 n).E.T (resOf Proofs.Tryd.prog 32) (eB o)))) .normal) := by
      intro v10 h
      cases v10
      · refine Ops.seg' 1 10 (by kernel_rfl) ?_
        refine Ops.one' 11 (fun h0 e0 => (len_r (T := T) h0 44 3 .plain eI v1.1 (by kernel_rfl))) (by kernel_rfl) (by kernel_rfl) ?_
        refine Ops.seg' 2 13 (by kernel_rfl) ?_
        refine Ops.st ⟨(.v (.str a0)) :: u1 ((dB false) :: (dP eI v1.1) :: (.ptr 0 0) :: u2 ((.v (.tuple [(vP eI v1.1), (.agg [(vI v1.2.fCode), (vI v1.2.fIndex)])])) :: (.v (.str a0)) :: (.v (.tuple [(vP eI v1.1), (.agg [(vI v1.2.fCode), (vI v1.2.fIndex)])])) :: (dP eI v1.1) :: (.v (.agg [(vI v1.2.fCode), (vI v1.2.fIndex)])) :: (.v (.agg [(vI v1.2.fCode), (vI v1.2.fIndex)])) :: (.v (.agg [(vI 0), (vI 0)])) :: (dB v7) :: (dB v7) :: d4 :: d5 :: d6 :: (dB false) :: (dB false) :: (dP eI v1.1) :: (dI ((v1.1.length : Int))) :: (dB (decide ((v1.1.length : Int) > 30))) :: (dB (decide ((v1.1.length : Int) > 30))) :: u23 [])), [(.cells [(dI v1.2.fCode), (dI v1.2.fIndex)])]⟩ (by kernel_rfl) ?_
        exact J32j17 _ _ _ _ _ h
      · refine Ops.seg' 4 13 (by kernel_rfl) ?_
        refine Ops.st ⟨(.v (.str a0)) :: u1 ((dB false) :: (dP eI v1.1) :: (.ptr 0 0) :: u2 ((.v (.tuple [(vP eI v1.1), (.agg [(vI v1.2.fCode), (vI v1.2.fIndex)])])) :: (.v (.str a0)) :: (.v (.tuple [(vP eI v1.1), (.agg [(vI v1.2.fCode), (vI v1.2.fIndex)])])) :: (dP eI v1.1) :: (.v (.agg [(vI v1.2.fCode), (vI v1.2.fIndex)])) :: (.v (.agg [(vI v1.2.fCode), (vI v1.2.fIndex)])) :: (.v (.agg [(vI 0), (vI 0)])) :: (dB v7) :: (dB v7) :: d4 :: d5 :: d6 :: (dB true) :: (dB true) :: u3 ((dB true) :: u23 []))), [(.cells [(dI v1.2.fCode), (dI v1.2.fIndex)])]⟩ (by kernel_rfl) ?_
        exact J32j17 _ _ _ _ _ h
    exact Ops.st ⟨(.v (.str a0)) :: u1 ((dB false) :: (dP eI v1.1) :: (.ptr 0 0) :: u2 ((.v (.tuple [(vP eI v1.1), (.agg [(vI v1.2.fCode), (vI v1.2.fIndex)])])) :: (.v (.str a0)) :: (.v (.tuple [(vP eI v1.1), (.agg [(vI v1.2.fCode), (vI v1.2.fIndex)])])) :: (dP eI v1.1) :: (.v (.agg [(vI v1.2.fCode), (vI v1.2.fIndex)])) :: (.v (.agg [(vI v1.2.fCode), (vI v1.2.fIndex)])) :: (.v (.agg [(vI 0), (vI 0)])) :: (dB v7) :: (dB v7) :: d4 :: d5 :: d6 :: (dB v8) :: (dB v8) :: u27 [])), [(.cells [(dI v1.2.fCode), (dI v1.2.fIndex)])]⟩ (by kernel_rfl) (G32g11 v8 h)
  have G32g3 : ∀ v2 : Bool, f32_r5 m v1 ((v2 || (decide ((v1.1.length : Int) < 1)))) = some o → Ops (X32 n) (opl (cL (cL (cR (cR C32))))) 4 ⟨(.v (.str a0)) :: u1 ((dB false) :: (dP eI v1.1) :: (.ptr 0 0) :: u2 ((.v (.tuple [(vP eI v1.1), (.agg [(vI v1.2.fCode), (vI v1.2.fIndex)])])) :: (.v (.str a0)) :: (.v (.tuple [(vP eI v1.1), (.agg [(vI v1.2.fCode), (vI v1.2.fIndex)])])) :: (dP eI v1.1) :: (.v (.agg [(vI v1.2.fCode), (vI v1.2.fIndex)])) :: (.v (.agg [(vI v1.2.fCode), (vI v1.2.fIndex)])) :: (.v (.agg [(vI 0), (vI 0)])) :: (dB v2) :: (dB v2) :: u32 [])), [(.cells [(dI v1.2.fCode), (dI v1.2.fIndex)])]⟩ ((seqQ (X32 n) (cR (cL (cR (cR C32)))) (seqQ (X32 n) (cR (cR (cR C32))) (fnQ (X32 n).E.T (resOf Proofs.Tryd.prog 32) (eB o)))) .normal) := by
    intro v2 h
    cases v2
    · refine Ops.seg' 1 5 (by kernel_rfl) ?_
      refine Ops.one' 6 (fun h0 e0 => (len_r (T := T) h0 44 3 .plain eI v1.1 (by kernel_rfl))) (by kernel_rfl) (by kernel_rfl) ?_
      refine Ops.seg' 2 8 (by kernel_rfl) ?_
      refine Ops.st ⟨(.v (.str a0)) :: u1 ((dB false) :: (dP eI v1.1) :: (.ptr 0 0) :: u2 ((.v (.tuple [(vP eI v1.1), (.agg [(vI v1.2.fCode), (vI v1.2.fIndex)])])) :: (.v (.str a0)) :: (.v (.tuple [(vP eI v1.1), (.agg [(vI v1.2.fCode), (vI v1.2.fIndex)])])) :: (dP eI v1.1) :: (.v (.agg [(vI v1.2.fCode), (vI v1.2.fIndex)])) :: (.v (.agg [(vI v1.2.fCode), (vI v1.2.fIndex)])) :: (.v (.agg [(vI 0), (vI 0)])) :: (dB false) :: (dB false) :: (dP eI v1.1) :: (dI ((v1.1.length : Int))) :: (dB (decide ((v1.1.length : Int) < 1))) :: (dB (decide ((v1.1.length : Int) < 1))) :: u28 [])), [(.cells [(dI v1.2.fCode), (dI v1.2.fIndex)])]⟩ (by kernel_rfl) ?_
      exact J32j9 _ _ _ _ _ h
    · refine Ops.seg' 4 8 (by kernel_rfl) ?_
      refine Ops.st ⟨(.v (.str a0)) :: u1 ((dB false) :: (dP eI v1.1) :: (.ptr 0 0) :: u2 ((.v (.tuple [(vP eI v1.1), (.agg [(vI v1.2.fCode), (vI v1.2.fIndex)])])) :: (.v (.str a0)) :: (.v (.tuple [(vP eI v1.1), (.agg [(vI v1.2.fCode), (vI v1.2.fIndex)])])) :: (dP eI v1.1) :: (.v (.agg [(vI v1.2.fCode), (vI v1.2.fIndex)])) :: (.v (.agg [(vI v1.2.fCode), (vI v1.2.fIndex)])) :: (.v (.agg [(vI 0), (vI 0)])) :: (dB true) :: (dB true) :: u3 ((dB true) :: u28 []))), [(.cells [(dI v1.2.fCode), (dI v1.2.fIndex)])]⟩ (by kernel_rfl) ?_
      exact J32j9 _ _ _ _ _ h
  exact Ops.st ⟨(.v (.str a0)) :: u1 ((dB false) :: (dP eI v1.1) :: (.ptr 0 0) :: u2 ((.v (.tuple [(vP eI v1.1), (.agg [(vI v1.2.fCode), (vI v1.2.fIndex)])])) :: (.v (.str a0)) :: (.v (.tuple [(vP eI v1.1), (.agg [(vI v1.2.fCode), (vI v1.2.fIndex)])])) :: (dP eI v1.1) :: (.v (.agg [(vI v1.2.fCode), (vI v1.2.fIndex)])) :: (.v (.agg [(vI v1.2.fCode), (vI v1.2.fIndex)])) :: (.v (.agg [(vI 0), (vI 0)])) :: (dB ((!((v1.2.fCode == 0) && ((v1.2.fIndex == 0) && true))))) :: (dB ((!((v1.2.fCode == 0) && ((v1.2.fIndex == 0) && true))))) :: u32 [])), [(.cells [(dI v1.2.fCode), (dI v1.2.fIndex)])]⟩ (by kernel_rfl) (G32g3 (!((v1.2.fCode == 0) && ((v1.2.fIndex == 0) && true))) h)

/-! ### 15 glosswright/paradigm.Validate -/
def f15_r1 (m : Nat) (v76 : Int) (v110 : Bool) : Option (Stp S27 (Int)) :=
  cnd v110
  (bnd (f33 m 5 v76) fun v112 =>
  some (.ret v112))
  (some (.nxt (w64 (v76 + 1))))
def f15_r2 (m : Nat) (v76 : Int) (v86 : S67) (v96 : Bool) : Option (Stp S27 (Int)) :=
  bnd (cnd v96
  (some true)
  (cnd (!(v86.fAdd.toList == ((⟨#[]⟩ : ByteArray)).toList))
  (bnd (f32 m v86.fAdd) fun v115 =>
  some (!v115))
  (some false))) fun v110 =>
  f15_r1 m v76 v110
def f15_B3 (m : Nat) (a0 : S23) (v76 : Int) : Option (Stp S27 (Int)) :=
  cnd (decide (v76 < (a0.fCells.length : Int)))
  (bnd (idx a0.fCells v76) fun v86 =>
  bnd (f40 m v86.fTags) fun v87 =>
  cnd (v87 != 0)
  (bnd (f33 m v87 v76) fun v88 =>
  some (.ret v88))
  (bnd (cnd (!(v86.fCut.toList == ((⟨#[]⟩ : ByteArray)).toList))
  (bnd (f32 m v86.fCut) fun v116 =>
  some (!v116))
  (some false)) fun v96 =>
  f15_r2 m v76 v86 v96))
  (some (.brk v76))
def f15_r4 (m : Nat) (a0 : S23) (v10 : Bool) : Option S27 :=
  cnd v10
  (bnd (f33 m 9 ((-1))) fun v12 =>
  some v12)
  (brk (iter (fun (y : Int) => f15_B3 m a0 y) m 0) some fun y118 =>
  some ((⟨0, 0⟩ : S27)))
def f15 (m : Nat) (a0 : S23) : Option S27 :=
  bnd (f39 m a0.fName) fun v1 =>
  cnd (!v1)
  (bnd (f33 m 10 ((-1))) fun v2 =>
  some v2)
  (f15_r4 m a0 (((decide ((a0.fCells.length : Int) < 1)) || (decide ((a0.fCells.length : Int) > 40)))))
noncomputable abbrev X15 (n : Nat) : Cx := cxOf Proofs.Tryd.prog E 15 n
noncomputable def C15 : Code := bodyOf Proofs.Tryd.prog 15
theorem ok15 (m : Nat) (a0 : S23) (o : S27) (h : f15 m a0 = some o) (n : Nat) (hn : m + 4 ≤ n) : Fn Proofs.Tryd.prog E n 15 [.v (e23 a0)] (e27 o) := by
  obtain ⟨n, rfl⟩ : ∃ q, n = q + 1 := ⟨n - 1, by omega⟩
  unfold f15 at h
  refine Fn.of (by kernel_rfl) (by kernel_rfl) (by kernel_rfl) ⟨(.v (.agg [(.str a0.fName), (vP e67 a0.fCells)])) :: u40 (u21 []), []⟩ (by kernel_rfl) ?_
  refine Wp.seq' (by kernel_rfl) ?_
  refine Wp.region (by kernel_rfl) ?_
  refine Ops.seg' 2 2 (by kernel_rfl) ?_
  refine Ops.done (by kernel_rfl) ?_
  refine seqQ.n ?_
  refine Wp.seq' (by kernel_rfl) ?_
  refine Wp.seq' (by kernel_rfl) ?_
  refine Wp.region (by kernel_rfl) ?_
  refine Ops.seg' 2 2 (by kernel_rfl) ?_
  obtain ⟨v1, ev1, h⟩ := bnd_some h
  refine Ops.one' 3 (fun h0 e0 => (call_ok (E' := E) (h := h0) (by kernel_rfl) (Args.v (.str a0.fName) (eS a0.fName) (by kernel_rfl) Args.nil) (ok39 m a0.fName v1 ev1 n (by omega)))) (by kernel_rfl) (by kernel_rfl) ?_
  refine Ops.seg' 1 4 (by kernel_rfl) ?_
  refine Ops.done (by kernel_rfl) ?_
  refine seqQ.n ?_
  refine Wp.cnd h [1, 2] 2 (by kernel_rfl) (fun h => ?_) (fun h => ?_)
  · refine Wp.seq' (by kernel_rfl) ?_
    refine Wp.region (by kernel_rfl) ?_
    obtain ⟨v2, ev2, h⟩ := bnd_some h
    refine Ops.one' 1 (fun h0 e0 => (call_ok (E' := E) (h := h0) (by kernel_rfl) (Args.v (vI 10) (eI 10) (by kernel_rfl) (Args.v (vI ((-1))) (eI ((-1))) (by kernel_rfl) Args.nil)) (ok33 m 10 ((-1)) v2 ev2 n (by omega)))) (by kernel_rfl) (by kernel_rfl) ?_
    refine Ops.seg' 1 2 (by kernel_rfl) ?_
    refine Ops.done (by kernel_rfl) ?_
    refine seqQ.n ?_
    refine Wp.ret (by kernel_rfl) ?_
    refine sqQ.r ?_
    refine seqQ.r ?_
    exact fnQ.r' (X15 n) (fun z => (e27 z)) h (RetOk.mk' (.v (.agg [(vI v2.fCode), (vI v2.fIndex)])) (by kernel_rfl) (by kernel_rfl))
  · refine Wp.skip (by kernel_rfl) ?_
    refine sqQ.n' ?_
    refine seqQ.n ?_
    refine Wp.seq' (by kernel_rfl) ?_
    refine Wp.seq' (by kernel_rfl) ?_
    refine Wp.region (by kernel_rfl) ?_
    refine Ops.seg' 2 2 (by kernel_rfl) ?_
    refine Ops.one' 3 (fun h0 e0 => (len_r (T := T) h0 22 68 .plain e67 a0.fCells (by kernel_rfl))) (by kernel_rfl) (by kernel_rfl) ?_
    refine Ops.seg' 2 5 (by kernel_rfl) ?_
    have J15j11 : ∀ (d5 d6 d7 d8 : D) (v9 : Bool) (v10 : Bool), f15_r4 m a0 v10 = some o → Ops (X15 n) (opl (cL (cL (cR (cR C15))))) 10 ⟨(.v (.agg [(.str a0.fName), (vP e67 a0.fCells)])) :: (.ptr 0 0) :: (.ptr 1 0) :: u3 ((.ptr 0 0) :: (.v (.str a0.fName)) :: (dB v1) :: (dB (!v1)) :: u1 ((.ptr 0 1) :: (dP e67 a0.fCells) :: (dI ((a0.fCells.length : Int))) :: (dB v9) :: (dB v9) :: d5 :: d6 :: d7 :: d8 :: (dB v10) :: u40 (u1 []))), [(.cells [(.v (.str a0.fName)), (dP e67 a0.fCells)]), (.cells [(dI 0), (dI 0)])]⟩ ((seqQ (X15 n) (cR (cL (cR (cR C15)))) (seqQ (X15 n) (cR (cR (cR C15))) (fnQ (X15 n).E.T (resOf Proofs.Tryd.prog 15) (e27 o)))) .normal) := by
      intro d5 d6 d7 d8 v9 v10 h
      unfold f15_r4 at h
      refine Ops.done (by kernel_rfl) ?_
      refine seqQ.n ?_
      refine Wp.cnd h [1, 2] 2 (by kernel_rfl) (fun h => ?_) (fun h => ?_)
      · refine Wp.seq' (by kernel_rfl) ?_
        refine Wp.region (by kernel_rfl) ?_
        obtain ⟨v12, ev12, h⟩ := bnd_some h
        refine Ops.one' 1 (fun h0 e0 => (call_ok (E' := E) (h := h0) (by kernel_rfl) (Args.v (vI 9) (eI 9) (by kernel_rfl) (Args.v (vI ((-1))) (eI ((-1))) (by kernel_rfl) Args.nil)) (ok33 m 9 ((-1)) v12 ev12 n (by omega)))) (by kernel_rfl) (by kernel_rfl) ?_
        refine Ops.seg' 1 2 (by kernel_rfl) ?_
        refine Ops.done (by kernel_rfl) ?_
        refine seqQ.n ?_
        refine Wp.ret (by kernel_rfl) ?_
        refine sqQ.r ?_
        refine seqQ.r ?_
        exact fnQ.r' (X15 n) (fun z => (e27 z)) h (RetOk.mk' (.v (.agg [(vI v12.fCode), (vI v12.fIndex)])) (by kernel_rfl) (by kernel_rfl))
      · refine Wp.skip (by kernel_rfl) ?_
        refine sqQ.n' ?_
        refine seqQ.n ?_
        refine Wp.seq' (by kernel_rfl) ?_
        refine Wp.seq' (by kernel_rfl) ?_
        refine Wp.region (by kernel_rfl) ?_
        refine Ops.seg' 2 2 (by kernel_rfl) ?_
        refine Ops.one' 3 (fun h0 e0 => (len_r (T := T) h0 22 68 .plain e67 a0.fCells (by kernel_rfl))) (by kernel_rfl) (by kernel_rfl) ?_
        refine Ops.seg' 1 4 (by kernel_rfl) ?_
        refine Ops.done (by kernel_rfl) ?_
        refine seqQ.n ?_
        refine Wp.block' 0 [2] 2 (by kernel_rfl) ?_
        have hLx117 : ∀ (kx78 : Nat) (v76 : Int)  (ox77 : S27 ⊕ (Int)), iter (fun (y : Int) => f15_B3 m a0 y) kx78 v76 = some ox77 → ∀ nx79, kx78 ≤ nx79 → (∀ r, ox77 = .inl r → ∀ σ, RetOk (X15 n) (resOf Proofs.Tryd.prog 15) (e27 r) σ → (seqQ (X15 n) (cR (cR (cR (cR C15)))) (fnQ (X15 n).E.T (resOf Proofs.Tryd.prog 15) (e27 o))) .ret σ) → (∀ (y : Int) , ox77 = .inr y → (seqQ (X15 n) (cR (cR (cR (cR C15)))) (fnQ (X15 n).E.T (resOf Proofs.Tryd.prog 15) (e27 o))) .normal ⟨q2 ((.ptr 1 0) :: q20 ((dP e67 a0.fCells) :: (dI ((a0.fCells.length : Int))) :: (dI y) :: q36 [])), [(.cells [(.v (.str a0.fName)), (dP e67 a0.fCells)]), (.cells [(dI 0), (dI 0)])]⟩) → Lp (X15 n) [2, 23, 24, 25] 2 (cL (cL (cR (cL (cR (cR (cR C15))))))) nx79 ⟨q2 ((.ptr 1 0) :: q20 ((dP e67 a0.fCells) :: (dI ((a0.fCells.length : Int))) :: (dI v76) :: q36 [])), [(.cells [(.v (.str a0.fName)), (dP e67 a0.fCells)]), (.cells [(dI 0), (dI 0)])]⟩ (blkQ (X15 n) 0 [2] 2 (seqQ (X15 n) (cR (cR (cR (cR C15)))) (fnQ (X15 n).E.T (resOf Proofs.Tryd.prog 15) (e27 o)))) := by
          intro kx78
          induction kx78 with
          | zero => intro v76  ox77 h; exact (iter_zero h).elim
          | succ kx78 ihx80 =>
            intro v76  ox77 h nx79 hnx83 hrx81 hxx82
            obtain ⟨nx79, rfl⟩ : ∃ q, nx79 = q + 1 := ⟨nx79 - 1, by omega⟩
            obtain ⟨sx84, h, hsx85⟩ := iter_some h
            have h : f15_B3 m a0 v76 = some sx84 := h
            unfold f15_B3 at h
            refine Lp.succ ?_
            refine Wp.seq' (by kernel_rfl) ?_
            refine Wp.region (by kernel_rfl) ?_
            refine Ops.seg' 1 1 (by kernel_rfl) ?_
            refine Ops.done (by kernel_rfl) ?_
            refine seqQ.n ?_
            refine Wp.seq' (by kernel_rfl) ?_
            refine Wp.cnd h [2, 23, 24, 25] 2 (by kernel_rfl) (fun h => ?_) (fun h => ?_)
            · refine Wp.skip (by kernel_rfl) ?_
              refine sqQ.n' ?_
              refine seqQ.n ?_
              refine Wp.seq' (by kernel_rfl) ?_
              refine Wp.block' 1 [2, 23, 24, 25] 2 (by kernel_rfl) ?_
              refine Wp.seq' (by kernel_rfl) ?_
              refine Wp.region (by kernel_rfl) ?_
              refine Ops.seg' 1 1 (by kernel_rfl) ?_
              obtain ⟨v86, ev86, h⟩ := bnd_some h
              refine Ops.one' 2 (fun h0 e0 => (ix_r (T := T) h0 22 68 3 .plain e67 a0.fCells v76 v86 ev86 (by kernel_rfl) (by kernel_rfl) (fun _ => rfl))) (by kernel_rfl) (by kernel_rfl) ?_
              refine Ops.seg' 4 6 (by kernel_rfl) ?_
              refine Ops.done (by kernel_rfl) ?_
              refine seqQ.n ?_
              refine Wp.seq' (by kernel_rfl) ?_
              refine Wp.seq' (by kernel_rfl) ?_
              refine Wp.region (by kernel_rfl) ?_
              refine Ops.seg' 2 2 (by kernel_rfl) ?_
              obtain ⟨v87, ev87, h⟩ := bnd_some h
              refine Ops.one' 3 (fun h0 e0 => (call_ok (E' := E) (h := h0) (by kernel_rfl) (Args.v (vP eS v86.fTags) ((eL eS) v86.fTags) (by kernel_rfl) Args.nil) (ok40 m v86.fTags v87 ev87 n (by omega)))) (by kernel_rfl) (by kernel_rfl) ?_
              refine Ops.seg' 1 4 (by kernel_rfl) ?_
              refine Ops.done (by kernel_rfl) ?_
              refine seqQ.n ?_
              refine Wp.seq' (by kernel_rfl) ?_
              refine Wp.region (by kernel_rfl) ?_
              refine Ops.seg' 2 2 (by kernel_rfl) ?_
              refine Ops.done (by kernel_rfl) ?_
              refine seqQ.n ?_
              refine Wp.cnd h [2, 3, 4, 23, 24, 25] 3 (by kernel_rfl) (fun h => ?_) (fun h => ?_)
              · refine Wp.seq' (by kernel_rfl) ?_
                refine Wp.region (by kernel_rfl) ?_
                refine Ops.seg' 2 2 (by kernel_rfl) ?_
                obtain ⟨v88, ev88, h⟩ := bnd_some h
                refine Ops.one' 3 (fun h0 e0 => (call_ok (E' := E) (h := h0) (by kernel_rfl) (Args.v (vI v87) (eI v87) (by kernel_rfl) (Args.v (vI v76) (eI v76) (by kernel_rfl) Args.nil)) (ok33 m v87 v76 v88 ev88 n (by omega)))) (by kernel_rfl) (by kernel_rfl) ?_
                refine Ops.seg' 1 4 (by kernel_rfl) ?_
                refine Ops.done (by kernel_rfl) ?_
                refine seqQ.n ?_
                refine Wp.ret (by kernel_rfl) ?_
                refine sqQ.r ?_
                refine seqQ.r ?_
                refine blkQ.r ?_
                refine seqQ.r ?_
                cases h
                refine lpQ.r ?_
                refine blkQ.r ?_
                exact hrx81 _ hsx85 _ (RetOk.forget [2, 23, 24, 25] (by kernel_rfl) (RetOk.mk' (.v (.agg [(vI v88.fCode), (vI v88.fIndex)])) (by kernel_rfl) (by kernel_rfl)))
              · refine Wp.skip (by kernel_rfl) ?_
                refine sqQ.n' ?_
                refine seqQ.n ?_
                refine Wp.seq' (by kernel_rfl) ?_
                refine Wp.region (by kernel_rfl) ?_
                refine Ops.seg' 4 4 (by kernel_rfl) ?_
                have J15j97 : ∀ (d91 d92 d93 d94 : D) (v95 : Bool) (v96 : Bool), f15_r2 m v76 v86 v96 = some sx84 → Ops (X15 n) (opl (cL (cR (cR (cL (cL (cR (cR (cL (cL (cR (cL (cR (cR (cR C15))))))))))))))) 9 ⟨q2 ((.ptr 1 0) :: (dI v76) :: (.ptr 2 0) :: (dI v87) :: q17 ((dP e67 a0.fCells) :: (dI ((a0.fCells.length : Int))) :: (dI v76) :: (dB (decide (v76 < (a0.fCells.length : Int)))) :: (dI v76) :: (.vptr [(vP eS v86.fTags), (.str v86.fCut), (.str v86.fAdd)]) :: (.v (.agg [(vP eS v86.fTags), (.str v86.fCut), (.str v86.fAdd)])) :: (.ptr 2 0) :: (dP eS v86.fTags) :: (dI v87) :: (dI v87) :: (dB (v87 != 0)) :: q3 ((.ptr 2 1) :: (.v (.str v86.fCut)) :: (dB v95) :: (dB v95) :: d91 :: d92 :: d93 :: d94 :: (dB v96) :: q15 []))), [(.cells [(.v (.str a0.fName)), (dP e67 a0.fCells)]), (.cells [(dI 0), (dI 0)]), (.cells [(dP eS v86.fTags), (.v (.str v86.fCut)), (.v (.str v86.fAdd))])]⟩ ((seqQ (X15 n) (cR (cR (cR (cL (cL (cR (cR (cL (cL (cR (cL (cR (cR (cR C15)))))))))))))) (blkQ (X15 n) 1 [2, 23, 24, 25] 2 (seqQ (X15 n) (cR (cR (cR (cL (cL (cR (cL (cR (cR (cR C15)))))))))) (lpQ (X15 n) [2, 23, 24, 25] 2 (cL (cL (cR (cL (cR (cR (cR C15))))))) nx79 (blkQ (X15 n) 0 [2] 2 (seqQ (X15 n) (cR (cR (cR (cR C15)))) (fnQ (X15 n).E.T (resOf Proofs.Tryd.prog 15) (e27 o)))))))) .normal) := by
                  intro d91 d92 d93 d94 v95 v96 h
                  unfold f15_r2 at h
                  refine Ops.seg' 1 10 (by kernel_rfl) ?_
                  have J15j111 : ∀ (d100 d101 d102 d103 d104 d105 d106 d107 d108 : D) (v109 : Bool) (v110 : Bool), f15_r1 m v76 v110 = some sx84 → Ops (X15 n) (opl (cL (cR (cR (cL (cL (cR (cR (cL (cL (cR (cL (cR (cR (cR C15))))))))))))))) 20 ⟨q2 ((.ptr 1 0) :: (dI v76) :: (.ptr 2 0) :: (dI v87) :: q17 ((dP e67 a0.fCells) :: (dI ((a0.fCells.length : Int))) :: (dI v76) :: (dB (decide (v76 < (a0.fCells.length : Int)))) :: (dI v76) :: (.vptr [(vP eS v86.fTags), (.str v86.fCut), (.str v86.fAdd)]) :: (.v (.agg [(vP eS v86.fTags), (.str v86.fCut), (.str v86.fAdd)])) :: (.ptr 2 0) :: (dP eS v86.fTags) :: (dI v87) :: (dI v87) :: (dB (v87 != 0)) :: q3 ((.ptr 2 1) :: (.v (.str v86.fCut)) :: (dB v95) :: (dB v95) :: d91 :: d92 :: d93 :: d94 :: (dB v109) :: (dB v109) :: d100 :: d101 :: d102 :: d103 :: d104 :: d105 :: d106 :: d107 :: d108 :: (dB v110) :: q4 []))), [(.cells [(.v (.str a0.fName)), (dP e67 a0.fCells)]), (.cells [(dI 0), (dI 0)]), (.cells [(dP eS v86.fTags), (.v (.str v86.fCut)), (.v (.str v86.fAdd))])]⟩ ((seqQ (X15 n) (cR (cR (cR (cL (cL (cR (cR (cL (cL (cR (cL (cR (cR (cR C15)))))))))))))) (blkQ (X15 n) 1 [2, 23, 24, 25] 2 (seqQ (X15 n) (cR (cR (cR (cL (cL (cR (cL (cR (cR (cR C15)))))))))) (lpQ (X15 n) [2, 23, 24, 25] 2 (cL (cL (cR (cL (cR (cR (cR C15))))))) nx79 (blkQ (X15 n) 0 [2] 2 (seqQ (X15 n) (cR (cR (cR (cR C15)))) (fnQ (X15 n).E.T (resOf Proofs.Tryd.prog 15) (e27 o)))))))) .normal) := by
                    intro d100 d101 d102 d103 d104 d105 d106 d107 d108 v109 v110 h
                    unfold f15_r1 at h
                    refine Ops.done (by kernel_rfl) ?_
                    refine seqQ.n ?_
                    refine Wp.cnd h [2, 23, 24, 25] 3 (by kernel_rfl) (fun h => ?_) (fun h => ?_)
                    · refine Wp.seq' (by kernel_rfl) ?_
                      refine Wp.region (by kernel_rfl) ?_
                      refine Ops.seg' 1 1 (by kernel_rfl) ?_
                      obtain ⟨v112, ev112, h⟩ := bnd_some h
                      refine Ops.one' 2 (fun h0 e0 => (call_ok (E' := E) (h := h0) (by kernel_rfl) (Args.v (vI 5) (eI 5) (by kernel_rfl) (Args.v (vI v76) (eI v76) (by kernel_rfl) Args.nil)) (ok33 m 5 v76 v112 ev112 n (by omega)))) (by kernel_rfl) (by kernel_rfl) ?_
                      refine Ops.seg' 1 3 (by kernel_rfl) ?_
                      refine Ops.done (by kernel_rfl) ?_
                      refine seqQ.n ?_
                      refine Wp.ret (by kernel_rfl) ?_
                      refine sqQ.r ?_
                      refine blkQ.r ?_
                      refine seqQ.r ?_
                      cases h
                      refine lpQ.r ?_
                      refine blkQ.r ?_
                      exact hrx81 _ hsx85 _ (RetOk.forget [2, 23, 24, 25] (by kernel_rfl) (RetOk.mk' (.v (.agg [(vI v112.fCode), (vI v112.fIndex)])) (by kernel_rfl) (by kernel_rfl)))
                    · refine Wp.skip (by kernel_rfl) ?_
                      refine sqQ.n' ?_
                      refine blkQ.n' ?_
                      refine seqQ.n ?_
                      refine Wp.region (by kernel_rfl) ?_
                      refine Ops.seg' 2 2 (by kernel_rfl) ?_
                      refine Ops.done (by kernel_rfl) ?_
                      refine lpQ.n ⟨q2 ((.ptr 1 0) :: q20 ((dP e67 a0.fCells) :: (dI ((a0.fCells.length : Int))) :: (dI (w64 (v76 + 1))) :: q36 [])), [(.cells [(.v (.str a0.fName)), (dP e67 a0.fCells)]), (.cells [(dI 0), (dI 0)])]⟩ (by kernel_rfl) ?_
                      cases h
                      exact ihx80 (w64 (v76 + 1))  _ hsx85 _ (by omega) hrx81 hxx82
                  obtain ⟨v110, ev110, h⟩ := bnd_some h
                  have G15g99 : ∀ v98 : Bool, (cnd v98 (some true) (cnd (!(v86.fAdd.toList == ((⟨#[]⟩ : ByteArray)).toList)) (bnd (f32 m v86.fAdd) fun v115 => some (!v115)) (some false))) = some v110 → Ops (X15 n) (opl (cL (cR (cR (cL (cL (cR (cR (cL (cL (cR (cL (cR (cR (cR C15))))))))))))))) 10 ⟨q2 ((.ptr 1 0) :: (dI v76) :: (.ptr 2 0) :: (dI v87) :: q17 ((dP e67 a0.fCells) :: (dI ((a0.fCells.length : Int))) :: (dI v76) :: (dB (decide (v76 < (a0.fCells.length : Int)))) :: (dI v76) :: (.vptr [(vP eS v86.fTags), (.str v86.fCut), (.str v86.fAdd)]) :: (.v (.agg [(vP eS v86.fTags), (.str v86.fCut), (.str v86.fAdd)])) :: (.ptr 2 0) :: (dP eS v86.fTags) :: (dI v87) :: (dI v87) :: (dB (v87 != 0)) :: q3 ((.ptr 2 1) :: (.v (.str v86.fCut)) :: (dB v95) :: (dB v95) :: d91 :: d92 :: d93 :: d94 :: (dB v98) :: (dB v98) :: q14 []))), [(.cells [(.v (.str a0.fName)), (dP e67 a0.fCells)]), (.cells [(dI 0), (dI 0)]), (.cells [(dP eS v86.fTags), (.v (.str v86.fCut)), (.v (.str v86.fAdd))])]⟩ ((seqQ (X15 n) (cR (cR (cR (cL (cL (cR (cR (cL (cL (cR (cL (cR (cR (cR C15)))))))))))))) (blkQ (X15 n) 1 [2, 23, 24, 25] 2 (seqQ (X15 n) (cR (cR (cR (cL (cL (cR (cL (cR (cR (cR C15)))))))))) (lpQ (X15 n) [2, 23, 24, 25] 2 (cL (cL (cR (cL (cR (cR (cR C15))))))) nx79 (blkQ (X15 n) 0 [2] 2 (seqQ (X15 n) (cR (cR (cR (cR C15)))) (fnQ (X15 n).E.T (resOf Proofs.Tryd.prog 15) (e27 o)))))))) .normal) := by
                    intro v98 ev110
                    cases v98
                    · have ev110 := cnd_f ev110
                      refine Ops.seg' 4 14 (by kernel_rfl) ?_
                      have G15g114 : ∀ v113 : Bool, (cnd v113 (bnd (f32 m v86.fAdd) fun v115 => some (!v115)) (some false)) = some v110 → Ops (X15 n) (opl (cL (cR (cR (cL (cL (cR (cR (cL (cL (cR (cL (cR (cR (cR C15))))))))))))))) 14 ⟨q2 ((.ptr 1 0) :: (dI v76) :: (.ptr 2 0) :: (dI v87) :: q17 ((dP e67 a0.fCells) :: (dI ((a0.fCells.length : Int))) :: (dI v76) :: (dB (decide (v76 < (a0.fCells.length : Int)))) :: (dI v76) :: (.vptr [(vP eS v86.fTags), (.str v86.fCut), (.str v86.fAdd)]) :: (.v (.agg [(vP eS v86.fTags), (.str v86.fCut), (.str v86.fAdd)])) :: (.ptr 2 0) :: (dP eS v86.fTags) :: (dI v87) :: (dI v87) :: (dB (v87 != 0)) :: q3 ((.ptr 2 1) :: (.v (.str v86.fCut)) :: (dB v95) :: (dB v95) :: d91 :: d92 :: d93 :: d94 :: (dB false) :: (dB false) :: (.ptr 2 2) :: (.v (.str v86.fAdd)) :: (dB v113) :: (dB v113) :: q10 []))), [(.cells [(.v (.str a0.fName)), (dP e67 a0.fCells)]), (.cells [(dI 0), (dI 0)]), (.cells [(dP eS v86.fTags), (.v (.str v86.fCut)), (.v (.str v86.fAdd))])]⟩ ((seqQ (X15 n) (cR (cR (cR (cL (cL (cR (cR (cL (cL (cR (cL (cR (cR (cR C15)))))))))))))) (blkQ (X15 n) 1 [2, 23, 24, 25] 2 (seqQ (X15 n) (cR (cR (cR (cL (cL (cR (cL (cR (cR (cR C15)))))))))) (lpQ (X15 n) [2, 23, 24, 25] 2 (cL (cL (cR (cL (cR (cR (cR C15))))))) nx79 (blkQ (X15 n) 0 [2] 2 (seqQ (X15 n) (cR (cR (cR (cR C15)))) (fnQ (X15 n).E.T (resOf Proofs.Tryd.prog 15) (e27 o)))))))) .normal) := by
                        intro v113 ev110
                        cases v113
                        · have ev110 := cnd_f ev110
                          refine Ops.seg' 6 20 (by kernel_rfl) ?_
                          refine Ops.st ⟨q2 ((.ptr 1 0) :: (dI v76) :: (.ptr 2 0) :: (dI v87) :: q17 ((dP e67 a0.fCells) :: (dI ((a0.fCells.length : Int))) :: (dI v76) :: (dB (decide (v76 < (a0.fCells.length : Int)))) :: (dI v76) :: (.vptr [(vP eS v86.fTags), (.str v86.fCut), (.str v86.fAdd)]) :: (.v (.agg [(vP eS v86.fTags), (.str v86.fCut), (.str v86.fAdd)])) :: (.ptr 2 0) :: (dP eS v86.fTags) :: (dI v87) :: (dI v87) :: (dB (v87 != 0)) :: q3 ((.ptr 2 1) :: (.v (.str v86.fCut)) :: (dB v95) :: (dB v95) :: d91 :: d92 :: d93 :: d94 :: (dB false) :: (dB false) :: (.ptr 2 2) :: (.v (.str v86.fAdd)) :: (dB false) :: (dB false) :: u4 ((dB false) :: (dB false) :: q4 [])))), [(.cells [(.v (.str a0.fName)), (dP e67 a0.fCells)]), (.cells [(dI 0), (dI 0)]), (.cells [(dP eS v86.fTags), (.v (.str v86.fCut)), (.v (.str v86.fAdd))])]⟩ (by kernel_rfl) ?_
                          exact J15j111 _ _ _ _ _ _ _ _ _ _ _ (some_sub (fun v110 => f15_r1 m v76 v110 = some sx84) ev110 h)
                        · have ev110 := cnd_t ev110
                          refine Ops.seg' 2 16 (by kernel_rfl) ?_
                          obtain ⟨v115, ev115, ev110⟩ := bnd_some ev110
                          refine Ops.one' 17 (fun h0 e0 => (call_ok (E' := E) (h := h0) (by kernel_rfl) (Args.v (.str v86.fAdd) (eS v86.fAdd) (by kernel_rfl) Args.nil) (ok32 m v86.fAdd v115 ev115 n (by omega)))) (by kernel_rfl) (by kernel_rfl) ?_
                          refine Ops.seg' 3 20 (by kernel_rfl) ?_
                          refine Ops.st ⟨q2 ((.ptr 1 0) :: (dI v76) :: (.ptr 2 0) :: (dI v87) :: q17 ((dP e67 a0.fCells) :: (dI ((a0.fCells.length : Int))) :: (dI v76) :: (dB (decide (v76 < (a0.fCells.length : Int)))) :: (dI v76) :: (.vptr [(vP eS v86.fTags), (.str v86.fCut), (.str v86.fAdd)]) :: (.v (.agg [(vP eS v86.fTags), (.str v86.fCut), (.str v86.fAdd)])) :: (.ptr 2 0) :: (dP eS v86.fTags) :: (dI v87) :: (dI v87) :: (dB (v87 != 0)) :: q3 ((.ptr 2 1) :: (.v (.str v86.fCut)) :: (dB v95) :: (dB v95) :: d91 :: d92 :: d93 :: d94 :: (dB false) :: (dB false) :: (.ptr 2 2) :: (.v (.str v86.fAdd)) :: (dB true) :: (dB true) :: (.ptr 2 2) :: (.v (.str v86.fAdd)) :: (dB v115) :: (dB (!v115)) :: (dB (!v115)) :: (dB (!v115)) :: q4 []))), [(.cells [(.v (.str a0.fName)), (dP e67 a0.fCells)]), (.cells [(dI 0), (dI 0)]), (.cells [(dP eS v86.fTags), (.v (.str v86.fCut)), (.v (.str v86.fAdd))])]⟩ (by kernel_rfl) ?_
                          exact J15j111 _ _ _ _ _ _ _ _ _ _ _ (some_sub (fun v110 => f15_r1 m v76 v110 = some sx84) ev110 h)
                      exact Ops.st ⟨q2 ((.ptr 1 0) :: (dI v76) :: (.ptr 2 0) :: (dI v87) :: q17 ((dP e67 a0.fCells) :: (dI ((a0.fCells.length : Int))) :: (dI v76) :: (dB (decide (v76 < (a0.fCells.length : Int)))) :: (dI v76) :: (.vptr [(vP eS v86.fTags), (.str v86.fCut), (.str v86.fAdd)]) :: (.v (.agg [(vP eS v86.fTags), (.str v86.fCut), (.str v86.fAdd)])) :: (.ptr 2 0) :: (dP eS v86.fTags) :: (dI v87) :: (dI v87) :: (dB (v87 != 0)) :: q3 ((.ptr 2 1) :: (.v (.str v86.fCut)) :: (dB v95) :: (dB v95) :: d91 :: d92 :: d93 :: d94 :: (dB false) :: (dB false) :: (.ptr 2 2) :: (.v (.str v86.fAdd)) :: (dB ((!(v86.fAdd.toList == ((⟨#[]⟩ : ByteArray)).toList)))) :: (dB ((!(v86.fAdd.toList == ((⟨#[]⟩ : ByteArray)).toList)))) :: q10 []))), [(.cells [(.v (.str a0.fName)), (dP e67 a0.fCells)]), (.cells [(dI 0), (dI 0)]), (.cells [(dP eS v86.fTags), (.v (.str v86.fCut)), (.v (.str v86.fAdd))])]⟩ (by kernel_rfl) (G15g114 (!(v86.fAdd.toList == ((⟨#[]⟩ : ByteArray)).toList)) ev110)
                    · have ev110 := cnd_t ev110
                      refine Ops.seg' 10 20 (by kernel_rfl) ?_
                      refine Ops.st ⟨q2 ((.ptr 1 0) :: (dI v76) :: (.ptr 2 0) :: (dI v87) :: q17 ((dP e67 a0.fCells) :: (dI ((a0.fCells.length : Int))) :: (dI v76) :: (dB (decide (v76 < (a0.fCells.length : Int)))) :: (dI v76) :: (.vptr [(vP eS v86.fTags), (.str v86.fCut), (.str v86.fAdd)]) :: (.v (.agg [(vP eS v86.fTags), (.str v86.fCut), (.str v86.fAdd)])) :: (.ptr 2 0) :: (dP eS v86.fTags) :: (dI v87) :: (dI v87) :: (dB (v87 != 0)) :: q3 ((.ptr 2 1) :: (.v (.str v86.fCut)) :: (dB v95) :: (dB v95) :: d91 :: d92 :: d93 :: d94 :: (dB true) :: (dB true) :: u9 ((dB true) :: q4 [])))), [(.cells [(.v (.str a0.fName)), (dP e67 a0.fCells)]), (.cells [(dI 0), (dI 0)]), (.cells [(dP eS v86.fTags), (.v (.str v86.fCut)), (.v (.str v86.fAdd))])]⟩ (by kernel_rfl) ?_
                      exact J15j111 _ _ _ _ _ _ _ _ _ _ _ (some_sub (fun v110 => f15_r1 m v76 v110 = some sx84) ev110 h)
                  exact Ops.st ⟨q2 ((.ptr 1 0) :: (dI v76) :: (.ptr 2 0) :: (dI v87) :: q17 ((dP e67 a0.fCells) :: (dI ((a0.fCells.length : Int))) :: (dI v76) :: (dB (decide (v76 < (a0.fCells.length : Int)))) :: (dI v76) :: (.vptr [(vP eS v86.fTags), (.str v86.fCut), (.str v86.fAdd)]) :: (.v (.agg [(vP eS v86.fTags), (.str v86.fCut), (.str v86.fAdd)])) :: (.ptr 2 0) :: (dP eS v86.fTags) :: (dI v87) :: (dI v87) :: (dB (v87 != 0)) :: q3 ((.ptr 2 1) :: (.v (.str v86.fCut)) :: (dB v95) :: (dB v95) :: d91 :: d92 :: d93 :: d94 :: (dB v96) :: (dB v96) :: q14 []))), [(.cells [(.v (.str a0.fName)), (dP e67 a0.fCells)]), (.cells [(dI 0), (dI 0)]), (.cells [(dP eS v86.fTags), (.v (.str v86.fCut)), (.v (.str v86.fAdd))])]⟩ (by kernel_rfl) (G15g99 v96 ev110)
                obtain ⟨v96, ev96, h⟩ := bnd_some h
                have G15g90 : ∀ v89 : Bool, (cnd v89 (bnd (f32 m v86.fCut) fun v116 => some (!v116)) (some false)) = some v96 → Ops (X15 n) (opl (cL (cR (cR (cL (cL (cR (cR (cL (cL (cR (cL (cR (cR (cR C15))))))))))))))) 4 ⟨q2 ((.ptr 1 0) :: (dI v76) :: (.ptr 2 0) :: (dI v87) :: q17 ((dP e67 a0.fCells) :: (dI ((a0.fCells.length : Int))) :: (dI v76) :: (dB (decide (v76 < (a0.fCells.length : Int)))) :: (dI v76) :: (.vptr [(vP eS v86.fTags), (.str v86.fCut), (.str v86.fAdd)]) :: (.v (.agg [(vP eS v86.fTags), (.str v86.fCut), (.str v86.fAdd)])) :: (.ptr 2 0) :: (dP eS v86.fTags) :: (dI v87) :: (dI v87) :: (dB (v87 != 0)) :: q3 ((.ptr 2 1) :: (.v (.str v86.fCut)) :: (dB v89) :: (dB v89) :: q20 []))), [(.cells [(.v (.str a0.fName)), (dP e67 a0.fCells)]), (.cells [(dI 0), (dI 0)]), (.cells [(dP eS v86.fTags), (.v (.str v86.fCut)), (.v (.str v86.fAdd))])]⟩ ((seqQ (X15 n) (cR (cR (cR (cL (cL (cR (cR (cL (cL (cR (cL (cR (cR (cR C15)))))))))))))) (blkQ (X15 n) 1 [2, 23, 24, 25] 2 (seqQ (X15 n) (cR (cR (cR (cL (cL (cR (cL (cR (cR (cR C15)))))))))) (lpQ (X15 n) [2, 23, 24, 25] 2 (cL (cL (cR (cL (cR (cR (cR C15))))))) nx79 (blkQ (X15 n) 0 [2] 2 (seqQ (X15 n) (cR (cR (cR (cR C15)))) (fnQ (X15 n).E.T (resOf Proofs.Tryd.prog 15) (e27 o)))))))) .normal) := by
                  intro v89 ev96
                  cases v89
                  · have ev96 := cnd_f ev96
                    refine Ops.seg' 5 9 (by kernel_rfl) ?_
                    refine Ops.st ⟨q2 ((.ptr 1 0) :: (dI v76) :: (.ptr 2 0) :: (dI v87) :: q17 ((dP e67 a0.fCells) :: (dI ((a0.fCells.length : Int))) :: (dI v76) :: (dB (decide (v76 < (a0.fCells.length : Int)))) :: (dI v76) :: (.vptr [(vP eS v86.fTags), (.str v86.fCut), (.str v86.fAdd)]) :: (.v (.agg [(vP eS v86.fTags), (.str v86.fCut), (.str v86.fAdd)])) :: (.ptr 2 0) :: (dP eS v86.fTags) :: (dI v87) :: (dI v87) :: (dB (v87 != 0)) :: q3 ((.ptr 2 1) :: (.v (.str v86.fCut)) :: (dB false) :: (dB false) :: u4 ((dB false) :: q15 [])))), [(.cells [(.v (.str a0.fName)), (dP e67 a0.fCells)]), (.cells [(dI 0), (dI 0)]), (.cells [(dP eS v86.fTags), (.v (.str v86.fCut)), (.v (.str v86.fAdd))])]⟩ (by kernel_rfl) ?_
                    exact J15j97 _ _ _ _ _ _ (some_sub (fun v96 => f15_r2 m v76 v86 v96 = some sx84) ev96 h)
                  · have ev96 := cnd_t ev96
                    refine Ops.seg' 2 6 (by kernel_rfl) ?_
                    obtain ⟨v116, ev116, ev96⟩ := bnd_some ev96
                    refine Ops.one' 7 (fun h0 e0 => (call_ok (E' := E) (h := h0) (by kernel_rfl) (Args.v (.str v86.fCut) (eS v86.fCut) (by kernel_rfl) Args.nil) (ok32 m v86.fCut v116 ev116 n (by omega)))) (by kernel_rfl) (by kernel_rfl) ?_
                    refine Ops.seg' 2 9 (by kernel_rfl) ?_
                    refine Ops.st ⟨q2 ((.ptr 1 0) :: (dI v76) :: (.ptr 2 0) :: (dI v87) :: q17 ((dP e67 a0.fCells) :: (dI ((a0.fCells.length : Int))) :: (dI v76) :: (dB (decide (v76 < (a0.fCells.length : Int)))) :: (dI v76) :: (.vptr [(vP eS v86.fTags), (.str v86.fCut), (.str v86.fAdd)]) :: (.v (.agg [(vP eS v86.fTags), (.str v86.fCut), (.str v86.fAdd)])) :: (.ptr 2 0) :: (dP eS v86.fTags) :: (dI v87) :: (dI v87) :: (dB (v87 != 0)) :: q3 ((.ptr 2 1) :: (.v (.str v86.fCut)) :: (dB true) :: (dB true) :: (.ptr 2 1) :: (.v (.str v86.fCut)) :: (dB v116) :: (dB (!v116)) :: (dB (!v116)) :: q15 []))), [(.cells [(.v (.str a0.fName)), (dP e67 a0.fCells)]), (.cells [(dI 0), (dI 0)]), (.cells [(dP eS v86.fTags), (.v (.str v86.fCut)), (.v (.str v86.fAdd))])]⟩ (by kernel_rfl) ?_
                    exact J15j97 _ _ _ _ _ _ (some_sub (fun v96 => f15_r2 m v76 v86 v96 = some sx84) ev96 h)
                exact Ops.st ⟨q2 ((.ptr 1 0) :: (dI v76) :: (.ptr 2 0) :: (dI v87) :: q17 ((dP e67 a0.fCells) :: (dI ((a0.fCells.length : Int))) :: (dI v76) :: (dB (decide (v76 < (a0.fCells.length : Int)))) :: (dI v76) :: (.vptr [(vP eS v86.fTags), (.str v86.fCut), (.str v86.fAdd)]) :: (.v (.agg [(vP eS v86.fTags), (.str v86.fCut), (.str v86.fAdd)])) :: (.ptr 2 0) :: (dP eS v86.fTags) :: (dI v87) :: (dI v87) :: (dB (v87 != 0)) :: q3 ((.ptr 2 1) :: (.v (.str v86.fCut)) :: (dB ((!(v86.fCut.toList == ((⟨#[]⟩ : ByteArray)).toList)))) :: (dB ((!(v86.fCut.toList == ((⟨#[]⟩ : ByteArray)).toList)))) :: q20 []))), [(.cells [(.v (.str a0.fName)), (dP e67 a0.fCells)]), (.cells [(dI 0), (dI 0)]), (.cells [(dP eS v86.fTags), (.v (.str v86.fCut)), (.v (.str v86.fAdd))])]⟩ (by kernel_rfl) (G15g90 (!(v86.fCut.toList == ((⟨#[]⟩ : ByteArray)).toList)) ev96)
            · refine Wp.exit (id := 0) (by kernel_rfl) ?_
              refine sqQ.x ?_
              refine seqQ.x ?_
              cases h
              refine lpQ.x ?_
              refine blkQ.x ⟨q2 ((.ptr 1 0) :: q20 ((dP e67 a0.fCells) :: (dI ((a0.fCells.length : Int))) :: (dI v76) :: q36 [])), [(.cells [(.v (.str a0.fName)), (dP e67 a0.fCells)]), (.cells [(dI 0), (dI 0)])]⟩ (by kernel_rfl) ?_
              exact hxx82 v76  hsx85
        refine Wp.loop' [2, 23, 24, 25] 2 (by kernel_rfl) ⟨q2 ((.ptr 1 0) :: q20 ((dP e67 a0.fCells) :: (dI ((a0.fCells.length : Int))) :: (dI 0) :: q36 [])), [(.cells [(.v (.str a0.fName)), (dP e67 a0.fCells)]), (.cells [(dI 0), (dI 0)])]⟩ (by kernel_rfl) ?_
        rcases brk_some h with ⟨r119, er119, h⟩ | ⟨y118, ey118, h⟩
        · refine hLx117 _ 0  _ er119 n (by omega) (fun r er σ hσ => ?_) (fun y  ey => by cases ey)
          cases er
          refine seqQ.r ?_
          exact fnQ.r' (X15 n) (fun z => (e27 z)) h hσ
        · refine hLx117 _ 0  _ ey118 n (by omega) (fun r er => by cases er) (fun y  ey => ?_)
          cases ey
          refine seqQ.n ?_
          refine Wp.seq' (by kernel_rfl) ?_
          refine Wp.region (by kernel_rfl) ?_
          refine Ops.seg' 2 2 (by kernel_rfl) ?_
          refine Ops.done (by kernel_rfl) ?_
          refine seqQ.n ?_
          refine Wp.ret (by kernel_rfl) ?_
          exact fnQ.r' (X15 n) (fun z => (e27 z)) h (RetOk.mk' (.v (.agg [(vI 0), (vI 0)])) (by kernel_rfl) (by kernel_rfl))
    have G15g4 : ∀ v3 : Bool, f15_r4 m a0 ((v3 || (decide ((a0.fCells.length : Int) > 40)))) = some o → Ops (X15 n) (opl (cL (cL (cR (cR C15))))) 5 ⟨(.v (.agg [(.str a0.fName), (vP e67 a0.fCells)])) :: (.ptr 0 0) :: (.ptr 1 0) :: u3 ((.ptr 0 0) :: (.v (.str a0.fName)) :: (dB v1) :: (dB (!v1)) :: u1 ((.ptr 0 1) :: (dP e67 a0.fCells) :: (dI ((a0.fCells.length : Int))) :: (dB v3) :: (dB v3) :: u40 (u6 []))), [(.cells [(.v (.str a0.fName)), (dP e67 a0.fCells)]), (.cells [(dI 0), (dI 0)])]⟩ ((seqQ (X15 n) (cR (cL (cR (cR C15)))) (seqQ (X15 n) (cR (cR (cR C15))) (fnQ (X15 n).E.T (resOf Proofs.Tryd.prog 15) (e27 o)))) .normal) := by
      intro v3 h
      cases v3
      · refine Ops.seg' 2 7 (by kernel_rfl) ?_
        refine Ops.one' 8 (fun h0 e0 => (len_r (T := T) h0 22 68 .plain e67 a0.fCells (by kernel_rfl))) (by kernel_rfl) (by kernel_rfl) ?_
        refine Ops.seg' 2 10 (by kernel_rfl) ?_
        refine Ops.st ⟨(.v (.agg [(.str a0.fName), (vP e67 a0.fCells)])) :: (.ptr 0 0) :: (.ptr 1 0) :: u3 ((.ptr 0 0) :: (.v (.str a0.fName)) :: (dB v1) :: (dB (!v1)) :: u1 ((.ptr 0 1) :: (dP e67 a0.fCells) :: (dI ((a0.fCells.length : Int))) :: (dB false) :: (dB false) :: (.ptr 0 1) :: (dP e67 a0.fCells) :: (dI ((a0.fCells.length : Int))) :: (dB (decide ((a0.fCells.length : Int) > 40))) :: (dB (decide ((a0.fCells.length : Int) > 40))) :: u40 (u1 []))), [(.cells [(.v (.str a0.fName)), (dP e67 a0.fCells)]), (.cells [(dI 0), (dI 0)])]⟩ (by kernel_rfl) ?_
        exact J15j11 _ _ _ _ _ _ h
      · refine Ops.seg' 5 10 (by kernel_rfl) ?_
        refine Ops.st ⟨(.v (.agg [(.str a0.fName), (vP e67 a0.fCells)])) :: (.ptr 0 0) :: (.ptr 1 0) :: u3 ((.ptr 0 0) :: (.v (.str a0.fName)) :: (dB v1) :: (dB (!v1)) :: u1 ((.ptr 0 1) :: (dP e67 a0.fCells) :: (dI ((a0.fCells.length : Int))) :: (dB true) :: (dB true) :: u4 ((dB true) :: u40 (u1 [])))), [(.cells [(.v (.str a0.fName)), (dP e67 a0.fCells)]), (.cells [(dI 0), (dI 0)])]⟩ (by kernel_rfl) ?_
        exact J15j11 _ _ _ _ _ _ h
    exact Ops.st ⟨(.v (.agg [(.str a0.fName), (vP e67 a0.fCells)])) :: (.ptr 0 0) :: (.ptr 1 0) :: u3 ((.ptr 0 0) :: (.v (.str a0.fName)) :: (dB v1) :: (dB (!v1)) :: u1 ((.ptr 0 1) :: (dP e67 a0.fCells) :: (dI ((a0.fCells.length : Int))) :: (dB ((decide ((a0.fCells.length : Int) < 1)))) :: (dB ((decide ((a0.fCells.length : Int) < 1)))) :: u40 (u6 []))), [(.cells [(.v (.str a0.fName)), (dP e67 a0.fCells)]), (.cells [(dI 0), (dI 0)])]⟩ (by kernel_rfl) (G15g4 (decide ((a0.fCells.length : Int) < 1)) h)

/-! ### 117 internal/stringslite.HasSuffix -/
def f117_r1 (m : Nat) (v13 : Bool) : Option Bool :=
  some v13
def f117 (m : Nat) (a0 : ByteArray) (a1 : ByteArray) : Option Bool :=
  bnd (cnd (decide ((a0.size : Int) ≥ (a1.size : Int)))
  (bnd (ssub a0 (w64 ((a0.size : Int) - (a1.size : Int))) (a0.size : Int)) fun v15 =>
  some ((v15.toList == a1.toList)))
  (some false)) fun v13 =>
  f117_r1 m v13
noncomputable abbrev X117 (n : Nat) : Cx := cxOf Proofs.Tryd.prog E 117 n
noncomputable def C117 : Code := bodyOf Proofs.Tryd.prog 117
theorem ok117 (m : Nat) (a0 : ByteArray) (a1 : ByteArray) (o : Bool) (h : f117 m a0 a1 = some o) (n : Nat) (hn : m + 1 ≤ n) : Fn Proofs.Tryd.prog E n 117 [.v (eS a0), .v (eS a1)] (eB o) := by
  obtain ⟨n, rfl⟩ : ∃ q, n = q + 1 := ⟨n - 1, by omega⟩
  unfold f117 at h
  refine Fn.of (by kernel_rfl) (by kernel_rfl) (by kernel_rfl) ⟨(.v (.str a0)) :: (.v (.str a1)) :: u19 [], []⟩ (by kernel_rfl) ?_
  refine Wp.seq' (by kernel_rfl) ?_
  refine Wp.region (by kernel_rfl) ?_
  refine Ops.seg' 1 1 (by kernel_rfl) ?_
  refine Ops.done (by kernel_rfl) ?_
  refine seqQ.n ?_
  refine Wp.seq' (by kernel_rfl) ?_
  refine Wp.region (by kernel_rfl) ?_
  refine Ops.seg' 6 6 (by kernel_rfl) ?_
  have J117j14 : ∀ (d3 d4 d5 d6 d7 d8 d9 d10 d11 : D) (v12 : Bool) (v13 : Bool), f117_r1 m v13 = some o → Ops (X117 n) (opl (cL (cR C117))) 16 ⟨(.v (.str a0)) :: (.v (.str a1)) :: u2 ((dB false) :: (.v (.str a0)) :: (dI ((a0.size : Int))) :: (.v (.str a1)) :: (dI ((a1.size : Int))) :: (dB v12) :: (dB v12) :: d3 :: d4 :: d5 :: d6 :: d7 :: d8 :: d9 :: d10 :: d11 :: (dB v13) :: []), []⟩ ((seqQ (X117 n) (cR (cR C117)) (fnQ (X117 n).E.T (resOf Proofs.Tryd.prog 117) (eB o))) .normal) := by
    intro d3 d4 d5 d6 d7 d8 d9 d10 d11 v12 v13 h
    unfold f117_r1 at h
    refine Ops.seg' 1 17 (by kernel_rfl) ?_
    refine Ops.done (by kernel_rfl) ?_
    refine seqQ.n ?_
    refine Wp.ret (by kernel_rfl) ?_
    exact fnQ.r' (X117 n) (fun z => (eB z)) h (RetOk.mk' (dB v13) (by kernel_rfl) (by kernel_rfl))
  obtain ⟨v13, ev13, h⟩ := bnd_some h
  have G117g2 : ∀ v1 : Bool, (cnd v1 (bnd (ssub a0 (w64 ((a0.size : Int) - (a1.size : Int))) (a0.size : Int)) fun v15 => some ((v15.toList == a1.toList))) (some false)) = some v13 → Ops (X117 n) (opl (cL (cR C117))) 6 ⟨(.v (.str a0)) :: (.v (.str a1)) :: u2 ((dB false) :: (.v (.str a0)) :: (dI ((a0.size : Int))) :: (.v (.str a1)) :: (dI ((a1.size : Int))) :: (dB v1) :: (dB v1) :: u10 []), []⟩ ((seqQ (X117 n) (cR (cR C117)) (fnQ (X117 n).E.T (resOf Proofs.Tryd.prog 117) (eB o))) .normal) := by
    intro v1 ev13
    cases v1
    · have ev13 := cnd_f ev13
      refine Ops.seg' 10 16 (by kernel_rfl) ?_
      refine Ops.st ⟨(.v (.str a0)) :: (.v (.str a1)) :: u2 ((dB false) :: (.v (.str a0)) :: (dI ((a0.size : Int))) :: (.v (.str a1)) :: (dI ((a1.size : Int))) :: (dB false) :: (dB false) :: u9 ((dB false) :: [])), []⟩ (by kernel_rfl) ?_
      exact J117j14 _ _ _ _ _ _ _ _ _ _ _ (some_sub (fun v13 => f117_r1 m v13 = some o) ev13 h)
    · have ev13 := cnd_t ev13
      refine Ops.seg' 6 12 (by kernel_rfl) ?_
      obtain ⟨v15, ev15, ev13⟩ := bnd_some ev13
      refine Ops.one' 13 (fun h0 e0 => (str_sub (T := T) h0 9 a0 v15 (some (w64 ((a0.size : Int) - (a1.size : Int)))) none ev15 (by kernel_rfl))) (by kernel_rfl) (by kernel_rfl) ?_
      refine Ops.seg' 3 16 (by kernel_rfl) ?_
      refine Ops.st ⟨(.v (.str a0)) :: (.v (.str a1)) :: u2 ((dB false) :: (.v (.str a0)) :: (dI ((a0.size : Int))) :: (.v (.str a1)) :: (dI ((a1.size : Int))) :: (dB true) :: (dB true) :: (.v (.str a0)) :: (.v (.str a0)) :: (dI ((a0.size : Int))) :: (.v (.str a1)) :: (dI ((a1.size : Int))) :: (dI (w64 ((a0.size : Int) - (a1.size : Int)))) :: (.v (.str v15)) :: (.v (.str a1)) :: (dB ((v15.toList == a1.toList))) :: (dB ((v15.toList == a1.toList))) :: []), []⟩ (by kernel_rfl) ?_
      exact J117j14 _ _ _ _ _ _ _ _ _ _ _ (some_sub (fun v13 => f117_r1 m v13 = some o) ev13 h)
  exact Ops.st ⟨(.v (.str a0)) :: (.v (.str a1)) :: u2 ((dB false) :: (.v (.str a0)) :: (dI ((a0.size : Int))) :: (.v (.str a1)) :: (dI ((a1.size : Int))) :: (dB ((decide ((a0.size : Int) ≥ (a1.size : Int))))) :: (dB ((decide ((a0.size : Int) ≥ (a1.size : Int))))) :: u10 []), []⟩ (by kernel_rfl) (G117g2 (decide ((a0.size : Int) ≥ (a1.size : Int))) ev13)

/-! ### 102 internal/stringslite.CutSuffix -/
def f102 (m : Nat) (a0 : ByteArray) (a1 : ByteArray) : Option (ByteArray × Bool) :=
  bnd (f117 m a0 a1) fun v1 =>
  cnd (!v1)
  (some ((a0, false)))
  (bnd (ssub a0 0 (w64 ((a0.size : Int) - (a1.size : Int)))) fun v2 =>
  some ((v2, true)))
noncomputable abbrev X102 (n : Nat) : Cx := cxOf Proofs.Tryd.prog E 102 n
noncomputable def C102 : Code := bodyOf Proofs.Tryd.prog 102
theorem ok102 (m : Nat) (a0 : ByteArray) (a1 : ByteArray) (o : (ByteArray × Bool)) (h : f102 m a0 a1 = some o) (n : Nat) (hn : m + 2 ≤ n) : Fn Proofs.Tryd.prog E n 102 [.v (eS a0), .v (eS a1)] (.tuple [eS o.1, eB o.2]) := by
  obtain ⟨n, rfl⟩ : ∃ q, n = q + 1 := ⟨n - 1, by omega⟩
  unfold f102 at h
  refine Fn.of (by kernel_rfl) (by kernel_rfl) (by kernel_rfl) ⟨(.v (.str a0)) :: (.v (.str a1)) :: u16 [], []⟩ (by kernel_rfl) ?_
  refine Wp.seq' (by kernel_rfl) ?_
  refine Wp.region (by kernel_rfl) ?_
  refine Ops.seg' 2 2 (by kernel_rfl) ?_
  refine Ops.done (by kernel_rfl) ?_
  refine seqQ.n ?_
  refine Wp.seq' (by kernel_rfl) ?_
  refine Wp.seq' (by kernel_rfl) ?_
  refine Wp.region (by kernel_rfl) ?_
  refine Ops.seg' 2 2 (by kernel_rfl) ?_
  obtain ⟨v1, ev1, h⟩ := bnd_some h
  refine Ops.one' 3 (fun h0 e0 => (call_ok (E' := E) (h := h0) (by kernel_rfl) (Args.v (.str a0) (eS a0) (by kernel_rfl) (Args.v (.str a1) (eS a1) (by kernel_rfl) Args.nil)) (ok117 m a0 a1 v1 ev1 n (by omega)))) (by kernel_rfl) (by kernel_rfl) ?_
  refine Ops.seg' 1 4 (by kernel_rfl) ?_
  refine Ops.done (by kernel_rfl) ?_
  refine seqQ.n ?_
  refine Wp.cnd h [0, 1, 4, 5] 0 (by kernel_rfl) (fun h => ?_) (fun h => ?_)
  · refine Wp.seq' (by kernel_rfl) ?_
    refine Wp.region (by kernel_rfl) ?_
    refine Ops.seg' 3 3 (by kernel_rfl) ?_
    refine Ops.done (by kernel_rfl) ?_
    refine seqQ.n ?_
    refine Wp.ret (by kernel_rfl) ?_
    refine sqQ.r ?_
    refine seqQ.r ?_
    exact fnQ.r' (X102 n) (fun z => (.tuple [eS z.1, eB z.2])) h (RetOk.mk' (.v (.tuple [(.str a0), (vB false)])) (by kernel_rfl) (by kernel_rfl))
  · refine Wp.skip (by kernel_rfl) ?_
    refine sqQ.n' ?_
    refine seqQ.n ?_
    refine Wp.seq' (by kernel_rfl) ?_
    refine Wp.region (by kernel_rfl) ?_
    refine Ops.seg' 6 6 (by kernel_rfl) ?_
    obtain ⟨v2, ev2, h⟩ := bnd_some h
    refine Ops.one' 7 (fun h0 e0 => (str_sub (T := T) h0 9 a0 v2 none (some (w64 ((a0.size : Int) - (a1.size : Int)))) ev2 (by kernel_rfl))) (by kernel_rfl) (by kernel_rfl) ?_
    refine Ops.seg' 2 9 (by kernel_rfl) ?_
    refine Ops.done (by kernel_rfl) ?_
    refine seqQ.n ?_
    refine Wp.ret (by kernel_rfl) ?_
    exact fnQ.r' (X102 n) (fun z => (.tuple [eS z.1, eB z.2])) h (RetOk.mk' (.v (.tuple [(.str v2), (vB true)])) (by kernel_rfl) (by kernel_rfl))

/-! ### 83 strings.CutSuffix -/
def f83 (m : Nat) (a0 : ByteArray) (a1 : ByteArray) : Option (ByteArray × Bool) :=
  bnd (f102 m a0 a1) fun v1 =>
  some ((v1.1, v1.2))
noncomputable abbrev X83 (n : Nat) : Cx := cxOf Proofs.Tryd.prog E 83 n
noncomputable def C83 : Code := bodyOf Proofs.Tryd.prog 83
theorem ok83 (m : Nat) (a0 : ByteArray) (a1 : ByteArray) (o : (ByteArray × Bool)) (h : f83 m a0 a1 = some o) (n : Nat) (hn : m + 3 ≤ n) : Fn Proofs.Tryd.prog E n 83 [.v (eS a0), .v (eS a1)] (.tuple [eS o.1, eB o.2]) := by
  obtain ⟨n, rfl⟩ : ∃ q, n = q + 1 := ⟨n - 1, by omega⟩
  unfold f83 at h
  refine Fn.of (by kernel_rfl) (by kernel_rfl) (by kernel_rfl) ⟨(.v (.str a0)) :: (.v (.str a1)) :: u9 [], []⟩ (by kernel_rfl) ?_
  refine Wp.seq' (by kernel_rfl) ?_
  refine Wp.region (by kernel_rfl) ?_
  refine Ops.seg' 2 2 (by kernel_rfl) ?_
  refine Ops.done (by kernel_rfl) ?_
  refine seqQ.n ?_
  refine Wp.seq' (by kernel_rfl) ?_
  refine Wp.region (by kernel_rfl) ?_
  refine Ops.seg' 2 2 (by kernel_rfl) ?_
  obtain ⟨v1, ev1, h⟩ := bnd_some h
  refine Ops.one' 3 (fun h0 e0 => (call_ok (E' := E) (h := h0) (by kernel_rfl) (Args.v (.str a0) (eS a0) (by kernel_rfl) (Args.v (.str a1) (eS a1) (by kernel_rfl) Args.nil)) (ok102 m a0 a1 v1 ev1 n (by omega)))) (by kernel_rfl) (by kernel_rfl) ?_
  refine Ops.seg' 4 7 (by kernel_rfl) ?_
  refine Ops.done (by kernel_rfl) ?_
  refine seqQ.n ?_
  refine Wp.ret (by kernel_rfl) ?_
  exact fnQ.r' (X83 n) (fun z => (.tuple [eS z.1, eB z.2])) h (RetOk.mk' (.v (.tuple [(.str v1.1), (vB v1.2)])) (by kernel_rfl) (by kernel_rfl))

/-! ### 84 unicode/utf8.RuneCountInString -/
def f84 (m : Nat) (a0 : ByteArray) : Option Int := if a0.size < 9223372036854775807 then some (Lib.runeCount a0 : Int) else none
theorem ok84 (m : Nat) (a0 : ByteArray) (o : Int) (h : f84 m a0 = some o) (n : Nat) (hn : m + 1 ≤ n) : Fn Proofs.Tryd.prog E n 84 [.v (eS a0)] (eI o) := by
  obtain ⟨n, rfl⟩ : ∃ q, n = q + 1 := ⟨n - 1, by omega⟩
  refine ora_fn (xs := [eS a0]) (by kernel_rfl) (by kernel_rfl) (by kernel_rfl) (F := runesF) ?_ rfl
  unfold f84 at h
  unfold runesF
  split at h
  · rename_i hs
    cases h
    show (if a0.size < 9223372036854775807 then some (V.int .i64 (Lib.runeCount a0)) else none) = _
    rw [if_pos hs]
    rfl
  · cases h

/-! ### 62 glosswright/paradigm.change -/
def f62_r1 (m : Nat) (v2 : ByteArray) (v16 : Bool) : Option (ByteArray × Bool) :=
  some ((v2, v16))
def f62_r2 (m : Nat) (v2 : ByteArray) (v8 : Bool) : Option (ByteArray × Bool) :=
  bnd (cnd v8
  (bnd (f84 m v2) fun v18 =>
  some (decide (v18 ≤ 30)))
  (some false)) fun v16 =>
  f62_r1 m v2 v16
def f62 (m : Nat) (a0 : ByteArray) (a1 : ByteArray) (a2 : ByteArray) : Option (ByteArray × Bool) :=
  bnd (f83 m a0 a1) fun v1 =>
  bnd (scat v1.1 a2) fun v2 =>
  f62_r2 m v2 ((v1.2 && (!(v2.toList == ((⟨#[]⟩ : ByteArray)).toList))))
noncomputable abbrev X62 (n : Nat) : Cx := cxOf Proofs.Tryd.prog E 62 n
noncomputable def C62 : Code := bodyOf Proofs.Tryd.prog 62
theorem ok62 (m : Nat) (a0 : ByteArray) (a1 : ByteArray) (a2 : ByteArray) (o : (ByteArray × Bool)) (h : f62 m a0 a1 a2 = some o) (n : Nat) (hn : m + 4 ≤ n) : Fn Proofs.Tryd.prog E n 62 [.v (eS a0), .v (eS a1), .v (eS a2)] (.tuple [eS o.1, eB o.2]) := by
  obtain ⟨n, rfl⟩ : ∃ q, n = q + 1 := ⟨n - 1, by omega⟩
  unfold f62 at h
  refine Fn.of (by kernel_rfl) (by kernel_rfl) (by kernel_rfl) ⟨(.v (.str a0)) :: (.v (.str a1)) :: (.v (.str a2)) :: u28 [], []⟩ (by kernel_rfl) ?_
  refine Wp.seq' (by kernel_rfl) ?_
  refine Wp.region (by kernel_rfl) ?_
  refine Ops.seg' 2 2 (by kernel_rfl) ?_
  refine Ops.done (by kernel_rfl) ?_
  refine seqQ.n ?_
  refine Wp.seq' (by kernel_rfl) ?_
  refine Wp.region (by kernel_rfl) ?_
  refine Ops.seg' 2 2 (by kernel_rfl) ?_
  obtain ⟨v1, ev1, h⟩ := bnd_some h
  refine Ops.one' 3 (fun h0 e0 => (call_ok (E' := E) (h := h0) (by kernel_rfl) (Args.v (.str a0) (eS a0) (by kernel_rfl) (Args.v (.str a1) (eS a1) (by kernel_rfl) Args.nil)) (ok83 m a0 a1 v1 ev1 n (by omega)))) (by kernel_rfl) (by kernel_rfl) ?_
  refine Ops.seg' 5 8 (by kernel_rfl) ?_
  refine Ops.done (by kernel_rfl) ?_
  refine seqQ.n ?_
  refine Wp.seq' (by kernel_rfl) ?_
  refine Wp.region (by kernel_rfl) ?_
  refine Ops.seg' 2 2 (by kernel_rfl) ?_
  obtain ⟨v2, ev2, h⟩ := bnd_some h
  refine Ops.one' 3 (fun h0 e0 => (str_cat (T := T) h0 9 v1.1 a2 v2 ev2)) (by kernel_rfl) (by kernel_rfl) ?_
  refine Ops.seg' 1 4 (by kernel_rfl) ?_
  refine Ops.done (by kernel_rfl) ?_
  refine seqQ.n ?_
  refine Wp.seq' (by kernel_rfl) ?_
  refine Wp.region (by kernel_rfl) ?_
  refine Ops.seg' 3 3 (by kernel_rfl) ?_
  have J62j9 : ∀ (d5 d6 : D) (v7 : Bool) (v8 : Bool), f62_r2 m v2 v8 = some o → Ops (X62 n) (opl (cL (cR (cR (cR C62))))) 6 ⟨(.v (.str a0)) :: (.v (.str a1)) :: (.v (.str a2)) :: u3 ((.v (.str ((⟨#[]⟩ : ByteArray)))) :: (dB false) :: (.v (.str v1.1)) :: (dB v7) :: (.v (.str v2)) :: (.v (.tuple [(.str v1.1), (vB v1.2)])) :: (.v (.str a0)) :: (.v (.str a1)) :: (.v (.tuple [(.str v1.1), (vB v1.2)])) :: (.v (.str v1.1)) :: (dB v7) :: (.v (.str v1.1)) :: (.v (.str a2)) :: (.v (.str v2)) :: (.v (.str v2)) :: (dB v7) :: (dB v7) :: d5 :: d6 :: (dB v8) :: u5 []), []⟩ ((seqQ (X62 n) (cR (cR (cR (cR C62)))) (fnQ (X62 n).E.T (resOf Proofs.Tryd.prog 62) (.tuple [eS o.1, eB o.2]))) .normal) := by
    intro d5 d6 v7 v8 h
    unfold f62_r2 at h
    refine Ops.seg' 1 7 (by kernel_rfl) ?_
    have J62j17 : ∀ (d12 d13 d14 : D) (v15 : Bool) (v16 : Bool), f62_r1 m v2 v16 = some o → Ops (X62 n) (opl (cL (cR (cR (cR C62))))) 11 ⟨(.v (.str a0)) :: (.v (.str a1)) :: (.v (.str a2)) :: u3 ((.v (.str ((⟨#[]⟩ : ByteArray)))) :: (dB false) :: (.v (.str v1.1)) :: (dB v7) :: (.v (.str v2)) :: (.v (.tuple [(.str v1.1), (vB v1.2)])) :: (.v (.str a0)) :: (.v (.str a1)) :: (.v (.tuple [(.str v1.1), (vB v1.2)])) :: (.v (.str v1.1)) :: (dB v7) :: (.v (.str v1.1)) :: (.v (.str a2)) :: (.v (.str v2)) :: (.v (.str v2)) :: (dB v7) :: (dB v7) :: d5 :: d6 :: (dB v15) :: (dB v15) :: d12 :: d13 :: d14 :: (dB v16) :: []), []⟩ ((seqQ (X62 n) (cR (cR (cR (cR C62)))) (fnQ (X62 n).E.T (resOf Proofs.Tryd.prog 62) (.tuple [eS o.1, eB o.2]))) .normal) := by
      intro d12 d13 d14 v15 v16 h
      unfold f62_r1 at h
      refine Ops.seg' 2 13 (by kernel_rfl) ?_
      refine Ops.done (by kernel_rfl) ?_
      refine seqQ.n ?_
      refine Wp.ret (by kernel_rfl) ?_
      exact fnQ.r' (X62 n) (fun z => (.tuple [eS z.1, eB z.2])) h (RetOk.mk' (.v (.tuple [(.str v2), (vB v16)])) (by kernel_rfl) (by kernel_rfl))
    obtain ⟨v16, ev16, h⟩ := bnd_some h
    have G62g11 : ∀ v10 : Bool, (cnd v10 (bnd (f84 m v2) fun v18 => some (decide (v18 ≤ 30))) (some false)) = some v16 → Ops (X62 n) (opl (cL (cR (cR (cR C62))))) 7 ⟨(.v (.str a0)) :: (.v (.str a1)) :: (.v (.str a2)) :: u3 ((.v (.str ((⟨#[]⟩ : ByteArray)))) :: (dB false) :: (.v (.str v1.1)) :: (dB v7) :: (.v (.str v2)) :: (.v (.tuple [(.str v1.1), (vB v1.2)])) :: (.v (.str a0)) :: (.v (.str a1)) :: (.v (.tuple [(.str v1.1), (vB v1.2)])) :: (.v (.str v1.1)) :: (dB v7) :: (.v (.str v1.1)) :: (.v (.str a2)) :: (.v (.str v2)) :: (.v (.str v2)) :: (dB v7) :: (dB v7) :: d5 :: d6 :: (dB v10) :: (dB v10) :: u4 []), []⟩ ((seqQ (X62 n) (cR (cR (cR (cR C62)))) (fnQ (X62 n).E.T (resOf Proofs.Tryd.prog 62) (.tuple [eS o.1, eB o.2]))) .normal) := by
      intro v10 ev16
      cases v10
      · have ev16 := cnd_f ev16
        refine Ops.seg' 4 11 (by kernel_rfl) ?_
        refine Ops.st ⟨(.v (.str a0)) :: (.v (.str a1)) :: (.v (.str a2)) :: u3 ((.v (.str ((⟨#[]⟩ : ByteArray)))) :: (dB false) :: (.v (.str v1.1)) :: (dB v7) :: (.v (.str v2)) :: (.v (.tuple [(.str v1.1), (vB v1.2)])) :: (.v (.str a0)) :: (.v (.str a1)) :: (.v (.tuple [(.str v1.1), (vB v1.2)])) :: (.v (.str v1.1)) :: (dB v7) :: (.v (.str v1.1)) :: (.v (.str a2)) :: (.v (.str v2)) :: (.v (.str v2)) :: (dB v7) :: (dB v7) :: d5 :: d6 :: (dB false) :: (dB false) :: u3 ((dB false) :: [])), []⟩ (by kernel_rfl) ?_
        exact J62j17 _ _ _ _ _ (some_sub (fun v16 => f62_r1 m v2 v16 = some o) ev16 h)
      · have ev16 := cnd_t ev16
        refine Ops.seg' 1 8 (by kernel_rfl) ?_
        obtain ⟨v18, ev18, ev16⟩ := bnd_some ev16
        refine Ops.one' 9 (fun h0 e0 => (call_ok (E' := E) (h := h0) (by kernel_rfl) (Args.v (.str v2) (eS v2) (by kernel_rfl) Args.nil) (ok84 m v2 v18 ev18 n (by omega)))) (by kernel_rfl) (by kernel_rfl) ?_
        refine Ops.seg' 2 11 (by kernel_rfl) ?_
        refine Ops.st ⟨(.v (.str a0)) :: (.v (.str a1)) :: (.v (.str a2)) :: u3 ((.v (.str ((⟨#[]⟩ : ByteArray)))) :: (dB false) :: (.v (.str v1.1)) :: (dB v7) :: (.v (.str v2)) :: (.v (.tuple [(.str v1.1), (vB v1.2)])) :: (.v (.str a0)) :: (.v (.str a1)) :: (.v (.tuple [(.str v1.1), (vB v1.2)])) :: (.v (.str v1.1)) :: (dB v7) :: (.v (.str v1.1)) :: (.v (.str a2)) :: (.v (.str v2)) :: (.v (.str v2)) :: (dB v7) :: (dB v7) :: d5 :: d6 :: (dB true) :: (dB true) :: (.v (.str v2)) :: (dI v18) :: (dB (decide (v18 ≤ 30))) :: (dB (decide (v18 ≤ 30))) :: []), []⟩ (by kernel_rfl) ?_
        exact J62j17 _ _ _ _ _ (some_sub (fun v16 => f62_r1 m v2 v16 = some o) ev16 h)
    exact Ops.st ⟨(.v (.str a0)) :: (.v (.str a1)) :: (.v (.str a2)) :: u3 ((.v (.str ((⟨#[]⟩ : ByteArray)))) :: (dB false) :: (.v (.str v1.1)) :: (dB v7) :: (.v (.str v2)) :: (.v (.tuple [(.str v1.1), (vB v1.2)])) :: (.v (.str a0)) :: (.v (.str a1)) :: (.v (.tuple [(.str v1.1), (vB v1.2)])) :: (.v (.str v1.1)) :: (dB v7) :: (.v (.str v1.1)) :: (.v (.str a2)) :: (.v (.str v2)) :: (.v (.str v2)) :: (dB v7) :: (dB v7) :: d5 :: d6 :: (dB v8) :: (dB v8) :: u4 []), []⟩ (by kernel_rfl) (G62g11 v8 ev16)
  have G62g4 : ∀ v3 : Bool, f62_r2 m v2 ((v3 && (!(v2.toList == ((⟨#[]⟩ : ByteArray)).toList)))) = some o → Ops (X62 n) (opl (cL (cR (cR (cR C62))))) 3 ⟨(.v (.str a0)) :: (.v (.str a1)) :: (.v (.str a2)) :: u3 ((.v (.str ((⟨#[]⟩ : ByteArray)))) :: (dB false) :: (.v (.str v1.1)) :: (dB v3) :: (.v (.str v2)) :: (.v (.tuple [(.str v1.1), (vB v1.2)])) :: (.v (.str a0)) :: (.v (.str a1)) :: (.v (.tuple [(.str v1.1), (vB v1.2)])) :: (.v (.str v1.1)) :: (dB v3) :: (.v (.str v1.1)) :: (.v (.str a2)) :: (.v (.str v2)) :: (.v (.str v2)) :: (dB v3) :: (dB v3) :: u8 []), []⟩ ((seqQ (X62 n) (cR (cR (cR (cR C62)))) (fnQ (X62 n).E.T (resOf Proofs.Tryd.prog 62) (.tuple [eS o.1, eB o.2]))) .normal) := by
    intro v3 h
    cases v3
    · refine Ops.seg' 3 6 (by kernel_rfl) ?_
      refine Ops.st ⟨(.v (.str a0)) :: (.v (.str a1)) :: (.v (.str a2)) :: u3 ((.v (.str ((⟨#[]⟩ : ByteArray)))) :: (dB false) :: (.v (.str v1.1)) :: (dB false) :: (.v (.str v2)) :: (.v (.tuple [(.str v1.1), (vB v1.2)])) :: (.v (.str a0)) :: (.v (.str a1)) :: (.v (.tuple [(.str v1.1), (vB v1.2)])) :: (.v (.str v1.1)) :: (dB false) :: (.v (.str v1.1)) :: (.v (.str a2)) :: (.v (.str v2)) :: (.v (.str v2)) :: (dB false) :: (dB false) :: u2 ((dB false) :: u5 [])), []⟩ (by kernel_rfl) ?_
      exact J62j9 _ _ _ _ h
    · refine Ops.seg' 3 6 (by kernel_rfl) ?_
      refine Ops.st ⟨(.v (.str a0)) :: (.v (.str a1)) :: (.v (.str a2)) :: u3 ((.v (.str ((⟨#[]⟩ : ByteArray)))) :: (dB false) :: (.v (.str v1.1)) :: (dB true) :: (.v (.str v2)) :: (.v (.tuple [(.str v1.1), (vB v1.2)])) :: (.v (.str a0)) :: (.v (.str a1)) :: (.v (.tuple [(.str v1.1), (vB v1.2)])) :: (.v (.str v1.1)) :: (dB true) :: (.v (.str v1.1)) :: (.v (.str a2)) :: (.v (.str v2)) :: (.v (.str v2)) :: (dB true) :: (dB true) :: (.v (.str v2)) :: (dB (!(v2.toList == ((⟨#[]⟩ : ByteArray)).toList))) :: (dB (!(v2.toList == ((⟨#[]⟩ : ByteArray)).toList))) :: u5 []), []⟩ (by kernel_rfl) ?_
      exact J62j9 _ _ _ _ h
  exact Ops.st ⟨(.v (.str a0)) :: (.v (.str a1)) :: (.v (.str a2)) :: u3 ((.v (.str ((⟨#[]⟩ : ByteArray)))) :: (dB false) :: (.v (.str v1.1)) :: (dB v1.2) :: (.v (.str v2)) :: (.v (.tuple [(.str v1.1), (vB v1.2)])) :: (.v (.str a0)) :: (.v (.str a1)) :: (.v (.tuple [(.str v1.1), (vB v1.2)])) :: (.v (.str v1.1)) :: (dB v1.2) :: (.v (.str v1.1)) :: (.v (.str a2)) :: (.v (.str v2)) :: (.v (.str v2)) :: (dB v1.2) :: (dB v1.2) :: u8 []), []⟩ (by kernel_rfl) (G62g4 v1.2 h)

/-! ### 46 slices.Equal[[]string,string] -/
def f46_B1 (m : Nat) (a0 : (List ByteArray)) (a1 : (List ByteArray)) (v6 : Int) : Option (Stp Bool (Int)) :=
  cnd (decide (v6 < (a0.length : Int)))
  (bnd (idx a0 v6) fun v16 =>
  bnd (idx a1 v6) fun v17 =>
  cnd (!(v16.toList == v17.toList))
  (some (.ret false))
  (some (.nxt (w64 (v6 + 1)))))
  (some (.brk v6))
def f46 (m : Nat) (a0 : (List ByteArray)) (a1 : (List ByteArray)) : Option Bool :=
  cnd (((a0.length : Int)) != ((a1.length : Int)))
  (some false)
  (brk (iter (fun (y : Int) => f46_B1 m a0 a1 y) m 0) some fun y19 =>
  some true)
noncomputable abbrev X46 (n : Nat) : Cx := cxOf Proofs.Tryd.prog E 46 n
noncomputable def C46 : Code := bodyOf Proofs.Tryd.prog 46
theorem ok46 (m : Nat) (a0 : (List ByteArray)) (a1 : (List ByteArray)) (o : Bool) (h : f46 m a0 a1 = some o) (n : Nat) (hn : m + 1 ≤ n) : Fn Proofs.Tryd.prog E n 46 [.v ((eL eS) a0), .v ((eL eS) a1)] (eB o) := by
  obtain ⟨n, rfl⟩ : ∃ q, n = q + 1 := ⟨n - 1, by omega⟩
  unfold f46 at h
  refine Fn.of (by kernel_rfl) (by kernel_rfl) (by kernel_rfl) ⟨(dP eS a0) :: (dP eS a1) :: u24 [], []⟩ (by kernel_rfl) ?_
  refine Wp.seq' (by kernel_rfl) ?_
  refine Wp.region (by kernel_rfl) ?_
  refine Ops.seg' 1 1 (by kernel_rfl) ?_
  refine Ops.done (by kernel_rfl) ?_
  refine seqQ.n ?_
  refine Wp.seq' (by kernel_rfl) ?_
  refine Wp.seq' (by kernel_rfl) ?_
  refine Wp.region (by kernel_rfl) ?_
  refine Ops.seg' 1 1 (by kernel_rfl) ?_
  refine Ops.one' 2 (fun h0 e0 => (len_r (T := T) h0 36 9 .plain eS a0 (by kernel_rfl))) (by kernel_rfl) (by kernel_rfl) ?_
  refine Ops.seg' 1 3 (by kernel_rfl) ?_
  refine Ops.one' 4 (fun h0 e0 => (len_r (T := T) h0 36 9 .plain eS a1 (by kernel_rfl))) (by kernel_rfl) (by kernel_rfl) ?_
  refine Ops.seg' 1 5 (by kernel_rfl) ?_
  refine Ops.done (by kernel_rfl) ?_
  refine seqQ.n ?_
  refine Wp.cnd h [0, 1, 4] 0 (by kernel_rfl) (fun h => ?_) (fun h => ?_)
  · refine Wp.seq' (by kernel_rfl) ?_
    refine Wp.region (by kernel_rfl) ?_
    refine Ops.seg' 1 1 (by kernel_rfl) ?_
    refine Ops.done (by kernel_rfl) ?_
    refine seqQ.n ?_
    refine Wp.ret (by kernel_rfl) ?_
    refine sqQ.r ?_
    refine seqQ.r ?_
    exact fnQ.r' (X46 n) (fun z => (eB z)) h (RetOk.mk' (dB false) (by kernel_rfl) (by kernel_rfl))
  · refine Wp.skip (by kernel_rfl) ?_
    refine sqQ.n' ?_
    refine seqQ.n ?_
    refine Wp.seq' (by kernel_rfl) ?_
    refine Wp.seq' (by kernel_rfl) ?_
    refine Wp.region (by kernel_rfl) ?_
    refine Ops.seg' 1 1 (by kernel_rfl) ?_
    refine Ops.one' 2 (fun h0 e0 => (len_r (T := T) h0 36 9 .plain eS a0 (by kernel_rfl))) (by kernel_rfl) (by kernel_rfl) ?_
    refine Ops.seg' 1 3 (by kernel_rfl) ?_
    refine Ops.done (by kernel_rfl) ?_
    refine seqQ.n ?_
    refine Wp.block' 0 [4] 0 (by kernel_rfl) ?_
    have hLx18 : ∀ (kx8 : Nat) (v6 : Int)  (ox7 : Bool ⊕ (Int)), iter (fun (y : Int) => f46_B1 m a0 a1 y) kx8 v6 = some ox7 → ∀ nx9, kx8 ≤ nx9 → (∀ r, ox7 = .inl r → ∀ σ, RetOk (X46 n) (resOf Proofs.Tryd.prog 46) (eB r) σ → (seqQ (X46 n) (cR (cR (cR C46))) (fnQ (X46 n).E.T (resOf Proofs.Tryd.prog 46) (eB o))) .ret σ) → (∀ (y : Int) , ox7 = .inr y → (seqQ (X46 n) (cR (cR (cR C46))) (fnQ (X46 n).E.T (resOf Proofs.Tryd.prog 46) (eB o))) .normal ⟨(dP eS a0) :: (dP eS a1) :: q2 ((dB false) :: q7 ((dI ((a0.length : Int))) :: (dI y) :: q12 [])), []⟩) → Lp (X46 n) [0, 1, 4, 12, 13] 0 (cL (cL (cR (cL (cR (cR C46)))))) nx9 ⟨(dP eS a0) :: (dP eS a1) :: q2 ((dB false) :: q7 ((dI ((a0.length : Int))) :: (dI v6) :: q12 [])), []⟩ (blkQ (X46 n) 0 [4] 0 (seqQ (X46 n) (cR (cR (cR C46))) (fnQ (X46 n).E.T (resOf Proofs.Tryd.prog 46) (eB o)))) := by
      intro kx8
      induction kx8 with
      | zero => intro v6  ox7 h; exact (iter_zero h).elim
      | succ kx8 ihx10 =>
        intro v6  ox7 h nx9 hnx13 hrx11 hxx12
        obtain ⟨nx9, rfl⟩ : ∃ q, nx9 = q + 1 := ⟨nx9 - 1, by omega⟩
        obtain ⟨sx14, h, hsx15⟩ := iter_some h
        have h : f46_B1 m a0 a1 v6 = some sx14 := h
        unfold f46_B1 at h
        refine Lp.succ ?_
        refine Wp.seq' (by kernel_rfl) ?_
        refine Wp.region (by kernel_rfl) ?_
        refine Ops.seg' 1 1 (by kernel_rfl) ?_
        refine Ops.done (by kernel_rfl) ?_
        refine seqQ.n ?_
        refine Wp.seq' (by kernel_rfl) ?_
        refine Wp.cnd h [0, 1, 4, 12, 13] 0 (by kernel_rfl) (fun h => ?_) (fun h => ?_)
        · refine Wp.skip (by kernel_rfl) ?_
          refine sqQ.n' ?_
          refine seqQ.n ?_
          refine Wp.seq' (by kernel_rfl) ?_
          refine Wp.block' 1 [0, 1, 4, 12, 13] 0 (by kernel_rfl) ?_
          refine Wp.seq' (by kernel_rfl) ?_
          refine Wp.region (by kernel_rfl) ?_
          refine Ops.seg' 2 2 (by kernel_rfl) ?_
          refine Ops.done (by kernel_rfl) ?_
          refine seqQ.n ?_
          refine Wp.seq' (by kernel_rfl) ?_
          refine Wp.region (by kernel_rfl) ?_
          refine Ops.seg' 2 2 (by kernel_rfl) ?_
          obtain ⟨v16, ev16, h⟩ := bnd_some h
          refine Ops.one' 3 (fun h0 e0 => (ix_r (T := T) h0 36 9 1 .plain eS a0 v6 v16 ev16 (by kernel_rfl) (by kernel_rfl) (fun _ => rfl))) (by kernel_rfl) (by kernel_rfl) ?_
          refine Ops.seg' 3 6 (by kernel_rfl) ?_
          obtain ⟨v17, ev17, h⟩ := bnd_some h
          refine Ops.one' 7 (fun h0 e0 => (ix_r (T := T) h0 36 9 1 .plain eS a1 v6 v17 ev17 (by kernel_rfl) (by kernel_rfl) (fun _ => rfl))) (by kernel_rfl) (by kernel_rfl) ?_
          refine Ops.seg' 2 9 (by kernel_rfl) ?_
          refine Ops.done (by kernel_rfl) ?_
          refine seqQ.n ?_
          refine Wp.cnd h [0, 1, 4, 12, 13] 0 (by kernel_rfl) (fun h => ?_) (fun h => ?_)
          · refine Wp.seq' (by kernel_rfl) ?_
            refine Wp.region (by kernel_rfl) ?_
            refine Ops.seg' 1 1 (by kernel_rfl) ?_
            refine Ops.done (by kernel_rfl) ?_
            refine seqQ.n ?_
            refine Wp.ret (by kernel_rfl) ?_
            refine sqQ.r ?_
            refine blkQ.r ?_
            refine seqQ.r ?_
            cases h
            refine lpQ.r ?_
            refine blkQ.r ?_
            exact hrx11 _ hsx15 _ (RetOk.forget [0, 1, 4, 12, 13] (by kernel_rfl) (RetOk.mk' (dB false) (by kernel_rfl) (by kernel_rfl)))
          · refine Wp.skip (by kernel_rfl) ?_
            refine sqQ.n' ?_
            refine blkQ.n' ?_
            refine seqQ.n ?_
            refine Wp.region (by kernel_rfl) ?_
            refine Ops.seg' 2 2 (by kernel_rfl) ?_
            refine Ops.done (by kernel_rfl) ?_
            refine lpQ.n ⟨(dP eS a0) :: (dP eS a1) :: q2 ((dB false) :: q7 ((dI ((a0.length : Int))) :: (dI (w64 (v6 + 1))) :: q12 [])), []⟩ (by kernel_rfl) ?_
            cases h
            exact ihx10 (w64 (v6 + 1))  _ hsx15 _ (by omega) hrx11 hxx12
        · refine Wp.exit (id := 0) (by kernel_rfl) ?_
          refine sqQ.x ?_
          refine seqQ.x ?_
          cases h
          refine lpQ.x ?_
          refine blkQ.x ⟨(dP eS a0) :: (dP eS a1) :: q2 ((dB false) :: q7 ((dI ((a0.length : Int))) :: (dI v6) :: q12 [])), []⟩ (by kernel_rfl) ?_
          exact hxx12 v6  hsx15
    refine Wp.loop' [0, 1, 4, 12, 13] 0 (by kernel_rfl) ⟨(dP eS a0) :: (dP eS a1) :: q2 ((dB false) :: q7 ((dI ((a0.length : Int))) :: (dI 0) :: q12 [])), []⟩ (by kernel_rfl) ?_
    rcases brk_some h with ⟨r20, er20, h⟩ | ⟨y19, ey19, h⟩
    · refine hLx18 _ 0  _ er20 n (by omega) (fun r er σ hσ => ?_) (fun y  ey => by cases ey)
      cases er
      refine seqQ.r ?_
      exact fnQ.r' (X46 n) (fun z => (eB z)) h hσ
    · refine hLx18 _ 0  _ ey19 n (by omega) (fun r er => by cases er) (fun y  ey => ?_)
      cases ey
      refine seqQ.n ?_
      refine Wp.seq' (by kernel_rfl) ?_
      refine Wp.region (by kernel_rfl) ?_
      refine Ops.seg' 1 1 (by kernel_rfl) ?_
      refine Ops.done (by kernel_rfl) ?_
      refine seqQ.n ?_
      refine Wp.ret (by kernel_rfl) ?_
      exact fnQ.r' (X46 n) (fun z => (eB z)) h (RetOk.mk' (dB true) (by kernel_rfl) (by kernel_rfl))

/-! ### 45 glosswright/paradigm.Class$1 -/
def f45 (m : Nat) (a0 : S67) (a1 : (List S41)) : Option Bool :=
  bnd (idx a1 0) fun v1 =>
  bnd (f46 m a0.fTags v1.fTags) fun v2 =>
  some v2
noncomputable abbrev X45 (n : Nat) : Cx := cxOf Proofs.Tryd.prog E 45 n
noncomputable def C45 : Code := bodyOf Proofs.Tryd.prog 45
theorem ok45 (m : Nat) (a0 : S67) (a1 : (List S41)) (o : Bool) (h : f45 m a0 a1 = some o) (n : Nat) (hn : m + 2 ≤ n) : Fn Proofs.Tryd.prog E n 45 [.v (e67 a0), .vptr [(vP e41 a1)]] (eB o) := by
  obtain ⟨n, rfl⟩ : ∃ q, n = q + 1 := ⟨n - 1, by omega⟩
  unfold f45 at h
  refine Fn.of (by kernel_rfl) (by kernel_rfl) (by kernel_rfl) ⟨(.v (.agg [(vP eS a0.fTags), (.str a0.fCut), (.str a0.fAdd)])) :: (.vptr [(vP e41 a1)]) :: u9 [], []⟩ (by kernel_rfl) ?_
  refine Wp.seq' (by kernel_rfl) ?_
  refine Wp.region (by kernel_rfl) ?_
  refine Ops.seg' 2 2 (by kernel_rfl) ?_
  refine Ops.done (by kernel_rfl) ?_
  refine seqQ.n ?_
  refine Wp.seq' (by kernel_rfl) ?_
  refine Wp.region (by kernel_rfl) ?_
  refine Ops.seg' 3 3 (by kernel_rfl) ?_
  obtain ⟨v1, ev1, h⟩ := bnd_some h
  refine Ops.one' 4 (fun h0 e0 => (ix_r (T := T) h0 26 42 2 .plain e41 a1 0 v1 ev1 (by kernel_rfl) (by kernel_rfl) (fun _ => rfl))) (by kernel_rfl) (by kernel_rfl) ?_
  refine Ops.seg' 2 6 (by kernel_rfl) ?_
  obtain ⟨v2, ev2, h⟩ := bnd_some h
  refine Ops.one' 7 (fun h0 e0 => (call_ok (E' := E) (h := h0) (by kernel_rfl) (Args.v (vP eS a0.fTags) ((eL eS) a0.fTags) (by kernel_rfl) (Args.v (vP eS v1.fTags) ((eL eS) v1.fTags) (by kernel_rfl) Args.nil)) (ok46 m a0.fTags v1.fTags v2 ev2 n (by omega)))) (by kernel_rfl) (by kernel_rfl) ?_
  refine Ops.seg' 1 8 (by kernel_rfl) ?_
  refine Ops.done (by kernel_rfl) ?_
  refine seqQ.n ?_
  refine Wp.ret (by kernel_rfl) ?_
  exact fnQ.r' (X45 n) (fun z => (eB z)) h (RetOk.mk' (dB v2) (by kernel_rfl) (by kernel_rfl))

/-! ### 43c45 glosswright/paradigm.bases -/
def f43c45_j1 (m : Nat) (v36 : Int) (v46 : (List ByteArray)) : Option (Stp ((List ByteArray)) ((List ByteArray) × Int)) :=
  some (.nxt (v46, w64 (v36 + 1)))
def f43c45_j2 (m : Nat) (v36 : Int) (v58 : (List ByteArray)) : Option (Stp ((List ByteArray)) ((List ByteArray) × Int)) :=
  f43c45_j1 m v36 v58
def f43c45_r3 (m : Nat) (v35 : (List ByteArray)) (v36 : Int) (v49 : (ByteArray × Bool)) (v56 : Bool) : Option (Stp ((List ByteArray)) ((List ByteArray) × Int)) :=
  cnd v56
  (bnd (app 16 v35 [v49.1]) fun v60 =>
  f43c45_j2 m v36 v60)
  (f43c45_j2 m v36 v35)
def f43c45_B4 (m : Nat) (a0 : S23) (a1 : ByteArray) (a120 : (List S41)) (v35 : (List ByteArray)) (v36 : Int) : Option (Stp ((List ByteArray)) ((List ByteArray) × Int)) :=
  cnd (decide (v36 < (a0.fCells.length : Int)))
  (bnd (idx a0.fCells v36) fun v48 =>
  bnd (f62 m a1 v48.fAdd v48.fCut) fun v49 =>
  bnd (cnd v49.2
  (bnd (f45 m v48 a120) fun v61 =>
  some v61)
  (some false)) fun v56 =>
  f43c45_r3 m v35 v36 v49 v56)
  (some (.brk (v35, v36)))
def f43c45 (m : Nat) (a0 : S23) (a1 : ByteArray) (a120 : (List S41)) : Option (List ByteArray) :=
  brk (iter (fun (y : (List ByteArray) × Int) => f43c45_B4 m a0 a1 a120 y.1 y.2) m ([], 0)) some fun y63 =>
  bnd (srt y63.1) fun v65 =>
  some ((compactS v65))
noncomputable abbrev X43c45 (n : Nat) : Cx := cxOf Proofs.Tryd.prog E 43 n
noncomputable def C43c45 : Code := bodyOf Proofs.Tryd.prog 43
theorem ok43c45 (m : Nat) (a0 : S23) (a1 : ByteArray) (a120 : (List S41)) (o : (List ByteArray)) (h : f43c45 m a0 a1 a120 = some o) (n : Nat) (hn : m + 5 ≤ n) : FnO Proofs.Tryd.prog E n 43 [.v (e23 a0), .v (eS a1), .v (.clo 45 [.agg [(vP e41 a120)]])] ((eL eS) o) := by
  obtain ⟨n, rfl⟩ : ∃ q, n = q + 1 := ⟨n - 1, by omega⟩
  unfold f43c45 at h
  refine FnO.of (by kernel_rfl) (by kernel_rfl) (by kernel_rfl) ⟨(.v (.agg [(.str a0.fName), (vP e67 a0.fCells)])) :: (.v (.str a1)) :: (.v (.clo 45 [.agg [(vP e41 a120)]])) :: u40 [], []⟩ (by kernel_rfl) ?_
  refine Wp.seq' (by kernel_rfl) ?_
  refine Wp.region (by kernel_rfl) ?_
  refine Ops.seg' 2 2 (by kernel_rfl) ?_
  refine Ops.done (by kernel_rfl) ?_
  refine seqQ.n ?_
  refine Wp.seq' (by kernel_rfl) ?_
  refine Wp.region (by kernel_rfl) ?_
  refine Ops.seg' 1 1 (by kernel_rfl) ?_
  refine Ops.done (by kernel_rfl) ?_
  refine seqQ.n ?_
  refine Wp.seq' (by kernel_rfl) ?_
  refine Wp.seq' (by kernel_rfl) ?_
  refine Wp.region (by kernel_rfl) ?_
  refine Ops.seg' 2 2 (by kernel_rfl) ?_
  refine Ops.one' 3 (fun h0 e0 => (len_r (T := T) h0 22 68 .plain e67 a0.fCells (by kernel_rfl))) (by kernel_rfl) (by kernel_rfl) ?_
  refine Ops.seg' 1 4 (by kernel_rfl) ?_
  refine Ops.done (by kernel_rfl) ?_
  refine seqQ.n ?_
  refine Wp.block' 0 [6, 7] 1 (by kernel_rfl) ?_
  have hLx62 : ∀ (kx38 : Nat) (v35 : (List ByteArray)) (v36 : Int)  (ox37 : (List ByteArray) ⊕ ((List ByteArray) × Int)), iter (fun (y : (List ByteArray) × Int) => f43c45_B4 m a0 a1 a120 y.1 y.2) kx38 (v35, v36) = some ox37 → ∀ nx39, kx38 ≤ nx39 → (∀ r, ox37 = .inl r → ∀ σ, RetOkO (X43c45 n) (resOf Proofs.Tryd.prog 43) ((eL eS) r) σ → (seqQ (X43c45 n) (cR (cR (cR C43c45))) (fnQO (X43c45 n).E.T (resOf Proofs.Tryd.prog 43) ((eL eS) o))) .ret σ) → (∀ (y : (List ByteArray) × Int) , ox37 = .inr y → (seqQ (X43c45 n) (cR (cR (cR C43c45))) (fnQO (X43c45 n).E.T (resOf Proofs.Tryd.prog 43) ((eL eS) o))) .normal ⟨q6 ((.v (.sl .nil (List.map eS []))) :: (rowD 1 (List.map eS y.1)) :: q35 []), [(.cells [(.v (.str a0.fName)), (dP e67 a0.fCells)]), (rowO 1 (List.map eS y.1))]⟩) → Lp (X43c45 n) [1, 2, 6, 7, 13, 14, 15] 1 (cL (cL (cR (cL (cR (cR C43c45)))))) nx39 ⟨q1 ((.v (.str a1)) :: (.v (.clo 45 [.agg [(vP e41 a120)]])) :: q3 ((.v (.sl .nil (List.map eS []))) :: (rowD 1 (List.map eS v35)) :: q5 ((dP e67 a0.fCells) :: (dI ((a0.fCells.length : Int))) :: (dI v36) :: q27 []))), [(.cells [(.v (.str a0.fName)), (dP e67 a0.fCells)]), (rowO 1 (List.map eS v35))]⟩ (blkQ (X43c45 n) 0 [6, 7] 1 (seqQ (X43c45 n) (cR (cR (cR C43c45))) (fnQO (X43c45 n).E.T (resOf Proofs.Tryd.prog 43) ((eL eS) o)))) := by
    intro kx38
    induction kx38 with
    | zero => intro v35 v36  ox37 h; exact (iter_zero h).elim
    | succ kx38 ihx40 =>
      intro v35 v36  ox37 h nx39 hnx43 hrx41 hxx42
      obtain ⟨nx39, rfl⟩ : ∃ q, nx39 = q + 1 := ⟨nx39 - 1, by omega⟩
      obtain ⟨sx44, h, hsx45⟩ := iter_some h
      have h : f43c45_B4 m a0 a1 a120 v35 v36 = some sx44 := h
      unfold f43c45_B4 at h
      refine Lp.succ ?_
      refine Wp.seq' (by kernel_rfl) ?_
      refine Wp.region (by kernel_rfl) ?_
      refine Ops.seg' 1 1 (by kernel_rfl) ?_
      refine Ops.done (by kernel_rfl) ?_
      refine seqQ.n ?_
      refine Wp.seq' (by kernel_rfl) ?_
      refine Wp.cnd h [1, 2, 6, 7, 13, 14, 15] 2 (by kernel_rfl) (fun h => ?_) (fun h => ?_)
      · refine Wp.skip (by kernel_rfl) ?_
        refine sqQ.n ⟨q1 ((.v (.str a1)) :: (.v (.clo 45 [.agg [(vP e41 a120)]])) :: q3 ((.v (.sl .nil (List.map eS []))) :: (rowD 2 (List.map eS v35)) :: q5 ((dP e67 a0.fCells) :: (dI ((a0.fCells.length : Int))) :: (dI v36) :: q27 []))), [(.cells [(.v (.str a0.fName)), (dP e67 a0.fCells)]), .dead, (rowO 1 (List.map eS v35))]⟩ (by generalize v35 = z0; cases z0 <;> kernel_rfl) ?_
        refine seqQ.n ?_
        refine Wp.seq' (by kernel_rfl) ?_
        have J43c45j47 : ∀ (v46 : (List ByteArray)) , f43c45_j1 m v36 v46 = some sx44 → (seqQ (X43c45 n) (cR (cR (cR (cL (cL (cR (cL (cR (cR C43c45))))))))) (lpQ (X43c45 n) [1, 2, 6, 7, 13, 14, 15] 1 (cL (cL (cR (cL (cR (cR C43c45)))))) nx39 (blkQ (X43c45 n) 0 [6, 7] 1 (seqQ (X43c45 n) (cR (cR (cR C43c45))) (fnQO (X43c45 n).E.T (resOf Proofs.Tryd.prog 43) ((eL eS) o)))))) .normal ⟨q1 ((.v (.str a1)) :: (.v (.clo 45 [.agg [(vP e41 a120)]])) :: q3 ((.v (.sl .nil (List.map eS []))) :: (rowD 3 (List.map eS v46)) :: q5 ((dP e67 a0.fCells) :: (dI ((a0.fCells.length : Int))) :: (dI v36) :: q27 []))), [(.cells [(.v (.str a0.fName)), (dP e67 a0.fCells)]), .dead, .dead, (rowO 1 (List.map eS v46))]⟩ := by
          intro v46  h
          unfold f43c45_j1 at h
          refine seqQ.n ?_
          refine Wp.region (by kernel_rfl) ?_
          refine Ops.seg' 2 2 (by kernel_rfl) ?_
          refine Ops.done (by kernel_rfl) ?_
          refine lpQ.n ⟨q1 ((.v (.str a1)) :: (.v (.clo 45 [.agg [(vP e41 a120)]])) :: q3 ((.v (.sl .nil (List.map eS []))) :: (rowD 1 (List.map eS v46)) :: q5 ((dP e67 a0.fCells) :: (dI ((a0.fCells.length : Int))) :: (dI (w64 (v36 + 1))) :: q27 []))), [(.cells [(.v (.str a0.fName)), (dP e67 a0.fCells)]), (rowO 1 (List.map eS v46))]⟩ (by generalize v46 = z0; cases z0 <;> kernel_rfl) ?_
          cases h
          exact ihx40 v46 (w64 (v36 + 1))  _ hsx45 _ (by omega) hrx41 hxx42
        refine Wp.block' 1 [1, 2, 6, 7, 13, 14, 15] 3 (by kernel_rfl) ?_
        refine Wp.seq' (by kernel_rfl) ?_
        refine Wp.region (by kernel_rfl) ?_
        obtain ⟨v48, ev48, h⟩ := bnd_some h
        refine Ops.one' 1 (fun h0 e0 => (ix_r (T := T) h0 22 68 3 .plain e67 a0.fCells v36 v48 ev48 (by kernel_rfl) (by kernel_rfl) (fun _ => rfl))) (by kernel_rfl) (by kernel_rfl) ?_
        refine Ops.seg' 3 4 (by kernel_rfl) ?_
        refine Ops.done (by kernel_rfl) ?_
        refine seqQ.n ?_
        refine Wp.seq' (by kernel_rfl) ?_
        refine Wp.region (by kernel_rfl) ?_
        refine Ops.seg' 5 5 (by kernel_rfl) ?_
        obtain ⟨v49, ev49, h⟩ := bnd_some h
        refine Ops.one' 6 (fun h0 e0 => (call_ok (E' := E) (h := h0) (by kernel_rfl) (Args.v (.str a1) (eS a1) (by kernel_rfl) (Args.v (.str v48.fAdd) (eS v48.fAdd) (by kernel_rfl) (Args.v (.str v48.fCut) (eS v48.fCut) (by kernel_rfl) Args.nil))) (ok62 m a1 v48.fAdd v48.fCut v49 ev49 n (by omega)))) (by kernel_rfl) (by kernel_rfl) ?_
        refine Ops.seg' 5 11 (by kernel_rfl) ?_
        refine Ops.done (by kernel_rfl) ?_
        refine seqQ.n ?_
        refine Wp.seq' (by kernel_rfl) ?_
        refine Wp.region (by kernel_rfl) ?_
        refine Ops.seg' 2 2 (by kernel_rfl) ?_
        have J43c45j57 : ∀ (d52 d53 d54 : D) (v55 : Bool) (v56 : Bool), f43c45_r3 m v35 v36 v49 v56 = some sx44 → Ops (X43c45 n) (opl (cL (cR (cR (cL (cL (cR (cR (cL (cL (cR (cL (cR (cR C43c45)))))))))))))) 6 ⟨q1 ((.v (.str a1)) :: (.v (.clo 45 [.agg [(vP e41 a120)]])) :: q3 ((.v (.sl .nil (List.map eS []))) :: (rowD 2 (List.map eS v35)) :: q1 ((.ptr 3 0) :: (.v (.str v49.1)) :: (dB v55) :: q1 ((dP e67 a0.fCells) :: (dI ((a0.fCells.length : Int))) :: (dI v36) :: q1 ((.vptr [(vP eS v48.fTags), (.str v48.fCut), (.str v48.fAdd)]) :: (.v (.agg [(vP eS v48.fTags), (.str v48.fCut), (.str v48.fAdd)])) :: (.v (.tuple [(.str v49.1), (vB v49.2)])) :: (.v (.str a1)) :: (.ptr 3 2) :: (.v (.str v48.fAdd)) :: (.ptr 3 1) :: (.v (.str v48.fCut)) :: (.v (.tuple [(.str v49.1), (vB v49.2)])) :: (.v (.str v49.1)) :: (dB v55) :: (dB v55) :: (dB v55) :: d52 :: d53 :: d54 :: (dB v56) :: q9 []))))), [(.cells [(.v (.str a0.fName)), (dP e67 a0.fCells)]), .dead, (rowO 1 (List.map eS v35)), (.cells [(dP eS v48.fTags), (.v (.str v48.fCut)), (.v (.str v48.fAdd))])]⟩ ((seqQ (X43c45 n) (cR (cR (cR (cL (cL (cR (cR (cL (cL (cR (cL (cR (cR C43c45))))))))))))) (blkQ (X43c45 n) 1 [1, 2, 6, 7, 13, 14, 15] 3 (seqQ (X43c45 n) (cR (cR (cR (cL (cL (cR (cL (cR (cR C43c45))))))))) (lpQ (X43c45 n) [1, 2, 6, 7, 13, 14, 15] 1 (cL (cL (cR (cL (cR (cR C43c45)))))) nx39 (blkQ (X43c45 n) 0 [6, 7] 1 (seqQ (X43c45 n) (cR (cR (cR C43c45))) (fnQO (X43c45 n).E.T (resOf Proofs.Tryd.prog 43) ((eL eS) o)))))))) .normal) := by
          intro d52 d53 d54 v55 v56 h
          unfold f43c45_r3 at h
          refine Ops.done (by kernel_rfl) ?_
          refine seqQ.n ?_
          have J43c45j59 : ∀ (v58 : (List ByteArray)) , f43c45_j2 m v36 v58 = some sx44 → (blkQ (X43c45 n) 1 [1, 2, 6, 7, 13, 14, 15] 3 (seqQ (X43c45 n) (cR (cR (cR (cL (cL (cR (cL (cR (cR C43c45))))))))) (lpQ (X43c45 n) [1, 2, 6, 7, 13, 14, 15] 1 (cL (cL (cR (cL (cR (cR C43c45)))))) nx39 (blkQ (X43c45 n) 0 [6, 7] 1 (seqQ (X43c45 n) (cR (cR (cR C43c45))) (fnQO (X43c45 n).E.T (resOf Proofs.Tryd.prog 43) ((eL eS) o))))))) .normal ⟨q1 ((.v (.str a1)) :: (.v (.clo 45 [.agg [(vP e41 a120)]])) :: q3 ((.v (.sl .nil (List.map eS []))) :: (rowD 4 (List.map eS v58)) :: q5 ((dP e67 a0.fCells) :: (dI ((a0.fCells.length : Int))) :: (dI v36) :: q27 []))), [(.cells [(.v (.str a0.fName)), (dP e67 a0.fCells)]), .dead, .dead, (.cells [(dP eS v48.fTags), (.v (.str v48.fCut)), (.v (.str v48.fAdd))]), (rowO 1 (List.map eS v58))]⟩ := by
            intro v58  h
            unfold f43c45_j2 at h
            refine blkQ.n ⟨q1 ((.v (.str a1)) :: (.v (.clo 45 [.agg [(vP e41 a120)]])) :: q3 ((.v (.sl .nil (List.map eS []))) :: (rowD 3 (List.map eS v58)) :: q5 ((dP e67 a0.fCells) :: (dI ((a0.fCells.length : Int))) :: (dI v36) :: q27 []))), [(.cells [(.v (.str a0.fName)), (dP e67 a0.fCells)]), .dead, .dead, (rowO 1 (List.map eS v58))]⟩ (by generalize v58 = z0; cases z0 <;> kernel_rfl) ?_
            exact J43c45j47 v58  h
          refine Wp.cnd h [1, 2, 6, 7, 13, 14, 15] 4 (by kernel_rfl) (fun h => ?_) (fun h => ?_)
          · refine Wp.region (by kernel_rfl) ?_
            refine Ops.seg' 3 3 (by kernel_rfl) ?_
            obtain ⟨v60, ev60, h⟩ := bnd_some h
            refine Ops.one' 4 (fun h0 e0 => (row_app (T := T) h0 36 9 2 ti9 .nonfull eS v35 [v49.1] v60 ev60 (by kernel_rfl) (by kernel_rfl) (by kernel_rfl) (by kernel_rfl) (fun _ => rfl) (hq_of e0 (by kernel_rfl)))) (by kernel_rfl) (by kernel_rfl) ?_
            refine Ops.seg' 1 5 (by kernel_rfl) ?_
            refine Ops.done (by kernel_rfl) ?_
            refine sqQ.n ⟨q1 ((.v (.str a1)) :: (.v (.clo 45 [.agg [(vP e41 a120)]])) :: q3 ((.v (.sl .nil (List.map eS []))) :: (rowD 4 (List.map eS v60)) :: q5 ((dP e67 a0.fCells) :: (dI ((a0.fCells.length : Int))) :: (dI v36) :: q27 []))), [(.cells [(.v (.str a0.fName)), (dP e67 a0.fCells)]), .dead, .dead, (.cells [(dP eS v48.fTags), (.v (.str v48.fCut)), (.v (.str v48.fAdd))]), (rowO 1 (List.map eS v60))]⟩ (by generalize v60 = z0; cases z0 <;> kernel_rfl) ?_
            exact J43c45j59 v60  h
          · refine Wp.skip (by kernel_rfl) ?_
            refine sqQ.n ⟨q1 ((.v (.str a1)) :: (.v (.clo 45 [.agg [(vP e41 a120)]])) :: q3 ((.v (.sl .nil (List.map eS []))) :: (rowD 4 (List.map eS v35)) :: q5 ((dP e67 a0.fCells) :: (dI ((a0.fCells.length : Int))) :: (dI v36) :: q27 []))), [(.cells [(.v (.str a0.fName)), (dP e67 a0.fCells)]), .dead, .dead, (.cells [(dP eS v48.fTags), (.v (.str v48.fCut)), (.v (.str v48.fAdd))]), (rowO 1 (List.map eS v35))]⟩ (by generalize v35 = z0; cases z0 <;> kernel_rfl) ?_
            exact J43c45j59 v35  h
        obtain ⟨v56, ev56, h⟩ := bnd_some h
        have G43c45g51 : ∀ v50 : Bool, (cnd v50 (bnd (f45 m v48 a120) fun v61 => some v61) (some false)) = some v56 → Ops (X43c45 n) (opl (cL (cR (cR (cL (cL (cR (cR (cL (cL (cR (cL (cR (cR C43c45)))))))))))))) 2 ⟨q1 ((.v (.str a1)) :: (.v (.clo 45 [.agg [(vP e41 a120)]])) :: q3 ((.v (.sl .nil (List.map eS []))) :: (rowD 2 (List.map eS v35)) :: q1 ((.ptr 3 0) :: (.v (.str v49.1)) :: (dB v50) :: q1 ((dP e67 a0.fCells) :: (dI ((a0.fCells.length : Int))) :: (dI v36) :: q1 ((.vptr [(vP eS v48.fTags), (.str v48.fCut), (.str v48.fAdd)]) :: (.v (.agg [(vP eS v48.fTags), (.str v48.fCut), (.str v48.fAdd)])) :: (.v (.tuple [(.str v49.1), (vB v49.2)])) :: (.v (.str a1)) :: (.ptr 3 2) :: (.v (.str v48.fAdd)) :: (.ptr 3 1) :: (.v (.str v48.fCut)) :: (.v (.tuple [(.str v49.1), (vB v49.2)])) :: (.v (.str v49.1)) :: (dB v50) :: (dB v50) :: (dB v50) :: q13 []))))), [(.cells [(.v (.str a0.fName)), (dP e67 a0.fCells)]), .dead, (rowO 1 (List.map eS v35)), (.cells [(dP eS v48.fTags), (.v (.str v48.fCut)), (.v (.str v48.fAdd))])]⟩ ((seqQ (X43c45 n) (cR (cR (cR (cL (cL (cR (cR (cL (cL (cR (cL (cR (cR C43c45))))))))))))) (blkQ (X43c45 n) 1 [1, 2, 6, 7, 13, 14, 15] 3 (seqQ (X43c45 n) (cR (cR (cR (cL (cL (cR (cL (cR (cR C43c45))))))))) (lpQ (X43c45 n) [1, 2, 6, 7, 13, 14, 15] 1 (cL (cL (cR (cL (cR (cR C43c45)))))) nx39 (blkQ (X43c45 n) 0 [6, 7] 1 (seqQ (X43c45 n) (cR (cR (cR C43c45))) (fnQO (X43c45 n).E.T (resOf Proofs.Tryd.prog 43) ((eL eS) o)))))))) .normal) := by
          intro v50 ev56
          cases v50
          · have ev56 := cnd_f ev56
            refine Ops.seg' 4 6 (by kernel_rfl) ?_
            refine Ops.st ⟨q1 ((.v (.str a1)) :: (.v (.clo 45 [.agg [(vP e41 a120)]])) :: q3 ((.v (.sl .nil (List.map eS []))) :: (rowD 2 (List.map eS v35)) :: q1 ((.ptr 3 0) :: (.v (.str v49.1)) :: (dB false) :: q1 ((dP e67 a0.fCells) :: (dI ((a0.fCells.length : Int))) :: (dI v36) :: q1 ((.vptr [(vP eS v48.fTags), (.str v48.fCut), (.str v48.fAdd)]) :: (.v (.agg [(vP eS v48.fTags), (.str v48.fCut), (.str v48.fAdd)])) :: (.v (.tuple [(.str v49.1), (vB v49.2)])) :: (.v (.str a1)) :: (.ptr 3 2) :: (.v (.str v48.fAdd)) :: (.ptr 3 1) :: (.v (.str v48.fCut)) :: (.v (.tuple [(.str v49.1), (vB v49.2)])) :: (.v (.str v49.1)) :: (dB false) :: (dB false) :: (dB false) :: u3 ((dB false) :: q9 [])))))), [(.cells [(.v (.str a0.fName)), (dP e67 a0.fCells)]), .dead, (rowO 1 (List.map eS v35)), (.cells [(dP eS v48.fTags), (.v (.str v48.fCut)), (.v (.str v48.fAdd))])]⟩ (by kernel_rfl) ?_
            exact J43c45j57 _ _ _ _ _ (some_sub (fun v56 => f43c45_r3 m v35 v36 v49 v56 = some sx44) ev56 h)
          · have ev56 := cnd_t ev56
            refine Ops.seg' 2 4 (by kernel_rfl) ?_
            obtain ⟨v61, ev61, ev56⟩ := bnd_some ev56
            refine Ops.one' 5 (fun h0 e0 => (call_ok (E' := E) (h := h0) (by kernel_rfl) (Args.v (.agg [(vP eS v48.fTags), (.str v48.fCut), (.str v48.fAdd)]) (e67 v48) (by kernel_rfl) (Args.vp [(vP e41 a120)] Args.nil)) (ok45 m v48 a120 v61 ev61 n (by omega)))) (by kernel_rfl) (by kernel_rfl) ?_
            refine Ops.seg' 1 6 (by kernel_rfl) ?_
            refine Ops.st ⟨q1 ((.v (.str a1)) :: (.v (.clo 45 [.agg [(vP e41 a120)]])) :: q3 ((.v (.sl .nil (List.map eS []))) :: (rowD 2 (List.map eS v35)) :: q1 ((.ptr 3 0) :: (.v (.str v49.1)) :: (dB true) :: q1 ((dP e67 a0.fCells) :: (dI ((a0.fCells.length : Int))) :: (dI v36) :: q1 ((.vptr [(vP eS v48.fTags), (.str v48.fCut), (.str v48.fAdd)]) :: (.v (.agg [(vP eS v48.fTags), (.str v48.fCut), (.str v48.fAdd)])) :: (.v (.tuple [(.str v49.1), (vB v49.2)])) :: (.v (.str a1)) :: (.ptr 3 2) :: (.v (.str v48.fAdd)) :: (.ptr 3 1) :: (.v (.str v48.fCut)) :: (.v (.tuple [(.str v49.1), (vB v49.2)])) :: (.v (.str v49.1)) :: (dB true) :: (dB true) :: (dB true) :: (.v (.clo 45 [.agg [(vP e41 a120)]])) :: (.v (.agg [(vP eS v48.fTags), (.str v48.fCut), (.str v48.fAdd)])) :: (dB v61) :: (dB v61) :: q9 []))))), [(.cells [(.v (.str a0.fName)), (dP e67 a0.fCells)]), .dead, (rowO 1 (List.map eS v35)), (.cells [(dP eS v48.fTags), (.v (.str v48.fCut)), (.v (.str v48.fAdd))])]⟩ (by kernel_rfl) ?_
            exact J43c45j57 _ _ _ _ _ (some_sub (fun v56 => f43c45_r3 m v35 v36 v49 v56 = some sx44) ev56 h)
        exact Ops.st ⟨q1 ((.v (.str a1)) :: (.v (.clo 45 [.agg [(vP e41 a120)]])) :: q3 ((.v (.sl .nil (List.map eS []))) :: (rowD 2 (List.map eS v35)) :: q1 ((.ptr 3 0) :: (.v (.str v49.1)) :: (dB v49.2) :: q1 ((dP e67 a0.fCells) :: (dI ((a0.fCells.length : Int))) :: (dI v36) :: q1 ((.vptr [(vP eS v48.fTags), (.str v48.fCut), (.str v48.fAdd)]) :: (.v (.agg [(vP eS v48.fTags), (.str v48.fCut), (.str v48.fAdd)])) :: (.v (.tuple [(.str v49.1), (vB v49.2)])) :: (.v (.str a1)) :: (.ptr 3 2) :: (.v (.str v48.fAdd)) :: (.ptr 3 1) :: (.v (.str v48.fCut)) :: (.v (.tuple [(.str v49.1), (vB v49.2)])) :: (.v (.str v49.1)) :: (dB v49.2) :: (dB v49.2) :: (dB v49.2) :: q13 []))))), [(.cells [(.v (.str a0.fName)), (dP e67 a0.fCells)]), .dead, (rowO 1 (List.map eS v35)), (.cells [(dP eS v48.fTags), (.v (.str v48.fCut)), (.v (.str v48.fAdd))])]⟩ (by kernel_rfl) (G43c45g51 v49.2 ev56)
      · refine Wp.exit (id := 0) (by kernel_rfl) ?_
        refine sqQ.x ?_
        refine seqQ.x ?_
        cases h
        refine lpQ.x ?_
        refine blkQ.x ⟨q6 ((.v (.sl .nil (List.map eS []))) :: (rowD 1 (List.map eS v35)) :: q35 []), [(.cells [(.v (.str a0.fName)), (dP e67 a0.fCells)]), (rowO 1 (List.map eS v35))]⟩ (by generalize v35 = z0; cases z0 <;> kernel_rfl) ?_
        exact hxx42 (v35, v36)  hsx45
  refine Wp.loop' [1, 2, 6, 7, 13, 14, 15] 1 (by kernel_rfl) ⟨q1 ((.v (.str a1)) :: (.v (.clo 45 [.agg [(vP e41 a120)]])) :: q3 ((.v (.sl .nil (List.map eS []))) :: (rowD 1 (List.map eS [])) :: q5 ((dP e67 a0.fCells) :: (dI ((a0.fCells.length : Int))) :: (dI 0) :: q27 []))), [(.cells [(.v (.str a0.fName)), (dP e67 a0.fCells)]), (rowO 1 (List.map eS []))]⟩ (by kernel_rfl) ?_
  rcases brk_some h with ⟨r64, er64, h⟩ | ⟨y63, ey63, h⟩
  · refine hLx62 _ [] 0  _ er64 n (by omega) (fun r er σ hσ => ?_) (fun y  ey => by cases ey)
    cases er
    refine seqQ.r ?_
    exact fnQO.r' (X43c45 n) (fun z => ((eL eS) z)) h hσ
  · refine hLx62 _ [] 0  _ ey63 n (by omega) (fun r er => by cases er) (fun y  ey => ?_)
    cases ey
    refine seqQ.n ?_
    refine Wp.seq' (by kernel_rfl) ?_
    refine Wp.region (by kernel_rfl) ?_
    refine Ops.seg' 1 1 (by kernel_rfl) ?_
    obtain ⟨v65, ev65, h⟩ := bnd_some h
    refine Ops.one' 2 (fun h0 e0 => (callD_own (P := Proofs.Tryd.prog) (E := E) (E' := E) (n := n) (f := 67) (by kernel_rfl) (by kernel_rfl) (by kernel_rfl) (row_sort h0 1 y63.1 v65 ev65 (hq_of e0 (by kernel_rfl))) (by omega))) (by kernel_rfl) (by kernel_rfl) ?_
    refine Ops.st ⟨q6 ((.v (.sl .nil (List.map eS []))) :: (rowD 1 (List.map eS y63.1)) :: q31 ((rowD 1 (List.map eS y63.1)) :: u1 (q2 []))), [(.cells [(.v (.str a0.fName)), (dP e67 a0.fCells)]), (rowO 1 (List.map eS v65))]⟩ (by kernel_rfl) ?_
    rw [srt_row 1 ev65]
    refine Ops.done (by kernel_rfl) ?_
    refine seqQ.n ?_
    refine Wp.seq' (by kernel_rfl) ?_
    refine Wp.region (by kernel_rfl) ?_
    refine Ops.seg' 1 1 (by kernel_rfl) ?_
    refine Ops.one' 2 (fun h0 e0 => (callD_own (P := Proofs.Tryd.prog) (E := E) (E' := E) (n := n) (f := 68) (by kernel_rfl) (by kernel_rfl) (by kernel_rfl) (row_compact h0 1 v65 (hq_of e0 (by kernel_rfl))) (by omega))) (by kernel_rfl) (by kernel_rfl) ?_
    refine Ops.seg' 1 3 (by kernel_rfl) ?_
    refine Ops.done (by kernel_rfl) ?_
    refine seqQ.n ?_
    refine Wp.ret (by kernel_rfl) ?_
    exact fnQO.r' (X43c45 n) (fun z => ((eL eS) z)) h (RetOkO.row 1 1 (List.map eS ((compactS v65))) (by kernel_rfl) (by kernel_rfl) (flat_eS _))

/-! ### 63 slices.Clone[[]string,string] -/
def f63 (m : Nat) (a0 : (List ByteArray)) : Option (List ByteArray) := app 16 [] a0
theorem ok63 (m : Nat) (a0 : (List ByteArray)) (o : (List ByteArray)) (h : f63 m a0 = some o) (n : Nat) (hn : m + 1 ≤ n) : Fn Proofs.Tryd.prog E n 63 [.v ((eL eS) a0)] ((eL eS) o) :=
  clone_fn (by kernel_rfl) (by kernel_rfl) (by kernel_rfl) (fun _ => rfl) h hn

/-! ### 34 glosswright/paradigm.table -/
def f34_j1 (m : Nat) (v20 : Int) (v30 : (List S41)) : Option (Stp ((List S41)) ((List S41) × Int)) :=
  some (.nxt (v30, w64 (v20 + 1)))
def f34_j2 (m : Nat) (v20 : Int) (v34 : (List S41)) : Option (Stp ((List S41)) ((List S41) × Int)) :=
  f34_j1 m v20 v34
def f34_B3 (m : Nat) (a0 : S23) (a1 : ByteArray) (v19 : (List S41)) (v20 : Int) : Option (Stp ((List S41)) ((List S41) × Int)) :=
  cnd (decide (v20 < (a0.fCells.length : Int)))
  (bnd (idx a0.fCells v20) fun v32 =>
  bnd (f62 m a1 v32.fCut v32.fAdd) fun v33 =>
  cnd v33.2
  (bnd (f63 m v32.fTags) fun v36 =>
  bnd (app 40 v19 ([(⟨v36, v33.1⟩ : S41)])) fun v37 =>
  f34_j2 m v20 v37)
  (f34_j2 m v20 v19))
  (some (.brk (v19, v20)))
def f34 (m : Nat) (a0 : S23) (a1 : ByteArray) : Option (List S41) :=
  brk (iter (fun (y : (List S41) × Int) => f34_B3 m a0 a1 y.1 y.2) m ([], 0)) some fun y39 =>
  some y39.1
noncomputable abbrev X34 (n : Nat) : Cx := cxOf Proofs.Tryd.prog E 34 n
noncomputable def C34 : Code := bodyOf Proofs.Tryd.prog 34
theorem ok34 (m : Nat) (a0 : S23) (a1 : ByteArray) (o : (List S41)) (h : f34 m a0 a1 = some o) (n : Nat) (hn : m + 5 ≤ n) : Fn Proofs.Tryd.prog E n 34 [.v (e23 a0), .v (eS a1)] ((eL e41) o) := by
  obtain ⟨n, rfl⟩ : ∃ q, n = q + 1 := ⟨n - 1, by omega⟩
  unfold f34 at h
  refine Fn.of (by kernel_rfl) (by kernel_rfl) (by kernel_rfl) ⟨(.v (.agg [(.str a0.fName), (vP e67 a0.fCells)])) :: (.v (.str a1)) :: u35 [], []⟩ (by kernel_rfl) ?_
  refine Wp.seq' (by kernel_rfl) ?_
  refine Wp.region (by kernel_rfl) ?_
  refine Ops.seg' 2 2 (by kernel_rfl) ?_
  refine Ops.done (by kernel_rfl) ?_
  refine seqQ.n ?_
  refine Wp.seq' (by kernel_rfl) ?_
  refine Wp.region (by kernel_rfl) ?_
  refine Ops.seg' 1 1 (by kernel_rfl) ?_
  refine Ops.done (by kernel_rfl) ?_
  refine seqQ.n ?_
  refine Wp.seq' (by kernel_rfl) ?_
  refine Wp.seq' (by kernel_rfl) ?_
  refine Wp.region (by kernel_rfl) ?_
  refine Ops.seg' 2 2 (by kernel_rfl) ?_
  refine Ops.one' 3 (fun h0 e0 => (len_r (T := T) h0 22 68 .plain e67 a0.fCells (by kernel_rfl))) (by kernel_rfl) (by kernel_rfl) ?_
  refine Ops.seg' 1 4 (by kernel_rfl) ?_
  refine Ops.done (by kernel_rfl) ?_
  refine seqQ.n ?_
  refine Wp.block' 0 [4, 5] 1 (by kernel_rfl) ?_
  have hLx38 : ∀ (kx22 : Nat) (v19 : (List S41)) (v20 : Int)  (ox21 : (List S41) ⊕ ((List S41) × Int)), iter (fun (y : (List S41) × Int) => f34_B3 m a0 a1 y.1 y.2) kx22 (v19, v20) = some ox21 → ∀ nx23, kx22 ≤ nx23 → (∀ r, ox21 = .inl r → ∀ σ, RetOk (X34 n) (resOf Proofs.Tryd.prog 34) ((eL e41) r) σ → (seqQ (X34 n) (cR (cR (cR C34))) (fnQ (X34 n).E.T (resOf Proofs.Tryd.prog 34) ((eL e41) o))) .ret σ) → (∀ (y : (List S41) × Int) , ox21 = .inr y → (seqQ (X34 n) (cR (cR (cR C34))) (fnQ (X34 n).E.T (resOf Proofs.Tryd.prog 34) ((eL e41) o))) .normal ⟨q4 ((.v (.sl .nil (List.map e41 []))) :: (appD 1 (List.map e41 y.1)) :: q31 []), [(.cells [(.v (.str a0.fName)), (dP e67 a0.fCells)]), (appO 2 (List.map e41 y.1))]⟩) → Lp (X34 n) [1, 4, 5, 11, 12, 13] 1 (cL (cL (cR (cL (cR (cR C34)))))) nx23 ⟨q1 ((.v (.str a1)) :: q2 ((.v (.sl .nil (List.map e41 []))) :: (appD 1 (List.map e41 v19)) :: q5 ((dP e67 a0.fCells) :: (dI ((a0.fCells.length : Int))) :: (dI v20) :: q23 []))), [(.cells [(.v (.str a0.fName)), (dP e67 a0.fCells)]), (appO 2 (List.map e41 v19))]⟩ (blkQ (X34 n) 0 [4, 5] 1 (seqQ (X34 n) (cR (cR (cR C34))) (fnQ (X34 n).E.T (resOf Proofs.Tryd.prog 34) ((eL e41) o)))) := by
    intro kx22
    induction kx22 with
    | zero => intro v19 v20  ox21 h; exact (iter_zero h).elim
    | succ kx22 ihx24 =>
      intro v19 v20  ox21 h nx23 hnx27 hrx25 hxx26
      obtain ⟨nx23, rfl⟩ : ∃ q, nx23 = q + 1 := ⟨nx23 - 1, by omega⟩
      obtain ⟨sx28, h, hsx29⟩ := iter_some h
      have h : f34_B3 m a0 a1 v19 v20 = some sx28 := h
      unfold f34_B3 at h
      refine Lp.succ ?_
      refine Wp.seq' (by kernel_rfl) ?_
      refine Wp.region (by kernel_rfl) ?_
      refine Ops.seg' 1 1 (by kernel_rfl) ?_
      refine Ops.done (by kernel_rfl) ?_
      refine seqQ.n ?_
      refine Wp.seq' (by kernel_rfl) ?_
      refine Wp.cnd h [1, 4, 5, 11, 12, 13] 2 (by kernel_rfl) (fun h => ?_) (fun h => ?_)
      · refine Wp.skip (by kernel_rfl) ?_
        refine sqQ.n ⟨q1 ((.v (.str a1)) :: q2 ((.v (.sl .nil (List.map e41 []))) :: (appD 2 (List.map e41 v19)) :: q5 ((dP e67 a0.fCells) :: (dI ((a0.fCells.length : Int))) :: (dI v20) :: q23 []))), [(.cells [(.v (.str a0.fName)), (dP e67 a0.fCells)]), .dead, (appO 2 (List.map e41 v19))]⟩ (by generalize v19 = z0; cases z0 <;> kernel_rfl) ?_
        refine seqQ.n ?_
        refine Wp.seq' (by kernel_rfl) ?_
        have J34j31 : ∀ (v30 : (List S41)) , f34_j1 m v20 v30 = some sx28 → (seqQ (X34 n) (cR (cR (cR (cL (cL (cR (cL (cR (cR C34))))))))) (lpQ (X34 n) [1, 4, 5, 11, 12, 13] 1 (cL (cL (cR (cL (cR (cR C34)))))) nx23 (blkQ (X34 n) 0 [4, 5] 1 (seqQ (X34 n) (cR (cR (cR C34))) (fnQ (X34 n).E.T (resOf Proofs.Tryd.prog 34) ((eL e41) o)))))) .normal ⟨q1 ((.v (.str a1)) :: q2 ((.v (.sl .nil (List.map e41 []))) :: (appD 3 (List.map e41 v30)) :: q5 ((dP e67 a0.fCells) :: (dI ((a0.fCells.length : Int))) :: (dI v20) :: q23 []))), [(.cells [(.v (.str a0.fName)), (dP e67 a0.fCells)]), .dead, .dead, (appO 2 (List.map e41 v30))]⟩ := by
          intro v30  h
          unfold f34_j1 at h
          refine seqQ.n ?_
          refine Wp.region (by kernel_rfl) ?_
          refine Ops.seg' 2 2 (by kernel_rfl) ?_
          refine Ops.done (by kernel_rfl) ?_
          refine lpQ.n ⟨q1 ((.v (.str a1)) :: q2 ((.v (.sl .nil (List.map e41 []))) :: (appD 1 (List.map e41 v30)) :: q5 ((dP e67 a0.fCells) :: (dI ((a0.fCells.length : Int))) :: (dI (w64 (v20 + 1))) :: q23 []))), [(.cells [(.v (.str a0.fName)), (dP e67 a0.fCells)]), (appO 2 (List.map e41 v30))]⟩ (by generalize v30 = z0; cases z0 <;> kernel_rfl) ?_
          cases h
          exact ihx24 v30 (w64 (v20 + 1))  _ hsx29 _ (by omega) hrx25 hxx26
        refine Wp.block' 1 [1, 4, 5, 11, 12, 13] 3 (by kernel_rfl) ?_
        refine Wp.seq' (by kernel_rfl) ?_
        refine Wp.region (by kernel_rfl) ?_
        obtain ⟨v32, ev32, h⟩ := bnd_some h
        refine Ops.one' 1 (fun h0 e0 => (ix_r (T := T) h0 22 68 3 .plain e67 a0.fCells v20 v32 ev32 (by kernel_rfl) (by kernel_rfl) (fun _ => rfl))) (by kernel_rfl) (by kernel_rfl) ?_
        refine Ops.seg' 3 4 (by kernel_rfl) ?_
        refine Ops.done (by kernel_rfl) ?_
        refine seqQ.n ?_
        refine Wp.seq' (by kernel_rfl) ?_
        refine Wp.region (by kernel_rfl) ?_
        refine Ops.seg' 5 5 (by kernel_rfl) ?_
        obtain ⟨v33, ev33, h⟩ := bnd_some h
        refine Ops.one' 6 (fun h0 e0 => (call_ok (E' := E) (h := h0) (by kernel_rfl) (Args.v (.str a1) (eS a1) (by kernel_rfl) (Args.v (.str v32.fCut) (eS v32.fCut) (by kernel_rfl) (Args.v (.str v32.fAdd) (eS v32.fAdd) (by kernel_rfl) Args.nil))) (ok62 m a1 v32.fCut v32.fAdd v33 ev33 n (by omega)))) (by kernel_rfl) (by kernel_rfl) ?_
        refine Ops.seg' 5 11 (by kernel_rfl) ?_
        refine Ops.done (by kernel_rfl) ?_
        refine seqQ.n ?_
        refine Wp.seq' (by kernel_rfl) ?_
        refine Wp.region (by kernel_rfl) ?_
        refine Ops.seg' 1 1 (by kernel_rfl) ?_
        refine Ops.done (by kernel_rfl) ?_
        refine seqQ.n ?_
        have J34j35 : ∀ (v34 : (List S41)) , f34_j2 m v20 v34 = some sx28 → (blkQ (X34 n) 1 [1, 4, 5, 11, 12, 13] 3 (seqQ (X34 n) (cR (cR (cR (cL (cL (cR (cL (cR (cR C34))))))))) (lpQ (X34 n) [1, 4, 5, 11, 12, 13] 1 (cL (cL (cR (cL (cR (cR C34)))))) nx23 (blkQ (X34 n) 0 [4, 5] 1 (seqQ (X34 n) (cR (cR (cR C34))) (fnQ (X34 n).E.T (resOf Proofs.Tryd.prog 34) ((eL e41) o))))))) .normal ⟨q1 ((.v (.str a1)) :: q2 ((.v (.sl .nil (List.map e41 []))) :: (appD 4 (List.map e41 v34)) :: q5 ((dP e67 a0.fCells) :: (dI ((a0.fCells.length : Int))) :: (dI v20) :: q23 []))), [(.cells [(.v (.str a0.fName)), (dP e67 a0.fCells)]), .dead, .dead, (.cells [(dP eS v32.fTags), (.v (.str v32.fCut)), (.v (.str v32.fAdd))]), (appO 2 (List.map e41 v34))]⟩ := by
          intro v34  h
          unfold f34_j2 at h
          refine blkQ.n ⟨q1 ((.v (.str a1)) :: q2 ((.v (.sl .nil (List.map e41 []))) :: (appD 3 (List.map e41 v34)) :: q5 ((dP e67 a0.fCells) :: (dI ((a0.fCells.length : Int))) :: (dI v20) :: q23 []))), [(.cells [(.v (.str a0.fName)), (dP e67 a0.fCells)]), .dead, .dead, (appO 2 (List.map e41 v34))]⟩ (by generalize v34 = z0; cases z0 <;> kernel_rfl) ?_
          exact J34j31 v34  h
        refine Wp.cnd h [1, 4, 5, 11, 12, 13] 4 (by kernel_rfl) (fun h => ?_) (fun h => ?_)
        · refine Wp.region (by kernel_rfl) ?_
          refine Ops.seg' 3 3 (by kernel_rfl) ?_
          obtain ⟨v36, ev36, h⟩ := bnd_some h
          refine Ops.one' 4 (fun h0 e0 => (call_ok (E' := E) (h := h0) (by kernel_rfl) (Args.v (vP eS v32.fTags) ((eL eS) v32.fTags) (by kernel_rfl) Args.nil) (ok63 m v32.fTags v36 ev36 n (by omega)))) (by kernel_rfl) (by kernel_rfl) ?_
          refine Ops.seg' 3 7 (by kernel_rfl) ?_
          obtain ⟨v37, ev37, h⟩ := bnd_some h
          refine Ops.one' 8 (fun h0 e0 => (app_r (T := T) (g := .nil) h0 26 42 2 2 ti42 .nonfull e41 v19 ([(⟨v36, v33.1⟩ : S41)]) v37 ev37 (by kernel_rfl) (by kernel_rfl) (by kernel_rfl) (by kernel_rfl) (fun _ => rfl) (hq_of e0 (by kernel_rfl)))) (by kernel_rfl) (by kernel_rfl) ?_
          refine Ops.seg' 1 9 (by kernel_rfl) ?_
          refine Ops.done (by kernel_rfl) ?_
          refine sqQ.n ⟨q1 ((.v (.str a1)) :: q2 ((.v (.sl .nil (List.map e41 []))) :: (appD 4 (List.map e41 v37)) :: q5 ((dP e67 a0.fCells) :: (dI ((a0.fCells.length : Int))) :: (dI v20) :: q23 []))), [(.cells [(.v (.str a0.fName)), (dP e67 a0.fCells)]), .dead, .dead, (.cells [(dP eS v32.fTags), (.v (.str v32.fCut)), (.v (.str v32.fAdd))]), (appO 2 (List.map e41 v37))]⟩ (by generalize v37 = z0; cases z0 <;> kernel_rfl) ?_
          exact J34j35 v37  h
        · refine Wp.skip (by kernel_rfl) ?_
          refine sqQ.n ⟨q1 ((.v (.str a1)) :: q2 ((.v (.sl .nil (List.map e41 []))) :: (appD 4 (List.map e41 v19)) :: q5 ((dP e67 a0.fCells) :: (dI ((a0.fCells.length : Int))) :: (dI v20) :: q23 []))), [(.cells [(.v (.str a0.fName)), (dP e67 a0.fCells)]), .dead, .dead, (.cells [(dP eS v32.fTags), (.v (.str v32.fCut)), (.v (.str v32.fAdd))]), (appO 2 (List.map e41 v19))]⟩ (by generalize v19 = z0; cases z0 <;> kernel_rfl) ?_
          exact J34j35 v19  h
      · refine Wp.exit (id := 0) (by kernel_rfl) ?_
        refine sqQ.x ?_
        refine seqQ.x ?_
        cases h
        refine lpQ.x ?_
        refine blkQ.x ⟨q4 ((.v (.sl .nil (List.map e41 []))) :: (appD 1 (List.map e41 v19)) :: q31 []), [(.cells [(.v (.str a0.fName)), (dP e67 a0.fCells)]), (appO 2 (List.map e41 v19))]⟩ (by generalize v19 = z0; cases z0 <;> kernel_rfl) ?_
        exact hxx26 (v19, v20)  hsx29
  refine Wp.loop' [1, 4, 5, 11, 12, 13] 1 (by kernel_rfl) ⟨q1 ((.v (.str a1)) :: q2 ((.v (.sl .nil (List.map e41 []))) :: (appD 1 (List.map e41 [])) :: q5 ((dP e67 a0.fCells) :: (dI ((a0.fCells.length : Int))) :: (dI 0) :: q23 []))), [(.cells [(.v (.str a0.fName)), (dP e67 a0.fCells)]), .dead]⟩ (by kernel_rfl) ?_
  rcases brk_some h with ⟨r40, er40, h⟩ | ⟨y39, ey39, h⟩
  · refine hLx38 _ [] 0  _ er40 n (by omega) (fun r er σ hσ => ?_) (fun y  ey => by cases ey)
    cases er
    refine seqQ.r ?_
    exact fnQ.r' (X34 n) (fun z => ((eL e41) z)) h hσ
  · refine hLx38 _ [] 0  _ ey39 n (by omega) (fun r er => by cases er) (fun y  ey => ?_)
    cases ey
    refine seqQ.n ?_
    refine Wp.seq' (by kernel_rfl) ?_
    refine Wp.region (by kernel_rfl) ?_
    refine Ops.seg' 2 2 (by kernel_rfl) ?_
    refine Ops.done (by kernel_rfl) ?_
    refine seqQ.n ?_
    refine Wp.ret (by kernel_rfl) ?_
    exact fnQ.r' (X34 n) (fun z => ((eL e41) z)) h (RetOk.mk' (appD 1 (List.map e41 y39.1)) (by kernel_rfl) (appD_frz _ _ _ _))

/-! ### 70 glosswright/paradigm.has$1 -/
def f70_r1 (m : Nat) (v9 : Bool) : Option Bool :=
  some v9
def f70 (m : Nat) (a0 : S41) (a1 : S41) : Option Bool :=
  bnd (cnd ((a0.fForm.toList == a1.fForm.toList))
  (bnd (f46 m a0.fTags a1.fTags) fun v11 =>
  some v11)
  (some false)) fun v9 =>
  f70_r1 m v9
noncomputable abbrev X70 (n : Nat) : Cx := cxOf Proofs.Tryd.prog E 70 n
noncomputable def C70 : Code := bodyOf Proofs.Tryd.prog 70
theorem ok70 (m : Nat) (a0 : S41) (a1 : S41) (o : Bool) (h : f70 m a0 a1 = some o) (n : Nat) (hn : m + 2 ≤ n) : Fn Proofs.Tryd.prog E n 70 [.v (e41 a0), .vptr [(vP eS a1.fTags), (.str a1.fForm)]] (eB o) := by
  obtain ⟨n, rfl⟩ : ∃ q, n = q + 1 := ⟨n - 1, by omega⟩
  unfold f70 at h
  refine Fn.of (by kernel_rfl) (by kernel_rfl) (by kernel_rfl) ⟨(.v (.agg [(vP eS a0.fTags), (.str a0.fForm)])) :: (.vptr [(vP eS a1.fTags), (.str a1.fForm)]) :: u14 [], []⟩ (by kernel_rfl) ?_
  refine Wp.seq' (by kernel_rfl) ?_
  refine Wp.region (by kernel_rfl) ?_
  refine Ops.seg' 2 2 (by kernel_rfl) ?_
  refine Ops.done (by kernel_rfl) ?_
  refine seqQ.n ?_
  refine Wp.seq' (by kernel_rfl) ?_
  refine Wp.region (by kernel_rfl) ?_
  refine Ops.seg' 6 6 (by kernel_rfl) ?_
  have J70j10 : ∀ (d3 d4 d5 d6 d7 : D) (v8 : Bool) (v9 : Bool), f70_r1 m v9 = some o → Ops (X70 n) (opl (cL (cR C70))) 12 ⟨(.v (.agg [(vP eS a0.fTags), (.str a0.fForm)])) :: (.vptr [(vP eS a1.fTags), (.str a1.fForm)]) :: (.ptr 0 0) :: (dB false) :: (.ptr 0 1) :: (.v (.str a0.fForm)) :: (.vptr [(.str a1.fForm)]) :: (.v (.str a1.fForm)) :: (dB v8) :: (dB v8) :: d3 :: d4 :: d5 :: d6 :: d7 :: (dB v9) :: [], [(.cells [(dP eS a0.fTags), (.v (.str a0.fForm))])]⟩ ((seqQ (X70 n) (cR (cR C70)) (fnQ (X70 n).E.T (resOf Proofs.Tryd.prog 70) (eB o))) .normal) := by
    intro d3 d4 d5 d6 d7 v8 v9 h
    unfold f70_r1 at h
    refine Ops.seg' 1 13 (by kernel_rfl) ?_
    refine Ops.done (by kernel_rfl) ?_
    refine seqQ.n ?_
    refine Wp.ret (by kernel_rfl) ?_
    exact fnQ.r' (X70 n) (fun z => (eB z)) h (RetOk.mk' (dB v9) (by kernel_rfl) (by kernel_rfl))
  obtain ⟨v9, ev9, h⟩ := bnd_some h
  have G70g2 : ∀ v1 : Bool, (cnd v1 (bnd (f46 m a0.fTags a1.fTags) fun v11 => some v11) (some false)) = some v9 → Ops (X70 n) (opl (cL (cR C70))) 6 ⟨(.v (.agg [(vP eS a0.fTags), (.str a0.fForm)])) :: (.vptr [(vP eS a1.fTags), (.str a1.fForm)]) :: (.ptr 0 0) :: (dB false) :: (.ptr 0 1) :: (.v (.str a0.fForm)) :: (.vptr [(.str a1.fForm)]) :: (.v (.str a1.fForm)) :: (dB v1) :: (dB v1) :: u6 [], [(.cells [(dP eS a0.fTags), (.v (.str a0.fForm))])]⟩ ((seqQ (X70 n) (cR (cR C70)) (fnQ (X70 n).E.T (resOf Proofs.Tryd.prog 70) (eB o))) .normal) := by
    intro v1 ev9
    cases v1
    · have ev9 := cnd_f ev9
      refine Ops.seg' 6 12 (by kernel_rfl) ?_
      refine Ops.st ⟨(.v (.agg [(vP eS a0.fTags), (.str a0.fForm)])) :: (.vptr [(vP eS a1.fTags), (.str a1.fForm)]) :: (.ptr 0 0) :: (dB false) :: (.ptr 0 1) :: (.v (.str a0.fForm)) :: (.vptr [(.str a1.fForm)]) :: (.v (.str a1.fForm)) :: (dB false) :: (dB false) :: u5 ((dB false) :: []), [(.cells [(dP eS a0.fTags), (.v (.str a0.fForm))])]⟩ (by kernel_rfl) ?_
      exact J70j10 _ _ _ _ _ _ _ (some_sub (fun v9 => f70_r1 m v9 = some o) ev9 h)
    · have ev9 := cnd_t ev9
      refine Ops.seg' 4 10 (by kernel_rfl) ?_
      obtain ⟨v11, ev11, ev9⟩ := bnd_some ev9
      refine Ops.one' 11 (fun h0 e0 => (call_ok (E' := E) (h := h0) (by kernel_rfl) (Args.v (vP eS a0.fTags) ((eL eS) a0.fTags) (by kernel_rfl) (Args.v (vP eS a1.fTags) ((eL eS) a1.fTags) (by kernel_rfl) Args.nil)) (ok46 m a0.fTags a1.fTags v11 ev11 n (by omega)))) (by kernel_rfl) (by kernel_rfl) ?_
      refine Ops.seg' 1 12 (by kernel_rfl) ?_
      refine Ops.st ⟨(.v (.agg [(vP eS a0.fTags), (.str a0.fForm)])) :: (.vptr [(vP eS a1.fTags), (.str a1.fForm)]) :: (.ptr 0 0) :: (dB false) :: (.ptr 0 1) :: (.v (.str a0.fForm)) :: (.vptr [(.str a1.fForm)]) :: (.v (.str a1.fForm)) :: (dB true) :: (dB true) :: (.ptr 0 0) :: (dP eS a0.fTags) :: (.vptr [(vP eS a1.fTags), (.str a1.fForm)]) :: (dP eS a1.fTags) :: (dB v11) :: (dB v11) :: [], [(.cells [(dP eS a0.fTags), (.v (.str a0.fForm))])]⟩ (by kernel_rfl) ?_
      exact J70j10 _ _ _ _ _ _ _ (some_sub (fun v9 => f70_r1 m v9 = some o) ev9 h)
  exact Ops.st ⟨(.v (.agg [(vP eS a0.fTags), (.str a0.fForm)])) :: (.vptr [(vP eS a1.fTags), (.str a1.fForm)]) :: (.ptr 0 0) :: (dB false) :: (.ptr 0 1) :: (.v (.str a0.fForm)) :: (.vptr [(.str a1.fForm)]) :: (.v (.str a1.fForm)) :: (dB (((a0.fForm.toList == a1.fForm.toList)))) :: (dB (((a0.fForm.toList == a1.fForm.toList)))) :: u6 [], [(.cells [(dP eS a0.fTags), (.v (.str a0.fForm))])]⟩ (by kernel_rfl) (G70g2 ((a0.fForm.toList == a1.fForm.toList)) ev9)

/-! ### 69c70 slices.IndexFunc[[]glosswright/api.Cell,glosswright/api.Cell] -/
def f69c70_B1 (m : Nat) (a0 : (List S41)) (a110 : S41) (v6 : Int) : Option (Stp Int (Int)) :=
  cnd (decide (v6 < (a0.length : Int)))
  (bnd (idx a0 v6) fun v16 =>
  bnd (f70 m v16 a110) fun v17 =>
  cnd v17
  (some (.ret v6))
  (some (.nxt (w64 (v6 + 1)))))
  (some (.brk v6))
def f69c70 (m : Nat) (a0 : (List S41)) (a110 : S41) : Option Int :=
  brk (iter (fun (y : Int) => f69c70_B1 m a0 a110 y) m 0) some fun y19 =>
  some ((-1))
noncomputable abbrev X69c70 (n : Nat) : Cx := cxOf Proofs.Tryd.prog E 69 n
noncomputable def C69c70 : Code := bodyOf Proofs.Tryd.prog 69
theorem ok69c70 (m : Nat) (a0 : (List S41)) (a110 : S41) (o : Int) (h : f69c70 m a0 a110 = some o) (n : Nat) (hn : m + 3 ≤ n) : Fn Proofs.Tryd.prog E n 69 [.v ((eL e41) a0), .v (.clo 70 [.agg [(vP eS a110.fTags), (.str a110.fForm)]])] (eI o) := by
  obtain ⟨n, rfl⟩ : ∃ q, n = q + 1 := ⟨n - 1, by omega⟩
  unfold f69c70 at h
  refine Fn.of (by kernel_rfl) (by kernel_rfl) (by kernel_rfl) ⟨(dP e41 a0) :: (.v (.clo 70 [.agg [(vP eS a110.fTags), (.str a110.fForm)]])) :: u17 [], []⟩ (by kernel_rfl) ?_
  refine Wp.seq' (by kernel_rfl) ?_
  refine Wp.region (by kernel_rfl) ?_
  refine Ops.seg' 1 1 (by kernel_rfl) ?_
  refine Ops.done (by kernel_rfl) ?_
  refine seqQ.n ?_
  refine Wp.seq' (by kernel_rfl) ?_
  refine Wp.seq' (by kernel_rfl) ?_
  refine Wp.region (by kernel_rfl) ?_
  refine Ops.seg' 1 1 (by kernel_rfl) ?_
  refine Ops.one' 2 (fun h0 e0 => (len_r (T := T) h0 26 42 .plain e41 a0 (by kernel_rfl))) (by kernel_rfl) (by kernel_rfl) ?_
  refine Ops.seg' 1 3 (by kernel_rfl) ?_
  refine Ops.done (by kernel_rfl) ?_
  refine seqQ.n ?_
  refine Wp.block' 0 [4] 0 (by kernel_rfl) ?_
  have hLx18 : ∀ (kx8 : Nat) (v6 : Int)  (ox7 : Int ⊕ (Int)), iter (fun (y : Int) => f69c70_B1 m a0 a110 y) kx8 v6 = some ox7 → ∀ nx9, kx8 ≤ nx9 → (∀ r, ox7 = .inl r → ∀ σ, RetOk (X69c70 n) (resOf Proofs.Tryd.prog 69) (eI r) σ → (seqQ (X69c70 n) (cR (cR C69c70)) (fnQ (X69c70 n).E.T (resOf Proofs.Tryd.prog 69) (eI o))) .ret σ) → (∀ (y : Int) , ox7 = .inr y → (seqQ (X69c70 n) (cR (cR C69c70)) (fnQ (X69c70 n).E.T (resOf Proofs.Tryd.prog 69) (eI o))) .normal ⟨(dP e41 a0) :: (.v (.clo 70 [.agg [(vP eS a110.fTags), (.str a110.fForm)]])) :: q2 ((dI 0) :: q2 ((dI ((a0.length : Int))) :: (dI y) :: q10 [])), []⟩) → Lp (X69c70 n) [0, 1, 4, 7, 8] 0 (cL (cL (cR (cL (cR C69c70))))) nx9 ⟨(dP e41 a0) :: (.v (.clo 70 [.agg [(vP eS a110.fTags), (.str a110.fForm)]])) :: q2 ((dI 0) :: q2 ((dI ((a0.length : Int))) :: (dI v6) :: q10 [])), []⟩ (blkQ (X69c70 n) 0 [4] 0 (seqQ (X69c70 n) (cR (cR C69c70)) (fnQ (X69c70 n).E.T (resOf Proofs.Tryd.prog 69) (eI o)))) := by
    intro kx8
    induction kx8 with
    | zero => intro v6  ox7 h; exact (iter_zero h).elim
    | succ kx8 ihx10 =>
      intro v6  ox7 h nx9 hnx13 hrx11 hxx12
      obtain ⟨nx9, rfl⟩ : ∃ q, nx9 = q + 1 := ⟨nx9 - 1, by omega⟩
      obtain ⟨sx14, h, hsx15⟩ := iter_some h
      have h : f69c70_B1 m a0 a110 v6 = some sx14 := h
      unfold f69c70_B1 at h
      refine Lp.succ ?_
      refine Wp.seq' (by kernel_rfl) ?_
      refine Wp.region (by kernel_rfl) ?_
      refine Ops.seg' 1 1 (by kernel_rfl) ?_
      refine Ops.done (by kernel_rfl) ?_
      refine seqQ.n ?_
      refine Wp.seq' (by kernel_rfl) ?_
      refine Wp.cnd h [0, 1, 4, 7, 8] 0 (by kernel_rfl) (fun h => ?_) (fun h => ?_)
      · refine Wp.skip (by kernel_rfl) ?_
        refine sqQ.n' ?_
        refine seqQ.n ?_
        refine Wp.seq' (by kernel_rfl) ?_
        refine Wp.block' 1 [0, 1, 4, 7, 8] 0 (by kernel_rfl) ?_
        refine Wp.seq' (by kernel_rfl) ?_
        refine Wp.region (by kernel_rfl) ?_
        refine Ops.seg' 2 2 (by kernel_rfl) ?_
        refine Ops.done (by kernel_rfl) ?_
        refine seqQ.n ?_
        refine Wp.seq' (by kernel_rfl) ?_
        refine Wp.region (by kernel_rfl) ?_
        refine Ops.seg' 3 3 (by kernel_rfl) ?_
        obtain ⟨v16, ev16, h⟩ := bnd_some h
        refine Ops.one' 4 (fun h0 e0 => (ix_r (T := T) h0 26 42 2 .plain e41 a0 v6 v16 ev16 (by kernel_rfl) (by kernel_rfl) (fun _ => rfl))) (by kernel_rfl) (by kernel_rfl) ?_
        refine Ops.seg' 1 5 (by kernel_rfl) ?_
        obtain ⟨v17, ev17, h⟩ := bnd_some h
        refine Ops.one' 6 (fun h0 e0 => (call_ok (E' := E) (h := h0) (by kernel_rfl) (Args.v (.agg [(vP eS v16.fTags), (.str v16.fForm)]) (e41 v16) (by kernel_rfl) (Args.vp [(vP eS a110.fTags), (.str a110.fForm)] Args.nil)) (ok70 m v16 a110 v17 ev17 n (by omega)))) (by kernel_rfl) (by kernel_rfl) ?_
        refine Ops.done (by kernel_rfl) ?_
        refine seqQ.n ?_
        refine Wp.cnd h [0, 1, 4, 7, 8] 0 (by kernel_rfl) (fun h => ?_) (fun h => ?_)
        · refine Wp.seq' (by kernel_rfl) ?_
          refine Wp.region (by kernel_rfl) ?_
          refine Ops.seg' 2 2 (by kernel_rfl) ?_
          refine Ops.done (by kernel_rfl) ?_
          refine seqQ.n ?_
          refine Wp.ret (by kernel_rfl) ?_
          refine sqQ.r ?_
          refine blkQ.r ?_
          refine seqQ.r ?_
          cases h
          refine lpQ.r ?_
          refine blkQ.r ?_
          exact hrx11 _ hsx15 _ (RetOk.forget [0, 1, 4, 7, 8] (by kernel_rfl) (RetOk.mk' (dI v6) (by kernel_rfl) (by kernel_rfl)))
        · refine Wp.skip (by kernel_rfl) ?_
          refine sqQ.n' ?_
          refine blkQ.n' ?_
          refine seqQ.n ?_
          refine Wp.region (by kernel_rfl) ?_
          refine Ops.seg' 2 2 (by kernel_rfl) ?_
          refine Ops.done (by kernel_rfl) ?_
          refine lpQ.n ⟨(dP e41 a0) :: (.v (.clo 70 [.agg [(vP eS a110.fTags), (.str a110.fForm)]])) :: q2 ((dI 0) :: q2 ((dI ((a0.length : Int))) :: (dI (w64 (v6 + 1))) :: q10 [])), []⟩ (by kernel_rfl) ?_
          cases h
          exact ihx10 (w64 (v6 + 1))  _ hsx15 _ (by omega) hrx11 hxx12
      · refine Wp.exit (id := 0) (by kernel_rfl) ?_
        refine sqQ.x ?_
        refine seqQ.x ?_
        cases h
        refine lpQ.x ?_
        refine blkQ.x ⟨(dP e41 a0) :: (.v (.clo 70 [.agg [(vP eS a110.fTags), (.str a110.fForm)]])) :: q2 ((dI 0) :: q2 ((dI ((a0.length : Int))) :: (dI v6) :: q10 [])), []⟩ (by kernel_rfl) ?_
        exact hxx12 v6  hsx15
  refine Wp.loop' [0, 1, 4, 7, 8] 0 (by kernel_rfl) ⟨(dP e41 a0) :: (.v (.clo 70 [.agg [(vP eS a110.fTags), (.str a110.fForm)]])) :: q2 ((dI 0) :: q2 ((dI ((a0.length : Int))) :: (dI 0) :: q10 [])), []⟩ (by kernel_rfl) ?_
  rcases brk_some h with ⟨r20, er20, h⟩ | ⟨y19, ey19, h⟩
  · refine hLx18 _ 0  _ er20 n (by omega) (fun r er σ hσ => ?_) (fun y  ey => by cases ey)
    cases er
    refine seqQ.r ?_
    exact fnQ.r' (X69c70 n) (fun z => (eI z)) h hσ
  · refine hLx18 _ 0  _ ey19 n (by omega) (fun r er => by cases er) (fun y  ey => ?_)
    cases ey
    refine seqQ.n ?_
    refine Wp.seq' (by kernel_rfl) ?_
    refine Wp.region (by kernel_rfl) ?_
    refine Ops.seg' 1 1 (by kernel_rfl) ?_
    refine Ops.done (by kernel_rfl) ?_
    refine seqQ.n ?_
    refine Wp.ret (by kernel_rfl) ?_
    exact fnQ.r' (X69c70 n) (fun z => (eI z)) h (RetOk.mk' (dI ((-1))) (by kernel_rfl) (by kernel_rfl))

/-! ### 47c70 slices.ContainsFunc[[]glosswright/api.Cell,glosswright/api.Cell] -/
def f47c70 (m : Nat) (a0 : (List S41)) (a110 : S41) : Option Bool :=
  bnd (f69c70 m a0 a110) fun v1 =>
  some (decide (v1 ≥ 0))
noncomputable abbrev X47c70 (n : Nat) : Cx := cxOf Proofs.Tryd.prog E 47 n
noncomputable def C47c70 : Code := bodyOf Proofs.Tryd.prog 47
theorem ok47c70 (m : Nat) (a0 : (List S41)) (a110 : S41) (o : Bool) (h : f47c70 m a0 a110 = some o) (n : Nat) (hn : m + 4 ≤ n) : Fn Proofs.Tryd.prog E n 47 [.v ((eL e41) a0), .v (.clo 70 [.agg [(vP eS a110.fTags), (.str a110.fForm)]])] (eB o) := by
  obtain ⟨n, rfl⟩ : ∃ q, n = q + 1 := ⟨n - 1, by omega⟩
  unfold f47c70 at h
  refine Fn.of (by kernel_rfl) (by kernel_rfl) (by kernel_rfl) ⟨(dP e41 a0) :: (.v (.clo 70 [.agg [(vP eS a110.fTags), (.str a110.fForm)]])) :: u7 [], []⟩ (by kernel_rfl) ?_
  refine Wp.seq' (by kernel_rfl) ?_
  refine Wp.region (by kernel_rfl) ?_
  refine Ops.seg' 1 1 (by kernel_rfl) ?_
  refine Ops.done (by kernel_rfl) ?_
  refine seqQ.n ?_
  refine Wp.seq' (by kernel_rfl) ?_
  refine Wp.region (by kernel_rfl) ?_
  refine Ops.seg' 2 2 (by kernel_rfl) ?_
  obtain ⟨v1, ev1, h⟩ := bnd_some h
  refine Ops.one' 3 (fun h0 e0 => (call_ok (E' := E) (h := h0) (by kernel_rfl) (Args.v (vP e41 a0) ((eL e41) a0) (by kernel_rfl) (Args.v (.clo 70 [.agg [(vP eS a110.fTags), (.str a110.fForm)]]) (.clo 70 [.agg [(vP eS a110.fTags), (.str a110.fForm)]]) (by kernel_rfl) Args.nil)) (ok69c70 m a0 a110 v1 ev1 n (by omega)))) (by kernel_rfl) (by kernel_rfl) ?_
  refine Ops.seg' 2 5 (by kernel_rfl) ?_
  refine Ops.done (by kernel_rfl) ?_
  refine seqQ.n ?_
  refine Wp.ret (by kernel_rfl) ?_
  exact fnQ.r' (X47c70 n) (fun z => (eB z)) h (RetOk.mk' (dB (decide (v1 ≥ 0))) (by kernel_rfl) (by kernel_rfl))

/-! ### 49 glosswright/paradigm.has -/
def f49 (m : Nat) (a0 : (List S41)) (a1 : S41) : Option Bool :=
  bnd (f47c70 m a0 a1) fun v1 =>
  some v1
noncomputable abbrev X49 (n : Nat) : Cx := cxOf Proofs.Tryd.prog E 49 n
noncomputable def C49 : Code := bodyOf Proofs.Tryd.prog 49
theorem ok49 (m : Nat) (a0 : (List S41)) (a1 : S41) (o : Bool) (h : f49 m a0 a1 = some o) (n : Nat) (hn : m + 5 ≤ n) : Fn Proofs.Tryd.prog E n 49 [.v ((eL e41) a0), .v (e41 a1)] (eB o) := by
  obtain ⟨n, rfl⟩ : ∃ q, n = q + 1 := ⟨n - 1, by omega⟩
  unfold f49 at h
  refine Fn.of (by kernel_rfl) (by kernel_rfl) (by kernel_rfl) ⟨(dP e41 a0) :: (.v (.agg [(vP eS a1.fTags), (.str a1.fForm)])) :: u6 [], []⟩ (by kernel_rfl) ?_
  refine Wp.seq' (by kernel_rfl) ?_
  refine Wp.region (by kernel_rfl) ?_
  refine Ops.seg' 2 2 (by kernel_rfl) ?_
  refine Ops.done (by kernel_rfl) ?_
  refine seqQ.n ?_
  refine Wp.seq' (by kernel_rfl) ?_
  refine Wp.region (by kernel_rfl) ?_
  refine Ops.seg' 2 2 (by kernel_rfl) ?_
  obtain ⟨v1, ev1, h⟩ := bnd_some h
  refine Ops.one' 3 (fun h0 e0 => (call_fl (E' := E) (h := h0) (by kernel_rfl) (ArgsC.cons (dP e41 a0) (.v ((eL e41) a0)) (by kernel_rfl) (ArgsC.cons (.func 70 [] [(.ptr 0 0)]) (.v (.clo 70 [.agg [(vP eS a1.fTags), (.str a1.fForm)]])) (argP_of e0 (by kernel_rfl)) ArgsC.nil)) (by kernel_rfl) (ok47c70 m a0 a1 v1 ev1 n (by omega)))) (by kernel_rfl) (by kernel_rfl) ?_
  refine Ops.seg' 1 4 (by kernel_rfl) ?_
  refine Ops.done (by kernel_rfl) ?_
  refine seqQ.n ?_
  refine Wp.ret (by kernel_rfl) ?_
  exact fnQ.r' (X49 n) (fun z => (eB z)) h (RetOk.mk' (dB v1) (by kernel_rfl) (by kernel_rfl))

/-! ### 48 glosswright/paradigm.Class$2 -/
def f48 (m : Nat) (a0 : S41) (a1 : (List S41)) : Option Bool :=
  bnd (f49 m a1 a0) fun v1 =>
  some (!v1)
noncomputable abbrev X48 (n : Nat) : Cx := cxOf Proofs.Tryd.prog E 48 n
noncomputable def C48 : Code := bodyOf Proofs.Tryd.prog 48
theorem ok48 (m : Nat) (a0 : S41) (a1 : (List S41)) (o : Bool) (h : f48 m a0 a1 = some o) (n : Nat) (hn : m + 6 ≤ n) : Fn Proofs.Tryd.prog E n 48 [.v (e41 a0), .vptr [(vP e41 a1)]] (eB o) := by
  obtain ⟨n, rfl⟩ : ∃ q, n = q + 1 := ⟨n - 1, by omega⟩
  unfold f48 at h
  refine Fn.of (by kernel_rfl) (by kernel_rfl) (by kernel_rfl) ⟨(.v (.agg [(vP eS a0.fTags), (.str a0.fForm)])) :: (.vptr [(vP e41 a1)]) :: u6 [], []⟩ (by kernel_rfl) ?_
  refine Wp.seq' (by kernel_rfl) ?_
  refine Wp.region (by kernel_rfl) ?_
  refine Ops.seg' 2 2 (by kernel_rfl) ?_
  refine Ops.done (by kernel_rfl) ?_
  refine seqQ.n ?_
  refine Wp.seq' (by kernel_rfl) ?_
  refine Wp.region (by kernel_rfl) ?_
  refine Ops.seg' 2 2 (by kernel_rfl) ?_
  obtain ⟨v1, ev1, h⟩ := bnd_some h
  refine Ops.one' 3 (fun h0 e0 => (call_ok (E' := E) (h := h0) (by kernel_rfl) (Args.v (vP e41 a1) ((eL e41) a1) (by kernel_rfl) (Args.v (.agg [(vP eS a0.fTags), (.str a0.fForm)]) (e41 a0) (by kernel_rfl) Args.nil)) (ok49 m a1 a0 v1 ev1 n (by omega)))) (by kernel_rfl) (by kernel_rfl) ?_
  refine Ops.seg' 2 5 (by kernel_rfl) ?_
  refine Ops.done (by kernel_rfl) ?_
  refine seqQ.n ?_
  refine Wp.ret (by kernel_rfl) ?_
  exact fnQ.r' (X48 n) (fun z => (eB z)) h (RetOk.mk' (dB (!v1)) (by kernel_rfl) (by kernel_rfl))

/-! ### 69c48 slices.IndexFunc[[]glosswright/api.Cell,glosswright/api.Cell] -/
def f69c48_B1 (m : Nat) (a0 : (List S41)) (a110 : (List S41)) (v6 : Int) : Option (Stp Int (Int)) :=
  cnd (decide (v6 < (a0.length : Int)))
  (bnd (idx a0 v6) fun v16 =>
  bnd (f48 m v16 a110) fun v17 =>
  cnd v17
  (some (.ret v6))
  (some (.nxt (w64 (v6 + 1)))))
  (some (.brk v6))
def f69c48 (m : Nat) (a0 : (List S41)) (a110 : (List S41)) : Option Int :=
  brk (iter (fun (y : Int) => f69c48_B1 m a0 a110 y) m 0) some fun y19 =>
  some ((-1))
noncomputable abbrev X69c48 (n : Nat) : Cx := cxOf Proofs.Tryd.prog E 69 n
noncomputable def C69c48 : Code := bodyOf Proofs.Tryd.prog 69
theorem ok69c48 (m : Nat) (a0 : (List S41)) (a110 : (List S41)) (o : Int) (h : f69c48 m a0 a110 = some o) (n : Nat) (hn : m + 7 ≤ n) : Fn Proofs.Tryd.prog E n 69 [.v ((eL e41) a0), .v (.clo 48 [.agg [(vP e41 a110)]])] (eI o) := by
  obtain ⟨n, rfl⟩ : ∃ q, n = q + 1 := ⟨n - 1, by omega⟩
  unfold f69c48 at h
  refine Fn.of (by kernel_rfl) (by kernel_rfl) (by kernel_rfl) ⟨(dP e41 a0) :: (.v (.clo 48 [.agg [(vP e41 a110)]])) :: u17 [], []⟩ (by kernel_rfl) ?_
  refine Wp.seq' (by kernel_rfl) ?_
  refine Wp.region (by kernel_rfl) ?_
  refine Ops.seg' 1 1 (by kernel_rfl) ?_
  refine Ops.done (by kernel_rfl) ?_
  refine seqQ.n ?_
  refine Wp.seq' (by kernel_rfl) ?_
  refine Wp.seq' (by kernel_rfl) ?_
  refine Wp.region (by kernel_rfl) ?_
  refine Ops.seg' 1 1 (by kernel_rfl) ?_
  refine Ops.one' 2 (fun h0 e0 => (len_r (T := T) h0 26 42 .plain e41 a0 (by kernel_rfl))) (by kernel_rfl) (by kernel_rfl) ?_
  refine Ops.seg' 1 3 (by kernel_rfl) ?_
  refine Ops.done (by kernel_rfl) ?_
  refine seqQ.n ?_
  refine Wp.block' 0 [4] 0 (by kernel_rfl) ?_
  have hLx18 : ∀ (kx8 : Nat) (v6 : Int)  (ox7 : Int ⊕ (Int)), iter (fun (y : Int) => f69c48_B1 m a0 a110 y) kx8 v6 = some ox7 → ∀ nx9, kx8 ≤ nx9 → (∀ r, ox7 = .inl r → ∀ σ, RetOk (X69c48 n) (resOf Proofs.Tryd.prog 69) (eI r) σ → (seqQ (X69c48 n) (cR (cR C69c48)) (fnQ (X69c48 n).E.T (resOf Proofs.Tryd.prog 69) (eI o))) .ret σ) → (∀ (y : Int) , ox7 = .inr y → (seqQ (X69c48 n) (cR (cR C69c48)) (fnQ (X69c48 n).E.T (resOf Proofs.Tryd.prog 69) (eI o))) .normal ⟨(dP e41 a0) :: (.v (.clo 48 [.agg [(vP e41 a110)]])) :: q2 ((dI 0) :: q2 ((dI ((a0.length : Int))) :: (dI y) :: q10 [])), []⟩) → Lp (X69c48 n) [0, 1, 4, 7, 8] 0 (cL (cL (cR (cL (cR C69c48))))) nx9 ⟨(dP e41 a0) :: (.v (.clo 48 [.agg [(vP e41 a110)]])) :: q2 ((dI 0) :: q2 ((dI ((a0.length : Int))) :: (dI v6) :: q10 [])), []⟩ (blkQ (X69c48 n) 0 [4] 0 (seqQ (X69c48 n) (cR (cR C69c48)) (fnQ (X69c48 n).E.T (resOf Proofs.Tryd.prog 69) (eI o)))) := by
    intro kx8
    induction kx8 with
    | zero => intro v6  ox7 h; exact (iter_zero h).elim
    | succ kx8 ihx10 =>
      intro v6  ox7 h nx9 hnx13 hrx11 hxx12
      obtain ⟨nx9, rfl⟩ : ∃ q, nx9 = q + 1 := ⟨nx9 - 1, by omega⟩
      obtain ⟨sx14, h, hsx15⟩ := iter_some h
      have h : f69c48_B1 m a0 a110 v6 = some sx14 := h
      unfold f69c48_B1 at h
      refine Lp.succ ?_
      refine Wp.seq' (by kernel_rfl) ?_
      refine Wp.region (by kernel_rfl) ?_
      refine Ops.seg' 1 1 (by kernel_rfl) ?_
      refine Ops.done (by kernel_rfl) ?_
      refine seqQ.n ?_
      refine Wp.seq' (by kernel_rfl) ?_
      refine Wp.cnd h [0, 1, 4, 7, 8] 0 (by kernel_rfl) (fun h => ?_) (fun h => ?_)
      · refine Wp.skip (by kernel_rfl) ?_
        refine sqQ.n' ?_
        refine seqQ.n ?_
        refine Wp.seq' (by kernel_rfl) ?_
        refine Wp.block' 1 [0, 1, 4, 7, 8] 0 (by kernel_rfl) ?_
        refine Wp.seq' (by kernel_rfl) ?_
        refine Wp.region (by kernel_rfl) ?_
        refine Ops.seg' 2 2 (by kernel_rfl) ?_
        refine Ops.done (by kernel_rfl) ?_
        refine seqQ.n ?_
        refine Wp.seq' (by kernel_rfl) ?_
        refine Wp.region (by kernel_rfl) ?_
        refine Ops.seg' 3 3 (by kernel_rfl) ?_
        obtain ⟨v16, ev16, h⟩ := bnd_some h
        refine Ops.one' 4 (fun h0 e0 => (ix_r (T := T) h0 26 42 2 .plain e41 a0 v6 v16 ev16 (by kernel_rfl) (by kernel_rfl) (fun _ => rfl))) (by kernel_rfl) (by kernel_rfl) ?_
        refine Ops.seg' 1 5 (by kernel_rfl) ?_
        obtain ⟨v17, ev17, h⟩ := bnd_some h
        refine Ops.one' 6 (fun h0 e0 => (call_ok (E' := E) (h := h0) (by kernel_rfl) (Args.v (.agg [(vP eS v16.fTags), (.str v16.fForm)]) (e41 v16) (by kernel_rfl) (Args.vp [(vP e41 a110)] Args.nil)) (ok48 m v16 a110 v17 ev17 n (by omega)))) (by kernel_rfl) (by kernel_rfl) ?_
        refine Ops.done (by kernel_rfl) ?_
        refine seqQ.n ?_
        refine Wp.cnd h [0, 1, 4, 7, 8] 0 (by kernel_rfl) (fun h => ?_) (fun h => ?_)
        · refine Wp.seq' (by kernel_rfl) ?_
          refine Wp.region (by kernel_rfl) ?_
          refine Ops.seg' 2 2 (by kernel_rfl) ?_
          refine Ops.done (by kernel_rfl) ?_
          refine seqQ.n ?_
          refine Wp.ret (by kernel_rfl) ?_
          refine sqQ.r ?_
          refine blkQ.r ?_
          refine seqQ.r ?_
          cases h
          refine lpQ.r ?_
          refine blkQ.r ?_
          exact hrx11 _ hsx15 _ (RetOk.forget [0, 1, 4, 7, 8] (by kernel_rfl) (RetOk.mk' (dI v6) (by kernel_rfl) (by kernel_rfl)))
        · refine Wp.skip (by kernel_rfl) ?_
          refine sqQ.n' ?_
          refine blkQ.n' ?_
          refine seqQ.n ?_
          refine Wp.region (by kernel_rfl) ?_
          refine Ops.seg' 2 2 (by kernel_rfl) ?_
          refine Ops.done (by kernel_rfl) ?_
          refine lpQ.n ⟨(dP e41 a0) :: (.v (.clo 48 [.agg [(vP e41 a110)]])) :: q2 ((dI 0) :: q2 ((dI ((a0.length : Int))) :: (dI (w64 (v6 + 1))) :: q10 [])), []⟩ (by kernel_rfl) ?_
          cases h
          exact ihx10 (w64 (v6 + 1))  _ hsx15 _ (by omega) hrx11 hxx12
      · refine Wp.exit (id := 0) (by kernel_rfl) ?_
        refine sqQ.x ?_
        refine seqQ.x ?_
        cases h
        refine lpQ.x ?_
        refine blkQ.x ⟨(dP e41 a0) :: (.v (.clo 48 [.agg [(vP e41 a110)]])) :: q2 ((dI 0) :: q2 ((dI ((a0.length : Int))) :: (dI v6) :: q10 [])), []⟩ (by kernel_rfl) ?_
        exact hxx12 v6  hsx15
  refine Wp.loop' [0, 1, 4, 7, 8] 0 (by kernel_rfl) ⟨(dP e41 a0) :: (.v (.clo 48 [.agg [(vP e41 a110)]])) :: q2 ((dI 0) :: q2 ((dI ((a0.length : Int))) :: (dI 0) :: q10 [])), []⟩ (by kernel_rfl) ?_
  rcases brk_some h with ⟨r20, er20, h⟩ | ⟨y19, ey19, h⟩
  · refine hLx18 _ 0  _ er20 n (by omega) (fun r er σ hσ => ?_) (fun y  ey => by cases ey)
    cases er
    refine seqQ.r ?_
    exact fnQ.r' (X69c48 n) (fun z => (eI z)) h hσ
  · refine hLx18 _ 0  _ ey19 n (by omega) (fun r er => by cases er) (fun y  ey => ?_)
    cases ey
    refine seqQ.n ?_
    refine Wp.seq' (by kernel_rfl) ?_
    refine Wp.region (by kernel_rfl) ?_
    refine Ops.seg' 1 1 (by kernel_rfl) ?_
    refine Ops.done (by kernel_rfl) ?_
    refine seqQ.n ?_
    refine Wp.ret (by kernel_rfl) ?_
    exact fnQ.r' (X69c48 n) (fun z => (eI z)) h (RetOk.mk' (dI ((-1))) (by kernel_rfl) (by kernel_rfl))

/-! ### 47c48 slices.ContainsFunc[[]glosswright/api.Cell,glosswright/api.Cell] -/
def f47c48 (m : Nat) (a0 : (List S41)) (a110 : (List S41)) : Option Bool :=
  bnd (f69c48 m a0 a110) fun v1 =>
  some (decide (v1 ≥ 0))
noncomputable abbrev X47c48 (n : Nat) : Cx := cxOf Proofs.Tryd.prog E 47 n
noncomputable def C47c48 : Code := bodyOf Proofs.Tryd.prog 47
theorem ok47c48 (m : Nat) (a0 : (List S41)) (a110 : (List S41)) (o : Bool) (h : f47c48 m a0 a110 = some o) (n : Nat) (hn : m + 8 ≤ n) : Fn Proofs.Tryd.prog E n 47 [.v ((eL e41) a0), .v (.clo 48 [.agg [(vP e41 a110)]])] (eB o) := by
  obtain ⟨n, rfl⟩ : ∃ q, n = q + 1 := ⟨n - 1, by omega⟩
  unfold f47c48 at h
  refine Fn.of (by kernel_rfl) (by kernel_rfl) (by kernel_rfl) ⟨(dP e41 a0) :: (.v (.clo 48 [.agg [(vP e41 a110)]])) :: u7 [], []⟩ (by kernel_rfl) ?_
  refine Wp.seq' (by kernel_rfl) ?_
  refine Wp.region (by kernel_rfl) ?_
  refine Ops.seg' 1 1 (by kernel_rfl) ?_
  refine Ops.done (by kernel_rfl) ?_
  refine seqQ.n ?_
  refine Wp.seq' (by kernel_rfl) ?_
  refine Wp.region (by kernel_rfl) ?_
  refine Ops.seg' 2 2 (by kernel_rfl) ?_
  obtain ⟨v1, ev1, h⟩ := bnd_some h
  refine Ops.one' 3 (fun h0 e0 => (call_ok (E' := E) (h := h0) (by kernel_rfl) (Args.v (vP e41 a0) ((eL e41) a0) (by kernel_rfl) (Args.v (.clo 48 [.agg [(vP e41 a110)]]) (.clo 48 [.agg [(vP e41 a110)]]) (by kernel_rfl) Args.nil)) (ok69c48 m a0 a110 v1 ev1 n (by omega)))) (by kernel_rfl) (by kernel_rfl) ?_
  refine Ops.seg' 2 5 (by kernel_rfl) ?_
  refine Ops.done (by kernel_rfl) ?_
  refine seqQ.n ?_
  refine Wp.ret (by kernel_rfl) ?_
  exact fnQ.r' (X47c48 n) (fun z => (eB z)) h (RetOk.mk' (dB (decide (v1 ≥ 0))) (by kernel_rfl) (by kernel_rfl))

/-! ### 23 glosswright/paradigm.Class -/
def f23_B1 (m : Nat) (a0 : (List S23)) (v9 : Int) : Option (Stp (((List Int) × S27)) (Int)) :=
  cnd (decide (v9 < (a0.length : Int)))
  (bnd (idx a0 v9) fun v19 =>
  bnd (f15 m v19) fun v20 =>
  cnd (!((v20.fCode == 0) && ((v20.fIndex == 0) && true)))
  (bnd (f33 m v20.fCode v9) fun v21 =>
  some (.ret (([], v21))))
  (some (.nxt (w64 (v9 + 1)))))
  (some (.brk v9))
def f23_B2 (m : Nat) (a1 : (List S41)) (v45 : Int) : Option (Stp (((List Int) × S27)) (Int)) :=
  cnd (decide (v45 < (a1.length : Int)))
  (bnd (idx a1 v45) fun v55 =>
  bnd (f40 m v55.fTags) fun v56 =>
  cnd (v56 != 0)
  (bnd (f33 m v56 v45) fun v57 =>
  some (.ret (([], v57))))
  (bnd (f32 m v55.fForm) fun v58 =>
  cnd (!v58)
  (bnd (f33 m 5 v45) fun v59 =>
  some (.ret (([], v59))))
  (some (.nxt (w64 (v45 + 1))))))
  (some (.brk v45))
def f23_j3 (m : Nat) (v132 : Int) (v142 : (List Int)) : Option (Stp (((List Int) × S27)) ((List Int) × Int)) :=
  some (.nxt (v142, w64 (v132 + 1)))
def f23_B4 (m : Nat) (a1 : (List S41)) (v132 : Int) (v144 : S23) (v146 : (List ByteArray)) (v157 : (List Int)) (v158 : Int) : Option (Stp (((List Int) × S27)) ((List Int) × Int)) :=
  cnd (decide (v158 < (v146.length : Int)))
  (bnd (idx v146 v158) fun v168 =>
  bnd (f34 m v144 v168) fun v169 =>
  bnd (f47c48 m a1 v169) fun v170 =>
  cnd (!v170)
  (bnd (app 8 v157 [v132]) fun v171 =>
  some (.brk (v171, v158)))
  (some (.nxt (v157, w64 (v158 + 1)))))
  (some (.brk (v157, v158)))
def f23_B5 (m : Nat) (a0 : (List S23)) (a1 : (List S41)) (v131 : (List Int)) (v132 : Int) : Option (Stp (((List Int) × S27)) ((List Int) × Int)) :=
  cnd (decide (v132 < (a0.length : Int)))
  (bnd (idx a0 v132) fun v144 =>
  bnd (idx a1 0) fun v145 =>
  bnd (f43c45 m v144 v145.fForm a1) fun v146 =>
  brk (iter (fun (y : (List Int) × Int) => f23_B4 m a1 v132 v144 v146 y.1 y.2) m (v131, 0)) (fun r => some (.ret r)) fun y173 =>
  f23_j3 m v132 y173.1)
  (some (.brk (v131, v132)))
def f23_r6 (m : Nat) (a0 : (List S23)) (a1 : (List S41)) (v31 : Bool) : Option ((List Int) × S27) :=
  cnd v31
  (bnd (f33 m 9 ((-2))) fun v33 =>
  some (([], v33)))
  (brk (iter (fun (y : Int) => f23_B2 m a1 y) m 0) some fun y61 =>
  brk (iter (fun (y : (List Int) × Int) => f23_B5 m a0 a1 y.1 y.2) m ([], 0)) some fun y176 =>
  some ((y176.1, (⟨0, 0⟩ : S27))))
def f23 (m : Nat) (a0 : (List S23)) (a1 : (List S41)) : Option ((List Int) × S27) :=
  cnd (decide ((a0.length : Int) > 40))
  (bnd (f33 m 2 ((-1))) fun v1 =>
  some (([], v1)))
  (brk (iter (fun (y : Int) => f23_B1 m a0 y) m 0) some fun y23 =>
  f23_r6 m a0 a1 (((decide ((a1.length : Int) < 1)) || (decide ((a1.length : Int) > 300)))))
noncomputable abbrev X23 (n : Nat) : Cx := cxOf Proofs.Tryd.prog E 23 n
noncomputable def C23 : Code := bodyOf Proofs.Tryd.prog 23
theorem ok23 (m : Nat) (a0 : (List S23)) (a1 : (List S41)) (o : ((List Int) × S27)) (h : f23 m a0 a1 = some o) (n : Nat) (hn : m + 9 ≤ n) : Fn Proofs.Tryd.prog E n 23 [.v ((eL e23) a0), .v ((eL e41) a1)] (.tuple [(eL eI) o.1, e27 o.2]) := by
  obtain ⟨n, rfl⟩ : ∃ q, n = q + 1 := ⟨n - 1, by omega⟩
  unfold f23 at h
  refine Fn.of (by kernel_rfl) (by kernel_rfl) (by kernel_rfl) ⟨(dP e23 a0) :: (dP e41 a1) :: u40 (u40 (u22 [])), []⟩ (by kernel_rfl) ?_
  refine Wp.seq' (by kernel_rfl) ?_
  refine Wp.region (by kernel_rfl) ?_
  refine Ops.seg' 3 3 (by kernel_rfl) ?_
  refine Ops.done (by kernel_rfl) ?_
  refine seqQ.n ?_
  refine Wp.seq' (by kernel_rfl) ?_
  refine Wp.seq' (by kernel_rfl) ?_
  refine Wp.region (by kernel_rfl) ?_
  refine Ops.seg' 1 1 (by kernel_rfl) ?_
  refine Ops.one' 2 (fun h0 e0 => (len_r (T := T) h0 43 24 .plain e23 a0 (by kernel_rfl))) (by kernel_rfl) (by kernel_rfl) ?_
  refine Ops.seg' 1 3 (by kernel_rfl) ?_
  refine Ops.done (by kernel_rfl) ?_
  refine seqQ.n ?_
  refine Wp.cnd h [0, 3, 4, 5] 2 (by kernel_rfl) (fun h => ?_) (fun h => ?_)
  · refine Wp.seq' (by kernel_rfl) ?_
    refine Wp.region (by kernel_rfl) ?_
    obtain ⟨v1, ev1, h⟩ := bnd_some h
    refine Ops.one' 1 (fun h0 e0 => (call_ok (E' := E) (h := h0) (by kernel_rfl) (Args.v (vI 2) (eI 2) (by kernel_rfl) (Args.v (vI ((-1))) (eI ((-1))) (by kernel_rfl) Args.nil)) (ok33 m 2 ((-1)) v1 ev1 n (by omega)))) (by kernel_rfl) (by kernel_rfl) ?_
    refine Ops.seg' 2 3 (by kernel_rfl) ?_
    refine Ops.done (by kernel_rfl) ?_
    refine seqQ.n ?_
    refine Wp.ret (by kernel_rfl) ?_
    refine sqQ.r ?_
    refine seqQ.r ?_
    exact fnQ.r' (X23 n) (fun z => (.tuple [(eL eI) z.1, e27 z.2])) h (RetOk.mk' (.v (.tuple [(.sl .nil (List.map eI [])), (.agg [(vI v1.fCode), (vI v1.fIndex)])])) (by kernel_rfl) (by kernel_rfl))
  · refine Wp.skip (by kernel_rfl) ?_
    refine sqQ.n' ?_
    refine seqQ.n ?_
    refine Wp.seq' (by kernel_rfl) ?_
    refine Wp.seq' (by kernel_rfl) ?_
    refine Wp.region (by kernel_rfl) ?_
    refine Ops.seg' 1 1 (by kernel_rfl) ?_
    refine Ops.one' 2 (fun h0 e0 => (len_r (T := T) h0 43 24 .plain e23 a0 (by kernel_rfl))) (by kernel_rfl) (by kernel_rfl) ?_
    refine Ops.seg' 1 3 (by kernel_rfl) ?_
    refine Ops.done (by kernel_rfl) ?_
    refine seqQ.n ?_
    refine Wp.block' 0 [0, 3, 4, 5] 3 (by kernel_rfl) ?_
    have hLx22 : ∀ (kx11 : Nat) (v9 : Int)  (ox10 : ((List Int) × S27) ⊕ (Int)), iter (fun (y : Int) => f23_B1 m a0 y) kx11 v9 = some ox10 → ∀ nx12, kx11 ≤ nx12 → (∀ r, ox10 = .inl r → ∀ σ, RetOk (X23 n) (resOf Proofs.Tryd.prog 23) (.tuple [(eL eI) r.1, e27 r.2]) σ → (seqQ (X23 n) (cR (cR (cR C23))) (fnQ (X23 n).E.T (resOf Proofs.Tryd.prog 23) (.tuple [(eL eI) o.1, e27 o.2]))) .ret σ) → (∀ (y : Int) , ox10 = .inr y → (seqQ (X23 n) (cR (cR (cR C23))) (fnQ (X23 n).E.T (resOf Proofs.Tryd.prog 23) (.tuple [(eL eI) o.1, e27 o.2]))) .normal ⟨(dP e23 a0) :: q2 ((.ptr 0 0) :: (.v (.sl .nil (List.map eI []))) :: (.ptr 1 0) :: q40 (q40 (q18 []))), [(.cells [(dP e41 a1)]), (.cells [(dI 0), (dI 0)]), .dead, .dead]⟩) → Lp (X23 n) [0, 3, 4, 5, 22, 23, 24] 3 (cL (cL (cR (cL (cR (cR C23)))))) nx12 ⟨(dP e23 a0) :: q2 ((.ptr 0 0) :: (.v (.sl .nil (List.map eI []))) :: (.ptr 1 0) :: q16 ((dP e23 a0) :: (dI ((a0.length : Int))) :: (dI v9) :: q40 (q39 []))), [(.cells [(dP e41 a1)]), (.cells [(dI 0), (dI 0)]), .dead, .dead]⟩ (blkQ (X23 n) 0 [0, 3, 4, 5] 3 (seqQ (X23 n) (cR (cR (cR C23))) (fnQ (X23 n).E.T (resOf Proofs.Tryd.prog 23) (.tuple [(eL eI) o.1, e27 o.2])))) := by
      intro kx11
      induction kx11 with
      | zero => intro v9  ox10 h; exact (iter_zero h).elim
      | succ kx11 ihx13 =>
        intro v9  ox10 h nx12 hnx16 hrx14 hxx15
        obtain ⟨nx12, rfl⟩ : ∃ q, nx12 = q + 1 := ⟨nx12 - 1, by omega⟩
        obtain ⟨sx17, h, hsx18⟩ := iter_some h
        have h : f23_B1 m a0 v9 = some sx17 := h
        unfold f23_B1 at h
        refine Lp.succ ?_
        refine Wp.seq' (by kernel_rfl) ?_
        refine Wp.region (by kernel_rfl) ?_
        refine Ops.seg' 1 1 (by kernel_rfl) ?_
        refine Ops.done (by kernel_rfl) ?_
        refine seqQ.n ?_
        refine Wp.seq' (by kernel_rfl) ?_
        refine Wp.cnd h [0, 3, 4, 5, 22, 23, 24] 4 (by kernel_rfl) (fun h => ?_) (fun h => ?_)
        · refine Wp.skip (by kernel_rfl) ?_
          refine sqQ.n' ?_
          refine seqQ.n ?_
          refine Wp.seq' (by kernel_rfl) ?_
          refine Wp.block' 1 [0, 3, 4, 5, 22, 23, 24] 5 (by kernel_rfl) ?_
          refine Wp.seq' (by kernel_rfl) ?_
          refine Wp.region (by kernel_rfl) ?_
          refine Ops.seg' 1 1 (by kernel_rfl) ?_
          obtain ⟨v19, ev19, h⟩ := bnd_some h
          refine Ops.one' 2 (fun h0 e0 => (ix_r (T := T) h0 43 24 2 .plain e23 a0 v9 v19 ev19 (by kernel_rfl) (by kernel_rfl) (fun _ => rfl))) (by kernel_rfl) (by kernel_rfl) ?_
          refine Ops.seg' 4 6 (by kernel_rfl) ?_
          refine Ops.done (by kernel_rfl) ?_
          refine seqQ.n ?_
          refine Wp.seq' (by kernel_rfl) ?_
          refine Wp.region (by kernel_rfl) ?_
          refine Ops.seg' 1 1 (by kernel_rfl) ?_
          obtain ⟨v20, ev20, h⟩ := bnd_some h
          refine Ops.one' 2 (fun h0 e0 => (call_ok (E' := E) (h := h0) (by kernel_rfl) (Args.v (.agg [(.str v19.fName), (vP e67 v19.fCells)]) (e23 v19) (by kernel_rfl) Args.nil) (ok15 m v19 v20 ev20 n (by omega)))) (by kernel_rfl) (by kernel_rfl) ?_
          refine Ops.seg' 2 4 (by kernel_rfl) ?_
          refine Ops.done (by kernel_rfl) ?_
          refine seqQ.n ?_
          refine Wp.seq' (by kernel_rfl) ?_
          refine Wp.region (by kernel_rfl) ?_
          refine Ops.seg' 3 3 (by kernel_rfl) ?_
          refine Ops.done (by kernel_rfl) ?_
          refine seqQ.n ?_
          refine Wp.cnd h [0, 3, 4, 5, 22, 23, 24] 7 (by kernel_rfl) (fun h => ?_) (fun h => ?_)
          · refine Wp.seq' (by kernel_rfl) ?_
            refine Wp.region (by kernel_rfl) ?_
            refine Ops.seg' 3 3 (by kernel_rfl) ?_
            obtain ⟨v21, ev21, h⟩ := bnd_some h
            refine Ops.one' 4 (fun h0 e0 => (call_ok (E' := E) (h := h0) (by kernel_rfl) (Args.v (vI v20.fCode) (eI v20.fCode) (by kernel_rfl) (Args.v (vI v9) (eI v9) (by kernel_rfl) Args.nil)) (ok33 m v20.fCode v9 v21 ev21 n (by omega)))) (by kernel_rfl) (by kernel_rfl) ?_
            refine Ops.seg' 2 6 (by kernel_rfl) ?_
            refine Ops.done (by kernel_rfl) ?_
            refine seqQ.n ?_
            refine Wp.ret (by kernel_rfl) ?_
            refine sqQ.r ?_
            refine blkQ.r ?_
            refine seqQ.r ?_
            cases h
            refine lpQ.r ?_
            refine blkQ.r ?_
            exact hrx14 _ hsx18 _ (RetOk.forget [0, 3, 4, 5, 22, 23, 24] (by kernel_rfl) (RetOk.mk' (.v (.tuple [(.sl .nil (List.map eI [])), (.agg [(vI v21.fCode), (vI v21.fIndex)])])) (by kernel_rfl) (by kernel_rfl)))
          · refine Wp.skip (by kernel_rfl) ?_
            refine sqQ.n' ?_
            refine blkQ.n' ?_
            refine seqQ.n ?_
            refine Wp.region (by kernel_rfl) ?_
            refine Ops.seg' 2 2 (by kernel_rfl) ?_
            refine Ops.done (by kernel_rfl) ?_
            refine lpQ.n ⟨(dP e23 a0) :: q2 ((.ptr 0 0) :: (.v (.sl .nil (List.map eI []))) :: (.ptr 1 0) :: q16 ((dP e23 a0) :: (dI ((a0.length : Int))) :: (dI (w64 (v9 + 1))) :: q40 (q39 []))), [(.cells [(dP e41 a1)]), (.cells [(dI 0), (dI 0)]), .dead, .dead]⟩ (by kernel_rfl) ?_
            cases h
            exact ihx13 (w64 (v9 + 1))  _ hsx18 _ (by omega) hrx14 hxx15
        · refine Wp.exit (id := 0) (by kernel_rfl) ?_
          refine sqQ.x ?_
          refine seqQ.x ?_
          cases h
          refine lpQ.x ?_
          refine blkQ.x ⟨(dP e23 a0) :: q2 ((.ptr 0 0) :: (.v (.sl .nil (List.map eI []))) :: (.ptr 1 0) :: q40 (q40 (q18 []))), [(.cells [(dP e41 a1)]), (.cells [(dI 0), (dI 0)]), .dead, .dead]⟩ (by kernel_rfl) ?_
          exact hxx15 v9  hsx18
    refine Wp.loop' [0, 3, 4, 5, 22, 23, 24] 3 (by kernel_rfl) ⟨(dP e23 a0) :: q2 ((.ptr 0 0) :: (.v (.sl .nil (List.map eI []))) :: (.ptr 1 0) :: q16 ((dP e23 a0) :: (dI ((a0.length : Int))) :: (dI 0) :: q40 (q39 []))), [(.cells [(dP e41 a1)]), (.cells [(dI 0), (dI 0)]), .dead, .dead]⟩ (by kernel_rfl) ?_
    rcases brk_some h with ⟨r24, er24, h⟩ | ⟨y23, ey23, h⟩
    · refine hLx22 _ 0  _ er24 n (by omega) (fun r er σ hσ => ?_) (fun y  ey => by cases ey)
      cases er
      refine seqQ.r ?_
      exact fnQ.r' (X23 n) (fun z => (.tuple [(eL eI) z.1, e27 z.2])) h hσ
    · refine hLx22 _ 0  _ ey23 n (by omega) (fun r er => by cases er) (fun y  ey => ?_)
      cases ey
      refine seqQ.n ?_
      refine Wp.seq' (by kernel_rfl) ?_
      refine Wp.seq' (by kernel_rfl) ?_
      refine Wp.region (by kernel_rfl) ?_
      refine Ops.seg' 1 1 (by kernel_rfl) ?_
      refine Ops.one' 2 (fun h0 e0 => (len_r (T := T) h0 26 42 .plain e41 a1 (by kernel_rfl))) (by kernel_rfl) (by kernel_rfl) ?_
      refine Ops.seg' 2 4 (by kernel_rfl) ?_
      have J23j32 : ∀ (d27 d28 d29 : D) (v30 : Bool) (v31 : Bool), f23_r6 m a0 a1 v31 = some o → Ops (X23 n) (opl (cL (cL (cR (cR (cR C23)))))) 8 ⟨(dP e23 a0) :: q2 ((.ptr 0 0) :: (.v (.sl .nil (List.map eI []))) :: (.ptr 1 0) :: q33 ((dP e41 a1) :: (dI ((a1.length : Int))) :: (dB v30) :: (dB v30) :: d27 :: d28 :: d29 :: (dB v31) :: q40 (q17 []))), [(.cells [(dP e41 a1)]), (.cells [(dI 0), (dI 0)]), .dead, .dead]⟩ ((seqQ (X23 n) (cR (cL (cR (cR (cR C23))))) (seqQ (X23 n) (cR (cR (cR (cR C23)))) (fnQ (X23 n).E.T (resOf Proofs.Tryd.prog 23) (.tuple [(eL eI) o.1, e27 o.2])))) .normal) := by
        intro d27 d28 d29 v30 v31 h
        unfold f23_r6 at h
        refine Ops.done (by kernel_rfl) ?_
        refine seqQ.n ?_
        refine Wp.cnd h [0, 3, 4, 5] 4 (by kernel_rfl) (fun h => ?_) (fun h => ?_)
        · refine Wp.seq' (by kernel_rfl) ?_
          refine Wp.region (by kernel_rfl) ?_
          obtain ⟨v33, ev33, h⟩ := bnd_some h
          refine Ops.one' 1 (fun h0 e0 => (call_ok (E' := E) (h := h0) (by kernel_rfl) (Args.v (vI 9) (eI 9) (by kernel_rfl) (Args.v (vI ((-2))) (eI ((-2))) (by kernel_rfl) Args.nil)) (ok33 m 9 ((-2)) v33 ev33 n (by omega)))) (by kernel_rfl) (by kernel_rfl) ?_
          refine Ops.seg' 2 3 (by kernel_rfl) ?_
          refine Ops.done (by kernel_rfl) ?_
          refine seqQ.n ?_
          refine Wp.ret (by kernel_rfl) ?_
          refine sqQ.r ?_
          refine seqQ.r ?_
          exact fnQ.r' (X23 n) (fun z => (.tuple [(eL eI) z.1, e27 z.2])) h (RetOk.mk' (.v (.tuple [(.sl .nil (List.map eI [])), (.agg [(vI v33.fCode), (vI v33.fIndex)])])) (by kernel_rfl) (by kernel_rfl))
        · refine Wp.skip (by kernel_rfl) ?_
          refine sqQ.n' ?_
          refine seqQ.n ?_
          refine Wp.seq' (by kernel_rfl) ?_
          refine Wp.seq' (by kernel_rfl) ?_
          refine Wp.region (by kernel_rfl) ?_
          refine Ops.seg' 1 1 (by kernel_rfl) ?_
          refine Ops.one' 2 (fun h0 e0 => (len_r (T := T) h0 26 42 .plain e41 a1 (by kernel_rfl))) (by kernel_rfl) (by kernel_rfl) ?_
          refine Ops.seg' 1 3 (by kernel_rfl) ?_
          refine Ops.done (by kernel_rfl) ?_
          refine seqQ.n ?_
          refine Wp.block' 2 [0, 3, 4, 5] 5 (by kernel_rfl) ?_
          have hLx60 : ∀ (kx47 : Nat) (v45 : Int)  (ox46 : ((List Int) × S27) ⊕ (Int)), iter (fun (y : Int) => f23_B2 m a1 y) kx47 v45 = some ox46 → ∀ nx48, kx47 ≤ nx48 → (∀ r, ox46 = .inl r → ∀ σ, RetOk (X23 n) (resOf Proofs.Tryd.prog 23) (.tuple [(eL eI) r.1, e27 r.2]) σ → (seqQ (X23 n) (cR (cR (cR (cR (cR C23))))) (fnQ (X23 n).E.T (resOf Proofs.Tryd.prog 23) (.tuple [(eL eI) o.1, e27 o.2]))) .ret σ) → (∀ (y : Int) , ox46 = .inr y → (seqQ (X23 n) (cR (cR (cR (cR (cR C23))))) (fnQ (X23 n).E.T (resOf Proofs.Tryd.prog 23) (.tuple [(eL eI) o.1, e27 o.2]))) .normal ⟨(dP e23 a0) :: q2 ((.ptr 0 0) :: (.v (.sl .nil (List.map eI []))) :: (.ptr 1 0) :: q40 (q40 (q18 []))), [(.cells [(dP e41 a1)]), (.cells [(dI 0), (dI 0)]), .dead, .dead, .dead, .dead]⟩) → Lp (X23 n) [0, 3, 4, 5, 48, 49, 50] 5 (cL (cL (cR (cL (cR (cR (cR (cR C23)))))))) nx48 ⟨(dP e23 a0) :: q2 ((.ptr 0 0) :: (.v (.sl .nil (List.map eI []))) :: (.ptr 1 0) :: q40 (q2 ((dP e41 a1) :: (dI ((a1.length : Int))) :: (dI v45) :: q40 (q13 [])))), [(.cells [(dP e41 a1)]), (.cells [(dI 0), (dI 0)]), .dead, .dead, .dead, .dead]⟩ (blkQ (X23 n) 2 [0, 3, 4, 5] 5 (seqQ (X23 n) (cR (cR (cR (cR (cR C23))))) (fnQ (X23 n).E.T (resOf Proofs.Tryd.prog 23) (.tuple [(eL eI) o.1, e27 o.2])))) := by
            intro kx47
            induction kx47 with
            | zero => intro v45  ox46 h; exact (iter_zero h).elim
            | succ kx47 ihx49 =>
              intro v45  ox46 h nx48 hnx52 hrx50 hxx51
              obtain ⟨nx48, rfl⟩ : ∃ q, nx48 = q + 1 := ⟨nx48 - 1, by omega⟩
              obtain ⟨sx53, h, hsx54⟩ := iter_some h
              have h : f23_B2 m a1 v45 = some sx53 := h
              unfold f23_B2 at h
              refine Lp.succ ?_
              refine Wp.seq' (by kernel_rfl) ?_
              refine Wp.region (by kernel_rfl) ?_
              refine Ops.seg' 1 1 (by kernel_rfl) ?_
              refine Ops.done (by kernel_rfl) ?_
              refine seqQ.n ?_
              refine Wp.seq' (by kernel_rfl) ?_
              refine Wp.cnd h [0, 3, 4, 5, 48, 49, 50] 6 (by kernel_rfl) (fun h => ?_) (fun h => ?_)
              · refine Wp.skip (by kernel_rfl) ?_
                refine sqQ.n' ?_
                refine seqQ.n ?_
                refine Wp.seq' (by kernel_rfl) ?_
                refine Wp.block' 3 [0, 3, 4, 5, 48, 49, 50] 7 (by kernel_rfl) ?_
                refine Wp.seq' (by kernel_rfl) ?_
                refine Wp.region (by kernel_rfl) ?_
                refine Ops.seg' 1 1 (by kernel_rfl) ?_
                obtain ⟨v55, ev55, h⟩ := bnd_some h
                refine Ops.one' 2 (fun h0 e0 => (ix_r (T := T) h0 26 42 2 .plain e41 a1 v45 v55 ev55 (by kernel_rfl) (by kernel_rfl) (fun _ => rfl))) (by kernel_rfl) (by kernel_rfl) ?_
                refine Ops.seg' 4 6 (by kernel_rfl) ?_
                refine Ops.done (by kernel_rfl) ?_
                refine seqQ.n ?_
                refine Wp.seq' (by kernel_rfl) ?_
                refine Wp.seq' (by kernel_rfl) ?_
                refine Wp.region (by kernel_rfl) ?_
                refine Ops.seg' 2 2 (by kernel_rfl) ?_
                obtain ⟨v56, ev56, h⟩ := bnd_some h
                refine Ops.one' 3 (fun h0 e0 => (call_ok (E' := E) (h := h0) (by kernel_rfl) (Args.v (vP eS v55.fTags) ((eL eS) v55.fTags) (by kernel_rfl) Args.nil) (ok40 m v55.fTags v56 ev56 n (by omega)))) (by kernel_rfl) (by kernel_rfl) ?_
                refine Ops.seg' 1 4 (by kernel_rfl) ?_
                refine Ops.done (by kernel_rfl) ?_
                refine seqQ.n ?_
                refine Wp.seq' (by kernel_rfl) ?_
                refine Wp.region (by kernel_rfl) ?_
                refine Ops.seg' 2 2 (by kernel_rfl) ?_
                refine Ops.done (by kernel_rfl) ?_
                refine seqQ.n ?_
                refine Wp.cnd h [0, 3, 4, 5, 9, 10, 48, 49, 50] 8 (by kernel_rfl) (fun h => ?_) (fun h => ?_)
                · refine Wp.seq' (by kernel_rfl) ?_
                  refine Wp.region (by kernel_rfl) ?_
                  refine Ops.seg' 2 2 (by kernel_rfl) ?_
                  obtain ⟨v57, ev57, h⟩ := bnd_some h
                  refine Ops.one' 3 (fun h0 e0 => (call_ok (E' := E) (h := h0) (by kernel_rfl) (Args.v (vI v56) (eI v56) (by kernel_rfl) (Args.v (vI v45) (eI v45) (by kernel_rfl) Args.nil)) (ok33 m v56 v45 v57 ev57 n (by omega)))) (by kernel_rfl) (by kernel_rfl) ?_
                  refine Ops.seg' 2 5 (by kernel_rfl) ?_
                  refine Ops.done (by kernel_rfl) ?_
                  refine seqQ.n ?_
                  refine Wp.ret (by kernel_rfl) ?_
                  refine sqQ.r ?_
                  refine seqQ.r ?_
                  refine blkQ.r ?_
                  refine seqQ.r ?_
                  cases h
                  refine lpQ.r ?_
                  refine blkQ.r ?_
                  exact hrx50 _ hsx54 _ (RetOk.forget [0, 3, 4, 5, 48, 49, 50] (by kernel_rfl) (RetOk.mk' (.v (.tuple [(.sl .nil (List.map eI [])), (.agg [(vI v57.fCode), (vI v57.fIndex)])])) (by kernel_rfl) (by kernel_rfl)))
                · refine Wp.skip (by kernel_rfl) ?_
                  refine sqQ.n' ?_
                  refine seqQ.n ?_
                  refine Wp.seq' (by kernel_rfl) ?_
                  refine Wp.region (by kernel_rfl) ?_
                  refine Ops.seg' 2 2 (by kernel_rfl) ?_
                  obtain ⟨v58, ev58, h⟩ := bnd_some h
                  refine Ops.one' 3 (fun h0 e0 => (call_ok (E' := E) (h := h0) (by kernel_rfl) (Args.v (.str v55.fForm) (eS v55.fForm) (by kernel_rfl) Args.nil) (ok32 m v55.fForm v58 ev58 n (by omega)))) (by kernel_rfl) (by kernel_rfl) ?_
                  refine Ops.seg' 1 4 (by kernel_rfl) ?_
                  refine Ops.done (by kernel_rfl) ?_
                  refine seqQ.n ?_
                  refine Wp.cnd h [0, 3, 4, 5, 48, 49, 50] 9 (by kernel_rfl) (fun h => ?_) (fun h => ?_)
                  · refine Wp.seq' (by kernel_rfl) ?_
                    refine Wp.region (by kernel_rfl) ?_
                    refine Ops.seg' 1 1 (by kernel_rfl) ?_
                    obtain ⟨v59, ev59, h⟩ := bnd_some h
                    refine Ops.one' 2 (fun h0 e0 => (call_ok (E' := E) (h := h0) (by kernel_rfl) (Args.v (vI 5) (eI 5) (by kernel_rfl) (Args.v (vI v45) (eI v45) (by kernel_rfl) Args.nil)) (ok33 m 5 v45 v59 ev59 n (by omega)))) (by kernel_rfl) (by kernel_rfl) ?_
                    refine Ops.seg' 2 4 (by kernel_rfl) ?_
                    refine Ops.done (by kernel_rfl) ?_
                    refine seqQ.n ?_
                    refine Wp.ret (by kernel_rfl) ?_
                    refine sqQ.r ?_
                    refine blkQ.r ?_
                    refine seqQ.r ?_
                    cases h
                    refine lpQ.r ?_
                    refine blkQ.r ?_
                    exact hrx50 _ hsx54 _ (RetOk.forget [0, 3, 4, 5, 48, 49, 50] (by kernel_rfl) (RetOk.mk' (.v (.tuple [(.sl .nil (List.map eI [])), (.agg [(vI v59.fCode), (vI v59.fIndex)])])) (by kernel_rfl) (by kernel_rfl)))
                  · refine Wp.skip (by kernel_rfl) ?_
                    refine sqQ.n' ?_
                    refine blkQ.n' ?_
                    refine seqQ.n ?_
                    refine Wp.region (by kernel_rfl) ?_
                    refine Ops.seg' 2 2 (by kernel_rfl) ?_
                    refine Ops.done (by kernel_rfl) ?_
                    refine lpQ.n ⟨(dP e23 a0) :: q2 ((.ptr 0 0) :: (.v (.sl .nil (List.map eI []))) :: (.ptr 1 0) :: q40 (q2 ((dP e41 a1) :: (dI ((a1.length : Int))) :: (dI (w64 (v45 + 1))) :: q40 (q13 [])))), [(.cells [(dP e41 a1)]), (.cells [(dI 0), (dI 0)]), .dead, .dead, .dead, .dead]⟩ (by kernel_rfl) ?_
                    cases h
                    exact ihx49 (w64 (v45 + 1))  _ hsx54 _ (by omega) hrx50 hxx51
              · refine Wp.exit (id := 2) (by kernel_rfl) ?_
                refine sqQ.x ?_
                refine seqQ.x ?_
                cases h
                refine lpQ.x ?_
                refine blkQ.x ⟨(dP e23 a0) :: q2 ((.ptr 0 0) :: (.v (.sl .nil (List.map eI []))) :: (.ptr 1 0) :: q40 (q40 (q18 []))), [(.cells [(dP e41 a1)]), (.cells [(dI 0), (dI 0)]), .dead, .dead, .dead, .dead]⟩ (by kernel_rfl) ?_
                exact hxx51 v45  hsx54
          refine Wp.loop' [0, 3, 4, 5, 48, 49, 50] 5 (by kernel_rfl) ⟨(dP e23 a0) :: q2 ((.ptr 0 0) :: (.v (.sl .nil (List.map eI []))) :: (.ptr 1 0) :: q40 (q2 ((dP e41 a1) :: (dI ((a1.length : Int))) :: (dI 0) :: q40 (q13 [])))), [(.cells [(dP e41 a1)]), (.cells [(dI 0), (dI 0)]), .dead, .dead, .dead, .dead]⟩ (by kernel_rfl) ?_
          rcases brk_some h with ⟨r62, er62, h⟩ | ⟨y61, ey61, h⟩
          · refine hLx60 _ 0  _ er62 n (by omega) (fun r er σ hσ => ?_) (fun y  ey => by cases ey)
            cases er
            refine seqQ.r ?_
            exact fnQ.r' (X23 n) (fun z => (.tuple [(eL eI) z.1, e27 z.2])) h hσ
          · refine hLx60 _ 0  _ ey61 n (by omega) (fun r er => by cases er) (fun y  ey => ?_)
            cases ey
            refine seqQ.n ?_
            refine Wp.seq' (by kernel_rfl) ?_
            refine Wp.region (by kernel_rfl) ?_
            refine Ops.seg' 1 1 (by kernel_rfl) ?_
            refine Ops.done (by kernel_rfl) ?_
            refine seqQ.n ?_
            refine Wp.seq' (by kernel_rfl) ?_
            refine Wp.seq' (by kernel_rfl) ?_
            refine Wp.region (by kernel_rfl) ?_
            refine Ops.seg' 1 1 (by kernel_rfl) ?_
            refine Ops.one' 2 (fun h0 e0 => (len_r (T := T) h0 43 24 .plain e23 a0 (by kernel_rfl))) (by kernel_rfl) (by kernel_rfl) ?_
            refine Ops.seg' 1 3 (by kernel_rfl) ?_
            refine Ops.done (by kernel_rfl) ?_
            refine seqQ.n ?_
            refine Wp.block' 4 [4, 5, 12] 6 (by kernel_rfl) ?_
            have hLx175 : ∀ (kx134 : Nat) (v131 : (List Int)) (v132 : Int)  (ox133 : ((List Int) × S27) ⊕ ((List Int) × Int)), iter (fun (y : (List Int) × Int) => f23_B5 m a0 a1 y.1 y.2) kx134 (v131, v132) = some ox133 → ∀ nx135, kx134 ≤ nx135 → (∀ r, ox133 = .inl r → ∀ σ, RetOk (X23 n) (resOf Proofs.Tryd.prog 23) (.tuple [(eL eI) r.1, e27 r.2]) σ → (seqQ (X23 n) (cR (cR (cR (cR (cR (cR (cR C23))))))) (fnQ (X23 n).E.T (resOf Proofs.Tryd.prog 23) (.tuple [(eL eI) o.1, e27 o.2]))) .ret σ) → (∀ (y : (List Int) × Int) , ox133 = .inr y → (seqQ (X23 n) (cR (cR (cR (cR (cR (cR (cR C23))))))) (fnQ (X23 n).E.T (resOf Proofs.Tryd.prog 23) (.tuple [(eL eI) o.1, e27 o.2]))) .normal ⟨q4 ((.v (.sl .nil (List.map eI []))) :: (.ptr 1 0) :: q6 ((appD 6 (List.map eI y.1)) :: q40 (q40 (q11 [])))), [(.cells [(dP e41 a1)]), (.cells [(dI 0), (dI 0)]), .dead, .dead, .dead, .dead, (appO 1 (List.map eI y.1))]⟩) → Lp (X23 n) [3, 4, 5, 12, 70, 71, 72] 6 (cL (cL (cR (cL (cR (cR (cR (cR (cR (cR C23)))))))))) nx135 ⟨q3 ((.ptr 0 0) :: (.v (.sl .nil (List.map eI []))) :: (.ptr 1 0) :: q6 ((appD 6 (List.map eI v131)) :: q40 (q17 ((dP e23 a0) :: (dI ((a0.length : Int))) :: (dI v132) :: q31 [])))), [(.cells [(dP e41 a1)]), (.cells [(dI 0), (dI 0)]), .dead, .dead, .dead, .dead, (appO 1 (List.map eI v131))]⟩ (blkQ (X23 n) 4 [4, 5, 12] 6 (seqQ (X23 n) (cR (cR (cR (cR (cR (cR (cR C23))))))) (fnQ (X23 n).E.T (resOf Proofs.Tryd.prog 23) (.tuple [(eL eI) o.1, e27 o.2])))) := by
              intro kx134
              induction kx134 with
              | zero => intro v131 v132  ox133 h; exact (iter_zero h).elim
              | succ kx134 ihx136 =>
                intro v131 v132  ox133 h nx135 hnx139 hrx137 hxx138
                obtain ⟨nx135, rfl⟩ : ∃ q, nx135 = q + 1 := ⟨nx135 - 1, by omega⟩
                obtain ⟨sx140, h, hsx141⟩ := iter_some h
                have h : f23_B5 m a0 a1 v131 v132 = some sx140 := h
                unfold f23_B5 at h
                refine Lp.succ ?_
                refine Wp.seq' (by kernel_rfl) ?_
                refine Wp.region (by kernel_rfl) ?_
                refine Ops.seg' 1 1 (by kernel_rfl) ?_
                refine Ops.done (by kernel_rfl) ?_
                refine seqQ.n ?_
                refine Wp.seq' (by kernel_rfl) ?_
                refine Wp.cnd h [3, 4, 5, 12, 70, 71, 72] 7 (by kernel_rfl) (fun h => ?_) (fun h => ?_)
                · refine Wp.skip (by kernel_rfl) ?_
                  refine sqQ.n ⟨q3 ((.ptr 0 0) :: (.v (.sl .nil (List.map eI []))) :: (.ptr 1 0) :: q6 ((appD 7 (List.map eI v131)) :: q40 (q17 ((dP e23 a0) :: (dI ((a0.length : Int))) :: (dI v132) :: q31 [])))), [(.cells [(dP e41 a1)]), (.cells [(dI 0), (dI 0)]), .dead, .dead, .dead, .dead, .dead, (appO 1 (List.map eI v131))]⟩ (by generalize v131 = z0; cases z0 <;> kernel_rfl) ?_
                  refine seqQ.n ?_
                  refine Wp.seq' (by kernel_rfl) ?_
                  have J23j143 : ∀ (v142 : (List Int)) , f23_j3 m v132 v142 = some sx140 → (seqQ (X23 n) (cR (cR (cR (cL (cL (cR (cL (cR (cR (cR (cR (cR (cR C23))))))))))))) (lpQ (X23 n) [3, 4, 5, 12, 70, 71, 72] 6 (cL (cL (cR (cL (cR (cR (cR (cR (cR (cR C23)))))))))) nx135 (blkQ (X23 n) 4 [4, 5, 12] 6 (seqQ (X23 n) (cR (cR (cR (cR (cR (cR (cR C23))))))) (fnQ (X23 n).E.T (resOf Proofs.Tryd.prog 23) (.tuple [(eL eI) o.1, e27 o.2])))))) .normal ⟨q3 ((.ptr 0 0) :: (.v (.sl .nil (List.map eI []))) :: (.ptr 1 0) :: q6 ((appD 8 (List.map eI v142)) :: q40 (q17 ((dP e23 a0) :: (dI ((a0.length : Int))) :: (dI v132) :: q31 [])))), [(.cells [(dP e41 a1)]), (.cells [(dI 0), (dI 0)]), .dead, .dead, .dead, .dead, .dead, .dead, (appO 1 (List.map eI v142))]⟩ := by
                    intro v142  h
                    unfold f23_j3 at h
                    refine seqQ.n ?_
                    refine Wp.region (by kernel_rfl) ?_
                    refine Ops.seg' 2 2 (by kernel_rfl) ?_
                    refine Ops.done (by kernel_rfl) ?_
                    refine lpQ.n ⟨q3 ((.ptr 0 0) :: (.v (.sl .nil (List.map eI []))) :: (.ptr 1 0) :: q6 ((appD 6 (List.map eI v142)) :: q40 (q17 ((dP e23 a0) :: (dI ((a0.length : Int))) :: (dI (w64 (v132 + 1))) :: q31 [])))), [(.cells [(dP e41 a1)]), (.cells [(dI 0), (dI 0)]), .dead, .dead, .dead, .dead, (appO 1 (List.map eI v142))]⟩ (by generalize v142 = z0; cases z0 <;> kernel_rfl) ?_
                    cases h
                    exact ihx136 v142 (w64 (v132 + 1))  _ hsx141 _ (by omega) hrx137 hxx138
                  refine Wp.block' 5 [3, 4, 5, 12, 70, 71, 72] 8 (by kernel_rfl) ?_
                  refine Wp.seq' (by kernel_rfl) ?_
                  refine Wp.region (by kernel_rfl) ?_
                  refine Ops.seg' 1 1 (by kernel_rfl) ?_
                  obtain ⟨v144, ev144, h⟩ := bnd_some h
                  refine Ops.one' 2 (fun h0 e0 => (ix_r (T := T) h0 43 24 2 .plain e23 a0 v132 v144 ev144 (by kernel_rfl) (by kernel_rfl) (fun _ => rfl))) (by kernel_rfl) (by kernel_rfl) ?_
                  refine Ops.seg' 4 6 (by kernel_rfl) ?_
                  refine Ops.done (by kernel_rfl) ?_
                  refine seqQ.n ?_
                  refine Wp.seq' (by kernel_rfl) ?_
                  refine Wp.region (by kernel_rfl) ?_
                  refine Ops.seg' 2 2 (by kernel_rfl) ?_
                  obtain ⟨v145, ev145, h⟩ := bnd_some h
                  refine Ops.one' 3 (fun h0 e0 => (ix_r (T := T) h0 26 42 2 .plain e41 a1 0 v145 ev145 (by kernel_rfl) (by kernel_rfl) (fun _ => rfl))) (by kernel_rfl) (by kernel_rfl) ?_
                  refine Ops.seg' 3 6 (by kernel_rfl) ?_
                  obtain ⟨v146, ev146, h⟩ := bnd_some h
                  refine Ops.one' 7 (fun h0 e0 => (call_own (E' := E) (h := h0) (by kernel_rfl) (ArgsC.cons (.v (.agg [(.str v144.fName), (vP e67 v144.fCells)])) (.v (e23 v144)) (by kernel_rfl) (ArgsC.cons (.v (.str v145.fForm)) (.v (eS v145.fForm)) (by kernel_rfl) (ArgsC.cons (.func 45 [] [(.ptr 0 0)]) (.v (.clo 45 [.agg [(vP e41 a1)]])) (argP_of e0 (by kernel_rfl)) ArgsC.nil))) (ok43c45 m v144 v145.fForm a1 v146 ev146 n (by omega)))) (by kernel_rfl) (by kernel_rfl) ?_
                  refine Ops.one' 8 (fun h0 e0 => (len_r (T := T) h0 36 9 .plain eS v146 (by kernel_rfl))) (by kernel_rfl) (by kernel_rfl) ?_
                  refine Ops.seg' 1 9 (by kernel_rfl) ?_
                  refine Ops.done (by kernel_rfl) ?_
                  refine seqQ.n ?_
                  refine Wp.block' 6 [3, 4, 5, 12, 70, 71, 72] 9 (by kernel_rfl) ?_
                  have hLx172 : ∀ (kx160 : Nat) (v157 : (List Int)) (v158 : Int)  (ox159 : ((List Int) × S27) ⊕ ((List Int) × Int)), iter (fun (y : (List Int) × Int) => f23_B4 m a1 v132 v144 v146 y.1 y.2) kx160 (v157, v158) = some ox159 → ∀ nx161, kx160 ≤ nx161 → (∀ r, ox159 = .inl r → ∀ σ, RetOk (X23 n) (resOf Proofs.Tryd.prog 23) (.tuple [(eL eI) r.1, e27 r.2]) σ → (blkQ (X23 n) 5 [3, 4, 5, 12, 70, 71, 72] 8 (seqQ (X23 n) (cR (cR (cR (cL (cL (cR (cL (cR (cR (cR (cR (cR (cR C23))))))))))))) (lpQ (X23 n) [3, 4, 5, 12, 70, 71, 72] 6 (cL (cL (cR (cL (cR (cR (cR (cR (cR (cR C23)))))))))) nx135 (blkQ (X23 n) 4 [4, 5, 12] 6 (seqQ (X23 n) (cR (cR (cR (cR (cR (cR (cR C23))))))) (fnQ (X23 n).E.T (resOf Proofs.Tryd.prog 23) (.tuple [(eL eI) o.1, e27 o.2]))))))) .ret σ) → (∀ (y : (List Int) × Int) , ox159 = .inr y → (blkQ (X23 n) 5 [3, 4, 5, 12, 70, 71, 72] 8 (seqQ (X23 n) (cR (cR (cR (cL (cL (cR (cL (cR (cR (cR (cR (cR (cR C23))))))))))))) (lpQ (X23 n) [3, 4, 5, 12, 70, 71, 72] 6 (cL (cL (cR (cL (cR (cR (cR (cR (cR (cR C23)))))))))) nx135 (blkQ (X23 n) 4 [4, 5, 12] 6 (seqQ (X23 n) (cR (cR (cR (cR (cR (cR (cR C23))))))) (fnQ (X23 n).E.T (resOf Proofs.Tryd.prog 23) (.tuple [(eL eI) o.1, e27 o.2]))))))) .normal ⟨q3 ((.ptr 0 0) :: (.v (.sl .nil (List.map eI []))) :: (.ptr 1 0) :: q6 ((appD 9 (List.map eI y.1)) :: q40 (q17 ((dP e23 a0) :: (dI ((a0.length : Int))) :: (dI v132) :: q31 [])))), [(.cells [(dP e41 a1)]), (.cells [(dI 0), (dI 0)]), .dead, .dead, .dead, .dead, .dead, .dead, (.cells [(.v (.str v144.fName)), (dP e67 v144.fCells)]), (appO 1 (List.map eI y.1))]⟩) → Lp (X23 n) [3, 4, 5, 12, 13, 14, 70, 71, 72, 83, 84, 85] 9 (cL (cL (cR (cR (cL (cL (cR (cR (cL (cL (cR (cL (cR (cR (cR (cR (cR (cR C23)))))))))))))))))) nx161 ⟨q3 ((.ptr 0 0) :: (.v (.sl .nil (List.map eI []))) :: (.ptr 1 0) :: q6 ((appD 9 (List.map eI v157)) :: (dI v132) :: (.ptr 8 0) :: q40 (q15 ((dP e23 a0) :: (dI ((a0.length : Int))) :: (dI v132) :: q10 ((dP eS v146) :: (dI ((v146.length : Int))) :: (dI v158) :: q18 []))))), [(.cells [(dP e41 a1)]), (.cells [(dI 0), (dI 0)]), .dead, .dead, .dead, .dead, .dead, .dead, (.cells [(.v (.str v144.fName)), (dP e67 v144.fCells)]), (appO 1 (List.map eI v157))]⟩ (blkQ (X23 n) 6 [3, 4, 5, 12, 70, 71, 72] 9 (blkQ (X23 n) 5 [3, 4, 5, 12, 70, 71, 72] 8 (seqQ (X23 n) (cR (cR (cR (cL (cL (cR (cL (cR (cR (cR (cR (cR (cR C23))))))))))))) (lpQ (X23 n) [3, 4, 5, 12, 70, 71, 72] 6 (cL (cL (cR (cL (cR (cR (cR (cR (cR (cR C23)))))))))) nx135 (blkQ (X23 n) 4 [4, 5, 12] 6 (seqQ (X23 n) (cR (cR (cR (cR (cR (cR (cR C23))))))) (fnQ (X23 n).E.T (resOf Proofs.Tryd.prog 23) (.tuple [(eL eI) o.1, e27 o.2])))))))) := by
                    intro kx160
                    induction kx160 with
                    | zero => intro v157 v158  ox159 h; exact (iter_zero h).elim
                    | succ kx160 ihx162 =>
                      intro v157 v158  ox159 h nx161 hnx165 hrx163 hxx164
                      obtain ⟨nx161, rfl⟩ : ∃ q, nx161 = q + 1 := ⟨nx161 - 1, by omega⟩
                      obtain ⟨sx166, h, hsx167⟩ := iter_some h
                      have h : f23_B4 m a1 v132 v144 v146 v157 v158 = some sx166 := h
                      unfold f23_B4 at h
                      refine Lp.succ ?_
                      refine Wp.seq' (by kernel_rfl) ?_
                      refine Wp.region (by kernel_rfl) ?_
                      refine Ops.seg' 1 1 (by kernel_rfl) ?_
                      refine Ops.done (by kernel_rfl) ?_
                      refine seqQ.n ?_
                      refine Wp.seq' (by kernel_rfl) ?_
                      refine Wp.cnd h [3, 4, 5, 12, 13, 14, 70, 71, 72, 83, 84, 85] 10 (by kernel_rfl) (fun h => ?_) (fun h => ?_)
                      · refine Wp.skip (by kernel_rfl) ?_
                        refine sqQ.n ⟨q3 ((.ptr 0 0) :: (.v (.sl .nil (List.map eI []))) :: (.ptr 1 0) :: q6 ((appD 10 (List.map eI v157)) :: (dI v132) :: (.ptr 8 0) :: q40 (q15 ((dP e23 a0) :: (dI ((a0.length : Int))) :: (dI v132) :: q10 ((dP eS v146) :: (dI ((v146.length : Int))) :: (dI v158) :: q18 []))))), [(.cells [(dP e41 a1)]), (.cells [(dI 0), (dI 0)]), .dead, .dead, .dead, .dead, .dead, .dead, (.cells [(.v (.str v144.fName)), (dP e67 v144.fCells)]), .dead, (appO 1 (List.map eI v157))]⟩ (by generalize v157 = z0; cases z0 <;> kernel_rfl) ?_
                        refine seqQ.n ?_
                        refine Wp.seq' (by kernel_rfl) ?_
                        refine Wp.block' 7 [3, 4, 5, 12, 13, 14, 70, 71, 72, 83, 84, 85] 11 (by kernel_rfl) ?_
                        refine Wp.seq' (by kernel_rfl) ?_
                        refine Wp.region (by kernel_rfl) ?_
                        obtain ⟨v168, ev168, h⟩ := bnd_some h
                        refine Ops.one' 1 (fun h0 e0 => (ix_r (T := T) h0 36 9 1 .plain eS v146 v158 v168 ev168 (by kernel_rfl) (by kernel_rfl) (fun _ => rfl))) (by kernel_rfl) (by kernel_rfl) ?_
                        refine Ops.seg' 2 3 (by kernel_rfl) ?_
                        refine Ops.done (by kernel_rfl) ?_
                        refine seqQ.n ?_
                        refine Wp.seq' (by kernel_rfl) ?_
                        refine Wp.region (by kernel_rfl) ?_
                        refine Ops.seg' 2 2 (by kernel_rfl) ?_
                        obtain ⟨v169, ev169, h⟩ := bnd_some h
                        refine Ops.one' 3 (fun h0 e0 => (call_ok (E' := E) (h := h0) (by kernel_rfl) (Args.v (.agg [(.str v144.fName), (vP e67 v144.fCells)]) (e23 v144) (by kernel_rfl) (Args.v (.str v168) (eS v168) (by kernel_rfl) Args.nil)) (ok34 m v144 v168 v169 ev169 n (by omega)))) (by kernel_rfl) (by kernel_rfl) ?_
                        refine Ops.seg' 2 5 (by kernel_rfl) ?_
                        refine Ops.done (by kernel_rfl) ?_
                        refine seqQ.n ?_
                        refine Wp.seq' (by kernel_rfl) ?_
                        refine Wp.region (by kernel_rfl) ?_
                        refine Ops.seg' 2 2 (by kernel_rfl) ?_
                        obtain ⟨v170, ev170, h⟩ := bnd_some h
                        refine Ops.one' 3 (fun h0 e0 => (call_fl (E' := E) (h := h0) (by kernel_rfl) (ArgsC.cons (dP e41 a1) (.v ((eL e41) a1)) (by kernel_rfl) (ArgsC.cons (.func 48 [] [(.ptr 11 0)]) (.v (.clo 48 [.agg [(vP e41 v169)]])) (argP_of e0 (by kernel_rfl)) ArgsC.nil)) (by kernel_rfl) (ok47c48 m a1 v169 v170 ev170 n (by omega)))) (by kernel_rfl) (by kernel_rfl) ?_
                        refine Ops.seg' 1 4 (by kernel_rfl) ?_
                        refine Ops.done (by kernel_rfl) ?_
                        refine seqQ.n ?_
                        refine Wp.cnd h [3, 4, 5, 12, 13, 14, 70, 71, 72, 83, 84, 85] 12 (by kernel_rfl) (fun h => ?_) (fun h => ?_)
                        · refine Wp.seq' (by kernel_rfl) ?_
                          refine Wp.region (by kernel_rfl) ?_
                          refine Ops.seg' 3 3 (by kernel_rfl) ?_
                          obtain ⟨v171, ev171, h⟩ := bnd_some h
                          refine Ops.one' 4 (fun h0 e0 => (app_r (T := T) (g := .nil) h0 44 3 10 1 ti3 .nonfull eI v157 [v132] v171 ev171 (by kernel_rfl) (by kernel_rfl) (by kernel_rfl) (by kernel_rfl) (fun _ => rfl) (hq_of e0 (by kernel_rfl)))) (by kernel_rfl) (by kernel_rfl) ?_
                          refine Ops.seg' 1 5 (by kernel_rfl) ?_
                          refine Ops.done (by kernel_rfl) ?_
                          refine seqQ.n ?_
                          refine Wp.exit (id := 6) (by kernel_rfl) ?_
                          refine sqQ.x ?_
                          refine blkQ.y (by kernel_rfl) ?_
                          refine seqQ.x ?_
                          cases h
                          refine lpQ.x ?_
                          refine blkQ.x ⟨q3 ((.ptr 0 0) :: (.v (.sl .nil (List.map eI []))) :: (.ptr 1 0) :: q6 ((appD 9 (List.map eI v171)) :: q40 (q17 ((dP e23 a0) :: (dI ((a0.length : Int))) :: (dI v132) :: q31 [])))), [(.cells [(dP e41 a1)]), (.cells [(dI 0), (dI 0)]), .dead, .dead, .dead, .dead, .dead, .dead, (.cells [(.v (.str v144.fName)), (dP e67 v144.fCells)]), (appO 1 (List.map eI v171))]⟩ (by generalize v171 = z0; cases z0 <;> kernel_rfl) ?_
                          exact hxx164 (v171, v158)  hsx167
                        · refine Wp.skip (by kernel_rfl) ?_
                          refine sqQ.n ⟨q3 ((.ptr 0 0) :: (.v (.sl .nil (List.map eI []))) :: (.ptr 1 0) :: q6 ((appD 12 (List.map eI v157)) :: (dI v132) :: (.ptr 8 0) :: q40 (q15 ((dP e23 a0) :: (dI ((a0.length : Int))) :: (dI v132) :: q10 ((dP eS v146) :: (dI ((v146.length : Int))) :: (dI v158) :: q18 []))))), [(.cells [(dP e41 a1)]), (.cells [(dI 0), (dI 0)]), .dead, .dead, .dead, .dead, .dead, .dead, (.cells [(.v (.str v144.fName)), (dP e67 v144.fCells)]), .dead, .dead, (.cells [(dP e41 v169)]), (appO 1 (List.map eI v157))]⟩ (by generalize v157 = z0; cases z0 <;> kernel_rfl) ?_
                          refine blkQ.n ⟨q3 ((.ptr 0 0) :: (.v (.sl .nil (List.map eI []))) :: (.ptr 1 0) :: q6 ((appD 11 (List.map eI v157)) :: (dI v132) :: (.ptr 8 0) :: q40 (q15 ((dP e23 a0) :: (dI ((a0.length : Int))) :: (dI v132) :: q10 ((dP eS v146) :: (dI ((v146.length : Int))) :: (dI v158) :: q18 []))))), [(.cells [(dP e41 a1)]), (.cells [(dI 0), (dI 0)]), .dead, .dead, .dead, .dead, .dead, .dead, (.cells [(.v (.str v144.fName)), (dP e67 v144.fCells)]), .dead, .dead, (appO 1 (List.map eI v157))]⟩ (by generalize v157 = z0; cases z0 <;> kernel_rfl) ?_
                          refine seqQ.n ?_
                          refine Wp.region (by kernel_rfl) ?_
                          refine Ops.seg' 2 2 (by kernel_rfl) ?_
                          refine Ops.done (by kernel_rfl) ?_
                          refine lpQ.n ⟨q3 ((.ptr 0 0) :: (.v (.sl .nil (List.map eI []))) :: (.ptr 1 0) :: q6 ((appD 9 (List.map eI v157)) :: (dI v132) :: (.ptr 8 0) :: q40 (q15 ((dP e23 a0) :: (dI ((a0.length : Int))) :: (dI v132) :: q10 ((dP eS v146) :: (dI ((v146.length : Int))) :: (dI (w64 (v158 + 1))) :: q18 []))))), [(.cells [(dP e41 a1)]), (.cells [(dI 0), (dI 0)]), .dead, .dead, .dead, .dead, .dead, .dead, (.cells [(.v (.str v144.fName)), (dP e67 v144.fCells)]), (appO 1 (List.map eI v157))]⟩ (by generalize v157 = z0; cases z0 <;> kernel_rfl) ?_
                          cases h
                          exact ihx162 v157 (w64 (v158 + 1))  _ hsx167 _ (by omega) hrx163 hxx164
                      · refine Wp.exit (id := 6) (by kernel_rfl) ?_
                        refine sqQ.x ?_
                        refine seqQ.x ?_
                        cases h
                        refine lpQ.x ?_
                        refine blkQ.x ⟨q3 ((.ptr 0 0) :: (.v (.sl .nil (List.map eI []))) :: (.ptr 1 0) :: q6 ((appD 9 (List.map eI v157)) :: q40 (q17 ((dP e23 a0) :: (dI ((a0.length : Int))) :: (dI v132) :: q31 [])))), [(.cells [(dP e41 a1)]), (.cells [(dI 0), (dI 0)]), .dead, .dead, .dead, .dead, .dead, .dead, (.cells [(.v (.str v144.fName)), (dP e67 v144.fCells)]), (appO 1 (List.map eI v157))]⟩ (by generalize v157 = z0; cases z0 <;> kernel_rfl) ?_
                        exact hxx164 (v157, v158)  hsx167
                  refine Wp.loop' [3, 4, 5, 12, 13, 14, 70, 71, 72, 83, 84, 85] 9 (by kernel_rfl) ⟨q3 ((.ptr 0 0) :: (.v (.sl .nil (List.map eI []))) :: (.ptr 1 0) :: q6 ((appD 9 (List.map eI v131)) :: (dI v132) :: (.ptr 8 0) :: q40 (q15 ((dP e23 a0) :: (dI ((a0.length : Int))) :: (dI v132) :: q10 ((dP eS v146) :: (dI ((v146.length : Int))) :: (dI 0) :: q18 []))))), [(.cells [(dP e41 a1)]), (.cells [(dI 0), (dI 0)]), .dead, .dead, .dead, .dead, .dead, .dead, (.cells [(.v (.str v144.fName)), (dP e67 v144.fCells)]), (appO 1 (List.map eI v131))]⟩ (by generalize v131 = z0; cases z0 <;> kernel_rfl) ?_
                  rcases brk_some h with ⟨r174, er174, h⟩ | ⟨y173, ey173, h⟩
                  · refine hLx172 _ v131 0  _ er174 n (by omega) (fun r er σ hσ => ?_) (fun y  ey => by cases ey)
                    cases er
                    refine blkQ.r ?_
                    refine seqQ.r ?_
                    refine lpQ.r ?_
                    cases h
                    refine blkQ.r ?_
                    exact hrx137 _ hsx141 _ (RetOk.forget [3, 4, 5, 12, 70, 71, 72] (by kernel_rfl) hσ)
                  · refine hLx172 _ v131 0  _ ey173 n (by omega) (fun r er => by cases er) (fun y  ey => ?_)
                    cases ey
                    refine blkQ.n ⟨q3 ((.ptr 0 0) :: (.v (.sl .nil (List.map eI []))) :: (.ptr 1 0) :: q6 ((appD 8 (List.map eI y173.1)) :: q40 (q17 ((dP e23 a0) :: (dI ((a0.length : Int))) :: (dI v132) :: q31 [])))), [(.cells [(dP e41 a1)]), (.cells [(dI 0), (dI 0)]), .dead, .dead, .dead, .dead, .dead, .dead, (appO 1 (List.map eI y173.1))]⟩ (by generalize y173.1 = z0; cases z0 <;> kernel_rfl) ?_
                    exact J23j143 y173.1  h
                · refine Wp.exit (id := 4) (by kernel_rfl) ?_
                  refine sqQ.x ?_
                  refine seqQ.x ?_
                  cases h
                  refine lpQ.x ?_
                  refine blkQ.x ⟨q4 ((.v (.sl .nil (List.map eI []))) :: (.ptr 1 0) :: q6 ((appD 6 (List.map eI v131)) :: q40 (q40 (q11 [])))), [(.cells [(dP e41 a1)]), (.cells [(dI 0), (dI 0)]), .dead, .dead, .dead, .dead, (appO 1 (List.map eI v131))]⟩ (by generalize v131 = z0; cases z0 <;> kernel_rfl) ?_
                  exact hxx138 (v131, v132)  hsx141
            refine Wp.loop' [3, 4, 5, 12, 70, 71, 72] 6 (by kernel_rfl) ⟨q3 ((.ptr 0 0) :: (.v (.sl .nil (List.map eI []))) :: (.ptr 1 0) :: q6 ((appD 6 (List.map eI [])) :: q40 (q17 ((dP e23 a0) :: (dI ((a0.length : Int))) :: (dI 0) :: q31 [])))), [(.cells [(dP e41 a1)]), (.cells [(dI 0), (dI 0)]), .dead, .dead, .dead, .dead, .dead]⟩ (by kernel_rfl) ?_
            rcases brk_some h with ⟨r177, er177, h⟩ | ⟨y176, ey176, h⟩
            · refine hLx175 _ [] 0  _ er177 n (by omega) (fun r er σ hσ => ?_) (fun y  ey => by cases ey)
              cases er
              refine seqQ.r ?_
              exact fnQ.r' (X23 n) (fun z => (.tuple [(eL eI) z.1, e27 z.2])) h hσ
            · refine hLx175 _ [] 0  _ ey176 n (by omega) (fun r er => by cases er) (fun y  ey => ?_)
              cases ey
              refine seqQ.n ?_
              refine Wp.seq' (by kernel_rfl) ?_
              refine Wp.region (by kernel_rfl) ?_
              refine Ops.seg' 4 4 (by kernel_rfl) ?_
              refine Ops.done (by kernel_rfl) ?_
              refine seqQ.n ?_
              refine Wp.ret (by kernel_rfl) ?_
              exact fnQ.r' (X23 n) (fun z => (.tuple [(eL eI) z.1, e27 z.2])) h (RetOk.tup [(appD 6 (List.map eI y176.1)), (.v (.agg [(vI 0), (vI 0)]))] (by kernel_rfl) (.d (appD 6 (List.map eI y176.1)) _ (appD_frz _ _ _ _) (appF_nt _ _ _) (.v (.agg [(vI 0), (vI 0)]) _ (by kernel_rfl) (by kernel_rfl) .nil)))
      have G23g26 : ∀ v25 : Bool, f23_r6 m a0 a1 ((v25 || (decide ((a1.length : Int) > 300)))) = some o → Ops (X23 n) (opl (cL (cL (cR (cR (cR C23)))))) 4 ⟨(dP e23 a0) :: q2 ((.ptr 0 0) :: (.v (.sl .nil (List.map eI []))) :: (.ptr 1 0) :: q33 ((dP e41 a1) :: (dI ((a1.length : Int))) :: (dB v25) :: (dB v25) :: q40 (q21 []))), [(.cells [(dP e41 a1)]), (.cells [(dI 0), (dI 0)]), .dead, .dead]⟩ ((seqQ (X23 n) (cR (cL (cR (cR (cR C23))))) (seqQ (X23 n) (cR (cR (cR (cR C23)))) (fnQ (X23 n).E.T (resOf Proofs.Tryd.prog 23) (.tuple [(eL eI) o.1, e27 o.2])))) .normal) := by
        intro v25 h
        cases v25
        · refine Ops.seg' 1 5 (by kernel_rfl) ?_
          refine Ops.one' 6 (fun h0 e0 => (len_r (T := T) h0 26 42 .plain e41 a1 (by kernel_rfl))) (by kernel_rfl) (by kernel_rfl) ?_
          refine Ops.seg' 2 8 (by kernel_rfl) ?_
          refine Ops.st ⟨(dP e23 a0) :: q2 ((.ptr 0 0) :: (.v (.sl .nil (List.map eI []))) :: (.ptr 1 0) :: q33 ((dP e41 a1) :: (dI ((a1.length : Int))) :: (dB false) :: (dB false) :: (dP e41 a1) :: (dI ((a1.length : Int))) :: (dB (decide ((a1.length : Int) > 300))) :: (dB (decide ((a1.length : Int) > 300))) :: q40 (q17 []))), [(.cells [(dP e41 a1)]), (.cells [(dI 0), (dI 0)]), .dead, .dead]⟩ (by kernel_rfl) ?_
          exact J23j32 _ _ _ _ _ h
        · refine Ops.seg' 4 8 (by kernel_rfl) ?_
          refine Ops.st ⟨(dP e23 a0) :: q2 ((.ptr 0 0) :: (.v (.sl .nil (List.map eI []))) :: (.ptr 1 0) :: q33 ((dP e41 a1) :: (dI ((a1.length : Int))) :: (dB true) :: (dB true) :: u3 ((dB true) :: q40 (q17 [])))), [(.cells [(dP e41 a1)]), (.cells [(dI 0), (dI 0)]), .dead, .dead]⟩ (by kernel_rfl) ?_
          exact J23j32 _ _ _ _ _ h
      exact Ops.st ⟨(dP e23 a0) :: q2 ((.ptr 0 0) :: (.v (.sl .nil (List.map eI []))) :: (.ptr 1 0) :: q33 ((dP e41 a1) :: (dI ((a1.length : Int))) :: (dB ((decide ((a1.length : Int) < 1)))) :: (dB ((decide ((a1.length : Int) < 1)))) :: q40 (q21 []))), [(.cells [(dP e41 a1)]), (.cells [(dI 0), (dI 0)]), .dead, .dead]⟩ (by kernel_rfl) (G23g26 (decide ((a1.length : Int) < 1)) h)

/-! ### 8 glosswright/glosswrightlaw6.ParadigmClassShrinks -/
def f8_j1 (m : Nat) (v95 : Int) (v105 : Int) (v106 : Int) (v108 : Int) (v109 : Bool) (v110 : Bool) (v117 : Bool) : Option (Stp Bool (Int × Int)) :=
  some (.nxt (v105, w64 (v95 + 1)))
def f8_j2 (m : Nat) (v95 : Int) (v121 : Int) (v130 : Bool) (v131 : Bool) (v133 : Int) : Option (Stp Bool (Int × Int)) :=
  f8_j1 m v95 v133 v121 v121 v130 v130 v131
def f8_r3 (m : Nat) (v94 : Int) (v95 : Int) (v121 : Int) (v130 : Bool) (v131 : Bool) : Option (Stp Bool (Int × Int)) :=
  cnd v131
  (f8_j2 m v95 v121 v130 v131 (w64 (v94 + 1)))
  (f8_j2 m v95 v121 v130 v131 v94)
def f8_B4 (m : Nat) (v2 : ((List Int) × S27)) (v5 : ((List Int) × S27)) (v94 : Int) (v95 : Int) : Option (Stp Bool (Int × Int)) :=
  cnd (decide (v95 < (v2.1.length : Int)))
  (bnd (idx v2.1 v95) fun v121 =>
  bnd (cnd (decide (v94 < (v5.1.length : Int)))
  (bnd (idx v5.1 v94) fun v143 =>
  some (v143 == v121))
  (some false)) fun v131 =>
  f8_r3 m v94 v95 v121 (decide (v94 < (v5.1.length : Int))) v131)
  (some (.brk (v94, v95)))
def f8_r5 (m : Nat) (v2 : ((List Int) × S27)) (v5 : ((List Int) × S27)) (v12 : Bool) : Option Bool :=
  cnd v12
  (some true)
  (brk (iter (fun (y : Int × Int) => f8_B4 m v2 v5 y.1 y.2) m (0, 0)) some fun y145 =>
  some (y145.1 == ((v5.1.length : Int))))
def f8 (m : Nat) (a0 : (List S23)) (a1 : (List S41)) (a2 : S41) : Option Bool :=
  bnd (f22 m ) fun v1 =>
  cnd (!v1)
  (some false)
  (bnd (f23 m a0 a1) fun v2 =>
  bnd (app 40 [] a1) fun v3 =>
  bnd (app 40 v3 [a2]) fun v4 =>
  bnd (f23 m a0 v4) fun v5 =>
  f8_r5 m v2 v5 (((!((v2.2.fCode == 0) && ((v2.2.fIndex == 0) && true))) || (!((v5.2.fCode == 0) && ((v5.2.fIndex == 0) && true))))))
noncomputable abbrev X8 (n : Nat) : Cx := cxOf Proofs.Tryd.prog E 8 n
noncomputable def C8 : Code := bodyOf Proofs.Tryd.prog 8
theorem ok8 (m : Nat) (a0 : (List S23)) (a1 : (List S41)) (a2 : S41) (o : Bool) (h : f8 m a0 a1 a2 = some o) (n : Nat) (hn : m + 10 ≤ n) : Fn Proofs.Tryd.prog E n 8 [.v ((eL e23) a0), .v ((eL e41) a1), .v (e41 a2)] (eB o) := by
  obtain ⟨n, rfl⟩ : ∃ q, n = q + 1 := ⟨n - 1, by omega⟩
  unfold f8 at h
  refine Fn.of (by kernel_rfl) (by kernel_rfl) (by kernel_rfl) ⟨(dP e23 a0) :: (dP e41 a1) :: (.v (.agg [(vP eS a2.fTags), (.str a2.fForm)])) :: u40 (u23 []), []⟩ (by kernel_rfl) ?_
  refine Wp.seq' (by kernel_rfl) ?_
  refine Wp.region (by kernel_rfl) ?_
  refine Ops.seg' 2 2 (by kernel_rfl) ?_
  refine Ops.done (by kernel_rfl) ?_
  refine seqQ.n ?_
  refine Wp.seq' (by kernel_rfl) ?_
  refine Wp.seq' (by kernel_rfl) ?_
  refine Wp.region (by kernel_rfl) ?_
  obtain ⟨v1, ev1, h⟩ := bnd_some h
  refine Ops.one' 1 (fun h0 e0 => (call_ok (E' := E) (h := h0) (by kernel_rfl) Args.nil (ok22 m  v1 ev1 n (by omega)))) (by kernel_rfl) (by kernel_rfl) ?_
  refine Ops.seg' 1 2 (by kernel_rfl) ?_
  refine Ops.done (by kernel_rfl) ?_
  refine seqQ.n ?_
  refine Wp.cnd h [0, 1, 5, 6] 1 (by kernel_rfl) (fun h => ?_) (fun h => ?_)
  · refine Wp.seq' (by kernel_rfl) ?_
    refine Wp.region (by kernel_rfl) ?_
    refine Ops.seg' 1 1 (by kernel_rfl) ?_
    refine Ops.done (by kernel_rfl) ?_
    refine seqQ.n ?_
    refine Wp.ret (by kernel_rfl) ?_
    refine sqQ.r ?_
    refine seqQ.r ?_
    exact fnQ.r' (X8 n) (fun z => (eB z)) h (RetOk.mk' (dB false) (by kernel_rfl) (by kernel_rfl))
  · refine Wp.skip (by kernel_rfl) ?_
    refine sqQ.n' ?_
    refine seqQ.n ?_
    refine Wp.seq' (by kernel_rfl) ?_
    refine Wp.region (by kernel_rfl) ?_
    refine Ops.seg' 2 2 (by kernel_rfl) ?_
    obtain ⟨v2, ev2, h⟩ := bnd_some h
    refine Ops.one' 3 (fun h0 e0 => (call_ok (E' := E) (h := h0) (by kernel_rfl) (Args.v (vP e23 a0) ((eL e23) a0) (by kernel_rfl) (Args.v (vP e41 a1) ((eL e41) a1) (by kernel_rfl) Args.nil)) (ok23 m a0 a1 v2 ev2 n (by omega)))) (by kernel_rfl) (by kernel_rfl) ?_
    refine Ops.seg' 6 9 (by kernel_rfl) ?_
    refine Ops.done (by kernel_rfl) ?_
    refine seqQ.n ?_
    refine Wp.seq' (by kernel_rfl) ?_
    refine Wp.region (by kernel_rfl) ?_
    refine Ops.seg' 3 3 (by kernel_rfl) ?_
    obtain ⟨v3, ev3, h⟩ := bnd_some h
    refine Ops.one' 4 (fun h0 e0 => (app_n (T := T) (g := .nonfull) h0 26 42 2 ti42 .plain e41 a1 v3 ev3 (by kernel_rfl) (by kernel_rfl) (by kernel_rfl) (by kernel_rfl) (fun _ => rfl))) (by kernel_rfl) (by kernel_rfl) ?_
    refine Ops.seg' 2 6 (by kernel_rfl) ?_
    obtain ⟨v4, ev4, h⟩ := bnd_some h
    refine Ops.one' 7 (fun h0 e0 => (app_r (T := T) (g := .nonfull) h0 26 42 2 2 ti42 .nonfull e41 v3 [a2] v4 ev4 (by kernel_rfl) (by kernel_rfl) (by kernel_rfl) (by kernel_rfl) (fun _ => rfl) (hq_of e0 (by kernel_rfl)))) (by kernel_rfl) (by kernel_rfl) ?_
    obtain ⟨v5, ev5, h⟩ := bnd_some h
    refine Ops.one' 8 (fun h0 e0 => (call_ok (E' := E) (h := h0) (by kernel_rfl) (Args.v (vP e23 a0) ((eL e23) a0) (by kernel_rfl) (Args.app (g := .nonfull) 3 (List.map e41 v4) Args.nil)) (ok23 m a0 v4 v5 ev5 n (by omega)))) (by kernel_rfl) (by kernel_rfl) ?_
    refine Ops.seg' 6 14 (by kernel_rfl) ?_
    refine Ops.done (by kernel_rfl) ?_
    refine seqQ.n ?_
    refine Wp.seq' (by kernel_rfl) ?_
    refine Wp.seq' (by kernel_rfl) ?_
    refine Wp.region (by kernel_rfl) ?_
    refine Ops.seg' 4 4 (by kernel_rfl) ?_
    have J8j13 : ∀ (d8 d9 d10 : D) (v11 : Bool) (v12 : Bool), f8_r5 m v2 v5 v12 = some o → Ops (X8 n) (opl (cL (cL (cR (cR (cR (cR C8))))))) 8 ⟨(dP e23 a0) :: (dP e41 a1) :: (.v (.agg [(vP eS a2.fTags), (.str a2.fForm)])) :: u2 ((.ptr 0 0) :: (dB false) :: (dP eI v2.1) :: (.ptr 1 0) :: (dP eI v5.1) :: (.ptr 4 0) :: u3 ((dB v1) :: (dB (!v1)) :: (.v (.tuple [(vP eI v2.1), (.agg [(vI v2.2.fCode), (vI v2.2.fIndex)])])) :: (dP e23 a0) :: (dP e41 a1) :: (.v (.tuple [(vP eI v2.1), (.agg [(vI v2.2.fCode), (vI v2.2.fIndex)])])) :: (dP eI v2.1) :: (.v (.agg [(vI v2.2.fCode), (vI v2.2.fIndex)])) :: (.v (.tuple [(vP eI v5.1), (.agg [(vI v5.2.fCode), (vI v5.2.fIndex)])])) :: (dP e23 a0) :: (.v (.sl .nonfull (List.map e41 []))) :: (dP e41 a1) :: (appF .nonfull 2 (List.map e41 v3)) :: (.v (.agg [(vP eS a2.fTags), (.str a2.fForm)])) :: (.v (.sl .nonfull (List.map e41 [a2]))) :: (appF .nonfull 3 (List.map e41 v4)) :: (.v (.tuple [(vP eI v5.1), (.agg [(vI v5.2.fCode), (vI v5.2.fIndex)])])) :: (dP eI v5.1) :: (.v (.agg [(vI v5.2.fCode), (vI v5.2.fIndex)])) :: (.v (.agg [(vI v2.2.fCode), (vI v2.2.fIndex)])) :: (.v (.agg [(vI 0), (vI 0)])) :: (dB v11) :: (dB v11) :: d8 :: d9 :: d10 :: (dB v12) :: u25 [])), [(.cells [(dP eS a2.fTags), (.v (.str a2.fForm))]), (.cells [(dI v2.2.fCode), (dI v2.2.fIndex)]), .dead, (appO 2 (List.map e41 v4)), (.cells [(dI v5.2.fCode), (dI v5.2.fIndex)])]⟩ ((seqQ (X8 n) (cR (cL (cR (cR (cR (cR C8)))))) (seqQ (X8 n) (cR (cR (cR (cR (cR C8))))) (fnQ (X8 n).E.T (resOf Proofs.Tryd.prog 8) (eB o)))) .normal) := by
      intro d8 d9 d10 v11 v12 h
      unfold f8_r5 at h
      refine Ops.done (by kernel_rfl) ?_
      refine seqQ.n ?_
      refine Wp.cnd h [6, 7, 9] 5 (by kernel_rfl) (fun h => ?_) (fun h => ?_)
      · refine Wp.seq' (by kernel_rfl) ?_
        refine Wp.region (by kernel_rfl) ?_
        refine Ops.seg' 1 1 (by kernel_rfl) ?_
        refine Ops.done (by kernel_rfl) ?_
        refine seqQ.n ?_
        refine Wp.ret (by kernel_rfl) ?_
        refine sqQ.r ?_
        refine seqQ.r ?_
        exact fnQ.r' (X8 n) (fun z => (eB z)) h (RetOk.mk' (dB true) (by kernel_rfl) (by kernel_rfl))
      · refine Wp.skip (by kernel_rfl) ?_
        refine sqQ.n ⟨(dP e23 a0) :: (dP e41 a1) :: (.v (.agg [(vP eS a2.fTags), (.str a2.fForm)])) :: u2 ((.ptr 0 0) :: (dB false) :: (dP eI v2.1) :: (.ptr 1 0) :: (dP eI v5.1) :: (.ptr 4 0) :: u3 ((dB v1) :: (dB (!v1)) :: (.v (.tuple [(vP eI v2.1), (.agg [(vI v2.2.fCode), (vI v2.2.fIndex)])])) :: (dP e23 a0) :: (dP e41 a1) :: (.v (.tuple [(vP eI v2.1), (.agg [(vI v2.2.fCode), (vI v2.2.fIndex)])])) :: (dP eI v2.1) :: (.v (.agg [(vI v2.2.fCode), (vI v2.2.fIndex)])) :: (.v (.tuple [(vP eI v5.1), (.agg [(vI v5.2.fCode), (vI v5.2.fIndex)])])) :: (dP e23 a0) :: (.v (.sl .nonfull (List.map e41 []))) :: (dP e41 a1) :: (appF .nonfull 2 (List.map e41 v3)) :: (.v (.agg [(vP eS a2.fTags), (.str a2.fForm)])) :: (.v (.sl .nonfull (List.map e41 [a2]))) :: (appF .nonfull 3 (List.map e41 v4)) :: (.v (.tuple [(vP eI v5.1), (.agg [(vI v5.2.fCode), (vI v5.2.fIndex)])])) :: (dP eI v5.1) :: (.v (.agg [(vI v5.2.fCode), (vI v5.2.fIndex)])) :: (.v (.agg [(vI v2.2.fCode), (vI v2.2.fIndex)])) :: (.v (.agg [(vI 0), (vI 0)])) :: (dB v11) :: (dB v11) :: d8 :: d9 :: d10 :: (dB v12) :: u25 [])), [(.cells [(dP eS a2.fTags), (.v (.str a2.fForm))]), (.cells [(dI v2.2.fCode), (dI v2.2.fIndex)]), .dead, (appO 2 (List.map e41 v4)), (.cells [(dI v5.2.fCode), (dI v5.2.fIndex)])]⟩ (by generalize v4 = z0; cases z0 <;> kernel_rfl) ?_
        refine seqQ.n ?_
        refine Wp.seq' (by kernel_rfl) ?_
        refine Wp.region (by kernel_rfl) ?_
        refine Ops.seg' 1 1 (by kernel_rfl) ?_
        refine Ops.done (by kernel_rfl) ?_
        refine seqQ.n ?_
        refine Wp.seq' (by kernel_rfl) ?_
        refine Wp.seq' (by kernel_rfl) ?_
        refine Wp.region (by kernel_rfl) ?_
        refine Ops.seg' 1 1 (by kernel_rfl) ?_
        refine Ops.one' 2 (fun h0 e0 => (len_r (T := T) h0 44 3 .plain eI v2.1 (by kernel_rfl))) (by kernel_rfl) (by kernel_rfl) ?_
        refine Ops.seg' 1 3 (by kernel_rfl) ?_
        refine Ops.done (by kernel_rfl) ?_
        refine seqQ.n ?_
        refine Wp.block' 0 [6, 9, 11] 5 (by kernel_rfl) ?_
        have hLx144 : ∀ (kx97 : Nat) (v94 : Int) (v95 : Int)  (ox96 : Bool ⊕ (Int × Int)), iter (fun (y : Int × Int) => f8_B4 m v2 v5 y.1 y.2) kx97 (v94, v95) = some ox96 → ∀ nx98, kx97 ≤ nx98 → (∀ r, ox96 = .inl r → ∀ σ, RetOk (X8 n) (resOf Proofs.Tryd.prog 8) (eB r) σ → (seqQ (X8 n) (cR (cR (cR (cR (cR (cR (cR C8))))))) (fnQ (X8 n).E.T (resOf Proofs.Tryd.prog 8) (eB o))) .ret σ) → (∀ (y : Int × Int) , ox96 = .inr y → (seqQ (X8 n) (cR (cR (cR (cR (cR (cR (cR C8))))))) (fnQ (X8 n).E.T (resOf Proofs.Tryd.prog 8) (eB o))) .normal ⟨q6 ((dB false) :: q2 ((dP eI v5.1) :: q1 ((dI y.1) :: q29 ((dP eI v2.1) :: (dI ((v2.1.length : Int))) :: (dI y.2) :: q22 [])))), [(.cells [(dP eS a2.fTags), (.v (.str a2.fForm))]), (.cells [(dI v2.2.fCode), (dI v2.2.fIndex)]), .dead, (appO 2 (List.map e41 v4)), (.cells [(dI v5.2.fCode), (dI v5.2.fIndex)])]⟩) → Lp (X8 n) [6, 9, 11, 41, 42, 43] 5 (cL (cL (cR (cL (cR (cR (cR (cR (cR (cR C8)))))))))) nx98 ⟨q6 ((dB false) :: q2 ((dP eI v5.1) :: q1 ((dI v94) :: q29 ((dP eI v2.1) :: (dI ((v2.1.length : Int))) :: (dI v95) :: q22 [])))), [(.cells [(dP eS a2.fTags), (.v (.str a2.fForm))]), (.cells [(dI v2.2.fCode), (dI v2.2.fIndex)]), .dead, (appO 2 (List.map e41 v4)), (.cells [(dI v5.2.fCode), (dI v5.2.fIndex)])]⟩ (blkQ (X8 n) 0 [6, 9, 11] 5 (seqQ (X8 n) (cR (cR (cR (cR (cR (cR (cR C8))))))) (fnQ (X8 n).E.T (resOf Proofs.Tryd.prog 8) (eB o)))) := by
          intro kx97
          induction kx97 with
          | zero => intro v94 v95  ox96 h; exact (iter_zero h).elim
          | succ kx97 ihx99 =>
            intro v94 v95  ox96 h nx98 hnx102 hrx100 hxx101
            obtain ⟨nx98, rfl⟩ : ∃ q, nx98 = q + 1 := ⟨nx98 - 1, by omega⟩
            obtain ⟨sx103, h, hsx104⟩ := iter_some h
            have h : f8_B4 m v2 v5 v94 v95 = some sx103 := h
            unfold f8_B4 at h
            refine Lp.succ ?_
            refine Wp.seq' (by kernel_rfl) ?_
            refine Wp.region (by kernel_rfl) ?_
            refine Ops.seg' 1 1 (by kernel_rfl) ?_
            refine Ops.done (by kernel_rfl) ?_
            refine seqQ.n ?_
            refine Wp.seq' (by kernel_rfl) ?_
            refine Wp.cnd h [6, 9, 11, 41, 42, 43] 5 (by kernel_rfl) (fun h => ?_) (fun h => ?_)
            · refine Wp.skip (by kernel_rfl) ?_
              refine sqQ.n ⟨q6 ((dB false) :: q2 ((dP eI v5.1) :: q1 ((dI v94) :: q29 ((dP eI v2.1) :: (dI ((v2.1.length : Int))) :: (dI v95) :: (dB (decide (v95 < (v2.1.length : Int)))) :: q21 [])))), [(.cells [(dP eS a2.fTags), (.v (.str a2.fForm))]), (.cells [(dI v2.2.fCode), (dI v2.2.fIndex)]), .dead, (appO 2 (List.map e41 v4)), (.cells [(dI v5.2.fCode), (dI v5.2.fIndex)])]⟩ (by generalize v4 = z0; cases z0 <;> kernel_rfl) ?_
              refine seqQ.n ?_
              refine Wp.seq' (by kernel_rfl) ?_
              have J8j120 : ∀ (v105 : Int) (v106 : Int) (v108 : Int) (v109 : Bool) (v110 : Bool) (v117 : Bool) (d107 : D) (d111 : D) (d112 : D) (d113 : D) (d114 : D) (d115 : D) (d116 : D) (d118 : D) (d119 : D), f8_j1 m v95 v105 v106 v108 v109 v110 v117 = some sx103 → (seqQ (X8 n) (cR (cR (cR (cL (cL (cR (cL (cR (cR (cR (cR (cR (cR C8))))))))))))) (lpQ (X8 n) [6, 9, 11, 41, 42, 43] 5 (cL (cL (cR (cL (cR (cR (cR (cR (cR (cR C8)))))))))) nx98 (blkQ (X8 n) 0 [6, 9, 11] 5 (seqQ (X8 n) (cR (cR (cR (cR (cR (cR (cR C8))))))) (fnQ (X8 n).E.T (resOf Proofs.Tryd.prog 8) (eB o)))))) .normal ⟨q6 ((dB false) :: q2 ((dP eI v5.1) :: q1 ((dI v105) :: q1 ((dI v106) :: q27 ((dP eI v2.1) :: (dI ((v2.1.length : Int))) :: (dI v95) :: (dB (decide (v95 < (v2.1.length : Int)))) :: d107 :: (dI v108) :: (dI v94) :: (dP eI v5.1) :: (dI ((v5.1.length : Int))) :: (dB v109) :: (dB v110) :: d111 :: d112 :: d113 :: d114 :: d115 :: d116 :: (dB v117) :: d118 :: d119 :: q5 []))))), [(.cells [(dP eS a2.fTags), (.v (.str a2.fForm))]), (.cells [(dI v2.2.fCode), (dI v2.2.fIndex)]), .dead, (appO 2 (List.map e41 v4)), (.cells [(dI v5.2.fCode), (dI v5.2.fIndex)])]⟩ := by
                intro v105 v106 v108 v109 v110 v117 d107 d111 d112 d113 d114 d115 d116 d118 d119 h
                unfold f8_j1 at h
                refine seqQ.n ?_
                refine Wp.region (by kernel_rfl) ?_
                refine Ops.seg' 2 2 (by kernel_rfl) ?_
                refine Ops.done (by kernel_rfl) ?_
                refine lpQ.n ⟨q6 ((dB false) :: q2 ((dP eI v5.1) :: q1 ((dI v105) :: q29 ((dP eI v2.1) :: (dI ((v2.1.length : Int))) :: (dI (w64 (v95 + 1))) :: q22 [])))), [(.cells [(dP eS a2.fTags), (.v (.str a2.fForm))]), (.cells [(dI v2.2.fCode), (dI v2.2.fIndex)]), .dead, (appO 2 (List.map e41 v4)), (.cells [(dI v5.2.fCode), (dI v5.2.fIndex)])]⟩ (by generalize v4 = z0; cases z0 <;> kernel_rfl) ?_
                cases h
                exact ihx99 v105 (w64 (v95 + 1))  _ hsx104 _ (by omega) hrx100 hxx101
              refine Wp.block' 1 [6, 9, 11, 41, 42, 43] 5 (by kernel_rfl) ?_
              refine Wp.seq' (by kernel_rfl) ?_
              refine Wp.region (by kernel_rfl) ?_
              obtain ⟨v121, ev121, h⟩ := bnd_some h
              refine Ops.one' 1 (fun h0 e0 => (ix_r (T := T) h0 44 3 1 .plain eI v2.1 v95 v121 ev121 (by kernel_rfl) (by kernel_rfl) (fun _ => rfl))) (by kernel_rfl) (by kernel_rfl) ?_
              refine Ops.seg' 2 3 (by kernel_rfl) ?_
              refine Ops.done (by kernel_rfl) ?_
              refine seqQ.n ?_
              refine Wp.seq' (by kernel_rfl) ?_
              refine Wp.region (by kernel_rfl) ?_
              refine Ops.seg' 2 2 (by kernel_rfl) ?_
              refine Ops.one' 3 (fun h0 e0 => (len_r (T := T) h0 44 3 .plain eI v5.1 (by kernel_rfl))) (by kernel_rfl) (by kernel_rfl) ?_
              refine Ops.seg' 2 5 (by kernel_rfl) ?_
              have J8j132 : ∀ (d124 d125 d126 d127 d128 d129 : D) (v130 : Bool) (v131 : Bool), f8_r3 m v94 v95 v121 v130 v131 = some sx103 → Ops (X8 n) (opl (cL (cR (cL (cL (cR (cR (cL (cL (cR (cL (cR (cR (cR (cR (cR (cR C8))))))))))))))))) 12 ⟨q6 ((dB false) :: q2 ((dP eI v5.1) :: q1 ((dI v94) :: q1 ((dI v121) :: q27 ((dP eI v2.1) :: (dI ((v2.1.length : Int))) :: (dI v95) :: (dB (decide (v95 < (v2.1.length : Int)))) :: (.vptr [(vI v121)]) :: (dI v121) :: (dI v94) :: (dP eI v5.1) :: (dI ((v5.1.length : Int))) :: (dB v130) :: (dB v130) :: d124 :: d125 :: d126 :: d127 :: d128 :: d129 :: (dB v131) :: q7 []))))), [(.cells [(dP eS a2.fTags), (.v (.str a2.fForm))]), (.cells [(dI v2.2.fCode), (dI v2.2.fIndex)]), .dead, (appO 2 (List.map e41 v4)), (.cells [(dI v5.2.fCode), (dI v5.2.fIndex)])]⟩ ((seqQ (X8 n) (cR (cR (cL (cL (cR (cR (cL (cL (cR (cL (cR (cR (cR (cR (cR (cR C8)))))))))))))))) (blkQ (X8 n) 1 [6, 9, 11, 41, 42, 43] 5 (seqQ (X8 n) (cR (cR (cR (cL (cL (cR (cL (cR (cR (cR (cR (cR (cR C8))))))))))))) (lpQ (X8 n) [6, 9, 11, 41, 42, 43] 5 (cL (cL (cR (cL (cR (cR (cR (cR (cR (cR C8)))))))))) nx98 (blkQ (X8 n) 0 [6, 9, 11] 5 (seqQ (X8 n) (cR (cR (cR (cR (cR (cR (cR C8))))))) (fnQ (X8 n).E.T (resOf Proofs.Tryd.prog 8) (eB o)))))))) .normal) := by
                intro d124 d125 d126 d127 d128 d129 v130 v131 h
                unfold f8_r3 at h
                refine Ops.done (by kernel_rfl) ?_
                refine seqQ.n ?_
                have J8j142 : ∀ (v133 : Int) (d134 : D) (d135 : D) (d136 : D) (d137 : D) (d138 : D) (d139 : D) (d140 : D) (d141 : D), f8_j2 m v95 v121 v130 v131 v133 = some sx103 → (blkQ (X8 n) 1 [6, 9, 11, 41, 42, 43] 5 (seqQ (X8 n) (cR (cR (cR (cL (cL (cR (cL (cR (cR (cR (cR (cR (cR C8))))))))))))) (lpQ (X8 n) [6, 9, 11, 41, 42, 43] 5 (cL (cL (cR (cL (cR (cR (cR (cR (cR (cR C8)))))))))) nx98 (blkQ (X8 n) 0 [6, 9, 11] 5 (seqQ (X8 n) (cR (cR (cR (cR (cR (cR (cR C8))))))) (fnQ (X8 n).E.T (resOf Proofs.Tryd.prog 8) (eB o))))))) .normal ⟨q6 ((dB false) :: q2 ((dP eI v5.1) :: q1 ((dI v133) :: q1 ((dI v121) :: q27 ((dP eI v2.1) :: (dI ((v2.1.length : Int))) :: (dI v95) :: (dB (decide (v95 < (v2.1.length : Int)))) :: (.vptr [(vI v121)]) :: (dI v121) :: (dI v94) :: (dP eI v5.1) :: (dI ((v5.1.length : Int))) :: (dB v130) :: (dB v130) :: d134 :: d135 :: d136 :: d137 :: d138 :: d139 :: (dB v131) :: d140 :: d141 :: q5 []))))), [(.cells [(dP eS a2.fTags), (.v (.str a2.fForm))]), (.cells [(dI v2.2.fCode), (dI v2.2.fIndex)]), .dead, (appO 2 (List.map e41 v4)), (.cells [(dI v5.2.fCode), (dI v5.2.fIndex)])]⟩ := by
                  intro v133 d134 d135 d136 d137 d138 d139 d140 d141 h
                  unfold f8_j2 at h
                  refine blkQ.n ⟨q6 ((dB false) :: q2 ((dP eI v5.1) :: q1 ((dI v133) :: q1 ((dI v121) :: q27 ((dP eI v2.1) :: (dI ((v2.1.length : Int))) :: (dI v95) :: (dB (decide (v95 < (v2.1.length : Int)))) :: (.vptr [(vI v121)]) :: (dI v121) :: (dI v94) :: (dP eI v5.1) :: (dI ((v5.1.length : Int))) :: (dB v130) :: (dB v130) :: d134 :: d135 :: d136 :: d137 :: d138 :: d139 :: (dB v131) :: d140 :: d141 :: q5 []))))), [(.cells [(dP eS a2.fTags), (.v (.str a2.fForm))]), (.cells [(dI v2.2.fCode), (dI v2.2.fIndex)]), .dead, (appO 2 (List.map e41 v4)), (.cells [(dI v5.2.fCode), (dI v5.2.fIndex)])]⟩ (by generalize v4 = z0; cases z0 <;> kernel_rfl) ?_
                  exact J8j120 v133 v121 v121 v130 v130 v131 _ _ _ _ _ _ _ _ _ h
                refine Wp.cnd h [6, 9, 11, 41, 42, 43] 5 (by kernel_rfl) (fun h => ?_) (fun h => ?_)
                · refine Wp.region (by kernel_rfl) ?_
                  refine Ops.seg' 3 3 (by kernel_rfl) ?_
                  refine Ops.done (by kernel_rfl) ?_
                  refine sqQ.n ⟨q6 ((dB false) :: q2 ((dP eI v5.1) :: q1 ((dI (w64 (v94 + 1))) :: q1 ((dI v121) :: q27 ((dP eI v2.1) :: (dI ((v2.1.length : Int))) :: (dI v95) :: (dB (decide (v95 < (v2.1.length : Int)))) :: (.vptr [(vI v121)]) :: (dI v121) :: (dI v94) :: (dP eI v5.1) :: (dI ((v5.1.length : Int))) :: (dB v130) :: (dB v130) :: d124 :: d125 :: d126 :: d127 :: d128 :: d129 :: (dB v131) :: (dI v94) :: (dI (w64 (v94 + 1))) :: q5 []))))), [(.cells [(dP eS a2.fTags), (.v (.str a2.fForm))]), (.cells [(dI v2.2.fCode), (dI v2.2.fIndex)]), .dead, (appO 2 (List.map e41 v4)), (.cells [(dI v5.2.fCode), (dI v5.2.fIndex)])]⟩ (by generalize v4 = z0; cases z0 <;> kernel_rfl) ?_
                  exact J8j142 (w64 (v94 + 1)) _ _ _ _ _ _ _ _ h
                · refine Wp.skip (by kernel_rfl) ?_
                  refine sqQ.n ⟨q6 ((dB false) :: q2 ((dP eI v5.1) :: q1 ((dI v94) :: q1 ((dI v121) :: q27 ((dP eI v2.1) :: (dI ((v2.1.length : Int))) :: (dI v95) :: (dB (decide (v95 < (v2.1.length : Int)))) :: (.vptr [(vI v121)]) :: (dI v121) :: (dI v94) :: (dP eI v5.1) :: (dI ((v5.1.length : Int))) :: (dB v130) :: (dB v130) :: d124 :: d125 :: d126 :: d127 :: d128 :: d129 :: (dB v131) :: q7 []))))), [(.cells [(dP eS a2.fTags), (.v (.str a2.fForm))]), (.cells [(dI v2.2.fCode), (dI v2.2.fIndex)]), .dead, (appO 2 (List.map e41 v4)), (.cells [(dI v5.2.fCode), (dI v5.2.fIndex)])]⟩ (by generalize v4 = z0; cases z0 <;> kernel_rfl) ?_
                  exact J8j142 v94 _ _ _ _ _ _ _ _ h
              obtain ⟨v131, ev131, h⟩ := bnd_some h
              have G8g123 : ∀ v122 : Bool, (cnd v122 (bnd (idx v5.1 v94) fun v143 => some (v143 == v121)) (some false)) = some v131 → Ops (X8 n) (opl (cL (cR (cL (cL (cR (cR (cL (cL (cR (cL (cR (cR (cR (cR (cR (cR C8))))))))))))))))) 5 ⟨q6 ((dB false) :: q2 ((dP eI v5.1) :: q1 ((dI v94) :: q1 ((dI v121) :: q27 ((dP eI v2.1) :: (dI ((v2.1.length : Int))) :: (dI v95) :: (dB (decide (v95 < (v2.1.length : Int)))) :: (.vptr [(vI v121)]) :: (dI v121) :: (dI v94) :: (dP eI v5.1) :: (dI ((v5.1.length : Int))) :: (dB v122) :: (dB v122) :: q14 []))))), [(.cells [(dP eS a2.fTags), (.v (.str a2.fForm))]), (.cells [(dI v2.2.fCode), (dI v2.2.fIndex)]), .dead, (appO 2 (List.map e41 v4)), (.cells [(dI v5.2.fCode), (dI v5.2.fIndex)])]⟩ ((seqQ (X8 n) (cR (cR (cL (cL (cR (cR (cL (cL (cR (cL (cR (cR (cR (cR (cR (cR C8)))))))))))))))) (blkQ (X8 n) 1 [6, 9, 11, 41, 42, 43] 5 (seqQ (X8 n) (cR (cR (cR (cL (cL (cR (cL (cR (cR (cR (cR (cR (cR C8))))))))))))) (lpQ (X8 n) [6, 9, 11, 41, 42, 43] 5 (cL (cL (cR (cL (cR (cR (cR (cR (cR (cR C8)))))))))) nx98 (blkQ (X8 n) 0 [6, 9, 11] 5 (seqQ (X8 n) (cR (cR (cR (cR (cR (cR (cR C8))))))) (fnQ (X8 n).E.T (resOf Proofs.Tryd.prog 8) (eB o)))))))) .normal) := by
                intro v122 ev131
                cases v122
                · have ev131 := cnd_f ev131
                  refine Ops.seg' 7 12 (by kernel_rfl) ?_
                  refine Ops.st ⟨q6 ((dB false) :: q2 ((dP eI v5.1) :: q1 ((dI v94) :: q1 ((dI v121) :: q27 ((dP eI v2.1) :: (dI ((v2.1.length : Int))) :: (dI v95) :: (dB (decide (v95 < (v2.1.length : Int)))) :: (.vptr [(vI v121)]) :: (dI v121) :: (dI v94) :: (dP eI v5.1) :: (dI ((v5.1.length : Int))) :: (dB false) :: (dB false) :: u6 ((dB false) :: q7 [])))))), [(.cells [(dP eS a2.fTags), (.v (.str a2.fForm))]), (.cells [(dI v2.2.fCode), (dI v2.2.fIndex)]), .dead, (appO 2 (List.map e41 v4)), (.cells [(dI v5.2.fCode), (dI v5.2.fIndex)])]⟩ (by kernel_rfl) ?_
                  exact J8j132 _ _ _ _ _ _ _ _ (some_sub (fun v131 => f8_r3 m v94 v95 v121 (decide (v94 < (v5.1.length : Int))) v131 = some sx103) ev131 h)
                · have ev131 := cnd_t ev131
                  refine Ops.seg' 2 7 (by kernel_rfl) ?_
                  obtain ⟨v143, ev143, ev131⟩ := bnd_some ev131
                  refine Ops.one' 8 (fun h0 e0 => (ix_r (T := T) h0 44 3 1 .plain eI v5.1 v94 v143 ev143 (by kernel_rfl) (by kernel_rfl) (fun _ => rfl))) (by kernel_rfl) (by kernel_rfl) ?_
                  refine Ops.seg' 4 12 (by kernel_rfl) ?_
                  refine Ops.st ⟨q6 ((dB false) :: q2 ((dP eI v5.1) :: q1 ((dI v94) :: q1 ((dI v121) :: q27 ((dP eI v2.1) :: (dI ((v2.1.length : Int))) :: (dI v95) :: (dB (decide (v95 < (v2.1.length : Int)))) :: (.vptr [(vI v121)]) :: (dI v121) :: (dI v94) :: (dP eI v5.1) :: (dI ((v5.1.length : Int))) :: (dB true) :: (dB true) :: (dP eI v5.1) :: (dI v94) :: (.vptr [(vI v143)]) :: (dI v143) :: (dI v121) :: (dB (v143 == v121)) :: (dB (v143 == v121)) :: q7 []))))), [(.cells [(dP eS a2.fTags), (.v (.str a2.fForm))]), (.cells [(dI v2.2.fCode), (dI v2.2.fIndex)]), .dead, (appO 2 (List.map e41 v4)), (.cells [(dI v5.2.fCode), (dI v5.2.fIndex)])]⟩ (by kernel_rfl) ?_
                  exact J8j132 _ _ _ _ _ _ _ _ (some_sub (fun v131 => f8_r3 m v94 v95 v121 (decide (v94 < (v5.1.length : Int))) v131 = some sx103) ev131 h)
              exact Ops.st ⟨q6 ((dB false) :: q2 ((dP eI v5.1) :: q1 ((dI v94) :: q1 ((dI v121) :: q27 ((dP eI v2.1) :: (dI ((v2.1.length : Int))) :: (dI v95) :: (dB (decide (v95 < (v2.1.length : Int)))) :: (.vptr [(vI v121)]) :: (dI v121) :: (dI v94) :: (dP eI v5.1) :: (dI ((v5.1.length : Int))) :: (dB ((decide (v94 < (v5.1.length : Int))))) :: (dB ((decide (v94 < (v5.1.length : Int))))) :: q14 []))))), [(.cells [(dP eS a2.fTags), (.v (.str a2.fForm))]), (.cells [(dI v2.2.fCode), (dI v2.2.fIndex)]), .dead, (appO 2 (List.map e41 v4)), (.cells [(dI v5.2.fCode), (dI v5.2.fIndex)])]⟩ (by kernel_rfl) (G8g123 (decide (v94 < (v5.1.length : Int))) ev131)
            · refine Wp.exit (id := 0) (by kernel_rfl) ?_
              refine sqQ.x ?_
              refine seqQ.x ?_
              cases h
              refine lpQ.x ?_
              refine blkQ.x ⟨q6 ((dB false) :: q2 ((dP eI v5.1) :: q1 ((dI v94) :: q29 ((dP eI v2.1) :: (dI ((v2.1.length : Int))) :: (dI v95) :: q22 [])))), [(.cells [(dP eS a2.fTags), (.v (.str a2.fForm))]), (.cells [(dI v2.2.fCode), (dI v2.2.fIndex)]), .dead, (appO 2 (List.map e41 v4)), (.cells [(dI v5.2.fCode), (dI v5.2.fIndex)])]⟩ (by generalize v4 = z0; cases z0 <;> kernel_rfl) ?_
              exact hxx101 (v94, v95)  hsx104
        refine Wp.loop' [6, 9, 11, 41, 42, 43] 5 (by kernel_rfl) ⟨q6 ((dB false) :: q2 ((dP eI v5.1) :: q1 ((dI 0) :: q29 ((dP eI v2.1) :: (dI ((v2.1.length : Int))) :: (dI 0) :: q22 [])))), [(.cells [(dP eS a2.fTags), (.v (.str a2.fForm))]), (.cells [(dI v2.2.fCode), (dI v2.2.fIndex)]), .dead, (appO 2 (List.map e41 v4)), (.cells [(dI v5.2.fCode), (dI v5.2.fIndex)])]⟩ (by generalize v4 = z0; cases z0 <;> kernel_rfl) ?_
        rcases brk_some h with ⟨r146, er146, h⟩ | ⟨y145, ey145, h⟩
        · refine hLx144 _ 0 0  _ er146 n (by omega) (fun r er σ hσ => ?_) (fun y  ey => by cases ey)
          cases er
          refine seqQ.r ?_
          exact fnQ.r' (X8 n) (fun z => (eB z)) h hσ
        · refine hLx144 _ 0 0  _ ey145 n (by omega) (fun r er => by cases er) (fun y  ey => ?_)
          cases ey
          refine seqQ.n ?_
          refine Wp.seq' (by kernel_rfl) ?_
          refine Wp.region (by kernel_rfl) ?_
          refine Ops.seg' 2 2 (by kernel_rfl) ?_
          refine Ops.one' 3 (fun h0 e0 => (len_r (T := T) h0 44 3 .plain eI v5.1 (by kernel_rfl))) (by kernel_rfl) (by kernel_rfl) ?_
          refine Ops.seg' 2 5 (by kernel_rfl) ?_
          refine Ops.done (by kernel_rfl) ?_
          refine seqQ.n ?_
          refine Wp.ret (by kernel_rfl) ?_
          exact fnQ.r' (X8 n) (fun z => (eB z)) h (RetOk.mk' (dB (y145.1 == ((v5.1.length : Int)))) (by kernel_rfl) (by kernel_rfl))
    have G8g7 : ∀ v6 : Bool, f8_r5 m v2 v5 ((v6 || (!((v5.2.fCode == 0) && ((v5.2.fIndex == 0) && true))))) = some o → Ops (X8 n) (opl (cL (cL (cR (cR (cR (cR C8))))))) 4 ⟨(dP e23 a0) :: (dP e41 a1) :: (.v (.agg [(vP eS a2.fTags), (.str a2.fForm)])) :: u2 ((.ptr 0 0) :: (dB false) :: (dP eI v2.1) :: (.ptr 1 0) :: (dP eI v5.1) :: (.ptr 4 0) :: u3 ((dB v1) :: (dB (!v1)) :: (.v (.tuple [(vP eI v2.1), (.agg [(vI v2.2.fCode), (vI v2.2.fIndex)])])) :: (dP e23 a0) :: (dP e41 a1) :: (.v (.tuple [(vP eI v2.1), (.agg [(vI v2.2.fCode), (vI v2.2.fIndex)])])) :: (dP eI v2.1) :: (.v (.agg [(vI v2.2.fCode), (vI v2.2.fIndex)])) :: (.v (.tuple [(vP eI v5.1), (.agg [(vI v5.2.fCode), (vI v5.2.fIndex)])])) :: (dP e23 a0) :: (.v (.sl .nonfull (List.map e41 []))) :: (dP e41 a1) :: (appF .nonfull 2 (List.map e41 v3)) :: (.v (.agg [(vP eS a2.fTags), (.str a2.fForm)])) :: (.v (.sl .nonfull (List.map e41 [a2]))) :: (appF .nonfull 3 (List.map e41 v4)) :: (.v (.tuple [(vP eI v5.1), (.agg [(vI v5.2.fCode), (vI v5.2.fIndex)])])) :: (dP eI v5.1) :: (.v (.agg [(vI v5.2.fCode), (vI v5.2.fIndex)])) :: (.v (.agg [(vI v2.2.fCode), (vI v2.2.fIndex)])) :: (.v (.agg [(vI 0), (vI 0)])) :: (dB v6) :: (dB v6) :: u29 [])), [(.cells [(dP eS a2.fTags), (.v (.str a2.fForm))]), (.cells [(dI v2.2.fCode), (dI v2.2.fIndex)]), .dead, (appO 2 (List.map e41 v4)), (.cells [(dI v5.2.fCode), (dI v5.2.fIndex)])]⟩ ((seqQ (X8 n) (cR (cL (cR (cR (cR (cR C8)))))) (seqQ (X8 n) (cR (cR (cR (cR (cR C8))))) (fnQ (X8 n).E.T (resOf Proofs.Tryd.prog 8) (eB o)))) .normal) := by
      intro v6 h
      cases v6
      · refine Ops.seg' 4 8 (by kernel_rfl) ?_
        refine Ops.st ⟨(dP e23 a0) :: (dP e41 a1) :: (.v (.agg [(vP eS a2.fTags), (.str a2.fForm)])) :: u2 ((.ptr 0 0) :: (dB false) :: (dP eI v2.1) :: (.ptr 1 0) :: (dP eI v5.1) :: (.ptr 4 0) :: u3 ((dB v1) :: (dB (!v1)) :: (.v (.tuple [(vP eI v2.1), (.agg [(vI v2.2.fCode), (vI v2.2.fIndex)])])) :: (dP e23 a0) :: (dP e41 a1) :: (.v (.tuple [(vP eI v2.1), (.agg [(vI v2.2.fCode), (vI v2.2.fIndex)])])) :: (dP eI v2.1) :: (.v (.agg [(vI v2.2.fCode), (vI v2.2.fIndex)])) :: (.v (.tuple [(vP eI v5.1), (.agg [(vI v5.2.fCode), (vI v5.2.fIndex)])])) :: (dP e23 a0) :: (.v (.sl .nonfull (List.map e41 []))) :: (dP e41 a1) :: (appF .nonfull 2 (List.map e41 v3)) :: (.v (.agg [(vP eS a2.fTags), (.str a2.fForm)])) :: (.v (.sl .nonfull (List.map e41 [a2]))) :: (appF .nonfull 3 (List.map e41 v4)) :: (.v (.tuple [(vP eI v5.1), (.agg [(vI v5.2.fCode), (vI v5.2.fIndex)])])) :: (dP eI v5.1) :: (.v (.agg [(vI v5.2.fCode), (vI v5.2.fIndex)])) :: (.v (.agg [(vI v2.2.fCode), (vI v2.2.fIndex)])) :: (.v (.agg [(vI 0), (vI 0)])) :: (dB false) :: (dB false) :: (.v (.agg [(vI v5.2.fCode), (vI v5.2.fIndex)])) :: (.v (.agg [(vI 0), (vI 0)])) :: (dB (!((v5.2.fCode == 0) && ((v5.2.fIndex == 0) && true)))) :: (dB (!((v5.2.fCode == 0) && ((v5.2.fIndex == 0) && true)))) :: u25 [])), [(.cells [(dP eS a2.fTags), (.v (.str a2.fForm))]), (.cells [(dI v2.2.fCode), (dI v2.2.fIndex)]), .dead, (appO 2 (List.map e41 v4)), (.cells [(dI v5.2.fCode), (dI v5.2.fIndex)])]⟩ (by kernel_rfl) ?_
        exact J8j13 _ _ _ _ _ h
      · refine Ops.seg' 4 8 (by kernel_rfl) ?_
        refine Ops.st ⟨(dP e23 a0) :: (dP e41 a1) :: (.v (.agg [(vP eS a2.fTags), (.str a2.fForm)])) :: u2 ((.ptr 0 0) :: (dB false) :: (dP eI v2.1) :: (.ptr 1 0) :: (dP eI v5.1) :: (.ptr 4 0) :: u3 ((dB v1) :: (dB (!v1)) :: (.v (.tuple [(vP eI v2.1), (.agg [(vI v2.2.fCode), (vI v2.2.fIndex)])])) :: (dP e23 a0) :: (dP e41 a1) :: (.v (.tuple [(vP eI v2.1), (.agg [(vI v2.2.fCode), (vI v2.2.fIndex)])])) :: (dP eI v2.1) :: (.v (.agg [(vI v2.2.fCode), (vI v2.2.fIndex)])) :: (.v (.tuple [(vP eI v5.1), (.agg [(vI v5.2.fCode), (vI v5.2.fIndex)])])) :: (dP e23 a0) :: (.v (.sl .nonfull (List.map e41 []))) :: (dP e41 a1) :: (appF .nonfull 2 (List.map e41 v3)) :: (.v (.agg [(vP eS a2.fTags), (.str a2.fForm)])) :: (.v (.sl .nonfull (List.map e41 [a2]))) :: (appF .nonfull 3 (List.map e41 v4)) :: (.v (.tuple [(vP eI v5.1), (.agg [(vI v5.2.fCode), (vI v5.2.fIndex)])])) :: (dP eI v5.1) :: (.v (.agg [(vI v5.2.fCode), (vI v5.2.fIndex)])) :: (.v (.agg [(vI v2.2.fCode), (vI v2.2.fIndex)])) :: (.v (.agg [(vI 0), (vI 0)])) :: (dB true) :: (dB true) :: u3 ((dB true) :: u25 []))), [(.cells [(dP eS a2.fTags), (.v (.str a2.fForm))]), (.cells [(dI v2.2.fCode), (dI v2.2.fIndex)]), .dead, (appO 2 (List.map e41 v4)), (.cells [(dI v5.2.fCode), (dI v5.2.fIndex)])]⟩ (by kernel_rfl) ?_
        exact J8j13 _ _ _ _ _ h
    exact Ops.st ⟨(dP e23 a0) :: (dP e41 a1) :: (.v (.agg [(vP eS a2.fTags), (.str a2.fForm)])) :: u2 ((.ptr 0 0) :: (dB false) :: (dP eI v2.1) :: (.ptr 1 0) :: (dP eI v5.1) :: (.ptr 4 0) :: u3 ((dB v1) :: (dB (!v1)) :: (.v (.tuple [(vP eI v2.1), (.agg [(vI v2.2.fCode), (vI v2.2.fIndex)])])) :: (dP e23 a0) :: (dP e41 a1) :: (.v (.tuple [(vP eI v2.1), (.agg [(vI v2.2.fCode), (vI v2.2.fIndex)])])) :: (dP eI v2.1) :: (.v (.agg [(vI v2.2.fCode), (vI v2.2.fIndex)])) :: (.v (.tuple [(vP eI v5.1), (.agg [(vI v5.2.fCode), (vI v5.2.fIndex)])])) :: (dP e23 a0) :: (.v (.sl .nonfull (List.map e41 []))) :: (dP e41 a1) :: (appF .nonfull 2 (List.map e41 v3)) :: (.v (.agg [(vP eS a2.fTags), (.str a2.fForm)])) :: (.v (.sl .nonfull (List.map e41 [a2]))) :: (appF .nonfull 3 (List.map e41 v4)) :: (.v (.tuple [(vP eI v5.1), (.agg [(vI v5.2.fCode), (vI v5.2.fIndex)])])) :: (dP eI v5.1) :: (.v (.agg [(vI v5.2.fCode), (vI v5.2.fIndex)])) :: (.v (.agg [(vI v2.2.fCode), (vI v2.2.fIndex)])) :: (.v (.agg [(vI 0), (vI 0)])) :: (dB ((!((v2.2.fCode == 0) && ((v2.2.fIndex == 0) && true))))) :: (dB ((!((v2.2.fCode == 0) && ((v2.2.fIndex == 0) && true))))) :: u29 [])), [(.cells [(dP eS a2.fTags), (.v (.str a2.fForm))]), (.cells [(dI v2.2.fCode), (dI v2.2.fIndex)]), .dead, (appO 2 (List.map e41 v4)), (.cells [(dI v5.2.fCode), (dI v5.2.fIndex)])]⟩ (by kernel_rfl) (G8g7 (!((v2.2.fCode == 0) && ((v2.2.fIndex == 0) && true))) h)

end Go.Abs
