import Derived.Test.YthjhdnonlkooiaaDoorWEnv
namespace Go.Abs
set_option linter.unusedVariables false
set_option maxRecDepth 100000

/-! ### 12 glosswright/glosswrightlaw6.inflected -/
def f12 (m : Nat) : Option Bool := some true
theorem ok12 (m : Nat) (o : Bool) (h : f12 m = some o) (n : Nat) (hn : m + 1 ≤ n) : Fn Proofs.Tryd.prog E n 12 [] (eB o) := by
  cases h
  obtain ⟨n, rfl⟩ : ∃ q, n = q + 1 := ⟨n - 1, by omega⟩
  exact ora_fn (xs := []) (by kernel_rfl) (by kernel_rfl) (by kernel_rfl) (F := trueF) rfl rfl

/-! ### 39 glosswright/lexicon.Name -/
def f39_r1 (m : Nat) (v88 : Int) (v127 : Bool) : Option (Stp Bool (Int)) :=
  cnd v127
  (some (.ret false))
  (some (.nxt (w64 (v88 + 1))))
def f39_r2 (m : Nat) (v88 : Int) (v98 : Int) (v104 : Bool) : Option (Stp Bool (Int)) :=
  f39_r1 m v88 (((!v104) && (((v88 == 0) || (((v98 != 95) && (((v98 != 45) && (((decide (v98 < 48)) || (decide (v98 > 57))))))))))))
def f39_B3 (m : Nat) (a0 : ByteArray) (v88 : Int) : Option (Stp Bool (Int)) :=
  cnd (decide (v88 < (a0.size : Int)))
  (bnd (sidx a0 v88) fun v98 =>
  f39_r2 m v88 v98 (((decide (v98 ≥ 97)) && (decide (v98 ≤ 122)))))
  (some (.brk v88))
def f39_r4 (m : Nat) (a0 : ByteArray) (v7 : Bool) : Option Bool :=
  cnd v7
  (some false)
  (brk (iter (fun (y : Int) => f39_B3 m a0 y) m 0) some fun y138 =>
  some true)
def f39 (m : Nat) (a0 : ByteArray) : Option Bool :=
  f39_r4 m a0 (((decide ((a0.size : Int) < 1)) || (decide ((a0.size : Int) > 30))))
noncomputable abbrev X39 (n : Nat) : Cx := cxOf Proofs.Tryd.prog E 39 n
noncomputable def C39 : Code := bodyOf Proofs.Tryd.prog 39
theorem ok39 (m : Nat) (a0 : ByteArray) (o : Bool) (h : f39 m a0 = some o) (n : Nat) (hn : m + 1 ≤ n) : Fn Proofs.Tryd.prog E n 39 [.v (eS a0)] (eB o) := by
  obtain ⟨n, rfl⟩ : ∃ q, n = q + 1 := ⟨n - 1, by omega⟩
  unfold f39 at h
  refine Fn.of (by kernel_rfl) (by kernel_rfl) (by kernel_rfl) ⟨(.v (.str a0)) :: u40 (u10 []), []⟩ (by kernel_rfl) ?_
  refine Wp.seq' (by kernel_rfl) ?_
  refine Wp.region (by kernel_rfl) ?_
  refine Ops.seg' 1 1 (by kernel_rfl) ?_
  refine Ops.done (by kernel_rfl) ?_
  refine seqQ.n ?_
  refine Wp.seq' (by kernel_rfl) ?_
  refine Wp.seq' (by kernel_rfl) ?_
  refine Wp.region (by kernel_rfl) ?_
  refine Ops.seg' 4 4 (by kernel_rfl) ?_
  have J39j8 : ∀ (d3 d4 d5 : D) (v6 : Bool) (v7 : Bool), f39_r4 m a0 v7 = some o → Ops (X39 n) (opl (cL (cL (cR C39)))) 8 ⟨(.v (.str a0)) :: u1 ((dB false) :: u3 ((.v (.str a0)) :: (dI ((a0.size : Int))) :: (dB v6) :: (dB v6) :: d3 :: d4 :: d5 :: (dB v7) :: u37 [])), []⟩ ((seqQ (X39 n) (cR (cL (cR C39))) (seqQ (X39 n) (cR (cR C39)) (fnQ (X39 n).E.T (resOf Proofs.Tryd.prog 39) (eB o)))) .normal) := by
    intro d3 d4 d5 v6 v7 h
    unfold f39_r4 at h
    refine Ops.done (by kernel_rfl) ?_
    refine seqQ.n ?_
    refine Wp.cnd h [0, 2] 0 (by kernel_rfl) (fun h => ?_) (fun h => ?_)
    · refine Wp.seq' (by kernel_rfl) ?_
      refine Wp.region (by kernel_rfl) ?_
      refine Ops.seg' 1 1 (by kernel_rfl) ?_
      refine Ops.done (by kernel_rfl) ?_
      refine seqQ.n ?_
      refine Wp.ret (by kernel_rfl) ?_
      refine sqQ.r ?_
      refine seqQ.r ?_
      exact fnQ.r' (X39 n) (fun z => (eB z)) h (RetOk.mk' (dB false) (by kernel_rfl) (by kernel_rfl))
    · refine Wp.skip (by kernel_rfl) ?_
      refine sqQ.n' ?_
      refine seqQ.n ?_
      refine Wp.seq' (by kernel_rfl) ?_
      refine Wp.seq' (by kernel_rfl) ?_
      refine Wp.region (by kernel_rfl) ?_
      refine Ops.seg' 3 3 (by kernel_rfl) ?_
      refine Ops.done (by kernel_rfl) ?_
      refine seqQ.n ?_
      refine Wp.block' 0 [2] 0 (by kernel_rfl) ?_
      have hLx137 : ∀ (kx90 : Nat) (v88 : Int)  (ox89 : Bool ⊕ (Int)), iter (fun (y : Int) => f39_B3 m a0 y) kx90 v88 = some ox89 → ∀ nx91, kx90 ≤ nx91 → (∀ r, ox89 = .inl r → ∀ σ, RetOk (X39 n) (resOf Proofs.Tryd.prog 39) (eB r) σ → (seqQ (X39 n) (cR (cR (cR C39))) (fnQ (X39 n).E.T (resOf Proofs.Tryd.prog 39) (eB o))) .ret σ) → (∀ (y : Int) , ox89 = .inr y → (seqQ (X39 n) (cR (cR (cR C39))) (fnQ (X39 n).E.T (resOf Proofs.Tryd.prog 39) (eB o))) .normal ⟨(.v (.str a0)) :: q1 ((dB false) :: q12 ((dI ((a0.size : Int))) :: (dI y) :: q34 [])), []⟩) → Lp (X39 n) [0, 2, 15, 16] 0 (cL (cL (cR (cL (cR (cR C39)))))) nx91 ⟨(.v (.str a0)) :: q1 ((dB false) :: q12 ((dI ((a0.size : Int))) :: (dI v88) :: q34 [])), []⟩ (blkQ (X39 n) 0 [2] 0 (seqQ (X39 n) (cR (cR (cR C39))) (fnQ (X39 n).E.T (resOf Proofs.Tryd.prog 39) (eB o)))) := by
        intro kx90
        induction kx90 with
        | zero => intro v88  ox89 h; exact (iter_zero h).elim
        | succ kx90 ihx92 =>
          intro v88  ox89 h nx91 hnx95 hrx93 hxx94
          obtain ⟨nx91, rfl⟩ : ∃ q, nx91 = q + 1 := ⟨nx91 - 1, by omega⟩
          obtain ⟨sx96, h, hsx97⟩ := iter_some h
          have h : f39_B3 m a0 v88 = some sx96 := h
          unfold f39_B3 at h
          refine Lp.succ ?_
          refine Wp.seq' (by kernel_rfl) ?_
          refine Wp.region (by kernel_rfl) ?_
          refine Ops.seg' 1 1 (by kernel_rfl) ?_
          refine Ops.done (by kernel_rfl) ?_
          refine seqQ.n ?_
          refine Wp.seq' (by kernel_rfl) ?_
          refine Wp.cnd h [0, 2, 15, 16] 0 (by kernel_rfl) (fun h => ?_) (fun h => ?_)
          · refine Wp.skip (by kernel_rfl) ?_
            refine sqQ.n' ?_
            refine seqQ.n ?_
            refine Wp.seq' (by kernel_rfl) ?_
            refine Wp.block' 1 [0, 2, 15, 16] 0 (by kernel_rfl) ?_
            refine Wp.seq' (by kernel_rfl) ?_
            refine Wp.region (by kernel_rfl) ?_
            refine Ops.seg' 2 2 (by kernel_rfl) ?_
            refine Ops.done (by kernel_rfl) ?_
            refine seqQ.n ?_
            refine Wp.seq' (by kernel_rfl) ?_
            refine Wp.region (by kernel_rfl) ?_
            refine Ops.seg' 2 2 (by kernel_rfl) ?_
            obtain ⟨v98, ev98, h⟩ := bnd_some h
            refine Ops.one' 3 (fun h0 e0 => (str_ix (T := T) h0 9 a0 v88 v98 ev98 (by kernel_rfl))) (by kernel_rfl) (by kernel_rfl) ?_
            refine Ops.seg' 1 4 (by kernel_rfl) ?_
            refine Ops.done (by kernel_rfl) ?_
            refine seqQ.n ?_
            refine Wp.seq' (by kernel_rfl) ?_
            refine Wp.region (by kernel_rfl) ?_
            refine Ops.seg' 3 3 (by kernel_rfl) ?_
            have J39j105 : ∀ (d101 d102 : D) (v103 : Bool) (v104 : Bool), f39_r2 m v88 v98 v104 = some sx96 → Ops (X39 n) (opl (cL (cR (cR (cL (cL (cR (cR (cL (cL (cR (cL (cR (cR C39)))))))))))))) 6 ⟨(.v (.str a0)) :: q1 ((dB false) :: (dI v88) :: (.v (.int .u8 v98)) :: q10 ((dI ((a0.size : Int))) :: (dI v88) :: (dB (decide (v88 < (a0.size : Int)))) :: (dI v88) :: (.v (.str a0)) :: (dI v88) :: (.v (.int .u8 v98)) :: (.v (.int .u8 v98)) :: (dB v103) :: (dB v103) :: d101 :: d102 :: (dB v104) :: q23 [])), []⟩ ((seqQ (X39 n) (cR (cR (cR (cL (cL (cR (cR (cL (cL (cR (cL (cR (cR C39))))))))))))) (blkQ (X39 n) 1 [0, 2, 15, 16] 0 (seqQ (X39 n) (cR (cR (cR (cL (cL (cR (cL (cR (cR C39))))))))) (lpQ (X39 n) [0, 2, 15, 16] 0 (cL (cL (cR (cL (cR (cR C39)))))) nx91 (blkQ (X39 n) 0 [2] 0 (seqQ (X39 n) (cR (cR (cR C39))) (fnQ (X39 n).E.T (resOf Proofs.Tryd.prog 39) (eB o)))))))) .normal) := by
              intro d101 d102 v103 v104 h
              unfold f39_r2 at h
              refine Ops.seg' 1 7 (by kernel_rfl) ?_
              refine Ops.done (by kernel_rfl) ?_
              refine seqQ.n ?_
              refine Wp.seq' (by kernel_rfl) ?_
              refine Wp.region (by kernel_rfl) ?_
              refine Ops.seg' 3 3 (by kernel_rfl) ?_
              have J39j128 : ∀ (d108 d109 d110 d111 d112 d113 d114 d115 d116 d117 d118 d119 d120 d121 d122 d123 d124 d125 : D) (v126 : Bool) (v127 : Bool), f39_r1 m v88 v127 = some sx96 → Ops (X39 n) (opl (cL (cR (cR (cR (cL (cL (cR (cR (cL (cL (cR (cL (cR (cR C39))))))))))))))) 22 ⟨(.v (.str a0)) :: q1 ((dB false) :: (dI v88) :: (.v (.int .u8 v98)) :: (dB v104) :: q9 ((dI ((a0.size : Int))) :: (dI v88) :: (dB (decide (v88 < (a0.size : Int)))) :: (dI v88) :: (.v (.str a0)) :: (dI v88) :: (.v (.int .u8 v98)) :: (.v (.int .u8 v98)) :: (dB v103) :: (dB v103) :: d101 :: d102 :: (dB v104) :: (dB v104) :: (dB v126) :: (dB v126) :: d108 :: d109 :: d110 :: d111 :: d112 :: d113 :: d114 :: d115 :: d116 :: d117 :: d118 :: d119 :: d120 :: d121 :: d122 :: d123 :: d124 :: d125 :: (dB v127) :: q1 [])), []⟩ ((seqQ (X39 n) (cR (cR (cR (cR (cL (cL (cR (cR (cL (cL (cR (cL (cR (cR C39)))))))))))))) (blkQ (X39 n) 1 [0, 2, 15, 16] 0 (seqQ (X39 n) (cR (cR (cR (cL (cL (cR (cL (cR (cR C39))))))))) (lpQ (X39 n) [0, 2, 15, 16] 0 (cL (cL (cR (cL (cR (cR C39)))))) nx91 (blkQ (X39 n) 0 [2] 0 (seqQ (X39 n) (cR (cR (cR C39))) (fnQ (X39 n).E.T (resOf Proofs.Tryd.prog 39) (eB o)))))))) .normal) := by
                intro d108 d109 d110 d111 d112 d113 d114 d115 d116 d117 d118 d119 d120 d121 d122 d123 d124 d125 v126 v127 h
                unfold f39_r1 at h
                refine Ops.done (by kernel_rfl) ?_
                refine seqQ.n ?_
                refine Wp.cnd h [0, 2, 15, 16] 0 (by kernel_rfl) (fun h => ?_) (fun h => ?_)
                · refine Wp.seq' (by kernel_rfl) ?_
                  refine Wp.region (by kernel_rfl) ?_
                  refine Ops.seg' 1 1 (by kernel_rfl) ?_
                  refine Ops.done (by kernel_rfl) ?_
                  refine seqQ.n ?_
                  refine Wp.ret (by kernel_rfl) ?_
                  refine sqQ.r ?_
                  refine blkQ.r ?_
                  refine seqQ.r ?_
                  cases h
                  refine lpQ.r ?_
                  refine blkQ.r ?_
                  exact hrx93 _ hsx97 _ (RetOk.forget [0, 2, 15, 16] (by kernel_rfl) (RetOk.mk' (dB false) (by kernel_rfl) (by kernel_rfl)))
                · refine Wp.skip (by kernel_rfl) ?_
                  refine sqQ.n' ?_
                  refine blkQ.n' ?_
                  refine seqQ.n ?_
                  refine Wp.region (by kernel_rfl) ?_
                  refine Ops.seg' 2 2 (by kernel_rfl) ?_
                  refine Ops.done (by kernel_rfl) ?_
                  refine lpQ.n ⟨(.v (.str a0)) :: q1 ((dB false) :: q12 ((dI ((a0.size : Int))) :: (dI (w64 (v88 + 1))) :: q34 [])), []⟩ (by kernel_rfl) ?_
                  cases h
                  exact ihx92 (w64 (v88 + 1))  _ hsx97 _ (by omega) hrx93 hxx94
              have G39g107 : ∀ v106 : Bool, f39_r1 m v88 ((v106 && (((v88 == 0) || (((v98 != 95) && (((v98 != 45) && (((decide (v98 < 48)) || (decide (v98 > 57)))))))))))) = some sx96 → Ops (X39 n) (opl (cL (cR (cR (cR (cL (cL (cR (cR (cL (cL (cR (cL (cR (cR C39))))))))))))))) 3 ⟨(.v (.str a0)) :: q1 ((dB false) :: (dI v88) :: (.v (.int .u8 v98)) :: (dB v104) :: q9 ((dI ((a0.size : Int))) :: (dI v88) :: (dB (decide (v88 < (a0.size : Int)))) :: (dI v88) :: (.v (.str a0)) :: (dI v88) :: (.v (.int .u8 v98)) :: (.v (.int .u8 v98)) :: (dB v103) :: (dB v103) :: d101 :: d102 :: (dB v104) :: (dB v104) :: (dB v106) :: (dB v106) :: q20 [])), []⟩ ((seqQ (X39 n) (cR (cR (cR (cR (cL (cL (cR (cR (cL (cL (cR (cL (cR (cR C39)))))))))))))) (blkQ (X39 n) 1 [0, 2, 15, 16] 0 (seqQ (X39 n) (cR (cR (cR (cL (cL (cR (cL (cR (cR C39))))))))) (lpQ (X39 n) [0, 2, 15, 16] 0 (cL (cL (cR (cL (cR (cR C39)))))) nx91 (blkQ (X39 n) 0 [2] 0 (seqQ (X39 n) (cR (cR (cR C39))) (fnQ (X39 n).E.T (resOf Proofs.Tryd.prog 39) (eB o)))))))) .normal) := by
                intro v106 h
                cases v106
                · refine Ops.seg' 19 22 (by kernel_rfl) ?_
                  refine Ops.st ⟨(.v (.str a0)) :: q1 ((dB false) :: (dI v88) :: (.v (.int .u8 v98)) :: (dB v104) :: q9 ((dI ((a0.size : Int))) :: (dI v88) :: (dB (decide (v88 < (a0.size : Int)))) :: (dI v88) :: (.v (.str a0)) :: (dI v88) :: (.v (.int .u8 v98)) :: (.v (.int .u8 v98)) :: (dB v103) :: (dB v103) :: d101 :: d102 :: (dB v104) :: (dB v104) :: (dB false) :: (dB false) :: u18 ((dB false) :: q1 []))), []⟩ (by kernel_rfl) ?_
                  exact J39j128 _ _ _ _ _ _ _ _ _ _ _ _ _ _ _ _ _ _ _ _ h
                · refine Ops.seg' 3 6 (by kernel_rfl) ?_
                  have G39g130 : ∀ v129 : Bool, (f39_r1 m v88 ((true && ((v129 || (((v98 != 95) && (((v98 != 45) && (((decide (v98 < 48)) || (decide (v98 > 57))))))))))))) = some sx96 → Ops (X39 n) (opl (cL (cR (cR (cR (cL (cL (cR (cR (cL (cL (cR (cL (cR (cR C39))))))))))))))) 6 ⟨(.v (.str a0)) :: q1 ((dB false) :: (dI v88) :: (.v (.int .u8 v98)) :: (dB v104) :: q9 ((dI ((a0.size : Int))) :: (dI v88) :: (dB (decide (v88 < (a0.size : Int)))) :: (dI v88) :: (.v (.str a0)) :: (dI v88) :: (.v (.int .u8 v98)) :: (.v (.int .u8 v98)) :: (dB v103) :: (dB v103) :: d101 :: d102 :: (dB v104) :: (dB v104) :: (dB true) :: (dB true) :: (dI v88) :: (dB v129) :: (dB v129) :: q17 [])), []⟩ ((seqQ (X39 n) (cR (cR (cR (cR (cL (cL (cR (cR (cL (cL (cR (cL (cR (cR C39)))))))))))))) (blkQ (X39 n) 1 [0, 2, 15, 16] 0 (seqQ (X39 n) (cR (cR (cR (cL (cL (cR (cL (cR (cR C39))))))))) (lpQ (X39 n) [0, 2, 15, 16] 0 (cL (cL (cR (cL (cR (cR C39)))))) nx91 (blkQ (X39 n) 0 [2] 0 (seqQ (X39 n) (cR (cR (cR C39))) (fnQ (X39 n).E.T (resOf Proofs.Tryd.prog 39) (eB o)))))))) .normal) := by
                    intro v129 h
                    cases v129
                    · refine Ops.seg' 3 9 (by kernel_rfl) ?_
                      have G39g132 : ∀ v131 : Bool, (f39_r1 m v88 ((true && ((false || ((v131 && (((v98 != 45) && (((decide (v98 < 48)) || (decide (v98 > 57))))))))))))) = some sx96 → Ops (X39 n) (opl (cL (cR (cR (cR (cL (cL (cR (cR (cL (cL (cR (cL (cR (cR C39))))))))))))))) 9 ⟨(.v (.str a0)) :: q1 ((dB false) :: (dI v88) :: (.v (.int .u8 v98)) :: (dB v104) :: q9 ((dI ((a0.size : Int))) :: (dI v88) :: (dB (decide (v88 < (a0.size : Int)))) :: (dI v88) :: (.v (.str a0)) :: (dI v88) :: (.v (.int .u8 v98)) :: (.v (.int .u8 v98)) :: (dB v103) :: (dB v103) :: d101 :: d102 :: (dB v104) :: (dB v104) :: (dB true) :: (dB true) :: (dI v88) :: (dB false) :: (dB false) :: (.v (.int .u8 v98)) :: (dB v131) :: (dB v131) :: q14 [])), []⟩ ((seqQ (X39 n) (cR (cR (cR (cR (cL (cL (cR (cR (cL (cL (cR (cL (cR (cR C39)))))))))))))) (blkQ (X39 n) 1 [0, 2, 15, 16] 0 (seqQ (X39 n) (cR (cR (cR (cL (cL (cR (cL (cR (cR C39))))))))) (lpQ (X39 n) [0, 2, 15, 16] 0 (cL (cL (cR (cL (cR (cR C39)))))) nx91 (blkQ (X39 n) 0 [2] 0 (seqQ (X39 n) (cR (cR (cR C39))) (fnQ (X39 n).E.T (resOf Proofs.Tryd.prog 39) (eB o)))))))) .normal) := by
                        intro v131 h
                        cases v131
                        · refine Ops.seg' 13 22 (by kernel_rfl) ?_
                          refine Ops.st ⟨(.v (.str a0)) :: q1 ((dB false) :: (dI v88) :: (.v (.int .u8 v98)) :: (dB v104) :: q9 ((dI ((a0.size : Int))) :: (dI v88) :: (dB (decide (v88 < (a0.size : Int)))) :: (dI v88) :: (.v (.str a0)) :: (dI v88) :: (.v (.int .u8 v98)) :: (.v (.int .u8 v98)) :: (dB v103) :: (dB v103) :: d101 :: d102 :: (dB v104) :: (dB v104) :: (dB true) :: (dB true) :: (dI v88) :: (dB false) :: (dB false) :: (.v (.int .u8 v98)) :: (dB false) :: (dB false) :: u2 ((dB false) :: (dB false) :: u6 ((dB false) :: (dB false) :: (dB false) :: q1 [])))), []⟩ (by kernel_rfl) ?_
                          exact J39j128 _ _ _ _ _ _ _ _ _ _ _ _ _ _ _ _ _ _ _ _ h
                        · refine Ops.seg' 4 13 (by kernel_rfl) ?_
                          have G39g134 : ∀ v133 : Bool, (f39_r1 m v88 ((true && ((false || ((true && ((v133 && (((decide (v98 < 48)) || (decide (v98 > 57))))))))))))) = some sx96 → Ops (X39 n) (opl (cL (cR (cR (cR (cL (cL (cR (cR (cL (cL (cR (cL (cR (cR C39))))))))))))))) 13 ⟨(.v (.str a0)) :: q1 ((dB false) :: (dI v88) :: (.v (.int .u8 v98)) :: (dB v104) :: q9 ((dI ((a0.size : Int))) :: (dI v88) :: (dB (decide (v88 < (a0.size : Int)))) :: (dI v88) :: (.v (.str a0)) :: (dI v88) :: (.v (.int .u8 v98)) :: (.v (.int .u8 v98)) :: (dB v103) :: (dB v103) :: d101 :: d102 :: (dB v104) :: (dB v104) :: (dB true) :: (dB true) :: (dI v88) :: (dB false) :: (dB false) :: (.v (.int .u8 v98)) :: (dB true) :: (dB true) :: (.v (.int .u8 v98)) :: (dB v133) :: (dB v133) :: (dB v133) :: q10 [])), []⟩ ((seqQ (X39 n) (cR (cR (cR (cR (cL (cL (cR (cR (cL (cL (cR (cL (cR (cR C39)))))))))))))) (blkQ (X39 n) 1 [0, 2, 15, 16] 0 (seqQ (X39 n) (cR (cR (cR (cL (cL (cR (cL (cR (cR C39))))))))) (lpQ (X39 n) [0, 2, 15, 16] 0 (cL (cL (cR (cL (cR (cR C39)))))) nx91 (blkQ (X39 n) 0 [2] 0 (seqQ (X39 n) (cR (cR (cR C39))) (fnQ (X39 n).E.T (resOf Proofs.Tryd.prog 39) (eB o)))))))) .normal) := by
                            intro v133 h
                            cases v133
                            · refine Ops.seg' 9 22 (by kernel_rfl) ?_
                              refine Ops.st ⟨(.v (.str a0)) :: q1 ((dB false) :: (dI v88) :: (.v (.int .u8 v98)) :: (dB v104) :: q9 ((dI ((a0.size : Int))) :: (dI v88) :: (dB (decide (v88 < (a0.size : Int)))) :: (dI v88) :: (.v (.str a0)) :: (dI v88) :: (.v (.int .u8 v98)) :: (.v (.int .u8 v98)) :: (dB v103) :: (dB v103) :: d101 :: d102 :: (dB v104) :: (dB v104) :: (dB true) :: (dB true) :: (dI v88) :: (dB false) :: (dB false) :: (.v (.int .u8 v98)) :: (dB true) :: (dB true) :: (.v (.int .u8 v98)) :: (dB false) :: (dB false) :: (dB false) :: u6 ((dB false) :: (dB false) :: (dB false) :: q1 []))), []⟩ (by kernel_rfl) ?_
                              exact J39j128 _ _ _ _ _ _ _ _ _ _ _ _ _ _ _ _ _ _ _ _ h
                            · refine Ops.seg' 3 16 (by kernel_rfl) ?_
                              have G39g136 : ∀ v135 : Bool, (f39_r1 m v88 ((true && ((false || ((true && ((true && ((v135 || (decide (v98 > 57))))))))))))) = some sx96 → Ops (X39 n) (opl (cL (cR (cR (cR (cL (cL (cR (cR (cL (cL (cR (cL (cR (cR C39))))))))))))))) 16 ⟨(.v (.str a0)) :: q1 ((dB false) :: (dI v88) :: (.v (.int .u8 v98)) :: (dB v104) :: q9 ((dI ((a0.size : Int))) :: (dI v88) :: (dB (decide (v88 < (a0.size : Int)))) :: (dI v88) :: (.v (.str a0)) :: (dI v88) :: (.v (.int .u8 v98)) :: (.v (.int .u8 v98)) :: (dB v103) :: (dB v103) :: d101 :: d102 :: (dB v104) :: (dB v104) :: (dB true) :: (dB true) :: (dI v88) :: (dB false) :: (dB false) :: (.v (.int .u8 v98)) :: (dB true) :: (dB true) :: (.v (.int .u8 v98)) :: (dB true) :: (dB true) :: (dB true) :: (.v (.int .u8 v98)) :: (dB v135) :: (dB v135) :: q7 [])), []⟩ ((seqQ (X39 n) (cR (cR (cR (cR (cL (cL (cR (cR (cL (cL (cR (cL (cR (cR C39)))))))))))))) (blkQ (X39 n) 1 [0, 2, 15, 16] 0 (seqQ (X39 n) (cR (cR (cR (cL (cL (cR (cL (cR (cR C39))))))))) (lpQ (X39 n) [0, 2, 15, 16] 0 (cL (cL (cR (cL (cR (cR C39)))))) nx91 (blkQ (X39 n) 0 [2] 0 (seqQ (X39 n) (cR (cR (cR C39))) (fnQ (X39 n).E.T (resOf Proofs.Tryd.prog 39) (eB o)))))))) .normal) := by
                                intro v135 h
                                cases v135
                                · refine Ops.seg' 6 22 (by kernel_rfl) ?_
                                  refine Ops.st ⟨(.v (.str a0)) :: q1 ((dB false) :: (dI v88) :: (.v (.int .u8 v98)) :: (dB v104) :: q9 ((dI ((a0.size : Int))) :: (dI v88) :: (dB (decide (v88 < (a0.size : Int)))) :: (dI v88) :: (.v (.str a0)) :: (dI v88) :: (.v (.int .u8 v98)) :: (.v (.int .u8 v98)) :: (dB v103) :: (dB v103) :: d101 :: d102 :: (dB v104) :: (dB v104) :: (dB true) :: (dB true) :: (dI v88) :: (dB false) :: (dB false) :: (.v (.int .u8 v98)) :: (dB true) :: (dB true) :: (.v (.int .u8 v98)) :: (dB true) :: (dB true) :: (dB true) :: (.v (.int .u8 v98)) :: (dB false) :: (dB false) :: (.v (.int .u8 v98)) :: (dB (decide (v98 > 57))) :: (dB (decide (v98 > 57))) :: (dB (decide (v98 > 57))) :: (dB (decide (v98 > 57))) :: (dB (decide (v98 > 57))) :: q1 [])), []⟩ (by kernel_rfl) ?_
                                  exact J39j128 _ _ _ _ _ _ _ _ _ _ _ _ _ _ _ _ _ _ _ _ h
                                · refine Ops.seg' 6 22 (by kernel_rfl) ?_
                                  refine Ops.st ⟨(.v (.str a0)) :: q1 ((dB false) :: (dI v88) :: (.v (.int .u8 v98)) :: (dB v104) :: q9 ((dI ((a0.size : Int))) :: (dI v88) :: (dB (decide (v88 < (a0.size : Int)))) :: (dI v88) :: (.v (.str a0)) :: (dI v88) :: (.v (.int .u8 v98)) :: (.v (.int .u8 v98)) :: (dB v103) :: (dB v103) :: d101 :: d102 :: (dB v104) :: (dB v104) :: (dB true) :: (dB true) :: (dI v88) :: (dB false) :: (dB false) :: (.v (.int .u8 v98)) :: (dB true) :: (dB true) :: (.v (.int .u8 v98)) :: (dB true) :: (dB true) :: (dB true) :: (.v (.int .u8 v98)) :: (dB true) :: (dB true) :: u2 ((dB true) :: (dB true) :: (dB true) :: (dB true) :: q1 []))), []⟩ (by kernel_rfl) ?_
                                  exact J39j128 _ _ _ _ _ _ _ _ _ _ _ _ _ _ _ _ _ _ _ _ h
                              exact Ops.st ⟨(.v (.str a0)) :: q1 ((dB false) :: (dI v88) :: (.v (.int .u8 v98)) :: (dB v104) :: q9 ((dI ((a0.size : Int))) :: (dI v88) :: (dB (decide (v88 < (a0.size : Int)))) :: (dI v88) :: (.v (.str a0)) :: (dI v88) :: (.v (.int .u8 v98)) :: (.v (.int .u8 v98)) :: (dB v103) :: (dB v103) :: d101 :: d102 :: (dB v104) :: (dB v104) :: (dB true) :: (dB true) :: (dI v88) :: (dB false) :: (dB false) :: (.v (.int .u8 v98)) :: (dB true) :: (dB true) :: (.v (.int .u8 v98)) :: (dB true) :: (dB true) :: (dB true) :: (.v (.int .u8 v98)) :: (dB ((decide (v98 < 48)))) :: (dB ((decide (v98 < 48)))) :: q7 [])), []⟩ (by kernel_rfl) (G39g136 (decide (v98 < 48)) h)
                          exact Ops.st ⟨(.v (.str a0)) :: q1 ((dB false) :: (dI v88) :: (.v (.int .u8 v98)) :: (dB v104) :: q9 ((dI ((a0.size : Int))) :: (dI v88) :: (dB (decide (v88 < (a0.size : Int)))) :: (dI v88) :: (.v (.str a0)) :: (dI v88) :: (.v (.int .u8 v98)) :: (.v (.int .u8 v98)) :: (dB v103) :: (dB v103) :: d101 :: d102 :: (dB v104) :: (dB v104) :: (dB true) :: (dB true) :: (dI v88) :: (dB false) :: (dB false) :: (.v (.int .u8 v98)) :: (dB true) :: (dB true) :: (.v (.int .u8 v98)) :: (dB ((v98 != 45))) :: (dB ((v98 != 45))) :: (dB ((v98 != 45))) :: q10 [])), []⟩ (by kernel_rfl) (G39g134 (v98 != 45) h)
                      exact Ops.st ⟨(.v (.str a0)) :: q1 ((dB false) :: (dI v88) :: (.v (.int .u8 v98)) :: (dB v104) :: q9 ((dI ((a0.size : Int))) :: (dI v88) :: (dB (decide (v88 < (a0.size : Int)))) :: (dI v88) :: (.v (.str a0)) :: (dI v88) :: (.v (.int .u8 v98)) :: (.v (.int .u8 v98)) :: (dB v103) :: (dB v103) :: d101 :: d102 :: (dB v104) :: (dB v104) :: (dB true) :: (dB true) :: (dI v88) :: (dB false) :: (dB false) :: (.v (.int .u8 v98)) :: (dB ((v98 != 95))) :: (dB ((v98 != 95))) :: q14 [])), []⟩ (by kernel_rfl) (G39g132 (v98 != 95) h)
                    · refine Ops.seg' 16 22 (by kernel_rfl) ?_
                      refine Ops.st ⟨(.v (.str a0)) :: q1 ((dB false) :: (dI v88) :: (.v (.int .u8 v98)) :: (dB v104) :: q9 ((dI ((a0.size : Int))) :: (dI v88) :: (dB (decide (v88 < (a0.size : Int)))) :: (dI v88) :: (.v (.str a0)) :: (dI v88) :: (.v (.int .u8 v98)) :: (.v (.int .u8 v98)) :: (dB v103) :: (dB v103) :: d101 :: d102 :: (dB v104) :: (dB v104) :: (dB true) :: (dB true) :: (dI v88) :: (dB true) :: (dB true) :: u14 ((dB true) :: (dB true) :: q1 []))), []⟩ (by kernel_rfl) ?_
                      exact J39j128 _ _ _ _ _ _ _ _ _ _ _ _ _ _ _ _ _ _ _ _ h
                  exact Ops.st ⟨(.v (.str a0)) :: q1 ((dB false) :: (dI v88) :: (.v (.int .u8 v98)) :: (dB v104) :: q9 ((dI ((a0.size : Int))) :: (dI v88) :: (dB (decide (v88 < (a0.size : Int)))) :: (dI v88) :: (.v (.str a0)) :: (dI v88) :: (.v (.int .u8 v98)) :: (.v (.int .u8 v98)) :: (dB v103) :: (dB v103) :: d101 :: d102 :: (dB v104) :: (dB v104) :: (dB true) :: (dB true) :: (dI v88) :: (dB ((v88 == 0))) :: (dB ((v88 == 0))) :: q17 [])), []⟩ (by kernel_rfl) (G39g130 (v88 == 0) h)
              exact Ops.st ⟨(.v (.str a0)) :: q1 ((dB false) :: (dI v88) :: (.v (.int .u8 v98)) :: (dB v104) :: q9 ((dI ((a0.size : Int))) :: (dI v88) :: (dB (decide (v88 < (a0.size : Int)))) :: (dI v88) :: (.v (.str a0)) :: (dI v88) :: (.v (.int .u8 v98)) :: (.v (.int .u8 v98)) :: (dB v103) :: (dB v103) :: d101 :: d102 :: (dB v104) :: (dB v104) :: (dB ((!v104))) :: (dB ((!v104))) :: q20 [])), []⟩ (by kernel_rfl) (G39g107 (!v104) h)
            have G39g100 : ∀ v99 : Bool, f39_r2 m v88 v98 ((v99 && (decide (v98 ≤ 122)))) = some sx96 → Ops (X39 n) (opl (cL (cR (cR (cL (cL (cR (cR (cL (cL (cR (cL (cR (cR C39)))))))))))))) 3 ⟨(.v (.str a0)) :: q1 ((dB false) :: (dI v88) :: (.v (.int .u8 v98)) :: q10 ((dI ((a0.size : Int))) :: (dI v88) :: (dB (decide (v88 < (a0.size : Int)))) :: (dI v88) :: (.v (.str a0)) :: (dI v88) :: (.v (.int .u8 v98)) :: (.v (.int .u8 v98)) :: (dB v99) :: (dB v99) :: q26 [])), []⟩ ((seqQ (X39 n) (cR (cR (cR (cL (cL (cR (cR (cL (cL (cR (cL (cR (cR C39))))))))))))) (blkQ (X39 n) 1 [0, 2, 15, 16] 0 (seqQ (X39 n) (cR (cR (cR (cL (cL (cR (cL (cR (cR C39))))))))) (lpQ (X39 n) [0, 2, 15, 16] 0 (cL (cL (cR (cL (cR (cR C39)))))) nx91 (blkQ (X39 n) 0 [2] 0 (seqQ (X39 n) (cR (cR (cR C39))) (fnQ (X39 n).E.T (resOf Proofs.Tryd.prog 39) (eB o)))))))) .normal) := by
              intro v99 h
              cases v99
              · refine Ops.seg' 3 6 (by kernel_rfl) ?_
                refine Ops.st ⟨(.v (.str a0)) :: q1 ((dB false) :: (dI v88) :: (.v (.int .u8 v98)) :: q10 ((dI ((a0.size : Int))) :: (dI v88) :: (dB (decide (v88 < (a0.size : Int)))) :: (dI v88) :: (.v (.str a0)) :: (dI v88) :: (.v (.int .u8 v98)) :: (.v (.int .u8 v98)) :: (dB false) :: (dB false) :: u2 ((dB false) :: q23 []))), []⟩ (by kernel_rfl) ?_
                exact J39j105 _ _ _ _ h
              · refine Ops.seg' 3 6 (by kernel_rfl) ?_
                refine Ops.st ⟨(.v (.str a0)) :: q1 ((dB false) :: (dI v88) :: (.v (.int .u8 v98)) :: q10 ((dI ((a0.size : Int))) :: (dI v88) :: (dB (decide (v88 < (a0.size : Int)))) :: (dI v88) :: (.v (.str a0)) :: (dI v88) :: (.v (.int .u8 v98)) :: (.v (.int .u8 v98)) :: (dB true) :: (dB true) :: (.v (.int .u8 v98)) :: (dB (decide (v98 ≤ 122))) :: (dB (decide (v98 ≤ 122))) :: q23 [])), []⟩ (by kernel_rfl) ?_
                exact J39j105 _ _ _ _ h
            exact Ops.st ⟨(.v (.str a0)) :: q1 ((dB false) :: (dI v88) :: (.v (.int .u8 v98)) :: q10 ((dI ((a0.size : Int))) :: (dI v88) :: (dB (decide (v88 < (a0.size : Int)))) :: (dI v88) :: (.v (.str a0)) :: (dI v88) :: (.v (.int .u8 v98)) :: (.v (.int .u8 v98)) :: (dB ((decide (v98 ≥ 97)))) :: (dB ((decide (v98 ≥ 97)))) :: q26 [])), []⟩ (by kernel_rfl) (G39g100 (decide (v98 ≥ 97)) h)
          · refine Wp.exit (id := 0) (by kernel_rfl) ?_
            refine sqQ.x ?_
            refine seqQ.x ?_
            cases h
            refine lpQ.x ?_
            refine blkQ.x ⟨(.v (.str a0)) :: q1 ((dB false) :: q12 ((dI ((a0.size : Int))) :: (dI v88) :: q34 [])), []⟩ (by kernel_rfl) ?_
            exact hxx94 v88  hsx97
      refine Wp.loop' [0, 2, 15, 16] 0 (by kernel_rfl) ⟨(.v (.str a0)) :: q1 ((dB false) :: q12 ((dI ((a0.size : Int))) :: (dI 0) :: q34 [])), []⟩ (by kernel_rfl) ?_
      rcases brk_some h with ⟨r139, er139, h⟩ | ⟨y138, ey138, h⟩
      · refine hLx137 _ 0  _ er139 n (by omega) (fun r er σ hσ => ?_) (fun y  ey => by cases ey)
        cases er
        refine seqQ.r ?_
        exact fnQ.r' (X39 n) (fun z => (eB z)) h hσ
      · refine hLx137 _ 0  _ ey138 n (by omega) (fun r er => by cases er) (fun y  ey => ?_)
        cases ey
        refine seqQ.n ?_
        refine Wp.seq' (by kernel_rfl) ?_
        refine Wp.region (by kernel_rfl) ?_
        refine Ops.seg' 1 1 (by kernel_rfl) ?_
        refine Ops.done (by kernel_rfl) ?_
        refine seqQ.n ?_
        refine Wp.ret (by kernel_rfl) ?_
        exact fnQ.r' (X39 n) (fun z => (eB z)) h (RetOk.mk' (dB true) (by kernel_rfl) (by kernel_rfl))
  have G39g2 : ∀ v1 : Bool, f39_r4 m a0 ((v1 || (decide ((a0.size : Int) > 30)))) = some o → Ops (X39 n) (opl (cL (cL (cR C39)))) 4 ⟨(.v (.str a0)) :: u1 ((dB false) :: u3 ((.v (.str a0)) :: (dI ((a0.size : Int))) :: (dB v1) :: (dB v1) :: u40 (u1 []))), []⟩ ((seqQ (X39 n) (cR (cL (cR C39))) (seqQ (X39 n) (cR (cR C39)) (fnQ (X39 n).E.T (resOf Proofs.Tryd.prog 39) (eB o)))) .normal) := by
    intro v1 h
    cases v1
    · refine Ops.seg' 4 8 (by kernel_rfl) ?_
      refine Ops.st ⟨(.v (.str a0)) :: u1 ((dB false) :: u3 ((.v (.str a0)) :: (dI ((a0.size : Int))) :: (dB false) :: (dB false) :: (.v (.str a0)) :: (dI ((a0.size : Int))) :: (dB (decide ((a0.size : Int) > 30))) :: (dB (decide ((a0.size : Int) > 30))) :: u37 [])), []⟩ (by kernel_rfl) ?_
      exact J39j8 _ _ _ _ _ h
    · refine Ops.seg' 4 8 (by kernel_rfl) ?_
      refine Ops.st ⟨(.v (.str a0)) :: u1 ((dB false) :: u3 ((.v (.str a0)) :: (dI ((a0.size : Int))) :: (dB true) :: (dB true) :: u3 ((dB true) :: u37 []))), []⟩ (by kernel_rfl) ?_
      exact J39j8 _ _ _ _ _ h
  exact Ops.st ⟨(.v (.str a0)) :: u1 ((dB false) :: u3 ((.v (.str a0)) :: (dI ((a0.size : Int))) :: (dB ((decide ((a0.size : Int) < 1)))) :: (dB ((decide ((a0.size : Int) < 1)))) :: u40 (u1 []))), []⟩ (by kernel_rfl) (G39g2 (decide ((a0.size : Int) < 1)) h)

/-! ### 33 glosswright/paradigm.fault -/
def f33 (m : Nat) (a0 : Int) (a1 : Int) : Option S27 :=
  some ((⟨a0, a1⟩ : S27))
noncomputable abbrev X33 (n : Nat) : Cx := cxOf Proofs.Tryd.prog E 33 n
noncomputable def C33 : Code := bodyOf Proofs.Tryd.prog 33
theorem ok33 (m : Nat) (a0 : Int) (a1 : Int) (o : S27) (h : f33 m a0 a1 = some o) (n : Nat) (hn : m + 1 ≤ n) : Fn Proofs.Tryd.prog E n 33 [.v (eI a0), .v (eI a1)] (e27 o) := by
  obtain ⟨n, rfl⟩ : ∃ q, n = q + 1 := ⟨n - 1, by omega⟩
  unfold f33 at h
  refine Fn.of (by kernel_rfl) (by kernel_rfl) (by kernel_rfl) ⟨(dI a0) :: (dI a1) :: u6 [], []⟩ (by kernel_rfl) ?_
  refine Wp.seq' (by kernel_rfl) ?_
  refine Wp.region (by kernel_rfl) ?_
  refine Ops.seg' 1 1 (by kernel_rfl) ?_
  refine Ops.done (by kernel_rfl) ?_
  refine seqQ.n ?_
  refine Wp.seq' (by kernel_rfl) ?_
  refine Wp.region (by kernel_rfl) ?_
  refine Ops.seg' 4 4 (by kernel_rfl) ?_
  refine Ops.done (by kernel_rfl) ?_
  refine seqQ.n ?_
  refine Wp.ret (by kernel_rfl) ?_
  exact fnQ.r' (X33 n) (fun z => (e27 z)) h (RetOk.mk' (.v (.agg [(vI a0), (vI a1)])) (by kernel_rfl) (by kernel_rfl))

/-! ### 40 glosswright/paradigm.tags -/
def f40_B1 (m : Nat) (a0 : (List ByteArray)) (v6 : Int) : Option (Stp Int (Int)) :=
  cnd (decide (v6 < (a0.length : Int)))
  (bnd (idx a0 v6) fun v16 =>
  bnd (f39 m v16) fun v17 =>
  cnd (!v17)
  (some (.ret 10))
  (some (.nxt (w64 (v6 + 1)))))
  (some (.brk v6))
def f40 (m : Nat) (a0 : (List ByteArray)) : Option Int :=
  cnd (decide ((a0.length : Int) > 4))
  (some 2)
  (brk (iter (fun (y : Int) => f40_B1 m a0 y) m 0) some fun y19 =>
  some 0)
noncomputable abbrev X40 (n : Nat) : Cx := cxOf Proofs.Tryd.prog E 40 n
noncomputable def C40 : Code := bodyOf Proofs.Tryd.prog 40
theorem ok40 (m : Nat) (a0 : (List ByteArray)) (o : Int) (h : f40 m a0 = some o) (n : Nat) (hn : m + 2 ≤ n) : Fn Proofs.Tryd.prog E n 40 [.v ((eL eS) a0)] (eI o) := by
  obtain ⟨n, rfl⟩ : ∃ q, n = q + 1 := ⟨n - 1, by omega⟩
  unfold f40 at h
  refine Fn.of (by kernel_rfl) (by kernel_rfl) (by kernel_rfl) ⟨(dP eS a0) :: u17 [], []⟩ (by kernel_rfl) ?_
  refine Wp.seq' (by kernel_rfl) ?_
  refine Wp.region (by kernel_rfl) ?_
  refine Ops.seg' 1 1 (by kernel_rfl) ?_
  refine Ops.done (by kernel_rfl) ?_
  refine seqQ.n ?_
  refine Wp.seq' (by kernel_rfl) ?_
  refine Wp.seq' (by kernel_rfl) ?_
  refine Wp.region (by kernel_rfl) ?_
  refine Ops.seg' 1 1 (by kernel_rfl) ?_
  refine Ops.one' 2 (fun h0 e0 => (len_r (T := T) h0 36 9 .plain eS a0 (by kernel_rfl))) (by kernel_rfl) (by kernel_rfl) ?_
  refine Ops.seg' 1 3 (by kernel_rfl) ?_
  refine Ops.done (by kernel_rfl) ?_
  refine seqQ.n ?_
  refine Wp.cnd h [0, 2] 0 (by kernel_rfl) (fun h => ?_) (fun h => ?_)
  · refine Wp.seq' (by kernel_rfl) ?_
    refine Wp.region (by kernel_rfl) ?_
    refine Ops.seg' 1 1 (by kernel_rfl) ?_
    refine Ops.done (by kernel_rfl) ?_
    refine seqQ.n ?_
    refine Wp.ret (by kernel_rfl) ?_
    refine sqQ.r ?_
    refine seqQ.r ?_
    exact fnQ.r' (X40 n) (fun z => (eI z)) h (RetOk.mk' (dI 2) (by kernel_rfl) (by kernel_rfl))
  · refine Wp.skip (by kernel_rfl) ?_
    refine sqQ.n' ?_
    refine seqQ.n ?_
    refine Wp.seq' (by kernel_rfl) ?_
    refine Wp.seq' (by kernel_rfl) ?_
    refine Wp.region (by kernel_rfl) ?_
    refine Ops.seg' 1 1 (by kernel_rfl) ?_
    refine Ops.one' 2 (fun h0 e0 => (len_r (T := T) h0 36 9 .plain eS a0 (by kernel_rfl))) (by kernel_rfl) (by kernel_rfl) ?_
    refine Ops.seg' 1 3 (by kernel_rfl) ?_
    refine Ops.done (by kernel_rfl) ?_
    refine seqQ.n ?_
    refine Wp.block' 0 [2] 0 (by kernel_rfl) ?_
    have hLx18 : ∀ (kx8 : Nat) (v6 : Int)  (ox7 : Int ⊕ (Int)), iter (fun (y : Int) => f40_B1 m a0 y) kx8 v6 = some ox7 → ∀ nx9, kx8 ≤ nx9 → (∀ r, ox7 = .inl r → ∀ σ, RetOk (X40 n) (resOf Proofs.Tryd.prog 40) (eI r) σ → (seqQ (X40 n) (cR (cR (cR C40))) (fnQ (X40 n).E.T (resOf Proofs.Tryd.prog 40) (eI o))) .ret σ) → (∀ (y : Int) , ox7 = .inr y → (seqQ (X40 n) (cR (cR (cR C40))) (fnQ (X40 n).E.T (resOf Proofs.Tryd.prog 40) (eI o))) .normal ⟨q2 ((dI 0) :: q5 ((dP eS a0) :: (dI ((a0.length : Int))) :: (dI y) :: q7 [])), []⟩) → Lp (X40 n) [2, 8, 9, 10] 0 (cL (cL (cR (cL (cR (cR C40)))))) nx9 ⟨q2 ((dI 0) :: q5 ((dP eS a0) :: (dI ((a0.length : Int))) :: (dI v6) :: q7 [])), []⟩ (blkQ (X40 n) 0 [2] 0 (seqQ (X40 n) (cR (cR (cR C40))) (fnQ (X40 n).E.T (resOf Proofs.Tryd.prog 40) (eI o)))) := by
      intro kx8
      induction kx8 with
      | zero => intro v6  ox7 h; exact (iter_zero h).elim
      | succ kx8 ihx10 =>
        intro v6  ox7 h nx9 hnx13 hrx11 hxx12
        obtain ⟨nx9, rfl⟩ : ∃ q, nx9 = q + 1 := ⟨nx9 - 1, by omega⟩
        obtain ⟨sx14, h, hsx15⟩ := iter_some h
        have h : f40_B1 m a0 v6 = some sx14 := h
        unfold f40_B1 at h
        refine Lp.succ ?_
        refine Wp.seq' (by kernel_rfl) ?_
        refine Wp.region (by kernel_rfl) ?_
        refine Ops.seg' 1 1 (by kernel_rfl) ?_
        refine Ops.done (by kernel_rfl) ?_
        refine seqQ.n ?_
        refine Wp.seq' (by kernel_rfl) ?_
        refine Wp.cnd h [2, 8, 9, 10] 0 (by kernel_rfl) (fun h => ?_) (fun h => ?_)
        · refine Wp.skip (by kernel_rfl) ?_
          refine sqQ.n' ?_
          refine seqQ.n ?_
          refine Wp.seq' (by kernel_rfl) ?_
          refine Wp.block' 1 [2, 8, 9, 10] 0 (by kernel_rfl) ?_
          refine Wp.seq' (by kernel_rfl) ?_
          refine Wp.region (by kernel_rfl) ?_
          obtain ⟨v16, ev16, h⟩ := bnd_some h
          refine Ops.one' 1 (fun h0 e0 => (ix_r (T := T) h0 36 9 1 .plain eS a0 v6 v16 ev16 (by kernel_rfl) (by kernel_rfl) (fun _ => rfl))) (by kernel_rfl) (by kernel_rfl) ?_
          refine Ops.seg' 2 3 (by kernel_rfl) ?_
          refine Ops.done (by kernel_rfl) ?_
          refine seqQ.n ?_
          refine Wp.seq' (by kernel_rfl) ?_
          refine Wp.region (by kernel_rfl) ?_
          refine Ops.seg' 1 1 (by kernel_rfl) ?_
          obtain ⟨v17, ev17, h⟩ := bnd_some h
          refine Ops.one' 2 (fun h0 e0 => (call_ok (E' := E) (h := h0) (by kernel_rfl) (Args.v (.str v16) (eS v16) (by kernel_rfl) Args.nil) (ok39 m v16 v17 ev17 n (by omega)))) (by kernel_rfl) (by kernel_rfl) ?_
          refine Ops.seg' 1 3 (by kernel_rfl) ?_
          refine Ops.done (by kernel_rfl) ?_
          refine seqQ.n ?_
          refine Wp.cnd h [2, 8, 9, 10] 0 (by kernel_rfl) (fun h => ?_) (fun h => ?_)
          · refine Wp.seq' (by kernel_rfl) ?_
            refine Wp.region (by kernel_rfl) ?_
            refine Ops.seg' 1 1 (by kernel_rfl) ?_
            refine Ops.done (by kernel_rfl) ?_
            refine seqQ.n ?_
            refine Wp.ret (by kernel_rfl) ?_
            refine sqQ.r ?_
            refine blkQ.r ?_
            refine seqQ.r ?_
            cases h
            refine lpQ.r ?_
            refine blkQ.r ?_
            exact hrx11 _ hsx15 _ (RetOk.forget [2, 8, 9, 10] (by kernel_rfl) (RetOk.mk' (dI 10) (by kernel_rfl) (by kernel_rfl)))
          · refine Wp.skip (by kernel_rfl) ?_
            refine sqQ.n' ?_
            refine blkQ.n' ?_
            refine seqQ.n ?_
            refine Wp.region (by kernel_rfl) ?_
            refine Ops.seg' 2 2 (by kernel_rfl) ?_
            refine Ops.done (by kernel_rfl) ?_
            refine lpQ.n ⟨q2 ((dI 0) :: q5 ((dP eS a0) :: (dI ((a0.length : Int))) :: (dI (w64 (v6 + 1))) :: q7 [])), []⟩ (by kernel_rfl) ?_
            cases h
            exact ihx10 (w64 (v6 + 1))  _ hsx15 _ (by omega) hrx11 hxx12
        · refine Wp.exit (id := 0) (by kernel_rfl) ?_
          refine sqQ.x ?_
          refine seqQ.x ?_
          cases h
          refine lpQ.x ?_
          refine blkQ.x ⟨q2 ((dI 0) :: q5 ((dP eS a0) :: (dI ((a0.length : Int))) :: (dI v6) :: q7 [])), []⟩ (by kernel_rfl) ?_
          exact hxx12 v6  hsx15
    refine Wp.loop' [2, 8, 9, 10] 0 (by kernel_rfl) ⟨q2 ((dI 0) :: q5 ((dP eS a0) :: (dI ((a0.length : Int))) :: (dI 0) :: q7 [])), []⟩ (by kernel_rfl) ?_
    rcases brk_some h with ⟨r20, er20, h⟩ | ⟨y19, ey19, h⟩
    · refine hLx18 _ 0  _ er20 n (by omega) (fun r er σ hσ => ?_) (fun y  ey => by cases ey)
      cases er
      refine seqQ.r ?_
      exact fnQ.r' (X40 n) (fun z => (eI z)) h hσ
    · refine hLx18 _ 0  _ ey19 n (by omega) (fun r er => by cases er) (fun y  ey => ?_)
      cases ey
      refine seqQ.n ?_
      refine Wp.seq' (by kernel_rfl) ?_
      refine Wp.region (by kernel_rfl) ?_
      refine Ops.seg' 1 1 (by kernel_rfl) ?_
      refine Ops.done (by kernel_rfl) ?_
      refine seqQ.n ?_
      refine Wp.ret (by kernel_rfl) ?_
      exact fnQ.r' (X40 n) (fun z => (eI z)) h (RetOk.mk' (dI 0) (by kernel_rfl) (by kernel_rfl))

/-! ### 80 glosswright/letters.fault -/
def f80 (m : Nat) (a0 : Int) (a1 : Int) : Option S27 :=
  some ((⟨a0, a1⟩ : S27))
noncomputable abbrev X80 (n : Nat) : Cx := cxOf Proofs.Tryd.prog E 80 n
noncomputable def C80 : Code := bodyOf Proofs.Tryd.prog 80
theorem ok80 (m : Nat) (a0 : Int) (a1 : Int) (o : S27) (h : f80 m a0 a1 = some o) (n : Nat) (hn : m + 1 ≤ n) : Fn Proofs.Tryd.prog E n 80 [.v (eI a0), .v (eI a1)] (e27 o) := by
  obtain ⟨n, rfl⟩ : ∃ q, n = q + 1 := ⟨n - 1, by omega⟩
  unfold f80 at h
  refine Fn.of (by kernel_rfl) (by kernel_rfl) (by kernel_rfl) ⟨(dI a0) :: (dI a1) :: u6 [], []⟩ (by kernel_rfl) ?_
  refine Wp.seq' (by kernel_rfl) ?_
  refine Wp.region (by kernel_rfl) ?_
  refine Ops.seg' 1 1 (by kernel_rfl) ?_
  refine Ops.done (by kernel_rfl) ?_
  refine seqQ.n ?_
  refine Wp.seq' (by kernel_rfl) ?_
  refine Wp.region (by kernel_rfl) ?_
  refine Ops.seg' 4 4 (by kernel_rfl) ?_
  refine Ops.done (by kernel_rfl) ?_
  refine seqQ.n ?_
  refine Wp.ret (by kernel_rfl) ?_
  exact fnQ.r' (X80 n) (fun z => (e27 z)) h (RetOk.mk' (.v (.agg [(vI a0), (vI a1)])) (by kernel_rfl) (by kernel_rfl))

/-! ### 81 unicode/utf8.DecodeRuneInString -/
def f81 (m : Nat) (a0 : ByteArray) : Option (Int × Int) := some (((Lib.decodeGo a0).1 : Int), ((Lib.decodeGo a0).2 : Int))
theorem ok81 (m : Nat) (a0 : ByteArray) (o : (Int × Int)) (h : f81 m a0 = some o) (n : Nat) (hn : m + 1 ≤ n) : Fn Proofs.Tryd.prog E n 81 [.v (eS a0)] (.tuple [(eK .i32) o.1, eI o.2]) := by
  obtain ⟨n, rfl⟩ : ∃ q, n = q + 1 := ⟨n - 1, by omega⟩
  refine ora_fn (xs := [eS a0]) (by kernel_rfl) (by kernel_rfl) (by kernel_rfl) (F := decodeF) ?_ rfl
  cases h
  rfl

/-! ### 60 glosswright/letters.Decode -/
def f60_r1 (m : Nat) (v26 : (List Int)) (v27 : Int) (v38 : (Int × Int)) (v44 : Bool) : Option (Stp (((List Int) × S27)) ((List Int) × Int)) :=
  cnd v44
  (bnd (f80 m 5 v27) fun v46 =>
  some (.ret (([], v46))))
  (bnd (app 8 v26 ([w64 v38.1])) fun v47 =>
  some (.nxt (v47, w64 (v27 + v38.2))))
def f60_B2 (m : Nat) (a0 : ByteArray) (v26 : (List Int)) (v27 : Int) : Option (Stp (((List Int) × S27)) ((List Int) × Int)) :=
  cnd (decide (v27 < (a0.size : Int)))
  (bnd (ssub a0 v27 (a0.size : Int)) fun v37 =>
  bnd (f81 m v37) fun v38 =>
  f60_r1 m v26 v27 v38 (((v38.1 == 65533) && (decide (v38.2 ≤ 1)))))
  (some (.brk (v26, v27)))
def f60 (m : Nat) (a0 : ByteArray) : Option ((List Int) × S27) :=
  cnd (decide ((a0.size : Int) > 4000))
  (bnd (f80 m 1 ((-1))) fun v1 =>
  some (([], v1)))
  (brk (iter (fun (y : (List Int) × Int) => f60_B2 m a0 y.1 y.2) m ([], 0)) some fun y49 =>
  some ((y49.1, (⟨0, 0⟩ : S27))))
noncomputable abbrev X60 (n : Nat) : Cx := cxOf Proofs.Tryd.prog E 60 n
noncomputable def C60 : Code := bodyOf Proofs.Tryd.prog 60
theorem ok60 (m : Nat) (a0 : ByteArray) (o : ((List Int) × S27)) (h : f60 m a0 = some o) (n : Nat) (hn : m + 2 ≤ n) : Fn Proofs.Tryd.prog E n 60 [.v (eS a0)] (.tuple [(eL eI) o.1, e27 o.2]) := by
  obtain ⟨n, rfl⟩ : ∃ q, n = q + 1 := ⟨n - 1, by omega⟩
  unfold f60 at h
  refine Fn.of (by kernel_rfl) (by kernel_rfl) (by kernel_rfl) ⟨(.v (.str a0)) :: u40 [], []⟩ (by kernel_rfl) ?_
  refine Wp.seq' (by kernel_rfl) ?_
  refine Wp.region (by kernel_rfl) ?_
  refine Ops.seg' 2 2 (by kernel_rfl) ?_
  refine Ops.done (by kernel_rfl) ?_
  refine seqQ.n ?_
  refine Wp.seq' (by kernel_rfl) ?_
  refine Wp.seq' (by kernel_rfl) ?_
  refine Wp.region (by kernel_rfl) ?_
  refine Ops.seg' 3 3 (by kernel_rfl) ?_
  refine Ops.done (by kernel_rfl) ?_
  refine seqQ.n ?_
  refine Wp.cnd h [0, 2, 3] 1 (by kernel_rfl) (fun h => ?_) (fun h => ?_)
  · refine Wp.seq' (by kernel_rfl) ?_
    refine Wp.region (by kernel_rfl) ?_
    obtain ⟨v1, ev1, h⟩ := bnd_some h
    refine Ops.one' 1 (fun h0 e0 => (call_ok (E' := E) (h := h0) (by kernel_rfl) (Args.v (vI 1) (eI 1) (by kernel_rfl) (Args.v (vI ((-1))) (eI ((-1))) (by kernel_rfl) Args.nil)) (ok80 m 1 ((-1)) v1 ev1 n (by omega)))) (by kernel_rfl) (by kernel_rfl) ?_
    refine Ops.seg' 2 3 (by kernel_rfl) ?_
    refine Ops.done (by kernel_rfl) ?_
    refine seqQ.n ?_
    refine Wp.ret (by kernel_rfl) ?_
    refine sqQ.r ?_
    refine seqQ.r ?_
    exact fnQ.r' (X60 n) (fun z => (.tuple [(eL eI) z.1, e27 z.2])) h (RetOk.mk' (.v (.tuple [(.sl .nil (List.map eI [])), (.agg [(vI v1.fCode), (vI v1.fIndex)])])) (by kernel_rfl) (by kernel_rfl))
  · refine Wp.skip (by kernel_rfl) ?_
    refine sqQ.n' ?_
    refine seqQ.n ?_
    refine Wp.seq' (by kernel_rfl) ?_
    refine Wp.region (by kernel_rfl) ?_
    refine Ops.seg' 1 1 (by kernel_rfl) ?_
    refine Ops.done (by kernel_rfl) ?_
    refine seqQ.n ?_
    refine Wp.seq' (by kernel_rfl) ?_
    refine Wp.seq' (by kernel_rfl) ?_
    refine Wp.region (by kernel_rfl) ?_
    refine Ops.seg' 1 1 (by kernel_rfl) ?_
    refine Ops.done (by kernel_rfl) ?_
    refine seqQ.n ?_
    refine Wp.block' 0 [2, 3, 4] 2 (by kernel_rfl) ?_
    have hLx48 : ∀ (kx29 : Nat) (v26 : (List Int)) (v27 : Int)  (ox28 : ((List Int) × S27) ⊕ ((List Int) × Int)), iter (fun (y : (List Int) × Int) => f60_B2 m a0 y.1 y.2) kx29 (v26, v27) = some ox28 → ∀ nx30, kx29 ≤ nx30 → (∀ r, ox28 = .inl r → ∀ σ, RetOk (X60 n) (resOf Proofs.Tryd.prog 60) (.tuple [(eL eI) r.1, e27 r.2]) σ → (seqQ (X60 n) (cR (cR (cR (cR C60)))) (fnQ (X60 n).E.T (resOf Proofs.Tryd.prog 60) (.tuple [(eL eI) o.1, e27 o.2]))) .ret σ) → (∀ (y : (List Int) × Int) , ox28 = .inr y → (seqQ (X60 n) (cR (cR (cR (cR C60)))) (fnQ (X60 n).E.T (resOf Proofs.Tryd.prog 60) (.tuple [(eL eI) o.1, e27 o.2]))) .normal ⟨q2 ((.v (.sl .nil (List.map eI []))) :: (.ptr 0 0) :: (appD 2 (List.map eI y.1)) :: q36 []), [(.cells [(dI 0), (dI 0)]), .dead, (appO 1 (List.map eI y.1))]⟩) → Lp (X60 n) [0, 2, 3, 4, 5] 2 (cL (cL (cR (cL (cR (cR (cR C60))))))) nx30 ⟨(.v (.str a0)) :: q1 ((.v (.sl .nil (List.map eI []))) :: (.ptr 0 0) :: (appD 2 (List.map eI v26)) :: (dI v27) :: q35 []), [(.cells [(dI 0), (dI 0)]), .dead, (appO 1 (List.map eI v26))]⟩ (blkQ (X60 n) 0 [2, 3, 4] 2 (seqQ (X60 n) (cR (cR (cR (cR C60)))) (fnQ (X60 n).E.T (resOf Proofs.Tryd.prog 60) (.tuple [(eL eI) o.1, e27 o.2])))) := by
      intro kx29
      induction kx29 with
      | zero => intro v26 v27  ox28 h; exact (iter_zero h).elim
      | succ kx29 ihx31 =>
        intro v26 v27  ox28 h nx30 hnx34 hrx32 hxx33
        obtain ⟨nx30, rfl⟩ : ∃ q, nx30 = q + 1 := ⟨nx30 - 1, by omega⟩
        obtain ⟨sx35, h, hsx36⟩ := iter_some h
        have h : f60_B2 m a0 v26 v27 = some sx35 := h
        unfold f60_B2 at h
        refine Lp.succ ?_
        refine Wp.seq' (by kernel_rfl) ?_
        refine Wp.seq' (by kernel_rfl) ?_
        refine Wp.region (by kernel_rfl) ?_
        refine Ops.seg' 4 4 (by kernel_rfl) ?_
        refine Ops.done (by kernel_rfl) ?_
        refine seqQ.n ?_
        refine Wp.cnd h [0, 2, 3, 4, 5] 3 (by kernel_rfl) (fun h => ?_) (fun h => ?_)
        · refine Wp.skip (by kernel_rfl) ?_
          refine sqQ.n ⟨(.v (.str a0)) :: q1 ((.v (.sl .nil (List.map eI []))) :: (.ptr 0 0) :: (appD 3 (List.map eI v26)) :: (dI v27) :: q35 []), [(.cells [(dI 0), (dI 0)]), .dead, .dead, (appO 1 (List.map eI v26))]⟩ (by generalize v26 = z0; cases z0 <;> kernel_rfl) ?_
          refine seqQ.n ?_
          refine Wp.block' 1 [0, 2, 3, 4, 5] 4 (by kernel_rfl) ?_
          refine Wp.seq' (by kernel_rfl) ?_
          refine Wp.region (by kernel_rfl) ?_
          refine Ops.seg' 2 2 (by kernel_rfl) ?_
          obtain ⟨v37, ev37, h⟩ := bnd_some h
          refine Ops.one' 3 (fun h0 e0 => (str_sub (T := T) h0 9 a0 v37 (some v27) none ev37 (by kernel_rfl))) (by kernel_rfl) (by kernel_rfl) ?_
          obtain ⟨v38, ev38, h⟩ := bnd_some h
          refine Ops.one' 4 (fun h0 e0 => (call_ok (E' := E) (h := h0) (by kernel_rfl) (Args.v (.str v37) (eS v37) (by kernel_rfl) Args.nil) (ok81 m v37 v38 ev38 n (by omega)))) (by kernel_rfl) (by kernel_rfl) ?_
          refine Ops.seg' 5 9 (by kernel_rfl) ?_
          refine Ops.done (by kernel_rfl) ?_
          refine seqQ.n ?_
          refine Wp.seq' (by kernel_rfl) ?_
          refine Wp.seq' (by kernel_rfl) ?_
          refine Wp.region (by kernel_rfl) ?_
          refine Ops.seg' 3 3 (by kernel_rfl) ?_
          have J60j45 : ∀ (d41 d42 : D) (v43 : Bool) (v44 : Bool), f60_r1 m v26 v27 v38 v44 = some sx35 → Ops (X60 n) (opl (cL (cL (cR (cL (cR (cL (cL (cR (cL (cR (cR (cR C60))))))))))))) 6 ⟨(.v (.str a0)) :: q1 ((.v (.sl .nil (List.map eI []))) :: (.ptr 0 0) :: (appD 3 (List.map eI v26)) :: (dI v27) :: (.v (.int .i32 v38.1)) :: (dI v38.2) :: q8 ((.v (.tuple [(.int .i32 v38.1), (vI v38.2)])) :: (.v (.str a0)) :: (dI v27) :: (.v (.str v37)) :: (.v (.tuple [(.int .i32 v38.1), (vI v38.2)])) :: (.v (.int .i32 v38.1)) :: (dI v38.2) :: (.v (.int .i32 v38.1)) :: (dB v43) :: (dB v43) :: d41 :: d42 :: (dB v44) :: q12 [])), [(.cells [(dI 0), (dI 0)]), .dead, .dead, (appO 1 (List.map eI v26))]⟩ ((seqQ (X60 n) (cR (cL (cR (cL (cR (cL (cL (cR (cL (cR (cR (cR C60)))))))))))) (seqQ (X60 n) (cR (cR (cL (cR (cL (cL (cR (cL (cR (cR (cR C60))))))))))) (blkQ (X60 n) 1 [0, 2, 3, 4, 5] 4 (lpQ (X60 n) [0, 2, 3, 4, 5] 2 (cL (cL (cR (cL (cR (cR (cR C60))))))) nx30 (blkQ (X60 n) 0 [2, 3, 4] 2 (seqQ (X60 n) (cR (cR (cR (cR C60)))) (fnQ (X60 n).E.T (resOf Proofs.Tryd.prog 60) (.tuple [(eL eI) o.1, e27 o.2])))))))) .normal) := by
            intro d41 d42 v43 v44 h
            unfold f60_r1 at h
            refine Ops.done (by kernel_rfl) ?_
            refine seqQ.n ?_
            refine Wp.cnd h [0, 2, 3, 4, 5, 6, 7] 4 (by kernel_rfl) (fun h => ?_) (fun h => ?_)
            · refine Wp.seq' (by kernel_rfl) ?_
              refine Wp.region (by kernel_rfl) ?_
              refine Ops.seg' 1 1 (by kernel_rfl) ?_
              obtain ⟨v46, ev46, h⟩ := bnd_some h
              refine Ops.one' 2 (fun h0 e0 => (call_ok (E' := E) (h := h0) (by kernel_rfl) (Args.v (vI 5) (eI 5) (by kernel_rfl) (Args.v (vI v27) (eI v27) (by kernel_rfl) Args.nil)) (ok80 m 5 v27 v46 ev46 n (by omega)))) (by kernel_rfl) (by kernel_rfl) ?_
              refine Ops.seg' 2 4 (by kernel_rfl) ?_
              refine Ops.done (by kernel_rfl) ?_
              refine seqQ.n ?_
              refine Wp.ret (by kernel_rfl) ?_
              refine sqQ.r ?_
              refine seqQ.r ?_
              refine blkQ.r ?_
              cases h
              refine lpQ.r ?_
              refine blkQ.r ?_
              exact hrx32 _ hsx36 _ (RetOk.forget [0, 2, 3, 4, 5] (by kernel_rfl) (RetOk.mk' (.v (.tuple [(.sl .nil (List.map eI [])), (.agg [(vI v46.fCode), (vI v46.fIndex)])])) (by kernel_rfl) (by kernel_rfl)))
            · refine Wp.skip (by kernel_rfl) ?_
              refine sqQ.n ⟨(.v (.str a0)) :: q1 ((.v (.sl .nil (List.map eI []))) :: (.ptr 0 0) :: (appD 4 (List.map eI v26)) :: (dI v27) :: (.v (.int .i32 v38.1)) :: (dI v38.2) :: q33 []), [(.cells [(dI 0), (dI 0)]), .dead, .dead, .dead, (appO 1 (List.map eI v26))]⟩ (by generalize v26 = z0; cases z0 <;> kernel_rfl) ?_
              refine seqQ.n ?_
              refine Wp.seq' (by kernel_rfl) ?_
              refine Wp.region (by kernel_rfl) ?_
              refine Ops.seg' 4 4 (by kernel_rfl) ?_
              obtain ⟨v47, ev47, h⟩ := bnd_some h
              refine Ops.one' 5 (fun h0 e0 => (app_r (T := T) (g := .nil) h0 44 3 4 1 ti3 .nonfull eI v26 ([w64 v38.1]) v47 ev47 (by kernel_rfl) (by kernel_rfl) (by kernel_rfl) (by kernel_rfl) (fun _ => rfl) (hq_of e0 (by kernel_rfl)))) (by kernel_rfl) (by kernel_rfl) ?_
              refine Ops.seg' 1 6 (by kernel_rfl) ?_
              refine Ops.done (by kernel_rfl) ?_
              refine seqQ.n ?_
              refine Wp.region (by kernel_rfl) ?_
              refine Ops.seg' 4 4 (by kernel_rfl) ?_
              refine Ops.done (by kernel_rfl) ?_
              refine blkQ.n ⟨(.v (.str a0)) :: q1 ((.v (.sl .nil (List.map eI []))) :: (.ptr 0 0) :: (appD 4 (List.map eI v47)) :: (dI (w64 (v27 + v38.2))) :: q35 []), [(.cells [(dI 0), (dI 0)]), .dead, .dead, .dead, (appO 1 (List.map eI v47))]⟩ (by generalize v47 = z0; cases z0 <;> kernel_rfl) ?_
              refine lpQ.n ⟨(.v (.str a0)) :: q1 ((.v (.sl .nil (List.map eI []))) :: (.ptr 0 0) :: (appD 2 (List.map eI v47)) :: (dI (w64 (v27 + v38.2))) :: q35 []), [(.cells [(dI 0), (dI 0)]), .dead, (appO 1 (List.map eI v47))]⟩ (by generalize v47 = z0; cases z0 <;> kernel_rfl) ?_
              cases h
              exact ihx31 v47 (w64 (v27 + v38.2))  _ hsx36 _ (by omega) hrx32 hxx33
          have G60g40 : ∀ v39 : Bool, f60_r1 m v26 v27 v38 ((v39 && (decide (v38.2 ≤ 1)))) = some sx35 → Ops (X60 n) (opl (cL (cL (cR (cL (cR (cL (cL (cR (cL (cR (cR (cR C60))))))))))))) 3 ⟨(.v (.str a0)) :: q1 ((.v (.sl .nil (List.map eI []))) :: (.ptr 0 0) :: (appD 3 (List.map eI v26)) :: (dI v27) :: (.v (.int .i32 v38.1)) :: (dI v38.2) :: q8 ((.v (.tuple [(.int .i32 v38.1), (vI v38.2)])) :: (.v (.str a0)) :: (dI v27) :: (.v (.str v37)) :: (.v (.tuple [(.int .i32 v38.1), (vI v38.2)])) :: (.v (.int .i32 v38.1)) :: (dI v38.2) :: (.v (.int .i32 v38.1)) :: (dB v39) :: (dB v39) :: q15 [])), [(.cells [(dI 0), (dI 0)]), .dead, .dead, (appO 1 (List.map eI v26))]⟩ ((seqQ (X60 n) (cR (cL (cR (cL (cR (cL (cL (cR (cL (cR (cR (cR C60)))))))))))) (seqQ (X60 n) (cR (cR (cL (cR (cL (cL (cR (cL (cR (cR (cR C60))))))))))) (blkQ (X60 n) 1 [0, 2, 3, 4, 5] 4 (lpQ (X60 n) [0, 2, 3, 4, 5] 2 (cL (cL (cR (cL (cR (cR (cR C60))))))) nx30 (blkQ (X60 n) 0 [2, 3, 4] 2 (seqQ (X60 n) (cR (cR (cR (cR C60)))) (fnQ (X60 n).E.T (resOf Proofs.Tryd.prog 60) (.tuple [(eL eI) o.1, e27 o.2])))))))) .normal) := by
            intro v39 h
            cases v39
            · refine Ops.seg' 3 6 (by kernel_rfl) ?_
              refine Ops.st ⟨(.v (.str a0)) :: q1 ((.v (.sl .nil (List.map eI []))) :: (.ptr 0 0) :: (appD 3 (List.map eI v26)) :: (dI v27) :: (.v (.int .i32 v38.1)) :: (dI v38.2) :: q8 ((.v (.tuple [(.int .i32 v38.1), (vI v38.2)])) :: (.v (.str a0)) :: (dI v27) :: (.v (.str v37)) :: (.v (.tuple [(.int .i32 v38.1), (vI v38.2)])) :: (.v (.int .i32 v38.1)) :: (dI v38.2) :: (.v (.int .i32 v38.1)) :: (dB false) :: (dB false) :: u2 ((dB false) :: q12 []))), [(.cells [(dI 0), (dI 0)]), .dead, .dead, (appO 1 (List.map eI v26))]⟩ (by kernel_rfl) ?_
              exact J60j45 _ _ _ _ h
            · refine Ops.seg' 3 6 (by kernel_rfl) ?_
              refine Ops.st ⟨(.v (.str a0)) :: q1 ((.v (.sl .nil (List.map eI []))) :: (.ptr 0 0) :: (appD 3 (List.map eI v26)) :: (dI v27) :: (.v (.int .i32 v38.1)) :: (dI v38.2) :: q8 ((.v (.tuple [(.int .i32 v38.1), (vI v38.2)])) :: (.v (.str a0)) :: (dI v27) :: (.v (.str v37)) :: (.v (.tuple [(.int .i32 v38.1), (vI v38.2)])) :: (.v (.int .i32 v38.1)) :: (dI v38.2) :: (.v (.int .i32 v38.1)) :: (dB true) :: (dB true) :: (dI v38.2) :: (dB (decide (v38.2 ≤ 1))) :: (dB (decide (v38.2 ≤ 1))) :: q12 [])), [(.cells [(dI 0), (dI 0)]), .dead, .dead, (appO 1 (List.map eI v26))]⟩ (by kernel_rfl) ?_
              exact J60j45 _ _ _ _ h
          exact Ops.st ⟨(.v (.str a0)) :: q1 ((.v (.sl .nil (List.map eI []))) :: (.ptr 0 0) :: (appD 3 (List.map eI v26)) :: (dI v27) :: (.v (.int .i32 v38.1)) :: (dI v38.2) :: q8 ((.v (.tuple [(.int .i32 v38.1), (vI v38.2)])) :: (.v (.str a0)) :: (dI v27) :: (.v (.str v37)) :: (.v (.tuple [(.int .i32 v38.1), (vI v38.2)])) :: (.v (.int .i32 v38.1)) :: (dI v38.2) :: (.v (.int .i32 v38.1)) :: (dB ((v38.1 == 65533))) :: (dB ((v38.1 == 65533))) :: q15 [])), [(.cells [(dI 0), (dI 0)]), .dead, .dead, (appO 1 (List.map eI v26))]⟩ (by kernel_rfl) (G60g40 (v38.1 == 65533) h)
        · refine Wp.exit (id := 0) (by kernel_rfl) ?_
          refine sqQ.x ?_
          refine seqQ.x ?_
          cases h
          refine lpQ.x ?_
          refine blkQ.x ⟨q2 ((.v (.sl .nil (List.map eI []))) :: (.ptr 0 0) :: (appD 2 (List.map eI v26)) :: q36 []), [(.cells [(dI 0), (dI 0)]), .dead, (appO 1 (List.map eI v26))]⟩ (by generalize v26 = z0; cases z0 <;> kernel_rfl) ?_
          exact hxx33 (v26, v27)  hsx36
    refine Wp.loop' [0, 2, 3, 4, 5] 2 (by kernel_rfl) ⟨(.v (.str a0)) :: q1 ((.v (.sl .nil (List.map eI []))) :: (.ptr 0 0) :: (appD 2 (List.map eI [])) :: (dI 0) :: q35 []), [(.cells [(dI 0), (dI 0)]), .dead, .dead]⟩ (by kernel_rfl) ?_
    rcases brk_some h with ⟨r50, er50, h⟩ | ⟨y49, ey49, h⟩
    · refine hLx48 _ [] 0  _ er50 n (by omega) (fun r er σ hσ => ?_) (fun y  ey => by cases ey)
      cases er
      refine seqQ.r ?_
      exact fnQ.r' (X60 n) (fun z => (.tuple [(eL eI) z.1, e27 z.2])) h hσ
    · refine hLx48 _ [] 0  _ ey49 n (by omega) (fun r er => by cases er) (fun y  ey => ?_)
      cases ey
      refine seqQ.n ?_
      refine Wp.seq' (by kernel_rfl) ?_
      refine Wp.region (by kernel_rfl) ?_
      refine Ops.seg' 4 4 (by kernel_rfl) ?_
      refine Ops.done (by kernel_rfl) ?_
      refine seqQ.n ?_
      refine Wp.ret (by kernel_rfl) ?_
      exact fnQ.r' (X60 n) (fun z => (.tuple [(eL eI) z.1, e27 z.2])) h (RetOk.tup [(appD 2 (List.map eI y49.1)), (.v (.agg [(vI 0), (vI 0)]))] (by kernel_rfl) (.d (appD 2 (List.map eI y49.1)) _ (appD_frz _ _ _ _) (appF_nt _ _ _) (.v (.agg [(vI 0), (vI 0)]) _ (by kernel_rfl) (by kernel_rfl) .nil)))

/-! ### 61 strings.IndexByte -/
def f61 (m : Nat) (a0 : ByteArray) (a1 : Int) : Option Int := some (Lib.indexByte a0.data.toList a1.toNat.toUInt8)
theorem ok61 (m : Nat) (a0 : ByteArray) (a1 : Int) (o : Int) (h : f61 m a0 a1 = some o) (n : Nat) (hn : m + 1 ≤ n) : Fn Proofs.Tryd.prog E n 61 [.v (eS a0), .v ((eK .u8) a1)] (eI o) := by
  obtain ⟨n, rfl⟩ : ∃ q, n = q + 1 := ⟨n - 1, by omega⟩
  refine ora_fn (xs := [eS a0, (eK .u8) a1]) (by kernel_rfl) (by kernel_rfl) (by kernel_rfl) (F := ixbyteF) ?_ rfl
  cases h
  rfl

/-! ### 32 glosswright/lexicon.Word -/
def f32_r1 (m : Nat) (v67 : Int) (v96 : Bool) : Option (Stp Bool (Int)) :=
  cnd v96
  (some (.ret false))
  (some (.nxt (w64 (v67 + 1))))
def f32_r2 (m : Nat) (v67 : Int) (v77 : Int) (v83 : Bool) : Option (Stp Bool (Int)) :=
  bnd (cnd v83
  (some true)
  (cnd (decide (v77 < 128))
  (bnd (f61 m ((⟨#[32, 9, 10, 40, 41, 91, 93, 44, 59]⟩ : ByteArray)) (IntKind.u8.wrap v77)) fun v100 =>
  some (decide (v100 ≥ 0)))
  (some false))) fun v96 =>
  f32_r1 m v67 v96
def f32_B3 (m : Nat) (v1 : ((List Int) × S27)) (v67 : Int) : Option (Stp Bool (Int)) :=
  cnd (decide (v67 < (v1.1.length : Int)))
  (bnd (idx v1.1 v67) fun v77 =>
  f32_r2 m v67 v77 (((v77 == 0) || (decide (v77 ≥ 983040)))))
  (some (.brk v67))
def f32_r4 (m : Nat) (v1 : ((List Int) × S27)) (v16 : Bool) : Option Bool :=
  cnd v16
  (some false)
  (brk (iter (fun (y : Int) => f32_B3 m v1 y) m 0) some fun y102 =>
  some true)
def f32_r5 (m : Nat) (v1 : ((List Int) × S27)) (v8 : Bool) : Option Bool :=
  f32_r4 m v1 ((v8 || (decide ((v1.1.length : Int) > 30))))
def f32 (m : Nat) (a0 : ByteArray) : Option Bool :=
  bnd (f60 m a0) fun v1 =>
  f32_r5 m v1 (((!((v1.2.fCode == 0) && ((v1.2.fIndex == 0) && true))) || (decide ((v1.1.length : Int) < 1))))
noncomputable abbrev X32 (n : Nat) : Cx := cxOf Proofs.Tryd.prog E 32 n
noncomputable def C32 : Code := bodyOf Proofs.Tryd.prog 32
theorem ok32 (m : Nat) (a0 : ByteArray) (o : Bool) (h : f32 m a0 = some o) (n : Nat) (hn : m + 3 ≤ n) : Fn Proofs.Tryd.prog E n 32 [.v (eS a0)] (eB o) := by
  obtain ⟨n, rfl⟩ : ∃ q, n = q + 1 := ⟨n - 1, by omega⟩
  unfold f32 at h
  refine Fn.of (by kernel_rfl) (by kernel_rfl) (by kernel_rfl) ⟨(.v (.str a0)) :: u40 (u7 []), []⟩ (by kernel_rfl) ?_
  refine Wp.seq' (by kernel_rfl) ?_
  refine Wp.region (by kernel_rfl) ?_
  refine Ops.seg' 1 1 (by kernel_rfl) ?_
  refine Ops.done (by kernel_rfl) ?_
  refine seqQ.n ?_
  refine Wp.seq' (by kernel_rfl) ?_
  refine Wp.region (by kernel_rfl) ?_
  refine Ops.seg' 1 1 (by kernel_rfl) ?_
  obtain ⟨v1, ev1, h⟩ := bnd_some h
  refine Ops.one' 2 (fun h0 e0 => (call_ok (E' := E) (h := h0) (by kernel_rfl) (Args.v (.str a0) (eS a0) (by kernel_rfl) Args.nil) (ok60 m a0 v1 ev1 n (by omega)))) (by kernel_rfl) (by kernel_rfl) ?_
  refine Ops.seg' 6 8 (by kernel_rfl) ?_
  refine Ops.done (by kernel_rfl) ?_
  refine seqQ.n ?_
  refine Wp.seq' (by kernel_rfl) ?_
  refine Wp.seq' (by kernel_rfl) ?_
  refine Wp.region (by kernel_rfl) ?_
  refine Ops.seg' 4 4 (by kernel_rfl) ?_
  have J32j9 : ∀ (d4 d5 d6 : D) (v7 : Bool) (v8 : Bool), f32_r5 m v1 v8 = some o → Ops (X32 n) (opl (cL (cL (cR (cR C32))))) 8 ⟨(.v (.str a0)) :: u1 ((dB false) :: (dP eI v1.1) :: (.ptr 0 0) :: u2 ((.v (.tuple [(vP eI v1.1), (.agg [(vI v1.2.fCode), (vI v1.2.fIndex)])])) :: (.v (.str a0)) :: (.v (.tuple [(vP eI v1.1), (.agg [(vI v1.2.fCode), (vI v1.2.fIndex)])])) :: (dP eI v1.1) :: (.v (.agg [(vI v1.2.fCode), (vI v1.2.fIndex)])) :: (.v (.agg [(vI v1.2.fCode), (vI v1.2.fIndex)])) :: (.v (.agg [(vI 0), (vI 0)])) :: (dB v7) :: (dB v7) :: d4 :: d5 :: d6 :: (dB v8) :: u28 [])), [(.cells [(dI v1.2.fCode), (dI v1.2.fIndex)])]⟩ ((seqQ (X32 n) (cR (cL (cR (cR C32)))) (seqQ (X32 n) (cR (cR (cR C32))) (fnQ (X32 n).E.T (resOf Proofs.Tryd.prog 32) (eB o)))) .normal) := by
    intro d4 d5 d6 v7 v8 h
    unfold f32_r5 at h
    refine Ops.seg' 1 9 (by kernel_rfl) ?_
    have J32j17 : ∀ (d12 d13 d14 : D) (v15 : Bool) (v16 : Bool), f32_r4 m v1 v16 = some o → Ops (X32 n) (opl (cL (cL (cR (cR C32))))) 13 ⟨(.v (.str a0)) :: u1 ((dB false) :: (dP eI v1.1) :: (.ptr 0 0) :: u2 ((.v (.tuple [(vP eI v1.1), (.agg [(vI v1.2.fCode), (vI v1.2.fIndex)])])) :: (.v (.str a0)) :: (.v (.tuple [(vP eI v1.1), (.agg [(vI v1.2.fCode), (vI v1.2.fIndex)])])) :: (dP eI v1.1) :: (.v (.agg [(vI v1.2.fCode), (vI v1.2.fIndex)])) :: (.v (.agg [(vI v1.2.fCode), (vI v1.2.fIndex)])) :: (.v (.agg [(vI 0), (vI 0)])) :: (dB v7) :: (dB v7) :: d4 :: d5 :: d6 :: (dB v15) :: (dB v15) :: d12 :: d13 :: d14 :: (dB v16) :: u23 [])), [(.cells [(dI v1.2.fCode), (dI v1.2.fIndex)])]⟩ ((seqQ (X32 n) (cR (cL (cR (cR C32)))) (seqQ (X32 n) (cR (cR (cR C32))) (fnQ (X32 n).E.T (resOf Proofs.Tryd.prog 32) (eB o)))) .normal) := by
      intro d12 d13 d14 v15 v16 h
      unfold f32_r4 at h
      refine Ops.done (by kernel_rfl) ?_
      refine seqQ.n ?_
      refine Wp.cnd h [2, 3] 1 (by kernel_rfl) (fun h => ?_) (fun h => ?_)
      · refine Wp.seq' (by kernel_rfl) ?_
        refine Wp.region (by kernel_rfl) ?_
        refine Ops.seg' 1 1 (by kernel_rfl) ?_
        refine Ops.done (by kernel_rfl) ?_
        refine seqQ.n ?_
        refine Wp.ret (by kernel_rfl) ?_
        refine sqQ.r ?_
        refine seqQ.r ?_
        exact fnQ.r' (X32 n) (fun z => (eB z)) h (RetOk.mk' (dB false) (by kernel_rfl) (by kernel_rfl))
      · refine Wp.skip (by kernel_rfl) ?_
        refine sqQ.n' ?_
        refine seqQ.n ?_
        refine Wp.seq' (by kernel_rfl) ?_
        refine Wp.seq' (by kernel_rfl) ?_
        refine Wp.region (by kernel_rfl) ?_
        refine Ops.seg' 1 1 (by kernel_rfl) ?_
        refine Ops.one' 2 (fun h0 e0 => (len_r (T := T) h0 44 3 .plain eI v1.1 (by kernel_rfl))) (by kernel_rfl) (by kernel_rfl) ?_
        refine Ops.seg' 1 3 (by kernel_rfl) ?_
        refine Ops.done (by kernel_rfl) ?_
        refine seqQ.n ?_
        refine Wp.block' 0 [2] 1 (by kernel_rfl) ?_
        have hLx101 : ∀ (kx69 : Nat) (v67 : Int)  (ox68 : Bool ⊕ (Int)), iter (fun (y : Int) => f32_B3 m v1 y) kx69 v67 = some ox68 → ∀ nx70, kx69 ≤ nx70 → (∀ r, ox68 = .inl r → ∀ σ, RetOk (X32 n) (resOf Proofs.Tryd.prog 32) (eB r) σ → (seqQ (X32 n) (cR (cR (cR (cR C32)))) (fnQ (X32 n).E.T (resOf Proofs.Tryd.prog 32) (eB o))) .ret σ) → (∀ (y : Int) , ox68 = .inr y → (seqQ (X32 n) (cR (cR (cR (cR C32)))) (fnQ (X32 n).E.T (resOf Proofs.Tryd.prog 32) (eB o))) .normal ⟨q2 ((dB false) :: q22 ((dP eI v1.1) :: (dI ((v1.1.length : Int))) :: (dI y) :: q20 [])), [(.cells [(dI v1.2.fCode), (dI v1.2.fIndex)])]⟩) → Lp (X32 n) [2, 25, 26, 27] 1 (cL (cL (cR (cL (cR (cR (cR C32))))))) nx70 ⟨q2 ((dB false) :: q22 ((dP eI v1.1) :: (dI ((v1.1.length : Int))) :: (dI v67) :: q20 [])), [(.cells [(dI v1.2.fCode), (dI v1.2.fIndex)])]⟩ (blkQ (X32 n) 0 [2] 1 (seqQ (X32 n) (cR (cR (cR (cR C32)))) (fnQ (X32 n).E.T (resOf Proofs.Tryd.prog 32) (eB o)))) := by
          intro kx69
          induction kx69 with
          | zero => intro v67  ox68 h; exact (iter_zero h).elim
          | succ kx69 ihx71 =>
            intro v67  ox68 h nx70 hnx74 hrx72 hxx73
            obtain ⟨nx70, rfl⟩ : ∃ q, nx70 = q + 1 := ⟨nx70 - 1, by omega⟩
            obtain ⟨sx75, h, hsx76⟩ := iter_some h
            have h : f32_B3 m v1 v67 = some sx75 := h
            unfold f32_B3 at h
            refine Lp.succ ?_
            refine Wp.seq' (by kernel_rfl) ?_
            refine Wp.region (by kernel_rfl) ?_
            refine Ops.seg' 1 1 (by kernel_rfl) ?_
            refine Ops.done (by kernel_rfl) ?_
            refine seqQ.n ?_
            refine Wp.seq' (by kernel_rfl) ?_
            refine Wp.cnd h [2, 25, 26, 27] 1 (by kernel_rfl) (fun h => ?_) (fun h => ?_)
            · refine Wp.skip (by kernel_rfl) ?_
              refine sqQ.n' ?_
              refine seqQ.n ?_
              refine Wp.seq' (by kernel_rfl) ?_
              refine Wp.block' 1 [2, 25, 26, 27] 1 (by kernel_rfl) ?_
              refine Wp.seq' (by kernel_rfl) ?_
              refine Wp.region (by kernel_rfl) ?_
              obtain ⟨v77, ev77, h⟩ := bnd_some h
              refine Ops.one' 1 (fun h0 e0 => (ix_r (T := T) h0 44 3 1 .plain eI v1.1 v67 v77 ev77 (by kernel_rfl) (by kernel_rfl) (fun _ => rfl))) (by kernel_rfl) (by kernel_rfl) ?_
              refine Ops.seg' 2 3 (by kernel_rfl) ?_
              refine Ops.done (by kernel_rfl) ?_
              refine seqQ.n ?_
              refine Wp.seq' (by kernel_rfl) ?_
              refine Wp.region (by kernel_rfl) ?_
              refine Ops.seg' 3 3 (by kernel_rfl) ?_
              have J32j84 : ∀ (d80 d81 : D) (v82 : Bool) (v83 : Bool), f32_r2 m v67 v77 v83 = some sx75 → Ops (X32 n) (opl (cL (cR (cL (cL (cR (cR (cL (cL (cR (cL (cR (cR (cR C32)))))))))))))) 6 ⟨q2 ((dB false) :: q3 ((dI v77) :: q18 ((dP eI v1.1) :: (dI ((v1.1.length : Int))) :: (dI v67) :: (dB (decide (v67 < (v1.1.length : Int)))) :: (.vptr [(vI v77)]) :: (dI v77) :: (dI v77) :: (dB v82) :: (dB v82) :: d80 :: d81 :: (dB v83) :: q11 []))), [(.cells [(dI v1.2.fCode), (dI v1.2.fIndex)])]⟩ ((seqQ (X32 n) (cR (cR (cL (cL (cR (cR (cL (cL (cR (cL (cR (cR (cR C32))))))))))))) (blkQ (X32 n) 1 [2, 25, 26, 27] 1 (seqQ (X32 n) (cR (cR (cR (cL (cL (cR (cL (cR (cR (cR C32)))))))))) (lpQ (X32 n) [2, 25, 26, 27] 1 (cL (cL (cR (cL (cR (cR (cR C32))))))) nx70 (blkQ (X32 n) 0 [2] 1 (seqQ (X32 n) (cR (cR (cR (cR C32)))) (fnQ (X32 n).E.T (resOf Proofs.Tryd.prog 32) (eB o)))))))) .normal) := by
                intro d80 d81 v82 v83 h
                unfold f32_r2 at h
                refine Ops.seg' 1 7 (by kernel_rfl) ?_
                have J32j97 : ∀ (d87 d88 d89 d90 d91 d92 d93 d94 : D) (v95 : Bool) (v96 : Bool), f32_r1 m v67 v96 = some sx75 → Ops (X32 n) (opl (cL (cR (cL (cL (cR (cR (cL (cL (cR (cL (cR (cR (cR C32)))))))))))))) 16 ⟨q2 ((dB false) :: q3 ((dI v77) :: q18 ((dP eI v1.1) :: (dI ((v1.1.length : Int))) :: (dI v67) :: (dB (decide (v67 < (v1.1.length : Int)))) :: (.vptr [(vI v77)]) :: (dI v77) :: (dI v77) :: (dB v82) :: (dB v82) :: d80 :: d81 :: (dB v95) :: (dB v95) :: d87 :: d88 :: d89 :: d90 :: d91 :: d92 :: d93 :: d94 :: (dB v96) :: q1 []))), [(.cells [(dI v1.2.fCode), (dI v1.2.fIndex)])]⟩ ((seqQ (X32 n) (cR (cR (cL (cL (cR (cR (cL (cL (cR (cL (cR (cR (cR C32))))))))))))) (blkQ (X32 n) 1 [2, 25, 26, 27] 1 (seqQ (X32 n) (cR (cR (cR (cL (cL (cR (cL (cR (cR (cR C32)))))))))) (lpQ (X32 n) [2, 25, 26, 27] 1 (cL (cL (cR (cL (cR (cR (cR C32))))))) nx70 (blkQ (X32 n) 0 [2] 1 (seqQ (X32 n) (cR (cR (cR (cR C32)))) (fnQ (X32 n).E.T (resOf Proofs.Tryd.prog 32) (eB o)))))))) .normal) := by
                  intro d87 d88 d89 d90 d91 d92 d93 d94 v95 v96 h
                  unfold f32_r1 at h
                  refine Ops.done (by kernel_rfl) ?_
                  refine seqQ.n ?_
                  refine Wp.cnd h [2, 25, 26, 27] 1 (by kernel_rfl) (fun h => ?_) (fun h => ?_)
                  · refine Wp.seq' (by kernel_rfl) ?_
                    refine Wp.region (by kernel_rfl) ?_
                    refine Ops.seg' 1 1 (by kernel_rfl) ?_
                    refine Ops.done (by kernel_rfl) ?_
                    refine seqQ.n ?_
                    refine Wp.ret (by kernel_rfl) ?_
                    refine sqQ.r ?_
                    refine blkQ.r ?_
                    refine seqQ.r ?_
                    cases h
                    refine lpQ.r ?_
                    refine blkQ.r ?_
                    exact hrx72 _ hsx76 _ (RetOk.forget [2, 25, 26, 27] (by kernel_rfl) (RetOk.mk' (dB false) (by kernel_rfl) (by kernel_rfl)))
                  · refine Wp.skip (by kernel_rfl) ?_
                    refine sqQ.n' ?_
                    refine blkQ.n' ?_
                    refine seqQ.n ?_
                    refine Wp.region (by kernel_rfl) ?_
                    refine Ops.seg' 2 2 (by kernel_rfl) ?_
                    refine Ops.done (by kernel_rfl) ?_
                    refine lpQ.n ⟨q2 ((dB false) :: q22 ((dP eI v1.1) :: (dI ((v1.1.length : Int))) :: (dI (w64 (v67 + 1))) :: q20 [])), [(.cells [(dI v1.2.fCode), (dI v1.2.fIndex)])]⟩ (by kernel_rfl) ?_
                    cases h
                    exact ihx71 (w64 (v67 + 1))  _ hsx76 _ (by omega) hrx72 hxx73
                obtain ⟨v96, ev96, h⟩ := bnd_some h
                have G32g86 : ∀ v85 : Bool, (cnd v85 (some true) (cnd (decide (v77 < 128)) (bnd (f61 m ((⟨#[32, 9, 10, 40, 41, 91, 93, 44, 59]⟩ : ByteArray)) (IntKind.u8.wrap v77)) fun v100 => some (decide (v100 ≥ 0))) (some false))) = some v96 → Ops (X32 n) (opl (cL (cR (cL (cL (cR (cR (cL (cL (cR (cL (cR (cR (cR C32)))))))))))))) 7 ⟨q2 ((dB false) :: q3 ((dI v77) :: q18 ((dP eI v1.1) :: (dI ((v1.1.length : Int))) :: (dI v67) :: (dB (decide (v67 < (v1.1.length : Int)))) :: (.vptr [(vI v77)]) :: (dI v77) :: (dI v77) :: (dB v82) :: (dB v82) :: d80 :: d81 :: (dB v85) :: (dB v85) :: q10 []))), [(.cells [(dI v1.2.fCode), (dI v1.2.fIndex)])]⟩ ((seqQ (X32 n) (cR (cR (cL (cL (cR (cR (cL (cL (cR (cL (cR (cR (cR C32))))))))))))) (blkQ (X32 n) 1 [2, 25, 26, 27] 1 (seqQ (X32 n) (cR (cR (cR (cL (cL (cR (cL (cR (cR (cR C32)))))))))) (lpQ (X32 n) [2, 25, 26, 27] 1 (cL (cL (cR (cL (cR (cR (cR C32))))))) nx70 (blkQ (X32 n) 0 [2] 1 (seqQ (X32 n) (cR (cR (cR (cR C32)))) (fnQ (X32 n).E.T (resOf Proofs.Tryd.prog 32) (eB o)))))))) .normal) := by
                  intro v85 ev96
                  cases v85
                  · have ev96 := cnd_f ev96
                    refine Ops.seg' 3 10 (by kernel_rfl) ?_
                    have G32g99 : ∀ v98 : Bool, (cnd v98 (bnd (f61 m ((⟨#[32, 9, 10, 40, 41, 91, 93, 44, 59]⟩ : ByteArray)) (IntKind.u8.wrap v77)) fun v100 => some (decide (v100 ≥ 0))) (some false)) = some v96 → Ops (X32 n) (opl (cL (cR (cL (cL (cR (cR (cL (cL (cR (cL (cR (cR (cR C32)))))))))))))) 10 ⟨q2 ((dB false) :: q3 ((dI v77) :: q18 ((dP eI v1.1) :: (dI ((v1.1.length : Int))) :: (dI v67) :: (dB (decide (v67 < (v1.1.length : Int)))) :: (.vptr [(vI v77)]) :: (dI v77) :: (dI v77) :: (dB v82) :: (dB v82) :: d80 :: d81 :: (dB false) :: (dB false) :: (dI v77) :: (dB v98) :: (dB v98) :: q7 []))), [(.cells [(dI v1.2.fCode), (dI v1.2.fIndex)])]⟩ ((seqQ (X32 n) (cR (cR (cL (cL (cR (cR (cL (cL (cR (cL (cR (cR (cR C32))))))))))))) (blkQ (X32 n) 1 [2, 25, 26, 27] 1 (seqQ (X32 n) (cR (cR (cR (cL (cL (cR (cL (cR (cR (cR C32)))))))))) (lpQ (X32 n) [2, 25, 26, 27] 1 (cL (cL (cR (cL (cR (cR (cR C32))))))) nx70 (blkQ (X32 n) 0 [2] 1 (seqQ (X32 n) (cR (cR (cR (cR C32)))) (fnQ (X32 n).E.T (resOf Proofs.Tryd.prog 32) (eB o)))))))) .normal) := by
                      intro v98 ev96
                      cases v98
                      · have ev96 := cnd_f ev96
                        refine Ops.seg' 6 16 (by kernel_rfl) ?_
                        refine Ops.st ⟨q2 ((dB false) :: q3 ((dI v77) :: q18 ((dP eI v1.1) :: (dI ((v1.1.length : Int))) :: (dI v67) :: (dB (decide (v67 < (v1.1.length : Int)))) :: (.vptr [(vI v77)]) :: (dI v77) :: (dI v77) :: (dB v82) :: (dB v82) :: d80 :: d81 :: (dB false) :: (dB false) :: (dI v77) :: (dB false) :: (dB false) :: u4 ((dB false) :: (dB false) :: q1 [])))), [(.cells [(dI v1.2.fCode), (dI v1.2.fIndex)])]⟩ (by kernel_rfl) ?_
                        exact J32j97 _ _ _ _ _ _ _ _ _ _ (some_sub (fun v96 => f32_r1 m v67 v96 = some sx75) ev96 h)
                      · have ev96 := cnd_t ev96
                        refine Ops.seg' 2 12 (by kernel_rfl) ?_
                        obtain ⟨v100, ev100, ev96⟩ := bnd_some ev96
                        refine Ops.one' 13 (fun h0 e0 => (call_ok (E' := E) (h := h0) (by kernel_rfl) (Args.v (.str ((⟨#[32, 9, 10, 40, 41, 91, 93, 44, 59]⟩ : ByteArray))) (eS ((⟨#[32, 9, 10, 40, 41, 91, 93, 44, 59]⟩ : ByteArray))) (by kernel_rfl) (Args.v (.int .u8 (IntKind.u8.wrap v77)) ((eK .u8) (IntKind.u8.wrap v77)) (by kernel_rfl) Args.nil)) (ok61 m ((⟨#[32, 9, 10, 40, 41, 91, 93, 44, 59]⟩ : ByteArray)) (IntKind.u8.wrap v77) v100 ev100 n (by omega)))) (by kernel_rfl) (by kernel_rfl) ?_
                        refine Ops.seg' 3 16 (by kernel_rfl) ?_
                        refine Ops.st ⟨q2 ((dB false) :: q3 ((dI v77) :: q18 ((dP eI v1.1) :: (dI ((v1.1.length : Int))) :: (dI v67) :: (dB (decide (v67 < (v1.1.length : Int)))) :: (.vptr [(vI v77)]) :: (dI v77) :: (dI v77) :: (dB v82) :: (dB v82) :: d80 :: d81 :: (dB false) :: (dB false) :: (dI v77) :: (dB true) :: (dB true) :: (dI v77) :: (.v (.int .u8 (IntKind.u8.wrap v77))) :: (dI v100) :: (dB (decide (v100 ≥ 0))) :: (dB (decide (v100 ≥ 0))) :: (dB (decide (v100 ≥ 0))) :: q1 []))), [(.cells [(dI v1.2.fCode), (dI v1.2.fIndex)])]⟩ (by kernel_rfl) ?_
                        exact J32j97 _ _ _ _ _ _ _ _ _ _ (some_sub (fun v96 => f32_r1 m v67 v96 = some sx75) ev96 h)
                    exact Ops.st ⟨q2 ((dB false) :: q3 ((dI v77) :: q18 ((dP eI v1.1) :: (dI ((v1.1.length : Int))) :: (dI v67) :: (dB (decide (v67 < (v1.1.length : Int)))) :: (.vptr [(vI v77)]) :: (dI v77) :: (dI v77) :: (dB v82) :: (dB v82) :: d80 :: d81 :: (dB false) :: (dB false) :: (dI v77) :: (dB ((decide (v77 < 128)))) :: (dB ((decide (v77 < 128)))) :: q7 []))), [(.cells [(dI v1.2.fCode), (dI v1.2.fIndex)])]⟩ (by kernel_rfl) (G32g99 (decide (v77 < 128)) ev96)
                  · have ev96 := cnd_t ev96
                    refine Ops.seg' 9 16 (by kernel_rfl) ?_
                    refine Ops.st ⟨q2 ((dB false) :: q3 ((dI v77) :: q18 ((dP eI v1.1) :: (dI ((v1.1.length : Int))) :: (dI v67) :: (dB (decide (v67 < (v1.1.length : Int)))) :: (.vptr [(vI v77)]) :: (dI v77) :: (dI v77) :: (dB v82) :: (dB v82) :: d80 :: d81 :: (dB true) :: (dB true) :: u8 ((dB true) :: q1 [])))), [(.cells [(dI v1.2.fCode), (dI v1.2.fIndex)])]⟩ (by kernel_rfl) ?_
                    exact J32j97 _ _ _ _ _ _ _ _ _ _ (some_sub (fun v96 => f32_r1 m v67 v96 = some sx75) ev96 h)
                exact Ops.st ⟨q2 ((dB false) :: q3 ((dI v77) :: q18 ((dP eI v1.1) :: (dI ((v1.1.length : Int))) :: (dI v67) :: (dB (decide (v67 < (v1.1.length : Int)))) :: (.vptr [(vI v77)]) :: (dI v77) :: (dI v77) :: (dB v82) :: (dB v82) :: d80 :: d81 :: (dB v83) :: (dB v83) :: q10 []))), [(.cells [(dI v1.2.fCode), (dI v1.2.fIndex)])]⟩ (by kernel_rfl) (G32g86 v83 ev96)
              have G32g79 : ∀ v78 : Bool, f32_r2 m v67 v77 ((v78 || (decide (v77 ≥ 983040)))) = some sx75 → Ops (X32 n) (opl (cL (cR (cL (cL (cR (cR (cL (cL (cR (cL (cR (cR (cR C32)))))))))))))) 3 ⟨q2 ((dB false) :: q3 ((dI v77) :: q18 ((dP eI v1.1) :: (dI ((v1.1.length : Int))) :: (dI v67) :: (dB (decide (v67 < (v1.1.length : Int)))) :: (.vptr [(vI v77)]) :: (dI v77) :: (dI v77) :: (dB v78) :: (dB v78) :: q14 []))), [(.cells [(dI v1.2.fCode), (dI v1.2.fIndex)])]⟩ ((seqQ (X32 n) (cR (cR (cL (cL (cR (cR (cL (cL (cR (cL (cR (cR (cR C32))))))))))))) (blkQ (X32 n) 1 [2, 25, 26, 27] 1 (seqQ (X32 n) (cR (cR (cR (cL (cL (cR (cL (cR (cR (cR C32)))))))))) (lpQ (X32 n) [2, 25, 26, 27] 1 (cL (cL (cR (cL (cR (cR (cR C32))))))) nx70 (blkQ (X32 n) 0 [2] 1 (seqQ (X32 n) (cR (cR (cR (cR C32)))) (fnQ (X32 n).E.T (resOf Proofs.Tryd.prog 32) (eB o)))))))) .normal) := by
                intro v78 h
                cases v78
                · refine Ops.seg' 3 6 (by kernel_rfl) ?_
                  refine Ops.st ⟨q2 ((dB false) :: q3 ((dI v77) :: q18 ((dP eI v1.1) :: (dI ((v1.1.length : Int))) :: (dI v67) :: (dB (decide (v67 < (v1.1.length : Int)))) :: (.vptr [(vI v77)]) :: (dI v77) :: (dI v77) :: (dB false) :: (dB false) :: (dI v77) :: (dB (decide (v77 ≥ 983040))) :: (dB (decide (v77 ≥ 983040))) :: q11 []))), [(.cells [(dI v1.2.fCode), (dI v1.2.fIndex)])]⟩ (by kernel_rfl) ?_
                  exact J32j84 _ _ _ _ h
                · refine Ops.seg' 3 6 (by kernel_rfl) ?_
                  refine Ops.st ⟨q2 ((dB false) :: q3 ((dI v77) :: q18 ((dP eI v1.1) :: (dI ((v1.1.length : Int))) :: (dI v67) :: (dB (decide (v67 < (v1.1.length : Int)))) :: (.vptr [(vI v77)]) :: (dI v77) :: (dI v77) :: (dB true) :: (dB true) :: u2 ((dB true) :: q11 [])))), [(.cells [(dI v1.2.fCode), (dI v1.2.fIndex)])]⟩ (by kernel_rfl) ?_
                  exact J32j84 _ _ _ _ h
              exact Ops.st ⟨q2 ((dB false) :: q3 ((dI v77) :: q18 ((dP eI v1.1) :: (dI ((v1.1.length : Int))) :: (dI v67) :: (dB (decide (v67 < (v1.1.length : Int)))) :: (.vptr [(vI v77)]) :: (dI v77) :: (dI v77) :: (dB ((v77 == 0))) :: (dB ((v77 == 0))) :: q14 []))), [(.cells [(dI v1.2.fCode), (dI v1.2.fIndex)])]⟩ (by kernel_rfl) (G32g79 (v77 == 0) h)
            · refine Wp.exit (id := 0) (by kernel_rfl) ?_
              refine sqQ.x ?_
              refine seqQ.x ?_
              cases h
              refine lpQ.x ?_
              refine blkQ.x ⟨q2 ((dB false) :: q22 ((dP eI v1.1) :: (dI ((v1.1.length : Int))) :: (dI v67) :: q20 [])), [(.cells [(dI v1.2.fCode), (dI v1.2.fIndex)])]⟩ (by kernel_rfl) ?_
              exact hxx73 v67  hsx76
        refine Wp.loop' [2, 25, 26, 27] 1 (by kernel_rfl) ⟨q2 ((dB false) :: q22 ((dP eI v1.1) :: (dI ((v1.1.length : Int))) :: (dI 0) :: q20 [])), [(.cells [(dI v1.2.fCode), (dI v1.2.fIndex)])]⟩ (by kernel_rfl) ?_
        rcases brk_some h with ⟨r103, er103, h⟩ | ⟨y102, ey102, h⟩
        · refine hLx101 _ 0  _ er103 n (by omega) (fun r er σ hσ => ?_) (fun y  ey => by cases ey)
          cases er
          refine seqQ.r ?_
          exact fnQ.r' (X32 n) (fun z => (eB z)) h hσ
        · refine hLx101 _ 0  _ ey102 n (by omega) (fun r er => by cases er) (fun y  ey => ?_)
          cases ey
          refine seqQ.n ?_
          refine Wp.seq' (by kernel_rfl) ?_
          refine Wp.region (by kernel_rfl) ?_
          refine Ops.seg' 1 1 (by kernel_rfl) ?_
          refine Ops.done (by kernel_rfl) ?_
          refine seqQ.n ?_
          refine Wp.ret (by kernel_rfl) ?_
          exact fnQ.r' (X32 n) (fun z => (eB z)) h (RetOk.mk' (dB true) (by kernel_rfl) (by kernel_rfl))
    have G32g11 : ∀ v10 : Bool, f32_r4 m v1 ((v10 || (decide ((v1.1.length : Int) > 30)))) = some o → Ops (X32 n) (opl (cL (cL (cR (cR C32))))) 9 ⟨(.v (.str a0)) :: u1 ((dB false) :: (dP eI v1.1) :: (.ptr 0 0) :: u2 ((.v (.tuple [(vP eI v1.1), (.agg [(vI v1.2.fCode), (vI v1.2.fIndex)])])) :: (.v (.str a0)) :: (.v (.tuple [(vP eI v1.1), (.agg [(vI v1.2.fCode), (vI v1.2.fIndex)])])) :: (dP eI v1.1) :: (.v (.agg [(vI v1.2.fCode), (vI v1.2.fIndex)])) :: (.v (.agg [(vI v1.2.fCode), (vI v1.2.fIndex)])) :: (.v (.agg [(vI 0), (vI 0)])) :: (dB v7) :: (dB v7) :: d4 :: d5 :: d6 :: (dB v10) :: (dB v10) :: u27 [])), [(.cells [(dI v1.2.fCode), (dI v1.2.fIndex)])]⟩ ((seqQ (X32 n) (cR (cL (cR (cR C32)))) (seqQ (X32 n) (cR (cR (cR C32))) (fnQ (X32 n).E.T (resOf Proofs.Tryd.prog 32) (eB o)))) .normal) := by
      intro v10 h
      cases v10
      · refine Ops.seg' 1 10 (by kernel_rfl) ?_
        refine Ops.one' 11 (fun h0 e0 => (len_r (T := T) h0 44 3 .plain eI v1.1 (by kernel_rfl))) (by kernel_rfl) (by kernel_rfl) ?_
        refine Ops.seg' 2 13 (by kernel_rfl) ?_
        refine Ops.st ⟨(.v (.str a0)) :: u1 ((dB false) :: (dP eI v1.1) :: (.ptr 0 0) :: u2 ((.v (.tuple [(vP eI v1.1), (.agg [(vI v1.2.fCode), (vI v1.2.fIndex)])])) :: (.v (.str a0)) :: (.v (.tuple [(vP eI v1.1), (.agg [(vI v1.2.fCode), (vI v1.2.fIndex)])])) :: (dP eI v1.1) :: (.v (.agg [(vI v1.2.fCode), (vI v1.2.fIndex)])) :: (.v (.agg [(vI v1.2.fCode), (vI v1.2.fIndex)])) :: (.v (.agg [(vI 0), (vI 0)])) :: (dB v7) :: (dB v7) :: d4 :: d5 :: d6 :: (dB false) :: (dB false) :: (dP eI v1.1) :: (dI ((v1.1.length : Int))) :: (dB (decide ((v1.1.length : Int) > 30))) :: (dB (decide ((v1.1.length : Int) > 30))) :: u23 [])), [(.cells [(dI v1.2.fCode), (dI v1.2.fIndex)])]⟩ (by kernel_rfl) ?_
        exact J32j17 _ _ _ _ _ h
      · refine Ops.seg' 4 13 (by kernel_rfl) ?_
        refine Ops.st ⟨(.v (.str a0)) :: u1 ((dB false) :: (dP eI v1.1) :: (.ptr 0 0) :: u2 ((.v (.tuple [(vP eI v1.1), (.agg [(vI v1.2.fCode), (vI v1.2.fIndex)])])) :: (.v (.str a0)) :: (.v (.tuple [(vP eI v1.1), (.agg [(vI v1.2.fCode), (vI v1.2.fIndex)])])) :: (dP eI v1.1) :: (.v (.agg [(vI v1.2.fCode), (vI v1.2.fIndex)])) :: (.v (.agg [(vI v1.2.fCode), (vI v1.2.fIndex)])) :: (.v (.agg [(vI 0), (vI 0)])) :: (dB v7) :: (dB v7) :: d4 :: d5 :: d6 :: (dB true) :: (dB true) :: u3 ((dB true) :: u23 []))), [(.cells [(dI v1.2.fCode), (dI v1.2.fIndex)])]⟩ (by kernel_rfl) ?_
        exact J32j17 _ _ _ _ _ h
    exact Ops.st ⟨(.v (.str a0)) :: u1 ((dB false) :: (dP eI v1.1) :: (.ptr 0 0) :: u2 ((.v (.tuple [(vP eI v1.1), (.agg [(vI v1.2.fCode), (vI v1.2.fIndex)])])) :: (.v (.str a0)) :: (.v (.tuple [(vP eI v1.1), (.agg [(vI v1.2.fCode), (vI v1.2.fIndex)])])) :: (dP eI v1.1) :: (.v (.agg [(vI v1.2.fCode), (vI v1.2.fIndex)])) :: (.v (.agg [(vI v1.2.fCode), (vI v1.2.fIndex)])) :: (.v (.agg [(vI 0), (vI 0)])) :: (dB v7) :: (dB v7) :: d4 :: d5 :: d6 :: (dB v8) :: (dB v8) :: u27 [])), [(.cells [(dI v1.2.fCode), (dI v1.2.fIndex)])]⟩ (by kernel_rfl) (G32g11 v8 h)
  have G32g3 : ∀ v2 : Bool, f32_r5 m v1 ((v2 || (decide ((v1.1.length : Int) < 1)))) = some o → Ops (X32 n) (opl (cL (cL (cR (cR C32))))) 4 ⟨(.v (.str a0)) :: u1 ((dB false) :: (dP eI v1.1) :: (.ptr 0 0) :: u2 ((.v (.tuple [(vP eI v1.1), (.agg [(vI v1.2.fCode), (vI v1.2.fIndex)])])) :: (.v (.str a0)) :: (.v (.tuple [(vP eI v1.1), (.agg [(vI v1.2.fCode), (vI v1.2.fIndex)])])) :: (dP eI v1.1) :: (.v (.agg [(vI v1.2.fCode), (vI v1.2.fIndex)])) :: (.v (.agg [(vI v1.2.fCode), (vI v1.2.fIndex)])) :: (.v (.agg [(vI 0), (vI 0)])) :: (dB v2) :: (dB v2) :: u32 [])), [(.cells [(dI v1.2.fCode), (dI v1.2.fIndex)])]⟩ ((seqQ (X32 n) (cR (cL (cR (cR C32)))) (seqQ (X32 n) (cR (cR (cR C32))) (fnQ (X32 n).E.T (resOf Proofs.Tryd.prog 32) (eB o)))) .normal) := by
    intro v2 h
    cases v2
    · refine Ops.seg' 1 5 (by kernel_rfl) ?_
      refine Ops.one' 6 (fun h0 e0 => (len_r (T := T) h0 44 3 .plain eI v1.1 (by kernel_rfl))) (by kernel_rfl) (by kernel_rfl) ?_
      refine Ops.seg' 2 8 (by kernel_rfl) ?_
      refine Ops.st ⟨(.v (.str a0)) :: u1 ((dB false) :: (dP eI v1.1) :: (.ptr 0 0) :: u2 ((.v (.tuple [(vP eI v1.1), (.agg [(vI v1.2.fCode), (vI v1.2.fIndex)])])) :: (.v (.str a0)) :: (.v (.tuple [(vP eI v1.1), (.agg [(vI v1.2.fCode), (vI v1.2.fIndex)])])) :: (dP eI v1.1) :: (.v (.agg [(vI v1.2.fCode), (vI v1.2.fIndex)])) :: (.v (.agg [(vI v1.2.fCode), (vI v1.2.fIndex)])) :: (.v (.agg [(vI 0), (vI 0)])) :: (dB false) :: (dB false) :: (dP eI v1.1) :: (dI ((v1.1.length : Int))) :: (dB (decide ((v1.1.length : Int) < 1))) :: (dB (decide ((v1.1.length : Int) < 1))) :: u28 [])), [(.cells [(dI v1.2.fCode), (dI v1.2.fIndex)])]⟩ (by kernel_rfl) ?_
      exact J32j9 _ _ _ _ _ h
    · refine Ops.seg' 4 8 (by kernel_rfl) ?_
      refine Ops.st ⟨(.v (.str a0)) :: u1 ((dB false) :: (dP eI v1.1) :: (.ptr 0 0) :: u2 ((.v (.tuple [(vP eI v1.1), (.agg [(vI v1.2.fCode), (vI v1.2.fIndex)])])) :: (.v (.str a0)) :: (.v (.tuple [(vP eI v1.1), (.agg [(vI v1.2.fCode), (vI v1.2.fIndex)])])) :: (dP eI v1.1) :: (.v (.agg [(vI v1.2.fCode), (vI v1.2.fIndex)])) :: (.v (.agg [(vI v1.2.fCode), (vI v1.2.fIndex)])) :: (.v (.agg [(vI 0), (vI 0)])) :: (dB true) :: (dB true) :: u3 ((dB true) :: u28 []))), [(.cells [(dI v1.2.fCode), (dI v1.2.fIndex)])]⟩ (by kernel_rfl) ?_
      exact J32j9 _ _ _ _ _ h
  exact Ops.st ⟨(.v (.str a0)) :: u1 ((dB false) :: (dP eI v1.1) :: (.ptr 0 0) :: u2 ((.v (.tuple [(vP eI v1.1), (.agg [(vI v1.2.fCode), (vI v1.2.fIndex)])])) :: (.v (.str a0)) :: (.v (.tuple [(vP eI v1.1), (.agg [(vI v1.2.fCode), (vI v1.2.fIndex)])])) :: (dP eI v1.1) :: (.v (.agg [(vI v1.2.fCode), (vI v1.2.fIndex)])) :: (.v (.agg [(vI v1.2.fCode), (vI v1.2.fIndex)])) :: (.v (.agg [(vI 0), (vI 0)])) :: (dB ((!((v1.2.fCode == 0) && ((v1.2.fIndex == 0) && true))))) :: (dB ((!((v1.2.fCode == 0) && ((v1.2.fIndex == 0) && true))))) :: u32 [])), [(.cells [(dI v1.2.fCode), (dI v1.2.fIndex)])]⟩ (by kernel_rfl) (G32g3 (!((v1.2.fCode == 0) && ((v1.2.fIndex == 0) && true))) h)

/-! ### 15 glosswright/paradigm.Validate -/
def f15_r1 (m : Nat) (v76 : Int) (v110 : Bool) : Option (Stp S27 (Int)) :=
  cnd v110
  (bnd (f33 m 5 v76) fun v112 =>
  some (.ret v112))
  (some (.nxt (w64 (v76 + 1))))
def f15_r2 (m : Nat) (v76 : Int) (v86 : S67) (v96 : Bool) : Option (Stp S27 (Int)) :=
  bnd (cnd v96
  (some true)
  (cnd (!(v86.fAdd.toList == ((⟨#[]⟩ : ByteArray)).toList))
  (bnd (f32 m v86.fAdd) fun v115 =>
  some (!v115))
  (some false))) fun v110 =>
  f15_r1 m v76 v110
def f15_B3 (m : Nat) (a0 : S23) (v76 : Int) : Option (Stp S27 (Int)) :=
  cnd (decide (v76 < (a0.fCells.length : Int)))
  (bnd (idx a0.fCells v76) fun v86 =>
  bnd (f40 m v86.fTags) fun v87 =>
  cnd (v87 != 0)
  (bnd (f33 m v87 v76) fun v88 =>
  some (.ret v88))
  (bnd (cnd (!(v86.fCut.toList == ((⟨#[]⟩ : ByteArray)).toList))
  (bnd (f32 m v86.fCut) fun v116 =>
  some (!v116))
  (some false)) fun v96 =>
  f15_r2 m v76 v86 v96))
  (some (.brk v76))
def f15_r4 (m : Nat) (a0 : S23) (v10 : Bool) : Option S27 :=
  cnd v10
  (bnd (f33 m 9 ((-1))) fun v12 =>
  some v12)
  (brk (iter (fun (y : Int) => f15_B3 m a0 y) m 0) some fun y118 =>
  some ((⟨0, 0⟩ : S27)))
def f15 (m : Nat) (a0 : S23) : Option S27 :=
  bnd (f39 m a0.fName) fun v1 =>
  cnd (!v1)
  (bnd (f33 m 10 ((-1))) fun v2 =>
  some v2)
  (f15_r4 m a0 (((decide ((a0.fCells.length : Int) < 1)) || (decide ((a0.fCells.length : Int) > 40)))))
noncomputable abbrev X15 (n : Nat) : Cx := cxOf Proofs.Tryd.prog E 15 n
noncomputable def C15 : Code := bodyOf Proofs.Tryd.prog 15
theorem ok15 (m : Nat) (a0 : S23) (o : S27) (h : f15 m a0 = some o) (n : Nat) (hn : m + 4 ≤ n) : Fn Proofs.Tryd.prog E n 15 [.v (e23 a0)] (e27 o) := by
  obtain ⟨n, rfl⟩ : ∃ q, n = q + 1 := ⟨n - 1, by omega⟩
  unfold f15 at h
  refine Fn.of (by kernel_rfl) (by kernel_rfl) (by kernel_rfl) ⟨(.v (.agg [(.str a0.fName), (vP e67 a0.fCells)])) :: u40 (u21 []), []⟩ (by kernel_rfl) ?_
  refine Wp.seq' (by kernel_rfl) ?_
  refine Wp.region (by kernel_rfl) ?_
  refine Ops.seg' 2 2 (by kernel_rfl) ?_
  refine Ops.done (by kernel_rfl) ?_
  refine seqQ.n ?_
  refine Wp.seq' (by kernel_rfl) ?_
  refine Wp.seq' (by kernel_rfl) ?_
  refine Wp.region (by kernel_rfl) ?_
  refine Ops.seg' 2 2 (by kernel_rfl) ?_
  obtain ⟨v1, ev1, h⟩ := bnd_some h
  refine Ops.one' 3 (fun h0 e0 => (call_ok (E' := E) (h := h0) (by kernel_rfl) (Args.v (.str a0.fName) (eS a0.fName) (by kernel_rfl) Args.nil) (ok39 m a0.fName v1 ev1 n (by omega)))) (by kernel_rfl) (by kernel_rfl) ?_
  refine Ops.seg' 1 4 (by kernel_rfl) ?_
  refine Ops.done (by kernel_rfl) ?_
  refine seqQ.n ?_
  refine Wp.cnd h [1, 2] 2 (by kernel_rfl) (fun h => ?_) (fun h => ?_)
  · refine Wp.seq' (by kernel_rfl) ?_
    refine Wp.region (by kernel_rfl) ?_
    obtain ⟨v2, ev2, h⟩ := bnd_some h
    refine Ops.one' 1 (fun h0 e0 => (call_ok (E' := E) (h := h0) (by kernel_rfl) (Args.v (vI 10) (eI 10) (by kernel_rfl) (Args.v (vI ((-1))) (eI ((-1))) (by kernel_rfl) Args.nil)) (ok33 m 10 ((-1)) v2 ev2 n (by omega)))) (by kernel_rfl) (by kernel_rfl) ?_
    refine Ops.seg' 1 2 (by kernel_rfl) ?_
    refine Ops.done (by kernel_rfl) ?_
    refine seqQ.n ?_
    refine Wp.ret (by kernel_rfl) ?_
    refine sqQ.r ?_
    refine seqQ.r ?_
    exact fnQ.r' (X15 n) (fun z => (e27 z)) h (RetOk.mk' (.v (.agg [(vI v2.fCode), (vI v2.fIndex)])) (by kernel_rfl) (by kernel_rfl))
  · refine Wp.skip (by kernel_rfl) ?_
    refine sqQ.n' ?_
    refine seqQ.n ?_
    refine Wp.seq' (by kernel_rfl) ?_
    refine Wp.seq' (by kernel_rfl) ?_
    refine Wp.region (by kernel_rfl) ?_
    refine Ops.seg' 2 2 (by kernel_rfl) ?_
    refine Ops.one' 3 (fun h0 e0 => (len_r (T := T) h0 22 68 .plain e67 a0.fCells (by kernel_rfl))) (by kernel_rfl) (by kernel_rfl) ?_
    refine Ops.seg' 2 5 (by kernel_rfl) ?_
    have J15j11 : ∀ (d5 d6 d7 d8 : D) (v9 : Bool) (v10 : Bool), f15_r4 m a0 v10 = some o → Ops (X15 n) (opl (cL (cL (cR (cR C15))))) 10 ⟨(.v (.agg [(.str a0.fName), (vP e67 a0.fCells)])) :: (.ptr 0 0) :: (.ptr 1 0) :: u3 ((.ptr 0 0) :: (.v (.str a0.fName)) :: (dB v1) :: (dB (!v1)) :: u1 ((.ptr 0 1) :: (dP e67 a0.fCells) :: (dI ((a0.fCells.length : Int))) :: (dB v9) :: (dB v9) :: d5 :: d6 :: d7 :: d8 :: (dB v10) :: u40 (u1 []))), [(.cells [(.v (.str a0.fName)), (dP e67 a0.fCells)]), (.cells [(dI 0), (dI 0)])]⟩ ((seqQ (X15 n) (cR (cL (cR (cR C15)))) (seqQ (X15 n) (cR (cR (cR C15))) (fnQ (X15 n).E.T (resOf Proofs.Tryd.prog 15) (e27 o)))) .normal) := by
      intro d5 d6 d7 d8 v9 v10 h
      unfold f15_r4 at h
      refine Ops.done (by kernel_rfl) ?_
      refine seqQ.n ?_
      refine Wp.cnd h [1, 2] 2 (by kernel_rfl) (fun h => ?_) (fun h => ?_)
      · refine Wp.seq' (by kernel_rfl) ?_
        refine Wp.region (by kernel_rfl) ?_
        obtain ⟨v12, ev12, h⟩ := bnd_some h
        refine Ops.one' 1 (fun h0 e0 => (call_ok (E' := E) (h := h0) (by kernel_rfl) (Args.v (vI 9) (eI 9) (by kernel_rfl) (Args.v (vI ((-1))) (eI ((-1))) (by kernel_rfl) Args.nil)) (ok33 m 9 ((-1)) v12 ev12 n (by omega)))) (by kernel_rfl) (by kernel_rfl) ?_
        refine Ops.seg' 1 2 (by kernel_rfl) ?_
        refine Ops.done (by kernel_rfl) ?_
        refine seqQ.n ?_
        refine Wp.ret (by kernel_rfl) ?_
        refine sqQ.r ?_
        refine seqQ.r ?_
        exact fnQ.r' (X15 n) (fun z => (e27 z)) h (RetOk.mk' (.v (.agg [(vI v12.fCode), (vI v12.fIndex)])) (by kernel_rfl) (by kernel_rfl))
      · refine Wp.skip (by kernel_rfl) ?_
        refine sqQ.n' ?_
        refine seqQ.n ?_
        refine Wp.seq' (by kernel_rfl) ?_
        refine Wp.seq' (by kernel_rfl) ?_
        refine Wp.region (by kernel_rfl) ?_
        refine Ops.seg' 2 2 (by kernel_rfl) ?_
        refine Ops.one' 3 (fun h0 e0 => (len_r (T := T) h0 22 68 .plain e67 a0.fCells (by kernel_rfl))) (by kernel_rfl) (by kernel_rfl) ?_
        refine Ops.seg' 1 4 (by kernel_rfl) ?_
        refine Ops.done (by kernel_rfl) ?_
        refine seqQ.n ?_
        refine Wp.block' 0 [2] 2 (by kernel_rfl) ?_
        have hLx117 : ∀ (kx78 : Nat) (v76 : Int)  (ox77 : S27 ⊕ (Int)), iter (fun (y : Int) => f15_B3 m a0 y) kx78 v76 = some ox77 → ∀ nx79, kx78 ≤ nx79 → (∀ r, ox77 = .inl r → ∀ σ, RetOk (X15 n) (resOf Proofs.Tryd.prog 15) (e27 r) σ → (seqQ (X15 n) (cR (cR (cR (cR C15)))) (fnQ (X15 n).E.T (resOf Proofs.Tryd.prog 15) (e27 o))) .ret σ) → (∀ (y : Int) , ox77 = .inr y → (seqQ (X15 n) (cR (cR (cR (cR C15)))) (fnQ (X15 n).E.T (resOf Proofs.Tryd.prog 15) (e27 o))) .normal ⟨q2 ((.ptr 1 0) :: q20 ((dP e67 a0.fCells) :: (dI ((a0.fCells.length : Int))) :: (dI y) :: q36 [])), [(.cells [(.v (.str a0.fName)), (dP e67 a0.fCells)]), (.cells [(dI 0), (dI 0)])]⟩) → Lp (X15 n) [2, 23, 24, 25] 2 (cL (cL (cR (cL (cR (cR (cR C15))))))) nx79 ⟨q2 ((.ptr 1 0) :: q20 ((dP e67 a0.fCells) :: (dI ((a0.fCells.length : Int))) :: (dI v76) :: q36 [])), [(.cells [(.v (.str a0.fName)), (dP e67 a0.fCells)]), (.cells [(dI 0), (dI 0)])]⟩ (blkQ (X15 n) 0 [2] 2 (seqQ (X15 n) (cR (cR (cR (cR C15)))) (fnQ (X15 n).E.T (resOf Proofs.Tryd.prog 15) (e27 o)))) := by
          intro kx78
          induction kx78 with
          | zero => intro v76  ox77 h; exact (iter_zero h).elim
          | succ kx78 ihx80 =>
            intro v76  ox77 h nx79 hnx83 hrx81 hxx82
            obtain ⟨nx79, rfl⟩ : ∃ q, nx79 = q + 1 := ⟨nx79 - 1, by omega⟩
            obtain ⟨sx84, h, hsx85⟩ := iter_some h
            have h : f15_B3 m a0 v76 = some sx84 := h
            unfold f15_B3 at h
            refine Lp.succ ?_
            refine Wp.seq' (by kernel_rfl) ?_
            refine Wp.region (by kernel_rfl) ?_
            refine Ops.seg' 1 1 (by kernel_rfl) ?_
            refine Ops.done (by kernel_rfl) ?_
            refine seqQ.n ?_
            refine Wp.seq' (by kernel_rfl) ?_
            refine Wp.cnd h [2, 23, 24, 25] 2 (by kernel_rfl) (fun h => ?_) (fun h => ?_)
            · refine Wp.skip (by kernel_rfl) ?_
              refine sqQ.n' ?_
              refine seqQ.n ?_
              refine Wp.seq' (by kernel_rfl) ?_
              refine Wp.block' 1 [2, 23, 24, 25] 2 (by kernel_rfl) ?_
              refine Wp.seq' (by kernel_rfl) ?_
              refine Wp.region (by kernel_rfl) ?_
              refine Ops.seg' 1 1 (by kernel_rfl) ?_
              obtain ⟨v86, ev86, h⟩ := bnd_some h
              refine Ops.one' 2 (fun h0 e0 => (ix_r (T := T) h0 22 68 3 .plain e67 a0.fCells v76 v86 ev86 (by kernel_rfl) (by kernel_rfl) (fun _ => rfl))) (by kernel_rfl) (by kernel_rfl) ?_
              refine Ops.seg' 4 6 (by kernel_rfl) ?_
              refine Ops.done (by kernel_rfl) ?_
              refine seqQ.n ?_
              refine Wp.seq' (by kernel_rfl) ?_
              refine Wp.seq' (by kernel_rfl) ?_
              refine Wp.region (by kernel_rfl) ?_
              refine Ops.seg' 2 2 (by kernel_rfl) ?_
              obtain ⟨v87, ev87, h⟩ := bnd_some h
              refine Ops.one' 3 (fun h0 e0 => (call_ok (E' := E) (h := h0) (by kernel_rfl) (Args.v (vP eS v86.fTags) ((eL eS) v86.fTags) (by kernel_rfl) Args.nil) (ok40 m v86.fTags v87 ev87 n (by omega)))) (by kernel_rfl) (by kernel_rfl) ?_
              refine Ops.seg' 1 4 (by kernel_rfl) ?_
              refine Ops.done (by kernel_rfl) ?_
              refine seqQ.n ?_
              refine Wp.seq' (by kernel_rfl) ?_
              refine Wp.region (by kernel_rfl) ?_
              refine Ops.seg' 2 2 (by kernel_rfl) ?_
              refine Ops.done (by kernel_rfl) ?_
              refine seqQ.n ?_
              refine Wp.cnd h [2, 3, 4, 23, 24, 25] 3 (by kernel_rfl) (fun h => ?_) (fun h => ?_)
              · refine Wp.seq' (by kernel_rfl) ?_
                refine Wp.region (by kernel_rfl) ?_
                refine Ops.seg' 2 2 (by kernel_rfl) ?_
                obtain ⟨v88, ev88, h⟩ := bnd_some h
                refine Ops.one' 3 (fun h0 e0 => (call_ok (E' := E) (h := h0) (by kernel_rfl) (Args.v (vI v87) (eI v87) (by kernel_rfl) (Args.v (vI v76) (eI v76) (by kernel_rfl) Args.nil)) (ok33 m v87 v76 v88 ev88 n (by omega)))) (by kernel_rfl) (by kernel_rfl) ?_
                refine Ops.seg' 1 4 (by kernel_rfl) ?_
                refine Ops.done (by kernel_rfl) ?_
                refine seqQ.n ?_
                refine Wp.ret (by kernel_rfl) ?_
                refine sqQ.r ?_
                refine seqQ.r ?_
                refine blkQ.r ?_
                refine seqQ.r ?_
                cases h
                refine lpQ.r ?_
                refine blkQ.r ?_
                exact hrx81 _ hsx85 _ (RetOk.forget [2, 23, 24, 25] (by kernel_rfl) (RetOk.mk' (.v (.agg [(vI v88.fCode), (vI v88.fIndex)])) (by kernel_rfl) (by kernel_rfl)))
              · refine Wp.skip (by kernel_rfl) ?_
                refine sqQ.n' ?_
                refine seqQ.n ?_
                refine Wp.seq' (by kernel_rfl) ?_
                refine Wp.region (by kernel_rfl) ?_
                refine Ops.seg' 4 4 (by kernel_rfl) ?_
                have J15j97 : ∀ (d91 d92 d93 d94 : D) (v95 : Bool) (v96 : Bool), f15_r2 m v76 v86 v96 = some sx84 → Ops (X15 n) (opl (cL (cR (cR (cL (cL (cR (cR (cL (cL (cR (cL (cR (cR (cR C15))))))))))))))) 9 ⟨q2 ((.ptr 1 0) :: (dI v76) :: (.ptr 2 0) :: (dI v87) :: q17 ((dP e67 a0.fCells) :: (dI ((a0.fCells.length : Int))) :: (dI v76) :: (dB (decide (v76 < (a0.fCells.length : Int)))) :: (dI v76) :: (.vptr [(vP eS v86.fTags), (.str v86.fCut), (.str v86.fAdd)]) :: (.v (.agg [(vP eS v86.fTags), (.str v86.fCut), (.str v86.fAdd)])) :: (.ptr 2 0) :: (dP eS v86.fTags) :: (dI v87) :: (dI v87) :: (dB (v87 != 0)) :: q3 ((.ptr 2 1) :: (.v (.str v86.fCut)) :: (dB v95) :: (dB v95) :: d91 :: d92 :: d93 :: d94 :: (dB v96) :: q15 []))), [(.cells [(.v (.str a0.fName)), (dP e67 a0.fCells)]), (.cells [(dI 0), (dI 0)]), (.cells [(dP eS v86.fTags), (.v (.str v86.fCut)), (.v (.str v86.fAdd))])]⟩ ((seqQ (X15 n) (cR (cR (cR (cL (cL (cR (cR (cL (cL (cR (cL (cR (cR (cR C15)))))))))))))) (blkQ (X15 n) 1 [2, 23, 24, 25] 2 (seqQ (X15 n) (cR (cR (cR (cL (cL (cR (cL (cR (cR (cR C15)))))))))) (lpQ (X15 n) [2, 23, 24, 25] 2 (cL (cL (cR (cL (cR (cR (cR C15))))))) nx79 (blkQ (X15 n) 0 [2] 2 (seqQ (X15 n) (cR (cR (cR (cR C15)))) (fnQ (X15 n).E.T (resOf Proofs.Tryd.prog 15) (e27 o)))))))) .normal) := by
                  intro d91 d92 d93 d94 v95 v96 h
                  unfold f15_r2 at h
                  refine Ops.seg' 1 10 (by kernel_rfl) ?_
                  have J15j111 : ∀ (d100 d101 d102 d103 d104 d105 d106 d107 d108 : D) (v109 : Bool) (v110 : Bool), f15_r1 m v76 v110 = some sx84 → Ops (X15 n) (opl (cL (cR (cR (cL (cL (cR (cR (cL (cL (cR (cL (cR (cR (cR C15))))))))))))))) 20 ⟨q2 ((.ptr 1 0) :: (dI v76) :: (.ptr 2 0) :: (dI v87) :: q17 ((dP e67 a0.fCells) :: (dI ((a0.fCells.length : Int))) :: (dI v76) :: (dB (decide (v76 < (a0.fCells.length : Int)))) :: (dI v76) :: (.vptr [(vP eS v86.fTags), (.str v86.fCut), (.str v86.fAdd)]) :: (.v (.agg [(vP eS v86.fTags), (.str v86.fCut), (.str v86.fAdd)])) :: (.ptr 2 0) :: (dP eS v86.fTags) :: (dI v87) :: (dI v87) :: (dB (v87 != 0)) :: q3 ((.ptr 2 1) :: (.v (.str v86.fCut)) :: (dB v95) :: (dB v95) :: d91 :: d92 :: d93 :: d94 :: (dB v109) :: (dB v109) :: d100 :: d101 :: d102 :: d103 :: d104 :: d105 :: d106 :: d107 :: d108 :: (dB v110) :: q4 []))), [(.cells [(.v (.str a0.fName)), (dP e67 a0.fCells)]), (.cells [(dI 0), (dI 0)]), (.cells [(dP eS v86.fTags), (.v (.str v86.fCut)), (.v (.str v86.fAdd))])]⟩ ((seqQ (X15 n) (cR (cR (cR (cL (cL (cR (cR (cL (cL (cR (cL (cR (cR (cR C15)))))))))))))) (blkQ (X15 n) 1 [2, 23, 24, 25] 2 (seqQ (X15 n) (cR (cR (cR (cL (cL (cR (cL (cR (cR (cR C15)))))))))) (lpQ (X15 n) [2, 23, 24, 25] 2 (cL (cL (cR (cL (cR (cR (cR C15))))))) nx79 (blkQ (X15 n) 0 [2] 2 (seqQ (X15 n) (cR (cR (cR (cR C15)))) (fnQ (X15 n).E.T (resOf Proofs.Tryd.prog 15) (e27 o)))))))) .normal) := by
                    intro d100 d101 d102 d103 d104 d105 d106 d107 d108 v109 v110 h
                    unfold f15_r1 at h
                    refine Ops.done (by kernel_rfl) ?_
                    refine seqQ.n ?_
                    refine Wp.cnd h [2, 23, 24, 25] 3 (by kernel_rfl) (fun h => ?_) (fun h => ?_)
                    · refine Wp.seq' (by kernel_rfl) ?_
                      refine Wp.region (by kernel_rfl) ?_
                      refine Ops.seg' 1 1 (by kernel_rfl) ?_
                      obtain ⟨v112, ev112, h⟩ := bnd_some h
                      refine Ops.one' 2 (fun h0 e0 => (call_ok (E' := E) (h := h0) (by kernel_rfl) (Args.v (vI 5) (eI 5) (by kernel_rfl) (Args.v (vI v76) (eI v76) (by kernel_rfl) Args.nil)) (ok33 m 5 v76 v112 ev112 n (by omega)))) (by kernel_rfl) (by kernel_rfl) ?_
                      refine Ops.seg' 1 3 (by kernel_rfl) ?_
                      refine Ops.done (by kernel_rfl) ?_
                      refine seqQ.n ?_
                      refine Wp.ret (by kernel_rfl) ?_
                      refine sqQ.r ?_
                      refine blkQ.r ?_
                      refine seqQ.r ?_
                      cases h
                      refine lpQ.r ?_
                      refine blkQ.r ?_
                      exact hrx81 _ hsx85 _ (RetOk.forget [2, 23, 24, 25] (by kernel_rfl) (RetOk.mk' (.v (.agg [(vI v112.fCode), (vI v112.fIndex)])) (by kernel_rfl) (by kernel_rfl)))
                    · refine Wp.skip (by kernel_rfl) ?_
                      refine sqQ.n' ?_
                      refine blkQ.n' ?_
                      refine seqQ.n ?_
                      refine Wp.region (by kernel_rfl) ?_
                      refine Ops.seg' 2 2 (by kernel_rfl) ?_
                      refine Ops.done (by kernel_rfl) ?_
                      refine lpQ.n ⟨q2 ((.ptr 1 0) :: q20 ((dP e67 a0.fCells) :: (dI ((a0.fCells.length : Int))) :: (dI (w64 (v76 + 1))) :: q36 [])), [(.cells [(.v (.str a0.fName)), (dP e67 a0.fCells)]), (.cells [(dI 0), (dI 0)])]⟩ (by kernel_rfl) ?_
                      cases h
                      exact ihx80 (w64 (v76 + 1))  _ hsx85 _ (by omega) hrx81 hxx82
                  obtain ⟨v110, ev110, h⟩ := bnd_some h
                  have G15g99 : ∀ v98 : Bool, (cnd v98 (some true) (cnd (!(v86.fAdd.toList == ((⟨#[]⟩ : ByteArray)).toList)) (bnd (f32 m v86.fAdd) fun v115 => some (!v115)) (some false))) = some v110 → Ops (X15 n) (opl (cL (cR (cR (cL (cL (cR (cR (cL (cL (cR (cL (cR (cR (cR C15))))))))))))))) 10 ⟨q2 ((.ptr 1 0) :: (dI v76) :: (.ptr 2 0) :: (dI v87) :: q17 ((dP e67 a0.fCells) :: (dI ((a0.fCells.length : Int))) :: (dI v76) :: (dB (decide (v76 < (a0.fCells.length : Int)))) :: (dI v76) :: (.vptr [(vP eS v86.fTags), (.str v86.fCut), (.str v86.fAdd)]) :: (.v (.agg [(vP eS v86.fTags), (.str v86.fCut), (.str v86.fAdd)])) :: (.ptr 2 0) :: (dP eS v86.fTags) :: (dI v87) :: (dI v87) :: (dB (v87 != 0)) :: q3 ((.ptr 2 1) :: (.v (.str v86.fCut)) :: (dB v95) :: (dB v95) :: d91 :: d92 :: d93 :: d94 :: (dB v98) :: (dB v98) :: q14 []))), [(.cells [(.v (.str a0.fName)), (dP e67 a0.fCells)]), (.cells [(dI 0), (dI 0)]), (.cells [(dP eS v86.fTags), (.v (.str v86.fCut)), (.v (.str v86.fAdd))])]⟩ ((seqQ (X15 n) (cR (cR (cR (cL (cL (cR (cR (cL (cL (cR (cL (cR (cR (cR C15)))))))))))))) (blkQ (X15 n) 1 [2, 23, 24, 25] 2 (seqQ (X15 n) (cR (cR (cR (cL (cL (cR (cL (cR (cR (cR C15)))))))))) (lpQ (X15 n) [2, 23, 24, 25] 2 (cL (cL (cR (cL (cR (cR (cR C15))))))) nx79 (blkQ (X15 n) 0 [2] 2 (seqQ (X15 n) (cR (cR (cR (cR C15)))) (fnQ (X15 n).E.T (resOf Proofs.Tryd.prog 15) (e27 o)))))))) .normal) := by
                    intro v98 ev110
                    cases v98
                    · have ev110 := cnd_f ev110
                      refine Ops.seg' 4 14 (by kernel_rfl) ?_
                      have G15g114 : ∀ v113 : Bool, (cnd v113 (bnd (f32 m v86.fAdd) fun v115 => some (!v115)) (some false)) = some v110 → Ops (X15 n) (opl (cL (cR (cR (cL (cL (cR (cR (cL (cL (cR (cL (cR (cR (cR C15))))))))))))))) 14 ⟨q2 ((.ptr 1 0) :: (dI v76) :: (.ptr 2 0) :: (dI v87) :: q17 ((dP e67 a0.fCells) :: (dI ((a0.fCells.length : Int))) :: (dI v76) :: (dB (decide (v76 < (a0.fCells.length : Int)))) :: (dI v76) :: (.vptr [(vP eS v86.fTags), (.str v86.fCut), (.str v86.fAdd)]) :: (.v (.agg [(vP eS v86.fTags), (.str v86.fCut), (.str v86.fAdd)])) :: (.ptr 2 0) :: (dP eS v86.fTags) :: (dI v87) :: (dI v87) :: (dB (v87 != 0)) :: q3 ((.ptr 2 1) :: (.v (.str v86.fCut)) :: (dB v95) :: (dB v95) :: d91 :: d92 :: d93 :: d94 :: (dB false) :: (dB false) :: (.ptr 2 2) :: (.v (.str v86.fAdd)) :: (dB v113) :: (dB v113) :: q10 []))), [(.cells [(.v (.str a0.fName)), (dP e67 a0.fCells)]), (.cells [(dI 0), (dI 0)]), (.cells [(dP eS v86.fTags), (.v (.str v86.fCut)), (.v (.str v86.fAdd))])]⟩ ((seqQ (X15 n) (cR (cR (cR (cL (cL (cR (cR (cL (cL (cR (cL (cR (cR (cR C15)))))))))))))) (blkQ (X15 n) 1 [2, 23, 24, 25] 2 (seqQ (X15 n) (cR (cR (cR (cL (cL (cR (cL (cR (cR (cR C15)))))))))) (lpQ (X15 n) [2, 23, 24, 25] 2 (cL (cL (cR (cL (cR (cR (cR C15))))))) nx79 (blkQ (X15 n) 0 [2] 2 (seqQ (X15 n) (cR (cR (cR (cR C15)))) (fnQ (X15 n).E.T (resOf Proofs.Tryd.prog 15) (e27 o)))))))) .normal) := by
                        intro v113 ev110
                        cases v113
                        · have ev110 := cnd_f ev110
                          refine Ops.seg' 6 20 (by kernel_rfl) ?_
                          refine Ops.st ⟨q2 ((.ptr 1 0) :: (dI v76) :: (.ptr 2 0) :: (dI v87) :: q17 ((dP e67 a0.fCells) :: (dI ((a0.fCells.length : Int))) :: (dI v76) :: (dB (decide (v76 < (a0.fCells.length : Int)))) :: (dI v76) :: (.vptr [(vP eS v86.fTags), (.str v86.fCut), (.str v86.fAdd)]) :: (.v (.agg [(vP eS v86.fTags), (.str v86.fCut), (.str v86.fAdd)])) :: (.ptr 2 0) :: (dP eS v86.fTags) :: (dI v87) :: (dI v87) :: (dB (v87 != 0)) :: q3 ((.ptr 2 1) :: (.v (.str v86.fCut)) :: (dB v95) :: (dB v95) :: d91 :: d92 :: d93 :: d94 :: (dB false) :: (dB false) :: (.ptr 2 2) :: (.v (.str v86.fAdd)) :: (dB false) :: (dB false) :: u4 ((dB false) :: (dB false) :: q4 [])))), [(.cells [(.v (.str a0.fName)), (dP e67 a0.fCells)]), (.cells [(dI 0), (dI 0)]), (.cells [(dP eS v86.fTags), (.v (.str v86.fCut)), (.v (.str v86.fAdd))])]⟩ (by kernel_rfl) ?_
                          exact J15j111 _ _ _ _ _ _ _ _ _ _ _ (some_sub (fun v110 => f15_r1 m v76 v110 = some sx84) ev110 h)
                        · have ev110 := cnd_t ev110
                          refine Ops.seg' 2 16 (by kernel_rfl) ?_
                          obtain ⟨v115, ev115, ev110⟩ := bnd_some ev110
                          refine Ops.one' 17 (fun h0 e0 => (call_ok (E' := E) (h := h0) (by kernel_rfl) (Args.v (.str v86.fAdd) (eS v86.fAdd) (by kernel_rfl) Args.nil) (ok32 m v86.fAdd v115 ev115 n (by omega)))) (by kernel_rfl) (by kernel_rfl) ?_
                          refine Ops.seg' 3 20 (by kernel_rfl) ?_
                          refine Ops.st ⟨q2 ((.ptr 1 0) :: (dI v76) :: (.ptr 2 0) :: (dI v87) :: q17 ((dP e67 a0.fCells) :: (dI ((a0.fCells.length : Int))) :: (dI v76) :: (dB (decide (v76 < (a0.fCells.length : Int)))) :: (dI v76) :: (.vptr [(vP eS v86.fTags), (.str v86.fCut), (.str v86.fAdd)]) :: (.v (.agg [(vP eS v86.fTags), (.str v86.fCut), (.str v86.fAdd)])) :: (.ptr 2 0) :: (dP eS v86.fTags) :: (dI v87) :: (dI v87) :: (dB (v87 != 0)) :: q3 ((.ptr 2 1) :: (.v (.str v86.fCut)) :: (dB v95) :: (dB v95) :: d91 :: d92 :: d93 :: d94 :: (dB false) :: (dB false) :: (.ptr 2 2) :: (.v (.str v86.fAdd)) :: (dB true) :: (dB true) :: (.ptr 2 2) :: (.v (.str v86.fAdd)) :: (dB v115) :: (dB (!v115)) :: (dB (!v115)) :: (dB (!v115)) :: q4 []))), [(.cells [(.v (.str a0.fName)), (dP e67 a0.fCells)]), (.cells [(dI 0), (dI 0)]), (.cells [(dP eS v86.fTags), (.v (.str v86.fCut)), (.v (.str v86.fAdd))])]⟩ (by kernel_rfl) ?_
                          exact J15j111 _ _ _ _ _ _ _ _ _ _ _ (some_sub (fun v110 => f15_r1 m v76 v110 = some sx84) ev110 h)
                      exact Ops.st ⟨q2 ((.ptr 1 0) :: (dI v76) :: (.ptr 2 0) :: (dI v87) :: q17 ((dP e67 a0.fCells) :: (dI ((a0.fCells.length : Int))) :: (dI v76) :: (dB (decide (v76 < (a0.fCells.length : Int)))) :: (dI v76) :: (.vptr [(vP eS v86.fTags), (.str v86.fCut), (.str v86.fAdd)]) :: (.v (.agg [(vP eS v86.fTags), (.str v86.fCut), (.str v86.fAdd)])) :: (.ptr 2 0) :: (dP eS v86.fTags) :: (dI v87) :: (dI v87) :: (dB (v87 != 0)) :: q3 ((.ptr 2 1) :: (.v (.str v86.fCut)) :: (dB v95) :: (dB v95) :: d91 :: d92 :: d93 :: d94 :: (dB false) :: (dB false) :: (.ptr 2 2) :: (.v (.str v86.fAdd)) :: (dB ((!(v86.fAdd.toList == ((⟨#[]⟩ : ByteArray)).toList)))) :: (dB ((!(v86.fAdd.toList == ((⟨#[]⟩ : ByteArray)).toList)))) :: q10 []))), [(.cells [(.v (.str a0.fName)), (dP e67 a0.fCells)]), (.cells [(dI 0), (dI 0)]), (.cells [(dP eS v86.fTags), (.v (.str v86.fCut)), (.v (.str v86.fAdd))])]⟩ (by kernel_rfl) (G15g114 (!(v86.fAdd.toList == ((⟨#[]⟩ : ByteArray)).toList)) ev110)
                    · have ev110 := cnd_t ev110
                      refine Ops.seg' 10 20 (by kernel_rfl) ?_
                      refine Ops.st ⟨q2 ((.ptr 1 0) :: (dI v76) :: (.ptr 2 0) :: (dI v87) :: q17 ((dP e67 a0.fCells) :: (dI ((a0.fCells.length : Int))) :: (dI v76) :: (dB (decide (v76 < (a0.fCells.length : Int)))) :: (dI v76) :: (.vptr [(vP eS v86.fTags), (.str v86.fCut), (.str v86.fAdd)]) :: (.v (.agg [(vP eS v86.fTags), (.str v86.fCut), (.str v86.fAdd)])) :: (.ptr 2 0) :: (dP eS v86.fTags) :: (dI v87) :: (dI v87) :: (dB (v87 != 0)) :: q3 ((.ptr 2 1) :: (.v (.str v86.fCut)) :: (dB v95) :: (dB v95) :: d91 :: d92 :: d93 :: d94 :: (dB true) :: (dB true) :: u9 ((dB true) :: q4 [])))), [(.cells [(.v (.str a0.fName)), (dP e67 a0.fCells)]), (.cells [(dI 0), (dI 0)]), (.cells [(dP eS v86.fTags), (.v (.str v86.fCut)), (.v (.str v86.fAdd))])]⟩ (by kernel_rfl) ?_
                      exact J15j111 _ _ _ _ _ _ _ _ _ _ _ (some_sub (fun v110 => f15_r1 m v76 v110 = some sx84) ev110 h)
                  exact Ops.st ⟨q2 ((.ptr 1 0) :: (dI v76) :: (.ptr 2 0) :: (dI v87) :: q17 ((dP e67 a0.fCells) :: (dI ((a0.fCells.length : Int))) :: (dI v76) :: (dB (decide (v76 < (a0.fCells.length : Int)))) :: (dI v76) :: (.vptr [(vP eS v86.fTags), (.str v86.fCut), (.str v86.fAdd)]) :: (.v (.agg [(vP eS v86.fTags), (.str v86.fCut), (.str v86.fAdd)])) :: (.ptr 2 0) :: (dP eS v86.fTags) :: (dI v87) :: (dI v87) :: (dB (v87 != 0)) :: q3 ((.ptr 2 1) :: (.v (.str v86.fCut)) :: (dB v95) :: (dB v95) :: d91 :: d92 :: d93 :: d94 :: (dB v96) :: (dB v96) :: q14 []))), [(.cells [(.v (.str a0.fName)), (dP e67 a0.fCells)]), (.cells [(dI 0), (dI 0)]), (.cells [(dP eS v86.fTags), (.v (.str v86.fCut)), (.v (.str v86.fAdd))])]⟩ (by kernel_rfl) (G15g99 v96 ev110)
                obtain ⟨v96, ev96, h⟩ := bnd_some h
                have G15g90 : ∀ v89 : Bool, (cnd v89 (bnd (f32 m v86.fCut) fun v116 => some (!v116)) (some false)) = some v96 → Ops (X15 n) (opl (cL (cR (cR (cL (cL (cR (cR (cL (cL (cR (cL (cR (cR (cR C15))))))))))))))) 4 ⟨q2 ((.ptr 1 0) :: (dI v76) :: (.ptr 2 0) :: (dI v87) :: q17 ((dP e67 a0.fCells) :: (dI ((a0.fCells.length : Int))) :: (dI v76) :: (dB (decide (v76 < (a0.fCells.length : Int)))) :: (dI v76) :: (.vptr [(vP eS v86.fTags), (.str v86.fCut), (.str v86.fAdd)]) :: (.v (.agg [(vP eS v86.fTags), (.str v86.fCut), (.str v86.fAdd)])) :: (.ptr 2 0) :: (dP eS v86.fTags) :: (dI v87) :: (dI v87) :: (dB (v87 != 0)) :: q3 ((.ptr 2 1) :: (.v (.str v86.fCut)) :: (dB v89) :: (dB v89) :: q20 []))), [(.cells [(.v (.str a0.fName)), (dP e67 a0.fCells)]), (.cells [(dI 0), (dI 0)]), (.cells [(dP eS v86.fTags), (.v (.str v86.fCut)), (.v (.str v86.fAdd))])]⟩ ((seqQ (X15 n) (cR (cR (cR (cL (cL (cR (cR (cL (cL (cR (cL (cR (cR (cR C15)))))))))))))) (blkQ (X15 n) 1 [2, 23, 24, 25] 2 (seqQ (X15 n) (cR (cR (cR (cL (cL (cR (cL (cR (cR (cR C15)))))))))) (lpQ (X15 n) [2, 23, 24, 25] 2 (cL (cL (cR (cL (cR (cR (cR C15))))))) nx79 (blkQ (X15 n) 0 [2] 2 (seqQ (X15 n) (cR (cR (cR (cR C15)))) (fnQ (X15 n).E.T (resOf Proofs.Tryd.prog 15) (e27 o)))))))) .normal) := by
                  intro v89 ev96
                  cases v89
                  · have ev96 := cnd_f ev96
                    refine Ops.seg' 5 9 (by kernel_rfl) ?_
                    refine Ops.st ⟨q2 ((.ptr 1 0) :: (dI v76) :: (.ptr 2 0) :: (dI v87) :: q17 ((dP e67 a0.fCells) :: (dI ((a0.fCells.length : Int))) :: (dI v76) :: (dB (decide (v76 < (a0.fCells.length : Int)))) :: (dI v76) :: (.vptr [(vP eS v86.fTags), (.str v86.fCut), (.str v86.fAdd)]) :: (.v (.agg [(vP eS v86.fTags), (.str v86.fCut), (.str v86.fAdd)])) :: (.ptr 2 0) :: (dP eS v86.fTags) :: (dI v87) :: (dI v87) :: (dB (v87 != 0)) :: q3 ((.ptr 2 1) :: (.v (.str v86.fCut)) :: (dB false) :: (dB false) :: u4 ((dB false) :: q15 [])))), [(.cells [(.v (.str a0.fName)), (dP e67 a0.fCells)]), (.cells [(dI 0), (dI 0)]), (.cells [(dP eS v86.fTags), (.v (.str v86.fCut)), (.v (.str v86.fAdd))])]⟩ (by kernel_rfl) ?_
                    exact J15j97 _ _ _ _ _ _ (some_sub (fun v96 => f15_r2 m v76 v86 v96 = some sx84) ev96 h)
                  · have ev96 := cnd_t ev96
                    refine Ops.seg' 2 6 (by kernel_rfl) ?_
                    obtain ⟨v116, ev116, ev96⟩ := bnd_some ev96
                    refine Ops.one' 7 (fun h0 e0 => (call_ok (E' := E) (h := h0) (by kernel_rfl) (Args.v (.str v86.fCut) (eS v86.fCut) (by kernel_rfl) Args.nil) (ok32 m v86.fCut v116 ev116 n (by omega)))) (by kernel_rfl) (by kernel_rfl) ?_
                    refine Ops.seg' 2 9 (by kernel_rfl) ?_
                    refine Ops.st ⟨q2 ((.ptr 1 0) :: (dI v76) :: (.ptr 2 0) :: (dI v87) :: q17 ((dP e67 a0.fCells) :: (dI ((a0.fCells.length : Int))) :: (dI v76) :: (dB (decide (v76 < (a0.fCells.length : Int)))) :: (dI v76) :: (.vptr [(vP eS v86.fTags), (.str v86.fCut), (.str v86.fAdd)]) :: (.v (.agg [(vP eS v86.fTags), (.str v86.fCut), (.str v86.fAdd)])) :: (.ptr 2 0) :: (dP eS v86.fTags) :: (dI v87) :: (dI v87) :: (dB (v87 != 0)) :: q3 ((.ptr 2 1) :: (.v (.str v86.fCut)) :: (dB true) :: (dB true) :: (.ptr 2 1) :: (.v (.str v86.fCut)) :: (dB v116) :: (dB (!v116)) :: (dB (!v116)) :: q15 []))), [(.cells [(.v (.str a0.fName)), (dP e67 a0.fCells)]), (.cells [(dI 0), (dI 0)]), (.cells [(dP eS v86.fTags), (.v (.str v86.fCut)), (.v (.str v86.fAdd))])]⟩ (by kernel_rfl) ?_
                    exact J15j97 _ _ _ _ _ _ (some_sub (fun v96 => f15_r2 m v76 v86 v96 = some sx84) ev96 h)
                exact Ops.st ⟨q2 ((.ptr 1 0) :: (dI v76) :: (.ptr 2 0) :: (dI v87) :: q17 ((dP e67 a0.fCells) :: (dI ((a0.fCells.length : Int))) :: (dI v76) :: (dB (decide (v76 < (a0.fCells.length : Int)))) :: (dI v76) :: (.vptr [(vP eS v86.fTags), (.str v86.fCut), (.str v86.fAdd)]) :: (.v (.agg [(vP eS v86.fTags), (.str v86.fCut), (.str v86.fAdd)])) :: (.ptr 2 0) :: (dP eS v86.fTags) :: (dI v87) :: (dI v87) :: (dB (v87 != 0)) :: q3 ((.ptr 2 1) :: (.v (.str v86.fCut)) :: (dB ((!(v86.fCut.toList == ((⟨#[]⟩ : ByteArray)).toList)))) :: (dB ((!(v86.fCut.toList == ((⟨#[]⟩ : ByteArray)).toList)))) :: q20 []))), [(.cells [(.v (.str a0.fName)), (dP e67 a0.fCells)]), (.cells [(dI 0), (dI 0)]), (.cells [(dP eS v86.fTags), (.v (.str v86.fCut)), (.v (.str v86.fAdd))])]⟩ (by kernel_rfl) (G15g90 (!(v86.fCut.toList == ((⟨#[]⟩ : ByteArray)).toList)) ev96)
            · refine Wp.exit (id := 0) (by kernel_rfl) ?_
              refine sqQ.x ?_
              refine seqQ.x ?_
              cases h
              refine lpQ.x ?_
              refine blkQ.x ⟨q2 ((.ptr 1 0) :: q20 ((dP e67 a0.fCells) :: (dI ((a0.fCells.length : Int))) :: (dI v76) :: q36 [])), [(.cells [(.v (.str a0.fName)), (dP e67 a0.fCells)]), (.cells [(dI 0), (dI 0)])]⟩ (by kernel_rfl) ?_
              exact hxx82 v76  hsx85
        refine Wp.loop' [2, 23, 24, 25] 2 (by kernel_rfl) ⟨q2 ((.ptr 1 0) :: q20 ((dP e67 a0.fCells) :: (dI ((a0.fCells.length : Int))) :: (dI 0) :: q36 [])), [(.cells [(.v (.str a0.fName)), (dP e67 a0.fCells)]), (.cells [(dI 0), (dI 0)])]⟩ (by kernel_rfl) ?_
        rcases brk_some h with ⟨r119, er119, h⟩ | ⟨y118, ey118, h⟩
        · refine hLx117 _ 0  _ er119 n (by omega) (fun r er σ hσ => ?_) (fun y  ey => by cases ey)
          cases er
          refine seqQ.r ?_
          exact fnQ.r' (X15 n) (fun z => (e27 z)) h hσ
        · refine hLx117 _ 0  _ ey118 n (by omega) (fun r er => by cases er) (fun y  ey => ?_)
          cases ey
          refine seqQ.n ?_
          refine Wp.seq' (by kernel_rfl) ?_
          refine Wp.region (by kernel_rfl) ?_
          refine Ops.seg' 2 2 (by kernel_rfl) ?_
          refine Ops.done (by kernel_rfl) ?_
          refine seqQ.n ?_
          refine Wp.ret (by kernel_rfl) ?_
          exact fnQ.r' (X15 n) (fun z => (e27 z)) h (RetOk.mk' (.v (.agg [(vI 0), (vI 0)])) (by kernel_rfl) (by kernel_rfl))
    have G15g4 : ∀ v3 : Bool, f15_r4 m a0 ((v3 || (decide ((a0.fCells.length : Int) > 40)))) = some o → Ops (X15 n) (opl (cL (cL (cR (cR C15))))) 5 ⟨(.v (.agg [(.str a0.fName), (vP e67 a0.fCells)])) :: (.ptr 0 0) :: (.ptr 1 0) :: u3 ((.ptr 0 0) :: (.v (.str a0.fName)) :: (dB v1) :: (dB (!v1)) :: u1 ((.ptr 0 1) :: (dP e67 a0.fCells) :: (dI ((a0.fCells.length : Int))) :: (dB v3) :: (dB v3) :: u40 (u6 []))), [(.cells [(.v (.str a0.fName)), (dP e67 a0.fCells)]), (.cells [(dI 0), (dI 0)])]⟩ ((seqQ (X15 n) (cR (cL (cR (cR C15)))) (seqQ (X15 n) (cR (cR (cR C15))) (fnQ (X15 n).E.T (resOf Proofs.Tryd.prog 15) (e27 o)))) .normal) := by
      intro v3 h
      cases v3
      · refine Ops.seg' 2 7 (by kernel_rfl) ?_
        refine Ops.one' 8 (fun h0 e0 => (len_r (T := T) h0 22 68 .plain e67 a0.fCells (by kernel_rfl))) (by kernel_rfl) (by kernel_rfl) ?_
        refine Ops.seg' 2 10 (by kernel_rfl) ?_
        refine Ops.st ⟨(.v (.agg [(.str a0.fName), (vP e67 a0.fCells)])) :: (.ptr 0 0) :: (.ptr 1 0) :: u3 ((.ptr 0 0) :: (.v (.str a0.fName)) :: (dB v1) :: (dB (!v1)) :: u1 ((.ptr 0 1) :: (dP e67 a0.fCells) :: (dI ((a0.fCells.length : Int))) :: (dB false) :: (dB false) :: (.ptr 0 1) :: (dP e67 a0.fCells) :: (dI ((a0.fCells.length : Int))) :: (dB (decide ((a0.fCells.length : Int) > 40))) :: (dB (decide ((a0.fCells.length : Int) > 40))) :: u40 (u1 []))), [(.cells [(.v (.str a0.fName)), (dP e67 a0.fCells)]), (.cells [(dI 0), (dI 0)])]⟩ (by kernel_rfl) ?_
        exact J15j11 _ _ _ _ _ _ h
      · refine Ops.seg' 5 10 (by kernel_rfl) ?_
        refine Ops.st ⟨(.v (.agg [(.str a0.fName), (vP e67 a0.fCells)])) :: (.ptr 0 0) :: (.ptr 1 0) :: u3 ((.ptr 0 0) :: (.v (.str a0.fName)) :: (dB v1) :: (dB (!v1)) :: u1 ((.ptr 0 1) :: (dP e67 a0.fCells) :: (dI ((a0.fCells.length : Int))) :: (dB true) :: (dB true) :: u4 ((dB true) :: u40 (u1 [])))), [(.cells [(.v (.str a0.fName)), (dP e67 a0.fCells)]), (.cells [(dI 0), (dI 0)])]⟩ (by kernel_rfl) ?_
        exact J15j11 _ _ _ _ _ _ h
    exact Ops.st ⟨(.v (.agg [(.str a0.fName), (vP e67 a0.fCells)])) :: (.ptr 0 0) :: (.ptr 1 0) :: u3 ((.ptr 0 0) :: (.v (.str a0.fName)) :: (dB v1) :: (dB (!v1)) :: u1 ((.ptr 0 1) :: (dP e67 a0.fCells) :: (dI ((a0.fCells.length : Int))) :: (dB ((decide ((a0.fCells.length : Int) < 1)))) :: (dB ((decide ((a0.fCells.length : Int) < 1)))) :: u40 (u6 []))), [(.cells [(.v (.str a0.fName)), (dP e67 a0.fCells)]), (.cells [(dI 0), (dI 0)])]⟩ (by kernel_rfl) (G15g4 (decide ((a0.fCells.length : Int) < 1)) h)

/-! ### 117 internal/stringslite.HasSuffix -/
def f117_r1 (m : Nat) (v13 : Bool) : Option Bool :=
  some v13
def f117 (m : Nat) (a0 : ByteArray) (a1 : ByteArray) : Option Bool :=
  bnd (cnd (decide ((a0.size : Int) ≥ (a1.size : Int)))
  (bnd (ssub a0 (w64 ((a0.size : Int) - (a1.size : Int))) (a0.size : Int)) fun v15 =>
  some ((v15.toList == a1.toList)))
  (some false)) fun v13 =>
  f117_r1 m v13
noncomputable abbrev X117 (n : Nat) : Cx := cxOf Proofs.Tryd.prog E 117 n
noncomputable def C117 : Code := bodyOf Proofs.Tryd.prog 117
theorem ok117 (m : Nat) (a0 : ByteArray) (a1 : ByteArray) (o : Bool) (h : f117 m a0 a1 = some o) (n : Nat) (hn : m + 1 ≤ n) : Fn Proofs.Tryd.prog E n 117 [.v (eS a0), .v (eS a1)] (eB o) := by
  obtain ⟨n, rfl⟩ : ∃ q, n = q + 1 := ⟨n - 1, by omega⟩
  unfold f117 at h
  refine Fn.of (by kernel_rfl) (by kernel_rfl) (by kernel_rfl) ⟨(.v (.str a0)) :: (.v (.str a1)) :: u19 [], []⟩ (by kernel_rfl) ?_
  refine Wp.seq' (by kernel_rfl) ?_
  refine Wp.region (by kernel_rfl) ?_
  refine Ops.seg' 1 1 (by kernel_rfl) ?_
  refine Ops.done (by kernel_rfl) ?_
  refine seqQ.n ?_
  refine Wp.seq' (by kernel_rfl) ?_
  refine Wp.region (by kernel_rfl) ?_
  refine Ops.seg' 6 6 (by kernel_rfl) ?_
  have J117j14 : ∀ (d3 d4 d5 d6 d7 d8 d9 d10 d11 : D) (v12 : Bool) (v13 : Bool), f117_r1 m v13 = some o → Ops (X117 n) (opl (cL (cR C117))) 16 ⟨(.v (.str a0)) :: (.v (.str a1)) :: u2 ((dB false) :: (.v (.str a0)) :: (dI ((a0.size : Int))) :: (.v (.str a1)) :: (dI ((a1.size : Int))) :: (dB v12) :: (dB v12) :: d3 :: d4 :: d5 :: d6 :: d7 :: d8 :: d9 :: d10 :: d11 :: (dB v13) :: []), []⟩ ((seqQ (X117 n) (cR (cR C117)) (fnQ (X117 n).E.T (resOf Proofs.Tryd.prog 117) (eB o))) .normal) := by
    intro d3 d4 d5 d6 d7 d8 d9 d10 d11 v12 v13 h
    unfold f117_r1 at h
    refine Ops.seg' 1 17 (by kernel_rfl) ?_
    refine Ops.done (by kernel_rfl) ?_
    refine seqQ.n ?_
    refine Wp.ret (by kernel_rfl) ?_
    exact fnQ.r' (X117 n) (fun z => (eB z)) h (RetOk.mk' (dB v13) (by kernel_rfl) (by kernel_rfl))
  obtain ⟨v13, ev13, h⟩ := bnd_some h
  have G117g2 : ∀ v1 : Bool, (cnd v1 (bnd (ssub a0 (w64 ((a0.size : Int) - (a1.size : Int))) (a0.size : Int)) fun v15 => some ((v15.toList == a1.toList))) (some false)) = some v13 → Ops (X117 n) (opl (cL (cR C117))) 6 ⟨(.v (.str a0)) :: (.v (.str a1)) :: u2 ((dB false) :: (.v (.str a0)) :: (dI ((a0.size : Int))) :: (.v (.str a1)) :: (dI ((a1.size : Int))) :: (dB v1) :: (dB v1) :: u10 []), []⟩ ((seqQ (X117 n) (cR (cR C117)) (fnQ (X117 n).E.T (resOf Proofs.Tryd.prog 117) (eB o))) .normal) := by
    intro v1 ev13
    cases v1
    · have ev13 := cnd_f ev13
      refine Ops.seg' 10 16 (by kernel_rfl) ?_
      refine Ops.st ⟨(.v (.str a0)) :: (.v (.str a1)) :: u2 ((dB false) :: (.v (.str a0)) :: (dI ((a0.size : Int))) :: (.v (.str a1)) :: (dI ((a1.size : Int))) :: (dB false) :: (dB false) :: u9 ((dB false) :: [])), []⟩ (by kernel_rfl) ?_
      exact J117j14 _ _ _ _ _ _ _ _ _ _ _ (some_sub (fun v13 => f117_r1 m v13 = some o) ev13 h)
    · have ev13 := cnd_t ev13
      refine Ops.seg' 6 12 (by kernel_rfl) ?_
      obtain ⟨v15, ev15, ev13⟩ := bnd_some ev13
      refine Ops.one' 13 (fun h0 e0 => (str_sub (T := T) h0 9 a0 v15 (some (w64 ((a0.size : Int) - (a1.size : Int)))) none ev15 (by kernel_rfl))) (by kernel_rfl) (by kernel_rfl) ?_
      refine Ops.seg' 3 16 (by kernel_rfl) ?_
      refine Ops.st ⟨(.v (.str a0)) :: (.v (.str a1)) :: u2 ((dB false) :: (.v (.str a0)) :: (dI ((a0.size : Int))) :: (.v (.str a1)) :: (dI ((a1.size : Int))) :: (dB true) :: (dB true) :: (.v (.str a0)) :: (.v (.str a0)) :: (dI ((a0.size : Int))) :: (.v (.str a1)) :: (dI ((a1.size : Int))) :: (dI (w64 ((a0.size : Int) - (a1.size : Int)))) :: (.v (.str v15)) :: (.v (.str a1)) :: (dB ((v15.toList == a1.toList))) :: (dB ((v15.toList == a1.toList))) :: []), []⟩ (by kernel_rfl) ?_
      exact J117j14 _ _ _ _ _ _ _ _ _ _ _ (some_sub (fun v13 => f117_r1 m v13 = some o) ev13 h)
  exact Ops.st ⟨(.v (.str a0)) :: (.v (.str a1)) :: u2 ((dB false) :: (.v (.str a0)) :: (dI ((a0.size : Int))) :: (.v (.str a1)) :: (dI ((a1.size : Int))) :: (dB ((decide ((a0.size : Int) ≥ (a1.size : Int))))) :: (dB ((decide ((a0.size : Int) ≥ (a1.size : Int))))) :: u10 []), []⟩ (by kernel_rfl) (G117g2 (decide ((a0.size : Int) ≥ (a1.size : Int))) ev13)

/-! ### 102 internal/stringslite.CutSuffix -/
def f102 (m : Nat) (a0 : ByteArray) (a1 : ByteArray) : Option (ByteArray × Bool) :=
  bnd (f117 m a0 a1) fun v1 =>
  cnd (!v1)
  (some ((a0, false)))
  (bnd (ssub a0 0 (w64 ((a0.size : Int) - (a1.size : Int)))) fun v2 =>
  some ((v2, true)))
noncomputable abbrev X102 (n : Nat) : Cx := cxOf Proofs.Tryd.prog E 102 n
noncomputable def C102 : Code := bodyOf Proofs.Tryd.prog 102
theorem ok102 (m : Nat) (a0 : ByteArray) (a1 : ByteArray) (o : (ByteArray × Bool)) (h : f102 m a0 a1 = some o) (n : Nat) (hn : m + 2 ≤ n) : Fn Proofs.Tryd.prog E n 102 [.v (eS a0), .v (eS a1)] (.tuple [eS o.1, eB o.2]) := by
  obtain ⟨n, rfl⟩ : ∃ q, n = q + 1 := ⟨n - 1, by omega⟩
  unfold f102 at h
  refine Fn.of (by kernel_rfl) (by kernel_rfl) (by kernel_rfl) ⟨(.v (.str a0)) :: (.v (.str a1)) :: u16 [], []⟩ (by kernel_rfl) ?_
  refine Wp.seq' (by kernel_rfl) ?_
  refine Wp.region (by kernel_rfl) ?_
  refine Ops.seg' 2 2 (by kernel_rfl) ?_
  refine Ops.done (by kernel_rfl) ?_
  refine seqQ.n ?_
  refine Wp.seq' (by kernel_rfl) ?_
  refine Wp.seq' (by kernel_rfl) ?_
  refine Wp.region (by kernel_rfl) ?_
  refine Ops.seg' 2 2 (by kernel_rfl) ?_
  obtain ⟨v1, ev1, h⟩ := bnd_some h
  refine Ops.one' 3 (fun h0 e0 => (call_ok (E' := E) (h := h0) (by kernel_rfl) (Args.v (.str a0) (eS a0) (by kernel_rfl) (Args.v (.str a1) (eS a1) (by kernel_rfl) Args.nil)) (ok117 m a0 a1 v1 ev1 n (by omega)))) (by kernel_rfl) (by kernel_rfl) ?_
  refine Ops.seg' 1 4 (by kernel_rfl) ?_
  refine Ops.done (by kernel_rfl) ?_
  refine seqQ.n ?_
  refine Wp.cnd h [0, 1, 4, 5] 0 (by kernel_rfl) (fun h => ?_) (fun h => ?_)
  · refine Wp.seq' (by kernel_rfl) ?_
    refine Wp.region (by kernel_rfl) ?_
    refine Ops.seg' 3 3 (by kernel_rfl) ?_
    refine Ops.done (by kernel_rfl) ?_
    refine seqQ.n ?_
    refine Wp.ret (by kernel_rfl) ?_
    refine sqQ.r ?_
    refine seqQ.r ?_
    exact fnQ.r' (X102 n) (fun z => (.tuple [eS z.1, eB z.2])) h (RetOk.mk' (.v (.tuple [(.str a0), (vB false)])) (by kernel_rfl) (by kernel_rfl))
  · refine Wp.skip (by kernel_rfl) ?_
    refine sqQ.n' ?_
    refine seqQ.n ?_
    refine Wp.seq' (by kernel_rfl) ?_
    refine Wp.region (by kernel_rfl) ?_
    refine Ops.seg' 6 6 (by kernel_rfl) ?_
    obtain ⟨v2, ev2, h⟩ := bnd_some h
    refine Ops.one' 7 (fun h0 e0 => (str_sub (T := T) h0 9 a0 v2 none (some (w64 ((a0.size : Int) - (a1.size : Int)))) ev2 (by kernel_rfl))) (by kernel_rfl) (by kernel_rfl) ?_
    refine Ops.seg' 2 9 (by kernel_rfl) ?_
    refine Ops.done (by kernel_rfl) ?_
    refine seqQ.n ?_
    refine Wp.ret (by kernel_rfl) ?_
    exact fnQ.r' (X102 n) (fun z => (.tuple [eS z.1, eB z.2])) h (RetOk.mk' (.v (.tuple [(.str v2), (vB true)])) (by kernel_rfl) (by kernel_rfl))

/-! ### 83 strings.CutSuffix -/
def f83 (m : Nat) (a0 : ByteArray) (a1 : ByteArray) : Option (ByteArray × Bool) :=
  bnd (f102 m a0 a1) fun v1 =>
  some ((v1.1, v1.2))
noncomputable abbrev X83 (n : Nat) : Cx := cxOf Proofs.Tryd.prog E 83 n
noncomputable def C83 : Code := bodyOf Proofs.Tryd.prog 83
theorem ok83 (m : Nat) (a0 : ByteArray) (a1 : ByteArray) (o : (ByteArray × Bool)) (h : f83 m a0 a1 = some o) (n : Nat) (hn : m + 3 ≤ n) : Fn Proofs.Tryd.prog E n 83 [.v (eS a0), .v (eS a1)] (.tuple [eS o.1, eB o.2]) := by
  obtain ⟨n, rfl⟩ : ∃ q, n = q + 1 := ⟨n - 1, by omega⟩
  unfold f83 at h
  refine Fn.of (by kernel_rfl) (by kernel_rfl) (by kernel_rfl) ⟨(.v (.str a0)) :: (.v (.str a1)) :: u9 [], []⟩ (by kernel_rfl) ?_
  refine Wp.seq' (by kernel_rfl) ?_
  refine Wp.region (by kernel_rfl) ?_
  refine Ops.seg' 2 2 (by kernel_rfl) ?_
  refine Ops.done (by kernel_rfl) ?_
  refine seqQ.n ?_
  refine Wp.seq' (by kernel_rfl) ?_
  refine Wp.region (by kernel_rfl) ?_
  refine Ops.seg' 2 2 (by kernel_rfl) ?_
  obtain ⟨v1, ev1, h⟩ := bnd_some h
  refine Ops.one' 3 (fun h0 e0 => (call_ok (E' := E) (h := h0) (by kernel_rfl) (Args.v (.str a0) (eS a0) (by kernel_rfl) (Args.v (.str a1) (eS a1) (by kernel_rfl) Args.nil)) (ok102 m a0 a1 v1 ev1 n (by omega)))) (by kernel_rfl) (by kernel_rfl) ?_
  refine Ops.seg' 4 7 (by kernel_rfl) ?_
  refine Ops.done (by kernel_rfl) ?_
  refine seqQ.n ?_
  refine Wp.ret (by kernel_rfl) ?_
  exact fnQ.r' (X83 n) (fun z => (.tuple [eS z.1, eB z.2])) h (RetOk.mk' (.v (.tuple [(.str v1.1), (vB v1.2)])) (by kernel_rfl) (by kernel_rfl))

/-! ### 84 unicode/utf8.RuneCountInString -/
def f84 (m : Nat) (a0 : ByteArray) : Option Int := if a0.size < 9223372036854775807 then some (Lib.runeCount a0 : Int) else none
theorem ok84 (m : Nat) (a0 : ByteArray) (o : Int) (h : f84 m a0 = some o) (n : Nat) (hn : m + 1 ≤ n) : Fn Proofs.Tryd.prog E n 84 [.v (eS a0)] (eI o) := by
  obtain ⟨n, rfl⟩ : ∃ q, n = q + 1 := ⟨n - 1, by omega⟩
  refine ora_fn (xs := [eS a0]) (by kernel_rfl) (by kernel_rfl) (by kernel_rfl) (F := runesF) ?_ rfl
  unfold f84 at h
  unfold runesF
  split at h
  · rename_i hs
    cases h
    show (if a0.size < 9223372036854775807 then some (V.int .i64 (Lib.runeCount a0)) else none) = _
    rw [if_pos hs]
    rfl
  · cases h

/-! ### 62 glosswright/paradigm.change -/
def f62_r1 (m : Nat) (v2 : ByteArray) (v16 : Bool) : Option (ByteArray × Bool) :=
  some ((v2, v16))
def f62_r2 (m : Nat) (v2 : ByteArray) (v8 : Bool) : Option (ByteArray × Bool) :=
  bnd (cnd v8
  (bnd (f84 m v2) fun v18 =>
  some (decide (v18 ≤ 30)))
  (some false)) fun v16 =>
  f62_r1 m v2 v16
def f62 (m : Nat) (a0 : ByteArray) (a1 : ByteArray) (a2 : ByteArray) : Option (ByteArray × Bool) :=
  bnd (f83 m a0 a1) fun v1 =>
  bnd (scat v1.1 a2) fun v2 =>
  f62_r2 m v2 ((v1.2 && (!(v2.toList == ((⟨#[]⟩ : ByteArray)).toList))))
noncomputable abbrev X62 (n : Nat) : Cx := cxOf Proofs.Tryd.prog E 62 n
noncomputable def C62 : Code := bodyOf Proofs.Tryd.prog 62
theorem ok62 (m : Nat) (a0 : ByteArray) (a1 : ByteArray) (a2 : ByteArray) (o : (ByteArray × Bool)) (h : f62 m a0 a1 a2 = some o) (n : Nat) (hn : m + 4 ≤ n) : Fn Proofs.Tryd.prog E n 62 [.v (eS a0), .v (eS a1), .v (eS a2)] (.tuple [eS o.1, eB o.2]) := by
  obtain ⟨n, rfl⟩ : ∃ q, n = q + 1 := ⟨n - 1, by omega⟩
  unfold f62 at h
  refine Fn.of (by kernel_rfl) (by kernel_rfl) (by kernel_rfl) ⟨(.v (.str a0)) :: (.v (.str a1)) :: (.v (.str a2)) :: u28 [], []⟩ (by kernel_rfl) ?_
  refine Wp.seq' (by kernel_rfl) ?_
  refine Wp.region (by kernel_rfl) ?_
  refine Ops.seg' 2 2 (by kernel_rfl) ?_
  refine Ops.done (by kernel_rfl) ?_
  refine seqQ.n ?_
  refine Wp.seq' (by kernel_rfl) ?_
  refine Wp.region (by kernel_rfl) ?_
  refine Ops.seg' 2 2 (by kernel_rfl) ?_
  obtain ⟨v1, ev1, h⟩ := bnd_some h
  refine Ops.one' 3 (fun h0 e0 => (call_ok (E' := E) (h := h0) (by kernel_rfl) (Args.v (.str a0) (eS a0) (by kernel_rfl) (Args.v (.str a1) (eS a1) (by kernel_rfl) Args.nil)) (ok83 m a0 a1 v1 ev1 n (by omega)))) (by kernel_rfl) (by kernel_rfl) ?_
  refine Ops.seg' 5 8 (by kernel_rfl) ?_
  refine Ops.done (by kernel_rfl) ?_
  refine seqQ.n ?_
  refine Wp.seq' (by kernel_rfl) ?_
  refine Wp.region (by kernel_rfl) ?_
  refine Ops.seg' 2 2 (by kernel_rfl) ?_
  obtain ⟨v2, ev2, h⟩ := bnd_some h
  refine Ops.one' 3 (fun h0 e0 => (str_cat (T := T) h0 9 v1.1 a2 v2 ev2)) (by kernel_rfl) (by kernel_rfl) ?_
  refine Ops.seg' 1 4 (by kernel_rfl) ?_
  refine Ops.done (by kernel_rfl) ?_
  refine seqQ.n ?_
  refine Wp.seq' (by kernel_rfl) ?_
  refine Wp.region (by kernel_rfl) ?_
  refine Ops.seg' 3 3 (by kernel_rfl) ?_
  have J62j9 : ∀ (d5 d6 : D) (v7 : Bool) (v8 : Bool), f62_r2 m v2 v8 = some o → Ops (X62 n) (opl (cL (cR (cR (cR C62))))) 6 ⟨(.v (.str a0)) :: (.v (.str a1)) :: (.v (.str a2)) :: u3 ((.v (.str ((⟨#[]⟩ : ByteArray)))) :: (dB false) :: (.v (.str v1.1)) :: (dB v7) :: (.v (.str v2)) :: (.v (.tuple [(.str v1.1), (vB v1.2)])) :: (.v (.str a0)) :: (.v (.str a1)) :: (.v (.tuple [(.str v1.1), (vB v1.2)])) :: (.v (.str v1.1)) :: (dB v7) :: (.v (.str v1.1)) :: (.v (.str a2)) :: (.v (.str v2)) :: (.v (.str v2)) :: (dB v7) :: (dB v7) :: d5 :: d6 :: (dB v8) :: u5 []), []⟩ ((seqQ (X62 n) (cR (cR (cR (cR C62)))) (fnQ (X62 n).E.T (resOf Proofs.Tryd.prog 62) (.tuple [eS o.1, eB o.2]))) .normal) := by
    intro d5 d6 v7 v8 h
    unfold f62_r2 at h
    refine Ops.seg' 1 7 (by kernel_rfl) ?_
    have J62j17 : ∀ (d12 d13 d14 : D) (v15 : Bool) (v16 : Bool), f62_r1 m v2 v16 = some o → Ops (X62 n) (opl (cL (cR (cR (cR C62))))) 11 ⟨(.v (.str a0)) :: (.v (.str a1)) :: (.v (.str a2)) :: u3 ((.v (.str ((⟨#[]⟩ : ByteArray)))) :: (dB false) :: (.v (.str v1.1)) :: (dB v7) :: (.v (.str v2)) :: (.v (.tuple [(.str v1.1), (vB v1.2)])) :: (.v (.str a0)) :: (.v (.str a1)) :: (.v (.tuple [(.str v1.1), (vB v1.2)])) :: (.v (.str v1.1)) :: (dB v7) :: (.v (.str v1.1)) :: (.v (.str a2)) :: (.v (.str v2)) :: (.v (.str v2)) :: (dB v7) :: (dB v7) :: d5 :: d6 :: (dB v15) :: (dB v15) :: d12 :: d13 :: d14 :: (dB v16) :: []), []⟩ ((seqQ (X62 n) (cR (cR (cR (cR C62)))) (fnQ (X62 n).E.T (resOf Proofs.Tryd.prog 62) (.tuple [eS o.1, eB o.2]))) .normal) := by
      intro d12 d13 d14 v15 v16 h
      unfold f62_r1 at h
      refine Ops.seg' 2 13 (by kernel_rfl) ?_
      refine Ops.done (by kernel_rfl) ?_
      refine seqQ.n ?_
      refine Wp.ret (by kernel_rfl) ?_
      exact fnQ.r' (X62 n) (fun z => (.tuple [eS z.1, eB z.2])) h (RetOk.mk' (.v (.tuple [(.str v2), (vB v16)])) (by kernel_rfl) (by kernel_rfl))
    obtain ⟨v16, ev16, h⟩ := bnd_some h
    have G62g11 : ∀ v10 : Bool, (cnd v10 (bnd (f84 m v2) fun v18 => some (decide (v18 ≤ 30))) (some false)) = some v16 → Ops (X62 n) (opl (cL (cR (cR (cR C62))))) 7 ⟨(.v (.str a0)) :: (.v (.str a1)) :: (.v (.str a2)) :: u3 ((.v (.str ((⟨#[]⟩ : ByteArray)))) :: (dB false) :: (.v (.str v1.1)) :: (dB v7) :: (.v (.str v2)) :: (.v (.tuple [(.str v1.1), (vB v1.2)])) :: (.v (.str a0)) :: (.v (.str a1)) :: (.v (.tuple [(.str v1.1), (vB v1.2)])) :: (.v (.str v1.1)) :: (dB v7) :: (.v (.str v1.1)) :: (.v (.str a2)) :: (.v (.str v2)) :: (.v (.str v2)) :: (dB v7) :: (dB v7) :: d5 :: d6 :: (dB v10) :: (dB v10) :: u4 []), []⟩ ((seqQ (X62 n) (cR (cR (cR (cR C62)))) (fnQ (X62 n).E.T (resOf Proofs.Tryd.prog 62) (.tuple [eS o.1, eB o.2]))) .normal) := by
      intro v10 ev16
      cases v10
      · have ev16 := cnd_f ev16
        refine Ops.seg' 4 11 (by kernel_rfl) ?_
        refine Ops.st ⟨(.v (.str a0)) :: (.v (.str a1)) :: (.v (.str a2)) :: u3 ((.v (.str ((⟨#[]⟩ : ByteArray)))) :: (dB false) :: (.v (.str v1.1)) :: (dB v7) :: (.v (.str v2)) :: (.v (.tuple [(.str v1.1), (vB v1.2)])) :: (.v (.str a0)) :: (.v (.str a1)) :: (.v (.tuple [(.str v1.1), (vB v1.2)])) :: (.v (.str v1.1)) :: (dB v7) :: (.v (.str v1.1)) :: (.v (.str a2)) :: (.v (.str v2)) :: (.v (.str v2)) :: (dB v7) :: (dB v7) :: d5 :: d6 :: (dB false) :: (dB false) :: u3 ((dB false) :: [])), []⟩ (by kernel_rfl) ?_
        exact J62j17 _ _ _ _ _ (some_sub (fun v16 => f62_r1 m v2 v16 = some o) ev16 h)
      · have ev16 := cnd_t ev16
        refine Ops.seg' 1 8 (by kernel_rfl) ?_
        obtain ⟨v18, ev18, ev16⟩ := bnd_some ev16
        refine Ops.one' 9 (fun h0 e0 => (call_ok (E' := E) (h := h0) (by kernel_rfl) (Args.v (.str v2) (eS v2) (by kernel_rfl) Args.nil) (ok84 m v2 v18 ev18 n (by omega)))) (by kernel_rfl) (by kernel_rfl) ?_
        refine Ops.seg' 2 11 (by kernel_rfl) ?_
        refine Ops.st ⟨(.v (.str a0)) :: (.v (.str a1)) :: (.v (.str a2)) :: u3 ((.v (.str ((⟨#[]⟩ : ByteArray)))) :: (dB false) :: (.v (.str v1.1)) :: (dB v7) :: (.v (.str v2)) :: (.v (.tuple [(.str v1.1), (vB v1.2)])) :: (.v (.str a0)) :: (.v (.str a1)) :: (.v (.tuple [(.str v1.1), (vB v1.2)])) :: (.v (.str v1.1)) :: (dB v7) :: (.v (.str v1.1)) :: (.v (.str a2)) :: (.v (.str v2)) :: (.v (.str v2)) :: (dB v7) :: (dB v7) :: d5 :: d6 :: (dB true) :: (dB true) :: (.v (.str v2)) :: (dI v18) :: (dB (decide (v18 ≤ 30))) :: (dB (decide (v18 ≤ 30))) :: []), []⟩ (by kernel_rfl) ?_
        exact J62j17 _ _ _ _ _ (some_sub (fun v16 => f62_r1 m v2 v16 = some o) ev16 h)
    exact Ops.st ⟨(.v (.str a0)) :: (.v (.str a1)) :: (.v (.str a2)) :: u3 ((.v (.str ((⟨#[]⟩ : ByteArray)))) :: (dB false) :: (.v (.str v1.1)) :: (dB v7) :: (.v (.str v2)) :: (.v (.tuple [(.str v1.1), (vB v1.2)])) :: (.v (.str a0)) :: (.v (.str a1)) :: (.v (.tuple [(.str v1.1), (vB v1.2)])) :: (.v (.str v1.1)) :: (dB v7) :: (.v (.str v1.1)) :: (.v (.str a2)) :: (.v (.str v2)) :: (.v (.str v2)) :: (dB v7) :: (dB v7) :: d5 :: d6 :: (dB v8) :: (dB v8) :: u4 []), []⟩ (by kernel_rfl) (G62g11 v8 ev16)
  have G62g4 : ∀ v3 : Bool, f62_r2 m v2 ((v3 && (!(v2.toList == ((⟨#[]⟩ : ByteArray)).toList)))) = some o → Ops (X62 n) (opl (cL (cR (cR (cR C62))))) 3 ⟨(.v (.str a0)) :: (.v (.str a1)) :: (.v (.str a2)) :: u3 ((.v (.str ((⟨#[]⟩ : ByteArray)))) :: (dB false) :: (.v (.str v1.1)) :: (dB v3) :: (.v (.str v2)) :: (.v (.tuple [(.str v1.1), (vB v1.2)])) :: (.v (.str a0)) :: (.v (.str a1)) :: (.v (.tuple [(.str v1.1), (vB v1.2)])) :: (.v (.str v1.1)) :: (dB v3) :: (.v (.str v1.1)) :: (.v (.str a2)) :: (.v (.str v2)) :: (.v (.str v2)) :: (dB v3) :: (dB v3) :: u8 []), []⟩ ((seqQ (X62 n) (cR (cR (cR (cR C62)))) (fnQ (X62 n).E.T (resOf Proofs.Tryd.prog 62) (.tuple [eS o.1, eB o.2]))) .normal) := by
    intro v3 h
    cases v3
    · refine Ops.seg' 3 6 (by kernel_rfl) ?_
      refine Ops.st ⟨(.v (.str a0)) :: (.v (.str a1)) :: (.v (.str a2)) :: u3 ((.v (.str ((⟨#[]⟩ : ByteArray)))) :: (dB false) :: (.v (.str v1.1)) :: (dB false) :: (.v (.str v2)) :: (.v (.tuple [(.str v1.1), (vB v1.2)])) :: (.v (.str a0)) :: (.v (.str a1)) :: (.v (.tuple [(.str v1.1), (vB v1.2)])) :: (.v (.str v1.1)) :: (dB false) :: (.v (.str v1.1)) :: (.v (.str a2)) :: (.v (.str v2)) :: (.v (.str v2)) :: (dB false) :: (dB false) :: u2 ((dB false) :: u5 [])), []⟩ (by kernel_rfl) ?_
      exact J62j9 _ _ _ _ h
    · refine Ops.seg' 3 6 (by kernel_rfl) ?_
      refine Ops.st ⟨(.v (.str a0)) :: (.v (.str a1)) :: (.v (.str a2)) :: u3 ((.v (.str ((⟨#[]⟩ : ByteArray)))) :: (dB false) :: (.v (.str v1.1)) :: (dB true) :: (.v (.str v2)) :: (.v (.tuple [(.str v1.1), (vB v1.2)])) :: (.v (.str a0)) :: (.v (.str a1)) :: (.v (.tuple [(.str v1.1), (vB v1.2)])) :: (.v (.str v1.1)) :: (dB true) :: (.v (.str v1.1)) :: (.v (.str a2)) :: (.v (.str v2)) :: (.v (.str v2)) :: (dB true) :: (dB true) :: (.v (.str v2)) :: (dB (!(v2.toList == ((⟨#[]⟩ : ByteArray)).toList))) :: (dB (!(v2.toList == ((⟨#[]⟩ : ByteArray)).toList))) :: u5 []), []⟩ (by kernel_rfl) ?_
      exact J62j9 _ _ _ _ h
  exact Ops.st ⟨(.v (.str a0)) :: (.v (.str a1)) :: (.v (.str a2)) :: u3 ((.v (.str ((⟨#[]⟩ : ByteArray)))) :: (dB false) :: (.v (.str v1.1)) :: (dB v1.2) :: (.v (.str v2)) :: (.v (.tuple [(.str v1.1), (vB v1.2)])) :: (.v (.str a0)) :: (.v (.str a1)) :: (.v (.tuple [(.str v1.1), (vB v1.2)])) :: (.v (.str v1.1)) :: (dB v1.2) :: (.v (.str v1.1)) :: (.v (.str a2)) :: (.v (.str v2)) :: (.v (.str v2)) :: (dB v1.2) :: (dB v1.2) :: u8 []), []⟩ (by kernel_rfl) (G62g4 v1.2 h)

/-! ### 44 glosswright/paradigm.Bases$1 -/
def f44 (m : Nat) (a0 : S67) : Option Bool :=
  some true
noncomputable abbrev X44 (n : Nat) : Cx := cxOf Proofs.Tryd.prog E 44 n
noncomputable def C44 : Code := bodyOf Proofs.Tryd.prog 44
theorem ok44 (m : Nat) (a0 : S67) (o : Bool) (h : f44 m a0 = some o) (n : Nat) (hn : m + 1 ≤ n) : Fn Proofs.Tryd.prog E n 44 [.v (e67 a0)] (eB o) := by
  obtain ⟨n, rfl⟩ : ∃ q, n = q + 1 := ⟨n - 1, by omega⟩
  unfold f44 at h
  refine Fn.of (by kernel_rfl) (by kernel_rfl) (by kernel_rfl) ⟨(.v (.agg [(vP eS a0.fTags), (.str a0.fCut), (.str a0.fAdd)])) :: u2 [], []⟩ (by kernel_rfl) ?_
  refine Wp.seq' (by kernel_rfl) ?_
  refine Wp.region (by kernel_rfl) ?_
  refine Ops.seg' 2 2 (by kernel_rfl) ?_
  refine Ops.done (by kernel_rfl) ?_
  refine seqQ.n ?_
  refine Wp.seq' (by kernel_rfl) ?_
  refine Wp.region (by kernel_rfl) ?_
  refine Ops.seg' 1 1 (by kernel_rfl) ?_
  refine Ops.done (by kernel_rfl) ?_
  refine seqQ.n ?_
  refine Wp.ret (by kernel_rfl) ?_
  exact fnQ.r' (X44 n) (fun z => (eB z)) h (RetOk.mk' (dB true) (by kernel_rfl) (by kernel_rfl))

/-! ### 43c44 glosswright/paradigm.bases -/
def f43c44_j1 (m : Nat) (v36 : Int) (v46 : (List ByteArray)) : Option (Stp ((List ByteArray)) ((List ByteArray) × Int)) :=
  some (.nxt (v46, w64 (v36 + 1)))
def f43c44_j2 (m : Nat) (v36 : Int) (v58 : (List ByteArray)) : Option (Stp ((List ByteArray)) ((List ByteArray) × Int)) :=
  f43c44_j1 m v36 v58
def f43c44_r3 (m : Nat) (v35 : (List ByteArray)) (v36 : Int) (v49 : (ByteArray × Bool)) (v56 : Bool) : Option (Stp ((List ByteArray)) ((List ByteArray) × Int)) :=
  cnd v56
  (bnd (app 16 v35 [v49.1]) fun v60 =>
  f43c44_j2 m v36 v60)
  (f43c44_j2 m v36 v35)
def f43c44_B4 (m : Nat) (a0 : S23) (a1 : ByteArray) (v35 : (List ByteArray)) (v36 : Int) : Option (Stp ((List ByteArray)) ((List ByteArray) × Int)) :=
  cnd (decide (v36 < (a0.fCells.length : Int)))
  (bnd (idx a0.fCells v36) fun v48 =>
  bnd (f62 m a1 v48.fAdd v48.fCut) fun v49 =>
  bnd (cnd v49.2
  (bnd (f44 m v48) fun v61 =>
  some v61)
  (some false)) fun v56 =>
  f43c44_r3 m v35 v36 v49 v56)
  (some (.brk (v35, v36)))
def f43c44 (m : Nat) (a0 : S23) (a1 : ByteArray) : Option (List ByteArray) :=
  brk (iter (fun (y : (List ByteArray) × Int) => f43c44_B4 m a0 a1 y.1 y.2) m ([], 0)) some fun y63 =>
  bnd (srt y63.1) fun v65 =>
  some ((compactS v65))
noncomputable abbrev X43c44 (n : Nat) : Cx := cxOf Proofs.Tryd.prog E 43 n
noncomputable def C43c44 : Code := bodyOf Proofs.Tryd.prog 43
theorem ok43c44 (m : Nat) (a0 : S23) (a1 : ByteArray) (o : (List ByteArray)) (h : f43c44 m a0 a1 = some o) (n : Nat) (hn : m + 5 ≤ n) : FnO Proofs.Tryd.prog E n 43 [.v (e23 a0), .v (eS a1), .v (.fn 44)] ((eL eS) o) := by
  obtain ⟨n, rfl⟩ : ∃ q, n = q + 1 := ⟨n - 1, by omega⟩
  unfold f43c44 at h
  refine FnO.of (by kernel_rfl) (by kernel_rfl) (by kernel_rfl) ⟨(.v (.agg [(.str a0.fName), (vP e67 a0.fCells)])) :: (.v (.str a1)) :: (.v (.fn 44)) :: u40 [], []⟩ (by kernel_rfl) ?_
  refine Wp.seq' (by kernel_rfl) ?_
  refine Wp.region (by kernel_rfl) ?_
  refine Ops.seg' 2 2 (by kernel_rfl) ?_
  refine Ops.done (by kernel_rfl) ?_
  refine seqQ.n ?_
  refine Wp.seq' (by kernel_rfl) ?_
  refine Wp.region (by kernel_rfl) ?_
  refine Ops.seg' 1 1 (by kernel_rfl) ?_
  refine Ops.done (by kernel_rfl) ?_
  refine seqQ.n ?_
  refine Wp.seq' (by kernel_rfl) ?_
  refine Wp.seq' (by kernel_rfl) ?_
  refine Wp.region (by kernel_rfl) ?_
  refine Ops.seg' 2 2 (by kernel_rfl) ?_
  refine Ops.one' 3 (fun h0 e0 => (len_r (T := T) h0 22 68 .plain e67 a0.fCells (by kernel_rfl))) (by kernel_rfl) (by kernel_rfl) ?_
  refine Ops.seg' 1 4 (by kernel_rfl) ?_
  refine Ops.done (by kernel_rfl) ?_
  refine seqQ.n ?_
  refine Wp.block' 0 [6, 7] 1 (by kernel_rfl) ?_
  have hLx62 : ∀ (kx38 : Nat) (v35 : (List ByteArray)) (v36 : Int)  (ox37 : (List ByteArray) ⊕ ((List ByteArray) × Int)), iter (fun (y : (List ByteArray) × Int) => f43c44_B4 m a0 a1 y.1 y.2) kx38 (v35, v36) = some ox37 → ∀ nx39, kx38 ≤ nx39 → (∀ r, ox37 = .inl r → ∀ σ, RetOkO (X43c44 n) (resOf Proofs.Tryd.prog 43) ((eL eS) r) σ → (seqQ (X43c44 n) (cR (cR (cR C43c44))) (fnQO (X43c44 n).E.T (resOf Proofs.Tryd.prog 43) ((eL eS) o))) .ret σ) → (∀ (y : (List ByteArray) × Int) , ox37 = .inr y → (seqQ (X43c44 n) (cR (cR (cR C43c44))) (fnQO (X43c44 n).E.T (resOf Proofs.Tryd.prog 43) ((eL eS) o))) .normal ⟨q6 ((.v (.sl .nil (List.map eS []))) :: (rowD 1 (List.map eS y.1)) :: q35 []), [(.cells [(.v (.str a0.fName)), (dP e67 a0.fCells)]), (rowO 1 (List.map eS y.1))]⟩) → Lp (X43c44 n) [1, 2, 6, 7, 13, 14, 15] 1 (cL (cL (cR (cL (cR (cR C43c44)))))) nx39 ⟨q1 ((.v (.str a1)) :: (.v (.fn 44)) :: q3 ((.v (.sl .nil (List.map eS []))) :: (rowD 1 (List.map eS v35)) :: q5 ((dP e67 a0.fCells) :: (dI ((a0.fCells.length : Int))) :: (dI v36) :: q27 []))), [(.cells [(.v (.str a0.fName)), (dP e67 a0.fCells)]), (rowO 1 (List.map eS v35))]⟩ (blkQ (X43c44 n) 0 [6, 7] 1 (seqQ (X43c44 n) (cR (cR (cR C43c44))) (fnQO (X43c44 n).E.T (resOf Proofs.Tryd.prog 43) ((eL eS) o)))) := by
    intro kx38
    induction kx38 with
    | zero => intro v35 v36  ox37 h; exact (iter_zero h).elim
    | succ kx38 ihx40 =>
      intro v35 v36  ox37 h nx39 hnx43 hrx41 hxx42
      obtain ⟨nx39, rfl⟩ : ∃ q, nx39 = q + 1 := ⟨nx39 - 1, by omega⟩
      obtain ⟨sx44, h, hsx45⟩ := iter_some h
      have h : f43c44_B4 m a0 a1 v35 v36 = some sx44 := h
      unfold f43c44_B4 at h
      refine Lp.succ ?_
      refine Wp.seq' (by kernel_rfl) ?_
      refine Wp.region (by kernel_rfl) ?_
      refine Ops.seg' 1 1 (by kernel_rfl) ?_
      refine Ops.done (by kernel_rfl) ?_
      refine seqQ.n ?_
      refine Wp.seq' (by kernel_rfl) ?_
      refine Wp.cnd h [1, 2, 6, 7, 13, 14, 15] 2 (by kernel_rfl) (fun h => ?_) (fun h => ?_)
      · refine Wp.skip (by kernel_rfl) ?_
        refine sqQ.n ⟨q1 ((.v (.str a1)) :: (.v (.fn 44)) :: q3 ((.v (.sl .nil (List.map eS []))) :: (rowD 2 (List.map eS v35)) :: q5 ((dP e67 a0.fCells) :: (dI ((a0.fCells.length : Int))) :: (dI v36) :: q27 []))), [(.cells [(.v (.str a0.fName)), (dP e67 a0.fCells)]), .dead, (rowO 1 (List.map eS v35))]⟩ (by generalize v35 = z0; cases z0 <;> kernel_rfl) ?_
        refine seqQ.n ?_
        refine Wp.seq' (by kernel_rfl) ?_
        have J43c44j47 : ∀ (v46 : (List ByteArray)) , f43c44_j1 m v36 v46 = some sx44 → (seqQ (X43c44 n) (cR (cR (cR (cL (cL (cR (cL (cR (cR C43c44))))))))) (lpQ (X43c44 n) [1, 2, 6, 7, 13, 14, 15] 1 (cL (cL (cR (cL (cR (cR C43c44)))))) nx39 (blkQ (X43c44 n) 0 [6, 7] 1 (seqQ (X43c44 n) (cR (cR (cR C43c44))) (fnQO (X43c44 n).E.T (resOf Proofs.Tryd.prog 43) ((eL eS) o)))))) .normal ⟨q1 ((.v (.str a1)) :: (.v (.fn 44)) :: q3 ((.v (.sl .nil (List.map eS []))) :: (rowD 3 (List.map eS v46)) :: q5 ((dP e67 a0.fCells) :: (dI ((a0.fCells.length : Int))) :: (dI v36) :: q27 []))), [(.cells [(.v (.str a0.fName)), (dP e67 a0.fCells)]), .dead, .dead, (rowO 1 (List.map eS v46))]⟩ := by
          intro v46  h
          unfold f43c44_j1 at h
          refine seqQ.n ?_
          refine Wp.region (by kernel_rfl) ?_
          refine Ops.seg' 2 2 (by kernel_rfl) ?_
          refine Ops.done (by kernel_rfl) ?_
          refine lpQ.n ⟨q1 ((.v (.str a1)) :: (.v (.fn 44)) :: q3 ((.v (.sl .nil (List.map eS []))) :: (rowD 1 (List.map eS v46)) :: q5 ((dP e67 a0.fCells) :: (dI ((a0.fCells.length : Int))) :: (dI (w64 (v36 + 1))) :: q27 []))), [(.cells [(.v (.str a0.fName)), (dP e67 a0.fCells)]), (rowO 1 (List.map eS v46))]⟩ (by generalize v46 = z0; cases z0 <;> kernel_rfl) ?_
          cases h
          exact ihx40 v46 (w64 (v36 + 1))  _ hsx45 _ (by omega) hrx41 hxx42
        refine Wp.block' 1 [1, 2, 6, 7, 13, 14, 15] 3 (by kernel_rfl) ?_
        refine Wp.seq' (by kernel_rfl) ?_
        refine Wp.region (by kernel_rfl) ?_
        obtain ⟨v48, ev48, h⟩ := bnd_some h
        refine Ops.one' 1 (fun h0 e0 => (ix_r (T := T) h0 22 68 3 .plain e67 a0.fCells v36 v48 ev48 (by kernel_rfl) (by kernel_rfl) (fun _ => rfl))) (by kernel_rfl) (by kernel_rfl) ?_
        refine Ops.seg' 3 4 (by kernel_rfl) ?_
        refine Ops.done (by kernel_rfl) ?_
        refine seqQ.n ?_
        refine Wp.seq' (by kernel_rfl) ?_
        refine Wp.region (by kernel_rfl) ?_
        refine Ops.seg' 5 5 (by kernel_rfl) ?_
        obtain ⟨v49, ev49, h⟩ := bnd_some h
        refine Ops.one' 6 (fun h0 e0 => (call_ok (E' := E) (h := h0) (by kernel_rfl) (Args.v (.str a1) (eS a1) (by kernel_rfl) (Args.v (.str v48.fAdd) (eS v48.fAdd) (by kernel_rfl) (Args.v (.str v48.fCut) (eS v48.fCut) (by kernel_rfl) Args.nil))) (ok62 m a1 v48.fAdd v48.fCut v49 ev49 n (by omega)))) (by kernel_rfl) (by kernel_rfl) ?_
        refine Ops.seg' 5 11 (by kernel_rfl) ?_
        refine Ops.done (by kernel_rfl) ?_
        refine seqQ.n ?_
        refine Wp.seq' (by kernel_rfl) ?_
        refine Wp.region (by kernel_rfl) ?_
        refine Ops.seg' 2 2 (by kernel_rfl) ?_
        have J43c44j57 : ∀ (d52 d53 d54 : D) (v55 : Bool) (v56 : Bool), f43c44_r3 m v35 v36 v49 v56 = some sx44 → Ops (X43c44 n) (opl (cL (cR (cR (cL (cL (cR (cR (cL (cL (cR (cL (cR (cR C43c44)))))))))))))) 6 ⟨q1 ((.v (.str a1)) :: (.v (.fn 44)) :: q3 ((.v (.sl .nil (List.map eS []))) :: (rowD 2 (List.map eS v35)) :: q1 ((.ptr 3 0) :: (.v (.str v49.1)) :: (dB v55) :: q1 ((dP e67 a0.fCells) :: (dI ((a0.fCells.length : Int))) :: (dI v36) :: q1 ((.vptr [(vP eS v48.fTags), (.str v48.fCut), (.str v48.fAdd)]) :: (.v (.agg [(vP eS v48.fTags), (.str v48.fCut), (.str v48.fAdd)])) :: (.v (.tuple [(.str v49.1), (vB v49.2)])) :: (.v (.str a1)) :: (.ptr 3 2) :: (.v (.str v48.fAdd)) :: (.ptr 3 1) :: (.v (.str v48.fCut)) :: (.v (.tuple [(.str v49.1), (vB v49.2)])) :: (.v (.str v49.1)) :: (dB v55) :: (dB v55) :: (dB v55) :: d52 :: d53 :: d54 :: (dB v56) :: q9 []))))), [(.cells [(.v (.str a0.fName)), (dP e67 a0.fCells)]), .dead, (rowO 1 (List.map eS v35)), (.cells [(dP eS v48.fTags), (.v (.str v48.fCut)), (.v (.str v48.fAdd))])]⟩ ((seqQ (X43c44 n) (cR (cR (cR (cL (cL (cR (cR (cL (cL (cR (cL (cR (cR C43c44))))))))))))) (blkQ (X43c44 n) 1 [1, 2, 6, 7, 13, 14, 15] 3 (seqQ (X43c44 n) (cR (cR (cR (cL (cL (cR (cL (cR (cR C43c44))))))))) (lpQ (X43c44 n) [1, 2, 6, 7, 13, 14, 15] 1 (cL (cL (cR (cL (cR (cR C43c44)))))) nx39 (blkQ (X43c44 n) 0 [6, 7] 1 (seqQ (X43c44 n) (cR (cR (cR C43c44))) (fnQO (X43c44 n).E.T (resOf Proofs.Tryd.prog 43) ((eL eS) o)))))))) .normal) := by
          intro d52 d53 d54 v55 v56 h
          unfold f43c44_r3 at h
          refine Ops.done (by kernel_rfl) ?_
          refine seqQ.n ?_
          have J43c44j59 : ∀ (v58 : (List ByteArray)) , f43c44_j2 m v36 v58 = some sx44 → (blkQ (X43c44 n) 1 [1, 2, 6, 7, 13, 14, 15] 3 (seqQ (X43c44 n) (cR (cR (cR (cL (cL (cR (cL (cR (cR C43c44))))))))) (lpQ (X43c44 n) [1, 2, 6, 7, 13, 14, 15] 1 (cL (cL (cR (cL (cR (cR C43c44)))))) nx39 (blkQ (X43c44 n) 0 [6, 7] 1 (seqQ (X43c44 n) (cR (cR (cR C43c44))) (fnQO (X43c44 n).E.T (resOf Proofs.Tryd.prog 43) ((eL eS) o))))))) .normal ⟨q1 ((.v (.str a1)) :: (.v (.fn 44)) :: q3 ((.v (.sl .nil (List.map eS []))) :: (rowD 4 (List.map eS v58)) :: q5 ((dP e67 a0.fCells) :: (dI ((a0.fCells.length : Int))) :: (dI v36) :: q27 []))), [(.cells [(.v (.str a0.fName)), (dP e67 a0.fCells)]), .dead, .dead, (.cells [(dP eS v48.fTags), (.v (.str v48.fCut)), (.v (.str v48.fAdd))]), (rowO 1 (List.map eS v58))]⟩ := by
            intro v58  h
            unfold f43c44_j2 at h
            refine blkQ.n ⟨q1 ((.v (.str a1)) :: (.v (.fn 44)) :: q3 ((.v (.sl .nil (List.map eS []))) :: (rowD 3 (List.map eS v58)) :: q5 ((dP e67 a0.fCells) :: (dI ((a0.fCells.length : Int))) :: (dI v36) :: q27 []))), [(.cells [(.v (.str a0.fName)), (dP e67 a0.fCells)]), .dead, .dead, (rowO 1 (List.map eS v58))]⟩ (by generalize v58 = z0; cases z0 <;> kernel_rfl) ?_
            exact J43c44j47 v58  h
          refine Wp.cnd h [1, 2, 6, 7, 13, 14, 15] 4 (by kernel_rfl) (fun h => ?_) (fun h => ?_)
          · refine Wp.region (by kernel_rfl) ?_
            refine Ops.seg' 3 3 (by kernel_rfl) ?_
            obtain ⟨v60, ev60, h⟩ := bnd_some h
            refine Ops.one' 4 (fun h0 e0 => (row_app (T := T) h0 36 9 2 ti9 .nonfull eS v35 [v49.1] v60 ev60 (by kernel_rfl) (by kernel_rfl) (by kernel_rfl) (by kernel_rfl) (fun _ => rfl) (hq_of e0 (by kernel_rfl)))) (by kernel_rfl) (by kernel_rfl) ?_
            refine Ops.seg' 1 5 (by kernel_rfl) ?_
            refine Ops.done (by kernel_rfl) ?_
            refine sqQ.n ⟨q1 ((.v (.str a1)) :: (.v (.fn 44)) :: q3 ((.v (.sl .nil (List.map eS []))) :: (rowD 4 (List.map eS v60)) :: q5 ((dP e67 a0.fCells) :: (dI ((a0.fCells.length : Int))) :: (dI v36) :: q27 []))), [(.cells [(.v (.str a0.fName)), (dP e67 a0.fCells)]), .dead, .dead, (.cells [(dP eS v48.fTags), (.v (.str v48.fCut)), (.v (.str v48.fAdd))]), (rowO 1 (List.map eS v60))]⟩ (by generalize v60 = z0; cases z0 <;> kernel_rfl) ?_
            exact J43c44j59 v60  h
          · refine Wp.skip (by kernel_rfl) ?_
            refine sqQ.n ⟨q1 ((.v (.str a1)) :: (.v (.fn 44)) :: q3 ((.v (.sl .nil (List.map eS []))) :: (rowD 4 (List.map eS v35)) :: q5 ((dP e67 a0.fCells) :: (dI ((a0.fCells.length : Int))) :: (dI v36) :: q27 []))), [(.cells [(.v (.str a0.fName)), (dP e67 a0.fCells)]), .dead, .dead, (.cells [(dP eS v48.fTags), (.v (.str v48.fCut)), (.v (.str v48.fAdd))]), (rowO 1 (List.map eS v35))]⟩ (by generalize v35 = z0; cases z0 <;> kernel_rfl) ?_
            exact J43c44j59 v35  h
        obtain ⟨v56, ev56, h⟩ := bnd_some h
        have G43c44g51 : ∀ v50 : Bool, (cnd v50 (bnd (f44 m v48) fun v61 => some v61) (some false)) = some v56 → Ops (X43c44 n) (opl (cL (cR (cR (cL (cL (cR (cR (cL (cL (cR (cL (cR (cR C43c44)))))))))))))) 2 ⟨q1 ((.v (.str a1)) :: (.v (.fn 44)) :: q3 ((.v (.sl .nil (List.map eS []))) :: (rowD 2 (List.map eS v35)) :: q1 ((.ptr 3 0) :: (.v (.str v49.1)) :: (dB v50) :: q1 ((dP e67 a0.fCells) :: (dI ((a0.fCells.length : Int))) :: (dI v36) :: q1 ((.vptr [(vP eS v48.fTags), (.str v48.fCut), (.str v48.fAdd)]) :: (.v (.agg [(vP eS v48.fTags), (.str v48.fCut), (.str v48.fAdd)])) :: (.v (.tuple [(.str v49.1), (vB v49.2)])) :: (.v (.str a1)) :: (.ptr 3 2) :: (.v (.str v48.fAdd)) :: (.ptr 3 1) :: (.v (.str v48.fCut)) :: (.v (.tuple [(.str v49.1), (vB v49.2)])) :: (.v (.str v49.1)) :: (dB v50) :: (dB v50) :: (dB v50) :: q13 []))))), [(.cells [(.v (.str a0.fName)), (dP e67 a0.fCells)]), .dead, (rowO 1 (List.map eS v35)), (.cells [(dP eS v48.fTags), (.v (.str v48.fCut)), (.v (.str v48.fAdd))])]⟩ ((seqQ (X43c44 n) (cR (cR (cR (cL (cL (cR (cR (cL (cL (cR (cL (cR (cR C43c44))))))))))))) (blkQ (X43c44 n) 1 [1, 2, 6, 7, 13, 14, 15] 3 (seqQ (X43c44 n) (cR (cR (cR (cL (cL (cR (cL (cR (cR C43c44))))))))) (lpQ (X43c44 n) [1, 2, 6, 7, 13, 14, 15] 1 (cL (cL (cR (cL (cR (cR C43c44)))))) nx39 (blkQ (X43c44 n) 0 [6, 7] 1 (seqQ (X43c44 n) (cR (cR (cR C43c44))) (fnQO (X43c44 n).E.T (resOf Proofs.Tryd.prog 43) ((eL eS) o)))))))) .normal) := by
          intro v50 ev56
          cases v50
          · have ev56 := cnd_f ev56
            refine Ops.seg' 4 6 (by kernel_rfl) ?_
            refine Ops.st ⟨q1 ((.v (.str a1)) :: (.v (.fn 44)) :: q3 ((.v (.sl .nil (List.map eS []))) :: (rowD 2 (List.map eS v35)) :: q1 ((.ptr 3 0) :: (.v (.str v49.1)) :: (dB false) :: q1 ((dP e67 a0.fCells) :: (dI ((a0.fCells.length : Int))) :: (dI v36) :: q1 ((.vptr [(vP eS v48.fTags), (.str v48.fCut), (.str v48.fAdd)]) :: (.v (.agg [(vP eS v48.fTags), (.str v48.fCut), (.str v48.fAdd)])) :: (.v (.tuple [(.str v49.1), (vB v49.2)])) :: (.v (.str a1)) :: (.ptr 3 2) :: (.v (.str v48.fAdd)) :: (.ptr 3 1) :: (.v (.str v48.fCut)) :: (.v (.tuple [(.str v49.1), (vB v49.2)])) :: (.v (.str v49.1)) :: (dB false) :: (dB false) :: (dB false) :: u3 ((dB false) :: q9 [])))))), [(.cells [(.v (.str a0.fName)), (dP e67 a0.fCells)]), .dead, (rowO 1 (List.map eS v35)), (.cells [(dP eS v48.fTags), (.v (.str v48.fCut)), (.v (.str v48.fAdd))])]⟩ (by kernel_rfl) ?_
            exact J43c44j57 _ _ _ _ _ (some_sub (fun v56 => f43c44_r3 m v35 v36 v49 v56 = some sx44) ev56 h)
          · have ev56 := cnd_t ev56
            refine Ops.seg' 2 4 (by kernel_rfl) ?_
            obtain ⟨v61, ev61, ev56⟩ := bnd_some ev56
            refine Ops.one' 5 (fun h0 e0 => (call_ok (E' := E) (h := h0) (by kernel_rfl) (Args.v (.agg [(vP eS v48.fTags), (.str v48.fCut), (.str v48.fAdd)]) (e67 v48) (by kernel_rfl) Args.nil) (ok44 m v48 v61 ev61 n (by omega)))) (by kernel_rfl) (by kernel_rfl) ?_
            refine Ops.seg' 1 6 (by kernel_rfl) ?_
            refine Ops.st ⟨q1 ((.v (.str a1)) :: (.v (.fn 44)) :: q3 ((.v (.sl .nil (List.map eS []))) :: (rowD 2 (List.map eS v35)) :: q1 ((.ptr 3 0) :: (.v (.str v49.1)) :: (dB true) :: q1 ((dP e67 a0.fCells) :: (dI ((a0.fCells.length : Int))) :: (dI v36) :: q1 ((.vptr [(vP eS v48.fTags), (.str v48.fCut), (.str v48.fAdd)]) :: (.v (.agg [(vP eS v48.fTags), (.str v48.fCut), (.str v48.fAdd)])) :: (.v (.tuple [(.str v49.1), (vB v49.2)])) :: (.v (.str a1)) :: (.ptr 3 2) :: (.v (.str v48.fAdd)) :: (.ptr 3 1) :: (.v (.str v48.fCut)) :: (.v (.tuple [(.str v49.1), (vB v49.2)])) :: (.v (.str v49.1)) :: (dB true) :: (dB true) :: (dB true) :: (.v (.fn 44)) :: (.v (.agg [(vP eS v48.fTags), (.str v48.fCut), (.str v48.fAdd)])) :: (dB v61) :: (dB v61) :: q9 []))))), [(.cells [(.v (.str a0.fName)), (dP e67 a0.fCells)]), .dead, (rowO 1 (List.map eS v35)), (.cells [(dP eS v48.fTags), (.v (.str v48.fCut)), (.v (.str v48.fAdd))])]⟩ (by kernel_rfl) ?_
            exact J43c44j57 _ _ _ _ _ (some_sub (fun v56 => f43c44_r3 m v35 v36 v49 v56 = some sx44) ev56 h)
        exact Ops.st ⟨q1 ((.v (.str a1)) :: (.v (.fn 44)) :: q3 ((.v (.sl .nil (List.map eS []))) :: (rowD 2 (List.map eS v35)) :: q1 ((.ptr 3 0) :: (.v (.str v49.1)) :: (dB v49.2) :: q1 ((dP e67 a0.fCells) :: (dI ((a0.fCells.length : Int))) :: (dI v36) :: q1 ((.vptr [(vP eS v48.fTags), (.str v48.fCut), (.str v48.fAdd)]) :: (.v (.agg [(vP eS v48.fTags), (.str v48.fCut), (.str v48.fAdd)])) :: (.v (.tuple [(.str v49.1), (vB v49.2)])) :: (.v (.str a1)) :: (.ptr 3 2) :: (.v (.str v48.fAdd)) :: (.ptr 3 1) :: (.v (.str v48.fCut)) :: (.v (.tuple [(.str v49.1), (vB v49.2)])) :: (.v (.str v49.1)) :: (dB v49.2) :: (dB v49.2) :: (dB v49.2) :: q13 []))))), [(.cells [(.v (.str a0.fName)), (dP e67 a0.fCells)]), .dead, (rowO 1 (List.map eS v35)), (.cells [(dP eS v48.fTags), (.v (.str v48.fCut)), (.v (.str v48.fAdd))])]⟩ (by kernel_rfl) (G43c44g51 v49.2 ev56)
      · refine Wp.exit (id := 0) (by kernel_rfl) ?_
        refine sqQ.x ?_
        refine seqQ.x ?_
        cases h
        refine lpQ.x ?_
        refine blkQ.x ⟨q6 ((.v (.sl .nil (List.map eS []))) :: (rowD 1 (List.map eS v35)) :: q35 []), [(.cells [(.v (.str a0.fName)), (dP e67 a0.fCells)]), (rowO 1 (List.map eS v35))]⟩ (by generalize v35 = z0; cases z0 <;> kernel_rfl) ?_
        exact hxx42 (v35, v36)  hsx45
  refine Wp.loop' [1, 2, 6, 7, 13, 14, 15] 1 (by kernel_rfl) ⟨q1 ((.v (.str a1)) :: (.v (.fn 44)) :: q3 ((.v (.sl .nil (List.map eS []))) :: (rowD 1 (List.map eS [])) :: q5 ((dP e67 a0.fCells) :: (dI ((a0.fCells.length : Int))) :: (dI 0) :: q27 []))), [(.cells [(.v (.str a0.fName)), (dP e67 a0.fCells)]), (rowO 1 (List.map eS []))]⟩ (by kernel_rfl) ?_
  rcases brk_some h with ⟨r64, er64, h⟩ | ⟨y63, ey63, h⟩
  · refine hLx62 _ [] 0  _ er64 n (by omega) (fun r er σ hσ => ?_) (fun y  ey => by cases ey)
    cases er
    refine seqQ.r ?_
    exact fnQO.r' (X43c44 n) (fun z => ((eL eS) z)) h hσ
  · refine hLx62 _ [] 0  _ ey63 n (by omega) (fun r er => by cases er) (fun y  ey => ?_)
    cases ey
    refine seqQ.n ?_
    refine Wp.seq' (by kernel_rfl) ?_
    refine Wp.region (by kernel_rfl) ?_
    refine Ops.seg' 1 1 (by kernel_rfl) ?_
    obtain ⟨v65, ev65, h⟩ := bnd_some h
    refine Ops.one' 2 (fun h0 e0 => (callD_own (P := Proofs.Tryd.prog) (E := E) (E' := E) (n := n) (f := 67) (by kernel_rfl) (by kernel_rfl) (by kernel_rfl) (row_sort h0 1 y63.1 v65 ev65 (hq_of e0 (by kernel_rfl))) (by omega))) (by kernel_rfl) (by kernel_rfl) ?_
    refine Ops.st ⟨q6 ((.v (.sl .nil (List.map eS []))) :: (rowD 1 (List.map eS y63.1)) :: q31 ((rowD 1 (List.map eS y63.1)) :: u1 (q2 []))), [(.cells [(.v (.str a0.fName)), (dP e67 a0.fCells)]), (rowO 1 (List.map eS v65))]⟩ (by kernel_rfl) ?_
    rw [srt_row 1 ev65]
    refine Ops.done (by kernel_rfl) ?_
    refine seqQ.n ?_
    refine Wp.seq' (by kernel_rfl) ?_
    refine Wp.region (by kernel_rfl) ?_
    refine Ops.seg' 1 1 (by kernel_rfl) ?_
    refine Ops.one' 2 (fun h0 e0 => (callD_own (P := Proofs.Tryd.prog) (E := E) (E' := E) (n := n) (f := 68) (by kernel_rfl) (by kernel_rfl) (by kernel_rfl) (row_compact h0 1 v65 (hq_of e0 (by kernel_rfl))) (by omega))) (by kernel_rfl) (by kernel_rfl) ?_
    refine Ops.seg' 1 3 (by kernel_rfl) ?_
    refine Ops.done (by kernel_rfl) ?_
    refine seqQ.n ?_
    refine Wp.ret (by kernel_rfl) ?_
    exact fnQO.r' (X43c44 n) (fun z => ((eL eS) z)) h (RetOkO.row 1 1 (List.map eS ((compactS v65))) (by kernel_rfl) (by kernel_rfl) (flat_eS _))

/-! ### 19 glosswright/paradigm.Bases -/
def f19 (m : Nat) (a0 : S23) (a1 : ByteArray) : Option ((List ByteArray) × S27) :=
  bnd (f15 m a0) fun v1 =>
  cnd (!((v1.fCode == 0) && ((v1.fIndex == 0) && true)))
  (some (([], v1)))
  (bnd (f32 m a1) fun v2 =>
  cnd (!v2)
  (bnd (f33 m 5 ((-2))) fun v3 =>
  some (([], v3)))
  (bnd (f43c44 m a0 a1) fun v4 =>
  some ((v4, (⟨0, 0⟩ : S27)))))
noncomputable abbrev X19 (n : Nat) : Cx := cxOf Proofs.Tryd.prog E 19 n
noncomputable def C19 : Code := bodyOf Proofs.Tryd.prog 19
theorem ok19 (m : Nat) (a0 : S23) (a1 : ByteArray) (o : ((List ByteArray) × S27)) (h : f19 m a0 a1 = some o) (n : Nat) (hn : m + 6 ≤ n) : Fn Proofs.Tryd.prog E n 19 [.v (e23 a0), .v (eS a1)] (.tuple [(eL eS) o.1, e27 o.2]) := by
  obtain ⟨n, rfl⟩ : ∃ q, n = q + 1 := ⟨n - 1, by omega⟩
  unfold f19 at h
  refine Fn.of (by kernel_rfl) (by kernel_rfl) (by kernel_rfl) ⟨(.v (.agg [(.str a0.fName), (vP e67 a0.fCells)])) :: (.v (.str a1)) :: u19 [], []⟩ (by kernel_rfl) ?_
  refine Wp.seq' (by kernel_rfl) ?_
  refine Wp.region (by kernel_rfl) ?_
  refine Ops.seg' 3 3 (by kernel_rfl) ?_
  refine Ops.done (by kernel_rfl) ?_
  refine seqQ.n ?_
  refine Wp.seq' (by kernel_rfl) ?_
  refine Wp.seq' (by kernel_rfl) ?_
  refine Wp.region (by kernel_rfl) ?_
  refine Ops.seg' 1 1 (by kernel_rfl) ?_
  obtain ⟨v1, ev1, h⟩ := bnd_some h
  refine Ops.one' 2 (fun h0 e0 => (call_ok (E' := E) (h := h0) (by kernel_rfl) (Args.v (.agg [(.str a0.fName), (vP e67 a0.fCells)]) (e23 a0) (by kernel_rfl) Args.nil) (ok15 m a0 v1 ev1 n (by omega)))) (by kernel_rfl) (by kernel_rfl) ?_
  refine Ops.seg' 2 4 (by kernel_rfl) ?_
  refine Ops.done (by kernel_rfl) ?_
  refine seqQ.n ?_
  refine Wp.seq' (by kernel_rfl) ?_
  refine Wp.region (by kernel_rfl) ?_
  refine Ops.seg' 3 3 (by kernel_rfl) ?_
  refine Ops.done (by kernel_rfl) ?_
  refine seqQ.n ?_
  refine Wp.cnd h [1, 2, 4, 5] 3 (by kernel_rfl) (fun h => ?_) (fun h => ?_)
  · refine Wp.seq' (by kernel_rfl) ?_
    refine Wp.region (by kernel_rfl) ?_
    refine Ops.seg' 3 3 (by kernel_rfl) ?_
    refine Ops.done (by kernel_rfl) ?_
    refine seqQ.n ?_
    refine Wp.ret (by kernel_rfl) ?_
    refine sqQ.r ?_
    refine seqQ.r ?_
    exact fnQ.r' (X19 n) (fun z => (.tuple [(eL eS) z.1, e27 z.2])) h (RetOk.mk' (.v (.tuple [(.sl .nil (List.map eS [])), (.agg [(vI v1.fCode), (vI v1.fIndex)])])) (by kernel_rfl) (by kernel_rfl))
  · refine Wp.skip (by kernel_rfl) ?_
    refine sqQ.n' ?_
    refine seqQ.n ?_
    refine Wp.seq' (by kernel_rfl) ?_
    refine Wp.seq' (by kernel_rfl) ?_
    refine Wp.region (by kernel_rfl) ?_
    refine Ops.seg' 1 1 (by kernel_rfl) ?_
    obtain ⟨v2, ev2, h⟩ := bnd_some h
    refine Ops.one' 2 (fun h0 e0 => (call_ok (E' := E) (h := h0) (by kernel_rfl) (Args.v (.str a1) (eS a1) (by kernel_rfl) Args.nil) (ok32 m a1 v2 ev2 n (by omega)))) (by kernel_rfl) (by kernel_rfl) ?_
    refine Ops.seg' 1 3 (by kernel_rfl) ?_
    refine Ops.done (by kernel_rfl) ?_
    refine seqQ.n ?_
    refine Wp.cnd h [1, 2, 4, 5] 3 (by kernel_rfl) (fun h => ?_) (fun h => ?_)
    · refine Wp.seq' (by kernel_rfl) ?_
      refine Wp.region (by kernel_rfl) ?_
      obtain ⟨v3, ev3, h⟩ := bnd_some h
      refine Ops.one' 1 (fun h0 e0 => (call_ok (E' := E) (h := h0) (by kernel_rfl) (Args.v (vI 5) (eI 5) (by kernel_rfl) (Args.v (vI ((-2))) (eI ((-2))) (by kernel_rfl) Args.nil)) (ok33 m 5 ((-2)) v3 ev3 n (by omega)))) (by kernel_rfl) (by kernel_rfl) ?_
      refine Ops.seg' 2 3 (by kernel_rfl) ?_
      refine Ops.done (by kernel_rfl) ?_
      refine seqQ.n ?_
      refine Wp.ret (by kernel_rfl) ?_
      refine sqQ.r ?_
      refine seqQ.r ?_
      exact fnQ.r' (X19 n) (fun z => (.tuple [(eL eS) z.1, e27 z.2])) h (RetOk.mk' (.v (.tuple [(.sl .nil (List.map eS [])), (.agg [(vI v3.fCode), (vI v3.fIndex)])])) (by kernel_rfl) (by kernel_rfl))
    · refine Wp.skip (by kernel_rfl) ?_
      refine sqQ.n' ?_
      refine seqQ.n ?_
      refine Wp.seq' (by kernel_rfl) ?_
      refine Wp.region (by kernel_rfl) ?_
      refine Ops.seg' 2 2 (by kernel_rfl) ?_
      obtain ⟨v4, ev4, h⟩ := bnd_some h
      refine Ops.one' 3 (fun h0 e0 => (call_ok (E' := E) (h := h0) (by kernel_rfl) (Args.v (.agg [(.str a0.fName), (vP e67 a0.fCells)]) (e23 a0) (by kernel_rfl) (Args.v (.str a1) (eS a1) (by kernel_rfl) (Args.v (.fn 44) (.fn 44) (by kernel_rfl) Args.nil))) (ok43c44 m a0 a1 v4 ev4 n (by omega)).fn)) (by kernel_rfl) (by kernel_rfl) ?_
      refine Ops.seg' 3 6 (by kernel_rfl) ?_
      refine Ops.done (by kernel_rfl) ?_
      refine seqQ.n ?_
      refine Wp.ret (by kernel_rfl) ?_
      exact fnQ.r' (X19 n) (fun z => (.tuple [(eL eS) z.1, e27 z.2])) h (RetOk.mk' (.v (.tuple [(vP eS v4), (.agg [(vI 0), (vI 0)])])) (by kernel_rfl) (by kernel_rfl))

/-! ### 35 glosswright/glosswrightref6.Name -/
def f35_r1 (m : Nat) (v96 : Int) (v137 : Bool) : Option (Stp Bool (Int)) :=
  cnd (!v137)
  (some (.ret false))
  (some (.nxt (w64 (v96 + 1))))
def f35_r2 (m : Nat) (v96 : Int) (v106 : Int) (v130 : Bool) : Option (Stp Bool (Int)) :=
  f35_r1 m v96 ((v130 || (v106 == 45)))
def f35_r3 (m : Nat) (v96 : Int) (v106 : Int) (v123 : Bool) : Option (Stp Bool (Int)) :=
  f35_r2 m v96 v106 ((v123 || (v106 == 95)))
def f35_r4 (m : Nat) (v96 : Int) (v106 : Int) (v112 : Bool) : Option (Stp Bool (Int)) :=
  f35_r3 m v96 v106 ((v112 || (((decide (v106 ≥ 48)) && (decide (v106 ≤ 57))))))
def f35_B5 (m : Nat) (a0 : ByteArray) (v96 : Int) : Option (Stp Bool (Int)) :=
  cnd (decide (v96 < (a0.size : Int)))
  (bnd (sidx a0 v96) fun v106 =>
  f35_r4 m v96 v106 (((decide (v106 ≥ 97)) && (decide (v106 ≤ 122)))))
  (some (.brk v96))
def f35_r6 (m : Nat) (a0 : ByteArray) (v23 : Bool) : Option Bool :=
  cnd v23
  (some false)
  (brk (iter (fun (y : Int) => f35_B5 m a0 y) m 0) some fun y142 =>
  some true)
def f35_r7 (m : Nat) (a0 : ByteArray) (v15 : Bool) : Option Bool :=
  bnd (cnd v15
  (some true)
  (bnd (sidx a0 0) fun v144 =>
  some (decide (v144 > 122)))) fun v23 =>
  f35_r6 m a0 v23
def f35_r8 (m : Nat) (a0 : ByteArray) (v7 : Bool) : Option Bool :=
  bnd (cnd v7
  (some true)
  (bnd (sidx a0 0) fun v145 =>
  some (decide (v145 < 97)))) fun v15 =>
  f35_r7 m a0 v15
def f35 (m : Nat) (a0 : ByteArray) : Option Bool :=
  f35_r8 m a0 (((((a0.size : Int)) == 0) || (decide ((a0.size : Int) > 30))))
noncomputable abbrev X35 (n : Nat) : Cx := cxOf Proofs.Tryd.prog E 35 n
noncomputable def C35 : Code := bodyOf Proofs.Tryd.prog 35
theorem ok35 (m : Nat) (a0 : ByteArray) (o : Bool) (h : f35 m a0 = some o) (n : Nat) (hn : m + 1 ≤ n) : Fn Proofs.Tryd.prog E n 35 [.v (eS a0)] (eB o) := by
  obtain ⟨n, rfl⟩ : ∃ q, n = q + 1 := ⟨n - 1, by omega⟩
  unfold f35 at h
  refine Fn.of (by kernel_rfl) (by kernel_rfl) (by kernel_rfl) ⟨(.v (.str a0)) :: u40 (u14 []), []⟩ (by kernel_rfl) ?_
  refine Wp.seq' (by kernel_rfl) ?_
  refine Wp.region (by kernel_rfl) ?_
  refine Ops.seg' 1 1 (by kernel_rfl) ?_
  refine Ops.done (by kernel_rfl) ?_
  refine seqQ.n ?_
  refine Wp.seq' (by kernel_rfl) ?_
  refine Wp.seq' (by kernel_rfl) ?_
  refine Wp.region (by kernel_rfl) ?_
  refine Ops.seg' 4 4 (by kernel_rfl) ?_
  have J35j8 : ∀ (d3 d4 d5 : D) (v6 : Bool) (v7 : Bool), f35_r8 m a0 v7 = some o → Ops (X35 n) (opl (cL (cL (cR C35)))) 8 ⟨(.v (.str a0)) :: u1 ((dB false) :: u2 ((.v (.str a0)) :: (dI ((a0.size : Int))) :: (dB v6) :: (dB v6) :: d3 :: d4 :: d5 :: (dB v7) :: u40 (u2 []))), []⟩ ((seqQ (X35 n) (cR (cL (cR C35))) (seqQ (X35 n) (cR (cR C35)) (fnQ (X35 n).E.T (resOf Proofs.Tryd.prog 35) (eB o)))) .normal) := by
    intro d3 d4 d5 v6 v7 h
    unfold f35_r8 at h
    refine Ops.seg' 1 9 (by kernel_rfl) ?_
    have J35j16 : ∀ (d11 d12 d13 : D) (v14 : Bool) (v15 : Bool), f35_r7 m a0 v15 = some o → Ops (X35 n) (opl (cL (cL (cR C35)))) 13 ⟨(.v (.str a0)) :: u1 ((dB false) :: u2 ((.v (.str a0)) :: (dI ((a0.size : Int))) :: (dB v6) :: (dB v6) :: d3 :: d4 :: d5 :: (dB v14) :: (dB v14) :: d11 :: d12 :: d13 :: (dB v15) :: u37 [])), []⟩ ((seqQ (X35 n) (cR (cL (cR C35))) (seqQ (X35 n) (cR (cR C35)) (fnQ (X35 n).E.T (resOf Proofs.Tryd.prog 35) (eB o)))) .normal) := by
      intro d11 d12 d13 v14 v15 h
      unfold f35_r7 at h
      refine Ops.seg' 1 14 (by kernel_rfl) ?_
      have J35j24 : ∀ (d19 d20 d21 : D) (v22 : Bool) (v23 : Bool), f35_r6 m a0 v23 = some o → Ops (X35 n) (opl (cL (cL (cR C35)))) 18 ⟨(.v (.str a0)) :: u1 ((dB false) :: u2 ((.v (.str a0)) :: (dI ((a0.size : Int))) :: (dB v6) :: (dB v6) :: d3 :: d4 :: d5 :: (dB v14) :: (dB v14) :: d11 :: d12 :: d13 :: (dB v22) :: (dB v22) :: d19 :: d20 :: d21 :: (dB v23) :: u32 [])), []⟩ ((seqQ (X35 n) (cR (cL (cR C35))) (seqQ (X35 n) (cR (cR C35)) (fnQ (X35 n).E.T (resOf Proofs.Tryd.prog 35) (eB o)))) .normal) := by
        intro d19 d20 d21 v22 v23 h
        unfold f35_r6 at h
        refine Ops.done (by kernel_rfl) ?_
        refine seqQ.n ?_
        refine Wp.cnd h [0, 2] 0 (by kernel_rfl) (fun h => ?_) (fun h => ?_)
        · refine Wp.seq' (by kernel_rfl) ?_
          refine Wp.region (by kernel_rfl) ?_
          refine Ops.seg' 1 1 (by kernel_rfl) ?_
          refine Ops.done (by kernel_rfl) ?_
          refine seqQ.n ?_
          refine Wp.ret (by kernel_rfl) ?_
          refine sqQ.r ?_
          refine seqQ.r ?_
          exact fnQ.r' (X35 n) (fun z => (eB z)) h (RetOk.mk' (dB false) (by kernel_rfl) (by kernel_rfl))
        · refine Wp.skip (by kernel_rfl) ?_
          refine sqQ.n' ?_
          refine seqQ.n ?_
          refine Wp.seq' (by kernel_rfl) ?_
          refine Wp.seq' (by kernel_rfl) ?_
          refine Wp.region (by kernel_rfl) ?_
          refine Ops.seg' 1 1 (by kernel_rfl) ?_
          refine Ops.done (by kernel_rfl) ?_
          refine seqQ.n ?_
          refine Wp.block' 0 [2] 0 (by kernel_rfl) ?_
          have hLx141 : ∀ (kx98 : Nat) (v96 : Int)  (ox97 : Bool ⊕ (Int)), iter (fun (y : Int) => f35_B5 m a0 y) kx98 v96 = some ox97 → ∀ nx99, kx98 ≤ nx99 → (∀ r, ox97 = .inl r → ∀ σ, RetOk (X35 n) (resOf Proofs.Tryd.prog 35) (eB r) σ → (seqQ (X35 n) (cR (cR (cR C35))) (fnQ (X35 n).E.T (resOf Proofs.Tryd.prog 35) (eB o))) .ret σ) → (∀ (y : Int) , ox97 = .inr y → (seqQ (X35 n) (cR (cR (cR C35))) (fnQ (X35 n).E.T (resOf Proofs.Tryd.prog 35) (eB o))) .normal ⟨(.v (.str a0)) :: q1 ((dB false) :: (dI y) :: q40 (q11 [])), []⟩) → Lp (X35 n) [0, 2, 3] 0 (cL (cL (cR (cL (cR (cR C35)))))) nx99 ⟨(.v (.str a0)) :: q1 ((dB false) :: (dI v96) :: q40 (q11 [])), []⟩ (blkQ (X35 n) 0 [2] 0 (seqQ (X35 n) (cR (cR (cR C35))) (fnQ (X35 n).E.T (resOf Proofs.Tryd.prog 35) (eB o)))) := by
            intro kx98
            induction kx98 with
            | zero => intro v96  ox97 h; exact (iter_zero h).elim
            | succ kx98 ihx100 =>
              intro v96  ox97 h nx99 hnx103 hrx101 hxx102
              obtain ⟨nx99, rfl⟩ : ∃ q, nx99 = q + 1 := ⟨nx99 - 1, by omega⟩
              obtain ⟨sx104, h, hsx105⟩ := iter_some h
              have h : f35_B5 m a0 v96 = some sx104 := h
              unfold f35_B5 at h
              refine Lp.succ ?_
              refine Wp.seq' (by kernel_rfl) ?_
              refine Wp.seq' (by kernel_rfl) ?_
              refine Wp.region (by kernel_rfl) ?_
              refine Ops.seg' 4 4 (by kernel_rfl) ?_
              refine Ops.done (by kernel_rfl) ?_
              refine seqQ.n ?_
              refine Wp.cnd h [0, 2, 3] 0 (by kernel_rfl) (fun h => ?_) (fun h => ?_)
              · refine Wp.skip (by kernel_rfl) ?_
                refine sqQ.n' ?_
                refine seqQ.n ?_
                refine Wp.seq' (by kernel_rfl) ?_
                refine Wp.block' 1 [0, 2, 3] 0 (by kernel_rfl) ?_
                refine Wp.seq' (by kernel_rfl) ?_
                refine Wp.region (by kernel_rfl) ?_
                refine Ops.seg' 2 2 (by kernel_rfl) ?_
                obtain ⟨v106, ev106, h⟩ := bnd_some h
                refine Ops.one' 3 (fun h0 e0 => (str_ix (T := T) h0 9 a0 v96 v106 ev106 (by kernel_rfl))) (by kernel_rfl) (by kernel_rfl) ?_
                refine Ops.seg' 1 4 (by kernel_rfl) ?_
                refine Ops.done (by kernel_rfl) ?_
                refine seqQ.n ?_
                refine Wp.seq' (by kernel_rfl) ?_
                refine Wp.region (by kernel_rfl) ?_
                refine Ops.seg' 3 3 (by kernel_rfl) ?_
                have J35j113 : ∀ (d109 d110 : D) (v111 : Bool) (v112 : Bool), f35_r4 m v96 v106 v112 = some sx104 → Ops (X35 n) (opl (cL (cR (cL (cL (cR (cL (cL (cR (cL (cR (cR C35)))))))))))) 6 ⟨(.v (.str a0)) :: q1 ((dB false) :: (dI v96) :: (.v (.int .u8 v106)) :: q18 ((dI v96) :: (.v (.str a0)) :: (dI ((a0.size : Int))) :: (dB (decide (v96 < (a0.size : Int)))) :: q2 ((.v (.str a0)) :: (dI v96) :: (.v (.int .u8 v106)) :: (.v (.int .u8 v106)) :: (dB v111) :: (dB v111) :: d109 :: d110 :: (dB v112) :: q17 []))), []⟩ ((seqQ (X35 n) (cR (cR (cL (cL (cR (cL (cL (cR (cL (cR (cR C35))))))))))) (blkQ (X35 n) 1 [0, 2, 3] 0 (seqQ (X35 n) (cR (cR (cL (cL (cR (cL (cR (cR C35)))))))) (lpQ (X35 n) [0, 2, 3] 0 (cL (cL (cR (cL (cR (cR C35)))))) nx99 (blkQ (X35 n) 0 [2] 0 (seqQ (X35 n) (cR (cR (cR C35))) (fnQ (X35 n).E.T (resOf Proofs.Tryd.prog 35) (eB o)))))))) .normal) := by
                  intro d109 d110 v111 v112 h
                  unfold f35_r4 at h
                  refine Ops.seg' 1 7 (by kernel_rfl) ?_
                  have J35j124 : ∀ (d116 d117 d118 d119 d120 d121 : D) (v122 : Bool) (v123 : Bool), f35_r3 m v96 v106 v123 = some sx104 → Ops (X35 n) (opl (cL (cR (cL (cL (cR (cL (cL (cR (cL (cR (cR C35)))))))))))) 14 ⟨(.v (.str a0)) :: q1 ((dB false) :: (dI v96) :: (.v (.int .u8 v106)) :: q18 ((dI v96) :: (.v (.str a0)) :: (dI ((a0.size : Int))) :: (dB (decide (v96 < (a0.size : Int)))) :: q2 ((.v (.str a0)) :: (dI v96) :: (.v (.int .u8 v106)) :: (.v (.int .u8 v106)) :: (dB v111) :: (dB v111) :: d109 :: d110 :: (dB v122) :: (dB v122) :: d116 :: d117 :: d118 :: d119 :: d120 :: d121 :: (dB v123) :: q9 []))), []⟩ ((seqQ (X35 n) (cR (cR (cL (cL (cR (cL (cL (cR (cL (cR (cR C35))))))))))) (blkQ (X35 n) 1 [0, 2, 3] 0 (seqQ (X35 n) (cR (cR (cL (cL (cR (cL (cR (cR C35)))))))) (lpQ (X35 n) [0, 2, 3] 0 (cL (cL (cR (cL (cR (cR C35)))))) nx99 (blkQ (X35 n) 0 [2] 0 (seqQ (X35 n) (cR (cR (cR C35))) (fnQ (X35 n).E.T (resOf Proofs.Tryd.prog 35) (eB o)))))))) .normal) := by
                    intro d116 d117 d118 d119 d120 d121 v122 v123 h
                    unfold f35_r3 at h
                    refine Ops.seg' 1 15 (by kernel_rfl) ?_
                    have J35j131 : ∀ (d127 d128 : D) (v129 : Bool) (v130 : Bool), f35_r2 m v96 v106 v130 = some sx104 → Ops (X35 n) (opl (cL (cR (cL (cL (cR (cL (cL (cR (cL (cR (cR C35)))))))))))) 18 ⟨(.v (.str a0)) :: q1 ((dB false) :: (dI v96) :: (.v (.int .u8 v106)) :: q18 ((dI v96) :: (.v (.str a0)) :: (dI ((a0.size : Int))) :: (dB (decide (v96 < (a0.size : Int)))) :: q2 ((.v (.str a0)) :: (dI v96) :: (.v (.int .u8 v106)) :: (.v (.int .u8 v106)) :: (dB v111) :: (dB v111) :: d109 :: d110 :: (dB v122) :: (dB v122) :: d116 :: d117 :: d118 :: d119 :: d120 :: d121 :: (dB v129) :: (dB v129) :: d127 :: d128 :: (dB v130) :: q5 []))), []⟩ ((seqQ (X35 n) (cR (cR (cL (cL (cR (cL (cL (cR (cL (cR (cR C35))))))))))) (blkQ (X35 n) 1 [0, 2, 3] 0 (seqQ (X35 n) (cR (cR (cL (cL (cR (cL (cR (cR C35)))))))) (lpQ (X35 n) [0, 2, 3] 0 (cL (cL (cR (cL (cR (cR C35)))))) nx99 (blkQ (X35 n) 0 [2] 0 (seqQ (X35 n) (cR (cR (cR C35))) (fnQ (X35 n).E.T (resOf Proofs.Tryd.prog 35) (eB o)))))))) .normal) := by
                      intro d127 d128 v129 v130 h
                      unfold f35_r2 at h
                      refine Ops.seg' 1 19 (by kernel_rfl) ?_
                      have J35j138 : ∀ (d134 d135 : D) (v136 : Bool) (v137 : Bool), f35_r1 m v96 v137 = some sx104 → Ops (X35 n) (opl (cL (cR (cL (cL (cR (cL (cL (cR (cL (cR (cR C35)))))))))))) 22 ⟨(.v (.str a0)) :: q1 ((dB false) :: (dI v96) :: (.v (.int .u8 v106)) :: q18 ((dI v96) :: (.v (.str a0)) :: (dI ((a0.size : Int))) :: (dB (decide (v96 < (a0.size : Int)))) :: q2 ((.v (.str a0)) :: (dI v96) :: (.v (.int .u8 v106)) :: (.v (.int .u8 v106)) :: (dB v111) :: (dB v111) :: d109 :: d110 :: (dB v122) :: (dB v122) :: d116 :: d117 :: d118 :: d119 :: d120 :: d121 :: (dB v129) :: (dB v129) :: d127 :: d128 :: (dB v136) :: (dB v136) :: d134 :: d135 :: (dB v137) :: q1 []))), []⟩ ((seqQ (X35 n) (cR (cR (cL (cL (cR (cL (cL (cR (cL (cR (cR C35))))))))))) (blkQ (X35 n) 1 [0, 2, 3] 0 (seqQ (X35 n) (cR (cR (cL (cL (cR (cL (cR (cR C35)))))))) (lpQ (X35 n) [0, 2, 3] 0 (cL (cL (cR (cL (cR (cR C35)))))) nx99 (blkQ (X35 n) 0 [2] 0 (seqQ (X35 n) (cR (cR (cR C35))) (fnQ (X35 n).E.T (resOf Proofs.Tryd.prog 35) (eB o)))))))) .normal) := by
                        intro d134 d135 v136 v137 h
                        unfold f35_r1 at h
                        refine Ops.seg' 1 23 (by kernel_rfl) ?_
                        refine Ops.done (by kernel_rfl) ?_
                        refine seqQ.n ?_
                        refine Wp.cnd h [0, 2, 3] 0 (by kernel_rfl) (fun h => ?_) (fun h => ?_)
                        · refine Wp.seq' (by kernel_rfl) ?_
                          refine Wp.region (by kernel_rfl) ?_
                          refine Ops.seg' 1 1 (by kernel_rfl) ?_
                          refine Ops.done (by kernel_rfl) ?_
                          refine seqQ.n ?_
                          refine Wp.ret (by kernel_rfl) ?_
                          refine sqQ.r ?_
                          refine blkQ.r ?_
                          refine seqQ.r ?_
                          cases h
                          refine lpQ.r ?_
                          refine blkQ.r ?_
                          exact hrx101 _ hsx105 _ (RetOk.forget [0, 2, 3] (by kernel_rfl) (RetOk.mk' (dB false) (by kernel_rfl) (by kernel_rfl)))
                        · refine Wp.skip (by kernel_rfl) ?_
                          refine sqQ.n' ?_
                          refine blkQ.n' ?_
                          refine seqQ.n ?_
                          refine Wp.region (by kernel_rfl) ?_
                          refine Ops.seg' 3 3 (by kernel_rfl) ?_
                          refine Ops.done (by kernel_rfl) ?_
                          refine lpQ.n ⟨(.v (.str a0)) :: q1 ((dB false) :: (dI (w64 (v96 + 1))) :: q40 (q11 [])), []⟩ (by kernel_rfl) ?_
                          cases h
                          exact ihx100 (w64 (v96 + 1))  _ hsx105 _ (by omega) hrx101 hxx102
                      have G35g133 : ∀ v132 : Bool, f35_r1 m v96 ((v132 || (v106 == 45))) = some sx104 → Ops (X35 n) (opl (cL (cR (cL (cL (cR (cL (cL (cR (cL (cR (cR C35)))))))))))) 19 ⟨(.v (.str a0)) :: q1 ((dB false) :: (dI v96) :: (.v (.int .u8 v106)) :: q18 ((dI v96) :: (.v (.str a0)) :: (dI ((a0.size : Int))) :: (dB (decide (v96 < (a0.size : Int)))) :: q2 ((.v (.str a0)) :: (dI v96) :: (.v (.int .u8 v106)) :: (.v (.int .u8 v106)) :: (dB v111) :: (dB v111) :: d109 :: d110 :: (dB v122) :: (dB v122) :: d116 :: d117 :: d118 :: d119 :: d120 :: d121 :: (dB v129) :: (dB v129) :: d127 :: d128 :: (dB v132) :: (dB v132) :: q4 []))), []⟩ ((seqQ (X35 n) (cR (cR (cL (cL (cR (cL (cL (cR (cL (cR (cR C35))))))))))) (blkQ (X35 n) 1 [0, 2, 3] 0 (seqQ (X35 n) (cR (cR (cL (cL (cR (cL (cR (cR C35)))))))) (lpQ (X35 n) [0, 2, 3] 0 (cL (cL (cR (cL (cR (cR C35)))))) nx99 (blkQ (X35 n) 0 [2] 0 (seqQ (X35 n) (cR (cR (cR C35))) (fnQ (X35 n).E.T (resOf Proofs.Tryd.prog 35) (eB o)))))))) .normal) := by
                        intro v132 h
                        cases v132
                        · refine Ops.seg' 3 22 (by kernel_rfl) ?_
                          refine Ops.st ⟨(.v (.str a0)) :: q1 ((dB false) :: (dI v96) :: (.v (.int .u8 v106)) :: q18 ((dI v96) :: (.v (.str a0)) :: (dI ((a0.size : Int))) :: (dB (decide (v96 < (a0.size : Int)))) :: q2 ((.v (.str a0)) :: (dI v96) :: (.v (.int .u8 v106)) :: (.v (.int .u8 v106)) :: (dB v111) :: (dB v111) :: d109 :: d110 :: (dB v122) :: (dB v122) :: d116 :: d117 :: d118 :: d119 :: d120 :: d121 :: (dB v129) :: (dB v129) :: d127 :: d128 :: (dB false) :: (dB false) :: (.v (.int .u8 v106)) :: (dB (v106 == 45)) :: (dB (v106 == 45)) :: q1 []))), []⟩ (by kernel_rfl) ?_
                          exact J35j138 _ _ _ _ h
                        · refine Ops.seg' 3 22 (by kernel_rfl) ?_
                          refine Ops.st ⟨(.v (.str a0)) :: q1 ((dB false) :: (dI v96) :: (.v (.int .u8 v106)) :: q18 ((dI v96) :: (.v (.str a0)) :: (dI ((a0.size : Int))) :: (dB (decide (v96 < (a0.size : Int)))) :: q2 ((.v (.str a0)) :: (dI v96) :: (.v (.int .u8 v106)) :: (.v (.int .u8 v106)) :: (dB v111) :: (dB v111) :: d109 :: d110 :: (dB v122) :: (dB v122) :: d116 :: d117 :: d118 :: d119 :: d120 :: d121 :: (dB v129) :: (dB v129) :: d127 :: d128 :: (dB true) :: (dB true) :: u2 ((dB true) :: q1 [])))), []⟩ (by kernel_rfl) ?_
                          exact J35j138 _ _ _ _ h
                      exact Ops.st ⟨(.v (.str a0)) :: q1 ((dB false) :: (dI v96) :: (.v (.int .u8 v106)) :: q18 ((dI v96) :: (.v (.str a0)) :: (dI ((a0.size : Int))) :: (dB (decide (v96 < (a0.size : Int)))) :: q2 ((.v (.str a0)) :: (dI v96) :: (.v (.int .u8 v106)) :: (.v (.int .u8 v106)) :: (dB v111) :: (dB v111) :: d109 :: d110 :: (dB v122) :: (dB v122) :: d116 :: d117 :: d118 :: d119 :: d120 :: d121 :: (dB v129) :: (dB v129) :: d127 :: d128 :: (dB v130) :: (dB v130) :: q4 []))), []⟩ (by kernel_rfl) (G35g133 v130 h)
                    have G35g126 : ∀ v125 : Bool, f35_r2 m v96 v106 ((v125 || (v106 == 95))) = some sx104 → Ops (X35 n) (opl (cL (cR (cL (cL (cR (cL (cL (cR (cL (cR (cR C35)))))))))))) 15 ⟨(.v (.str a0)) :: q1 ((dB false) :: (dI v96) :: (.v (.int .u8 v106)) :: q18 ((dI v96) :: (.v (.str a0)) :: (dI ((a0.size : Int))) :: (dB (decide (v96 < (a0.size : Int)))) :: q2 ((.v (.str a0)) :: (dI v96) :: (.v (.int .u8 v106)) :: (.v (.int .u8 v106)) :: (dB v111) :: (dB v111) :: d109 :: d110 :: (dB v122) :: (dB v122) :: d116 :: d117 :: d118 :: d119 :: d120 :: d121 :: (dB v125) :: (dB v125) :: q8 []))), []⟩ ((seqQ (X35 n) (cR (cR (cL (cL (cR (cL (cL (cR (cL (cR (cR C35))))))))))) (blkQ (X35 n) 1 [0, 2, 3] 0 (seqQ (X35 n) (cR (cR (cL (cL (cR (cL (cR (cR C35)))))))) (lpQ (X35 n) [0, 2, 3] 0 (cL (cL (cR (cL (cR (cR C35)))))) nx99 (blkQ (X35 n) 0 [2] 0 (seqQ (X35 n) (cR (cR (cR C35))) (fnQ (X35 n).E.T (resOf Proofs.Tryd.prog 35) (eB o)))))))) .normal) := by
                      intro v125 h
                      cases v125
                      · refine Ops.seg' 3 18 (by kernel_rfl) ?_
                        refine Ops.st ⟨(.v (.str a0)) :: q1 ((dB false) :: (dI v96) :: (.v (.int .u8 v106)) :: q18 ((dI v96) :: (.v (.str a0)) :: (dI ((a0.size : Int))) :: (dB (decide (v96 < (a0.size : Int)))) :: q2 ((.v (.str a0)) :: (dI v96) :: (.v (.int .u8 v106)) :: (.v (.int .u8 v106)) :: (dB v111) :: (dB v111) :: d109 :: d110 :: (dB v122) :: (dB v122) :: d116 :: d117 :: d118 :: d119 :: d120 :: d121 :: (dB false) :: (dB false) :: (.v (.int .u8 v106)) :: (dB (v106 == 95)) :: (dB (v106 == 95)) :: q5 []))), []⟩ (by kernel_rfl) ?_
                        exact J35j131 _ _ _ _ h
                      · refine Ops.seg' 3 18 (by kernel_rfl) ?_
                        refine Ops.st ⟨(.v (.str a0)) :: q1 ((dB false) :: (dI v96) :: (.v (.int .u8 v106)) :: q18 ((dI v96) :: (.v (.str a0)) :: (dI ((a0.size : Int))) :: (dB (decide (v96 < (a0.size : Int)))) :: q2 ((.v (.str a0)) :: (dI v96) :: (.v (.int .u8 v106)) :: (.v (.int .u8 v106)) :: (dB v111) :: (dB v111) :: d109 :: d110 :: (dB v122) :: (dB v122) :: d116 :: d117 :: d118 :: d119 :: d120 :: d121 :: (dB true) :: (dB true) :: u2 ((dB true) :: q5 [])))), []⟩ (by kernel_rfl) ?_
                        exact J35j131 _ _ _ _ h
                    exact Ops.st ⟨(.v (.str a0)) :: q1 ((dB false) :: (dI v96) :: (.v (.int .u8 v106)) :: q18 ((dI v96) :: (.v (.str a0)) :: (dI ((a0.size : Int))) :: (dB (decide (v96 < (a0.size : Int)))) :: q2 ((.v (.str a0)) :: (dI v96) :: (.v (.int .u8 v106)) :: (.v (.int .u8 v106)) :: (dB v111) :: (dB v111) :: d109 :: d110 :: (dB v122) :: (dB v122) :: d116 :: d117 :: d118 :: d119 :: d120 :: d121 :: (dB v123) :: (dB v123) :: q8 []))), []⟩ (by kernel_rfl) (G35g126 v123 h)
                  have G35g115 : ∀ v114 : Bool, f35_r3 m v96 v106 ((v114 || (((decide (v106 ≥ 48)) && (decide (v106 ≤ 57)))))) = some sx104 → Ops (X35 n) (opl (cL (cR (cL (cL (cR (cL (cL (cR (cL (cR (cR C35)))))))))))) 7 ⟨(.v (.str a0)) :: q1 ((dB false) :: (dI v96) :: (.v (.int .u8 v106)) :: q18 ((dI v96) :: (.v (.str a0)) :: (dI ((a0.size : Int))) :: (dB (decide (v96 < (a0.size : Int)))) :: q2 ((.v (.str a0)) :: (dI v96) :: (.v (.int .u8 v106)) :: (.v (.int .u8 v106)) :: (dB v111) :: (dB v111) :: d109 :: d110 :: (dB v114) :: (dB v114) :: q16 []))), []⟩ ((seqQ (X35 n) (cR (cR (cL (cL (cR (cL (cL (cR (cL (cR (cR C35))))))))))) (blkQ (X35 n) 1 [0, 2, 3] 0 (seqQ (X35 n) (cR (cR (cL (cL (cR (cL (cR (cR C35)))))))) (lpQ (X35 n) [0, 2, 3] 0 (cL (cL (cR (cL (cR (cR C35)))))) nx99 (blkQ (X35 n) 0 [2] 0 (seqQ (X35 n) (cR (cR (cR C35))) (fnQ (X35 n).E.T (resOf Proofs.Tryd.prog 35) (eB o)))))))) .normal) := by
                    intro v114 h
                    cases v114
                    · refine Ops.seg' 3 10 (by kernel_rfl) ?_
                      have G35g140 : ∀ v139 : Bool, (f35_r3 m v96 v106 ((false || ((v139 && (decide (v106 ≤ 57))))))) = some sx104 → Ops (X35 n) (opl (cL (cR (cL (cL (cR (cL (cL (cR (cL (cR (cR C35)))))))))))) 10 ⟨(.v (.str a0)) :: q1 ((dB false) :: (dI v96) :: (.v (.int .u8 v106)) :: q18 ((dI v96) :: (.v (.str a0)) :: (dI ((a0.size : Int))) :: (dB (decide (v96 < (a0.size : Int)))) :: q2 ((.v (.str a0)) :: (dI v96) :: (.v (.int .u8 v106)) :: (.v (.int .u8 v106)) :: (dB v111) :: (dB v111) :: d109 :: d110 :: (dB false) :: (dB false) :: (.v (.int .u8 v106)) :: (dB v139) :: (dB v139) :: q13 []))), []⟩ ((seqQ (X35 n) (cR (cR (cL (cL (cR (cL (cL (cR (cL (cR (cR C35))))))))))) (blkQ (X35 n) 1 [0, 2, 3] 0 (seqQ (X35 n) (cR (cR (cL (cL (cR (cL (cR (cR C35)))))))) (lpQ (X35 n) [0, 2, 3] 0 (cL (cL (cR (cL (cR (cR C35)))))) nx99 (blkQ (X35 n) 0 [2] 0 (seqQ (X35 n) (cR (cR (cR C35))) (fnQ (X35 n).E.T (resOf Proofs.Tryd.prog 35) (eB o)))))))) .normal) := by
                        intro v139 h
                        cases v139
                        · refine Ops.seg' 4 14 (by kernel_rfl) ?_
                          refine Ops.st ⟨(.v (.str a0)) :: q1 ((dB false) :: (dI v96) :: (.v (.int .u8 v106)) :: q18 ((dI v96) :: (.v (.str a0)) :: (dI ((a0.size : Int))) :: (dB (decide (v96 < (a0.size : Int)))) :: q2 ((.v (.str a0)) :: (dI v96) :: (.v (.int .u8 v106)) :: (.v (.int .u8 v106)) :: (dB v111) :: (dB v111) :: d109 :: d110 :: (dB false) :: (dB false) :: (.v (.int .u8 v106)) :: (dB false) :: (dB false) :: u2 ((dB false) :: (dB false) :: q9 [])))), []⟩ (by kernel_rfl) ?_
                          exact J35j124 _ _ _ _ _ _ _ _ h
                        · refine Ops.seg' 4 14 (by kernel_rfl) ?_
                          refine Ops.st ⟨(.v (.str a0)) :: q1 ((dB false) :: (dI v96) :: (.v (.int .u8 v106)) :: q18 ((dI v96) :: (.v (.str a0)) :: (dI ((a0.size : Int))) :: (dB (decide (v96 < (a0.size : Int)))) :: q2 ((.v (.str a0)) :: (dI v96) :: (.v (.int .u8 v106)) :: (.v (.int .u8 v106)) :: (dB v111) :: (dB v111) :: d109 :: d110 :: (dB false) :: (dB false) :: (.v (.int .u8 v106)) :: (dB true) :: (dB true) :: (.v (.int .u8 v106)) :: (dB (decide (v106 ≤ 57))) :: (dB (decide (v106 ≤ 57))) :: (dB (decide (v106 ≤ 57))) :: q9 []))), []⟩ (by kernel_rfl) ?_
                          exact J35j124 _ _ _ _ _ _ _ _ h
                      exact Ops.st ⟨(.v (.str a0)) :: q1 ((dB false) :: (dI v96) :: (.v (.int .u8 v106)) :: q18 ((dI v96) :: (.v (.str a0)) :: (dI ((a0.size : Int))) :: (dB (decide (v96 < (a0.size : Int)))) :: q2 ((.v (.str a0)) :: (dI v96) :: (.v (.int .u8 v106)) :: (.v (.int .u8 v106)) :: (dB v111) :: (dB v111) :: d109 :: d110 :: (dB false) :: (dB false) :: (.v (.int .u8 v106)) :: (dB ((decide (v106 ≥ 48)))) :: (dB ((decide (v106 ≥ 48)))) :: q13 []))), []⟩ (by kernel_rfl) (G35g140 (decide (v106 ≥ 48)) h)
                    · refine Ops.seg' 7 14 (by kernel_rfl) ?_
                      refine Ops.st ⟨(.v (.str a0)) :: q1 ((dB false) :: (dI v96) :: (.v (.int .u8 v106)) :: q18 ((dI v96) :: (.v (.str a0)) :: (dI ((a0.size : Int))) :: (dB (decide (v96 < (a0.size : Int)))) :: q2 ((.v (.str a0)) :: (dI v96) :: (.v (.int .u8 v106)) :: (.v (.int .u8 v106)) :: (dB v111) :: (dB v111) :: d109 :: d110 :: (dB true) :: (dB true) :: u6 ((dB true) :: q9 [])))), []⟩ (by kernel_rfl) ?_
                      exact J35j124 _ _ _ _ _ _ _ _ h
                  exact Ops.st ⟨(.v (.str a0)) :: q1 ((dB false) :: (dI v96) :: (.v (.int .u8 v106)) :: q18 ((dI v96) :: (.v (.str a0)) :: (dI ((a0.size : Int))) :: (dB (decide (v96 < (a0.size : Int)))) :: q2 ((.v (.str a0)) :: (dI v96) :: (.v (.int .u8 v106)) :: (.v (.int .u8 v106)) :: (dB v111) :: (dB v111) :: d109 :: d110 :: (dB v112) :: (dB v112) :: q16 []))), []⟩ (by kernel_rfl) (G35g115 v112 h)
                have G35g108 : ∀ v107 : Bool, f35_r4 m v96 v106 ((v107 && (decide (v106 ≤ 122)))) = some sx104 → Ops (X35 n) (opl (cL (cR (cL (cL (cR (cL (cL (cR (cL (cR (cR C35)))))))))))) 3 ⟨(.v (.str a0)) :: q1 ((dB false) :: (dI v96) :: (.v (.int .u8 v106)) :: q18 ((dI v96) :: (.v (.str a0)) :: (dI ((a0.size : Int))) :: (dB (decide (v96 < (a0.size : Int)))) :: q2 ((.v (.str a0)) :: (dI v96) :: (.v (.int .u8 v106)) :: (.v (.int .u8 v106)) :: (dB v107) :: (dB v107) :: q20 []))), []⟩ ((seqQ (X35 n) (cR (cR (cL (cL (cR (cL (cL (cR (cL (cR (cR C35))))))))))) (blkQ (X35 n) 1 [0, 2, 3] 0 (seqQ (X35 n) (cR (cR (cL (cL (cR (cL (cR (cR C35)))))))) (lpQ (X35 n) [0, 2, 3] 0 (cL (cL (cR (cL (cR (cR C35)))))) nx99 (blkQ (X35 n) 0 [2] 0 (seqQ (X35 n) (cR (cR (cR C35))) (fnQ (X35 n).E.T (resOf Proofs.Tryd.prog 35) (eB o)))))))) .normal) := by
                  intro v107 h
                  cases v107
                  · refine Ops.seg' 3 6 (by kernel_rfl) ?_
                    refine Ops.st ⟨(.v (.str a0)) :: q1 ((dB false) :: (dI v96) :: (.v (.int .u8 v106)) :: q18 ((dI v96) :: (.v (.str a0)) :: (dI ((a0.size : Int))) :: (dB (decide (v96 < (a0.size : Int)))) :: q2 ((.v (.str a0)) :: (dI v96) :: (.v (.int .u8 v106)) :: (.v (.int .u8 v106)) :: (dB false) :: (dB false) :: u2 ((dB false) :: q17 [])))), []⟩ (by kernel_rfl) ?_
                    exact J35j113 _ _ _ _ h
                  · refine Ops.seg' 3 6 (by kernel_rfl) ?_
                    refine Ops.st ⟨(.v (.str a0)) :: q1 ((dB false) :: (dI v96) :: (.v (.int .u8 v106)) :: q18 ((dI v96) :: (.v (.str a0)) :: (dI ((a0.size : Int))) :: (dB (decide (v96 < (a0.size : Int)))) :: q2 ((.v (.str a0)) :: (dI v96) :: (.v (.int .u8 v106)) :: (.v (.int .u8 v106)) :: (dB true) :: (dB true) :: (.v (.int .u8 v106)) :: (dB (decide (v106 ≤ 122))) :: (dB (decide (v106 ≤ 122))) :: q17 []))), []⟩ (by kernel_rfl) ?_
                    exact J35j113 _ _ _ _ h
                exact Ops.st ⟨(.v (.str a0)) :: q1 ((dB false) :: (dI v96) :: (.v (.int .u8 v106)) :: q18 ((dI v96) :: (.v (.str a0)) :: (dI ((a0.size : Int))) :: (dB (decide (v96 < (a0.size : Int)))) :: q2 ((.v (.str a0)) :: (dI v96) :: (.v (.int .u8 v106)) :: (.v (.int .u8 v106)) :: (dB ((decide (v106 ≥ 97)))) :: (dB ((decide (v106 ≥ 97)))) :: q20 []))), []⟩ (by kernel_rfl) (G35g108 (decide (v106 ≥ 97)) h)
              · refine Wp.exit (id := 0) (by kernel_rfl) ?_
                refine sqQ.x ?_
                refine seqQ.x ?_
                cases h
                refine lpQ.x ?_
                refine blkQ.x ⟨(.v (.str a0)) :: q1 ((dB false) :: (dI v96) :: q40 (q11 [])), []⟩ (by kernel_rfl) ?_
                exact hxx102 v96  hsx105
          refine Wp.loop' [0, 2, 3] 0 (by kernel_rfl) ⟨(.v (.str a0)) :: q1 ((dB false) :: (dI 0) :: q40 (q11 [])), []⟩ (by kernel_rfl) ?_
          rcases brk_some h with ⟨r143, er143, h⟩ | ⟨y142, ey142, h⟩
          · refine hLx141 _ 0  _ er143 n (by omega) (fun r er σ hσ => ?_) (fun y  ey => by cases ey)
            cases er
            refine seqQ.r ?_
            exact fnQ.r' (X35 n) (fun z => (eB z)) h hσ
          · refine hLx141 _ 0  _ ey142 n (by omega) (fun r er => by cases er) (fun y  ey => ?_)
            cases ey
            refine seqQ.n ?_
            refine Wp.seq' (by kernel_rfl) ?_
            refine Wp.region (by kernel_rfl) ?_
            refine Ops.seg' 1 1 (by kernel_rfl) ?_
            refine Ops.done (by kernel_rfl) ?_
            refine seqQ.n ?_
            refine Wp.ret (by kernel_rfl) ?_
            exact fnQ.r' (X35 n) (fun z => (eB z)) h (RetOk.mk' (dB true) (by kernel_rfl) (by kernel_rfl))
      obtain ⟨v23, ev23, h⟩ := bnd_some h
      have G35g18 : ∀ v17 : Bool, (cnd v17 (some true) (bnd (sidx a0 0) fun v144 => some (decide (v144 > 122)))) = some v23 → Ops (X35 n) (opl (cL (cL (cR C35)))) 14 ⟨(.v (.str a0)) :: u1 ((dB false) :: u2 ((.v (.str a0)) :: (dI ((a0.size : Int))) :: (dB v6) :: (dB v6) :: d3 :: d4 :: d5 :: (dB v14) :: (dB v14) :: d11 :: d12 :: d13 :: (dB v17) :: (dB v17) :: u36 [])), []⟩ ((seqQ (X35 n) (cR (cL (cR C35))) (seqQ (X35 n) (cR (cR C35)) (fnQ (X35 n).E.T (resOf Proofs.Tryd.prog 35) (eB o)))) .normal) := by
        intro v17 ev23
        cases v17
        · have ev23 := cnd_f ev23
          refine Ops.seg' 1 15 (by kernel_rfl) ?_
          obtain ⟨v144, ev144, ev23⟩ := bnd_some ev23
          refine Ops.one' 16 (fun h0 e0 => (str_ix (T := T) h0 9 a0 0 v144 ev144 (by kernel_rfl))) (by kernel_rfl) (by kernel_rfl) ?_
          refine Ops.seg' 2 18 (by kernel_rfl) ?_
          refine Ops.st ⟨(.v (.str a0)) :: u1 ((dB false) :: u2 ((.v (.str a0)) :: (dI ((a0.size : Int))) :: (dB v6) :: (dB v6) :: d3 :: d4 :: d5 :: (dB v14) :: (dB v14) :: d11 :: d12 :: d13 :: (dB false) :: (dB false) :: (.v (.str a0)) :: (.v (.int .u8 v144)) :: (dB (decide (v144 > 122))) :: (dB (decide (v144 > 122))) :: u32 [])), []⟩ (by kernel_rfl) ?_
          exact J35j24 _ _ _ _ _ (some_sub (fun v23 => f35_r6 m a0 v23 = some o) ev23 h)
        · have ev23 := cnd_t ev23
          refine Ops.seg' 4 18 (by kernel_rfl) ?_
          refine Ops.st ⟨(.v (.str a0)) :: u1 ((dB false) :: u2 ((.v (.str a0)) :: (dI ((a0.size : Int))) :: (dB v6) :: (dB v6) :: d3 :: d4 :: d5 :: (dB v14) :: (dB v14) :: d11 :: d12 :: d13 :: (dB true) :: (dB true) :: u3 ((dB true) :: u32 []))), []⟩ (by kernel_rfl) ?_
          exact J35j24 _ _ _ _ _ (some_sub (fun v23 => f35_r6 m a0 v23 = some o) ev23 h)
      exact Ops.st ⟨(.v (.str a0)) :: u1 ((dB false) :: u2 ((.v (.str a0)) :: (dI ((a0.size : Int))) :: (dB v6) :: (dB v6) :: d3 :: d4 :: d5 :: (dB v14) :: (dB v14) :: d11 :: d12 :: d13 :: (dB v15) :: (dB v15) :: u36 [])), []⟩ (by kernel_rfl) (G35g18 v15 ev23)
    obtain ⟨v15, ev15, h⟩ := bnd_some h
    have G35g10 : ∀ v9 : Bool, (cnd v9 (some true) (bnd (sidx a0 0) fun v145 => some (decide (v145 < 97)))) = some v15 → Ops (X35 n) (opl (cL (cL (cR C35)))) 9 ⟨(.v (.str a0)) :: u1 ((dB false) :: u2 ((.v (.str a0)) :: (dI ((a0.size : Int))) :: (dB v6) :: (dB v6) :: d3 :: d4 :: d5 :: (dB v9) :: (dB v9) :: u40 (u1 []))), []⟩ ((seqQ (X35 n) (cR (cL (cR C35))) (seqQ (X35 n) (cR (cR C35)) (fnQ (X35 n).E.T (resOf Proofs.Tryd.prog 35) (eB o)))) .normal) := by
      intro v9 ev15
      cases v9
      · have ev15 := cnd_f ev15
        refine Ops.seg' 1 10 (by kernel_rfl) ?_
        obtain ⟨v145, ev145, ev15⟩ := bnd_some ev15
        refine Ops.one' 11 (fun h0 e0 => (str_ix (T := T) h0 9 a0 0 v145 ev145 (by kernel_rfl))) (by kernel_rfl) (by kernel_rfl) ?_
        refine Ops.seg' 2 13 (by kernel_rfl) ?_
        refine Ops.st ⟨(.v (.str a0)) :: u1 ((dB false) :: u2 ((.v (.str a0)) :: (dI ((a0.size : Int))) :: (dB v6) :: (dB v6) :: d3 :: d4 :: d5 :: (dB false) :: (dB false) :: (.v (.str a0)) :: (.v (.int .u8 v145)) :: (dB (decide (v145 < 97))) :: (dB (decide (v145 < 97))) :: u37 [])), []⟩ (by kernel_rfl) ?_
        exact J35j16 _ _ _ _ _ (some_sub (fun v15 => f35_r7 m a0 v15 = some o) ev15 h)
      · have ev15 := cnd_t ev15
        refine Ops.seg' 4 13 (by kernel_rfl) ?_
        refine Ops.st ⟨(.v (.str a0)) :: u1 ((dB false) :: u2 ((.v (.str a0)) :: (dI ((a0.size : Int))) :: (dB v6) :: (dB v6) :: d3 :: d4 :: d5 :: (dB true) :: (dB true) :: u3 ((dB true) :: u37 []))), []⟩ (by kernel_rfl) ?_
        exact J35j16 _ _ _ _ _ (some_sub (fun v15 => f35_r7 m a0 v15 = some o) ev15 h)
    exact Ops.st ⟨(.v (.str a0)) :: u1 ((dB false) :: u2 ((.v (.str a0)) :: (dI ((a0.size : Int))) :: (dB v6) :: (dB v6) :: d3 :: d4 :: d5 :: (dB v7) :: (dB v7) :: u40 (u1 []))), []⟩ (by kernel_rfl) (G35g10 v7 ev15)
  have G35g2 : ∀ v1 : Bool, f35_r8 m a0 ((v1 || (decide ((a0.size : Int) > 30)))) = some o → Ops (X35 n) (opl (cL (cL (cR C35)))) 4 ⟨(.v (.str a0)) :: u1 ((dB false) :: u2 ((.v (.str a0)) :: (dI ((a0.size : Int))) :: (dB v1) :: (dB v1) :: u40 (u6 []))), []⟩ ((seqQ (X35 n) (cR (cL (cR C35))) (seqQ (X35 n) (cR (cR C35)) (fnQ (X35 n).E.T (resOf Proofs.Tryd.prog 35) (eB o)))) .normal) := by
    intro v1 h
    cases v1
    · refine Ops.seg' 4 8 (by kernel_rfl) ?_
      refine Ops.st ⟨(.v (.str a0)) :: u1 ((dB false) :: u2 ((.v (.str a0)) :: (dI ((a0.size : Int))) :: (dB false) :: (dB false) :: (.v (.str a0)) :: (dI ((a0.size : Int))) :: (dB (decide ((a0.size : Int) > 30))) :: (dB (decide ((a0.size : Int) > 30))) :: u40 (u2 []))), []⟩ (by kernel_rfl) ?_
      exact J35j8 _ _ _ _ _ h
    · refine Ops.seg' 4 8 (by kernel_rfl) ?_
      refine Ops.st ⟨(.v (.str a0)) :: u1 ((dB false) :: u2 ((.v (.str a0)) :: (dI ((a0.size : Int))) :: (dB true) :: (dB true) :: u3 ((dB true) :: u40 (u2 [])))), []⟩ (by kernel_rfl) ?_
      exact J35j8 _ _ _ _ _ h
  exact Ops.st ⟨(.v (.str a0)) :: u1 ((dB false) :: u2 ((.v (.str a0)) :: (dI ((a0.size : Int))) :: (dB ((((a0.size : Int)) == 0))) :: (dB ((((a0.size : Int)) == 0))) :: u40 (u6 []))), []⟩ (by kernel_rfl) (G35g2 (((a0.size : Int)) == 0) h)

/-! ### 36 glosswright/glosswrightref6.fault -/
def f36 (m : Nat) (a0 : Int) (a1 : Int) : Option S27 :=
  some ((⟨a0, a1⟩ : S27))
noncomputable abbrev X36 (n : Nat) : Cx := cxOf Proofs.Tryd.prog E 36 n
noncomputable def C36 : Code := bodyOf Proofs.Tryd.prog 36
theorem ok36 (m : Nat) (a0 : Int) (a1 : Int) (o : S27) (h : f36 m a0 a1 = some o) (n : Nat) (hn : m + 1 ≤ n) : Fn Proofs.Tryd.prog E n 36 [.v (eI a0), .v (eI a1)] (e27 o) := by
  obtain ⟨n, rfl⟩ : ∃ q, n = q + 1 := ⟨n - 1, by omega⟩
  unfold f36 at h
  refine Fn.of (by kernel_rfl) (by kernel_rfl) (by kernel_rfl) ⟨(dI a0) :: (dI a1) :: u6 [], []⟩ (by kernel_rfl) ?_
  refine Wp.seq' (by kernel_rfl) ?_
  refine Wp.region (by kernel_rfl) ?_
  refine Ops.seg' 1 1 (by kernel_rfl) ?_
  refine Ops.done (by kernel_rfl) ?_
  refine seqQ.n ?_
  refine Wp.seq' (by kernel_rfl) ?_
  refine Wp.region (by kernel_rfl) ?_
  refine Ops.seg' 4 4 (by kernel_rfl) ?_
  refine Ops.done (by kernel_rfl) ?_
  refine seqQ.n ?_
  refine Wp.ret (by kernel_rfl) ?_
  exact fnQ.r' (X36 n) (fun z => (e27 z)) h (RetOk.mk' (.v (.agg [(vI a0), (vI a1)])) (by kernel_rfl) (by kernel_rfl))

/-! ### 37 glosswright/glosswrightref6.TagsFault -/
def f37_B1 (m : Nat) (a0 : (List ByteArray)) (v6 : Int) : Option (Stp Int (Int)) :=
  cnd (decide (v6 < (a0.length : Int)))
  (bnd (idx a0 v6) fun v16 =>
  bnd (f35 m v16) fun v17 =>
  cnd (!v17)
  (some (.ret 10))
  (some (.nxt (w64 (v6 + 1)))))
  (some (.brk v6))
def f37 (m : Nat) (a0 : (List ByteArray)) (a1 : Int) : Option Int :=
  cnd (decide ((a0.length : Int) > a1))
  (some 2)
  (brk (iter (fun (y : Int) => f37_B1 m a0 y) m 0) some fun y19 =>
  some 0)
noncomputable abbrev X37 (n : Nat) : Cx := cxOf Proofs.Tryd.prog E 37 n
noncomputable def C37 : Code := bodyOf Proofs.Tryd.prog 37
theorem ok37 (m : Nat) (a0 : (List ByteArray)) (a1 : Int) (o : Int) (h : f37 m a0 a1 = some o) (n : Nat) (hn : m + 2 ≤ n) : Fn Proofs.Tryd.prog E n 37 [.v ((eL eS) a0), .v (eI a1)] (eI o) := by
  obtain ⟨n, rfl⟩ : ∃ q, n = q + 1 := ⟨n - 1, by omega⟩
  unfold f37 at h
  refine Fn.of (by kernel_rfl) (by kernel_rfl) (by kernel_rfl) ⟨(dP eS a0) :: (dI a1) :: u19 [], []⟩ (by kernel_rfl) ?_
  refine Wp.seq' (by kernel_rfl) ?_
  refine Wp.region (by kernel_rfl) ?_
  refine Ops.seg' 1 1 (by kernel_rfl) ?_
  refine Ops.done (by kernel_rfl) ?_
  refine seqQ.n ?_
  refine Wp.seq' (by kernel_rfl) ?_
  refine Wp.seq' (by kernel_rfl) ?_
  refine Wp.region (by kernel_rfl) ?_
  refine Ops.seg' 1 1 (by kernel_rfl) ?_
  refine Ops.one' 2 (fun h0 e0 => (len_r (T := T) h0 36 9 .plain eS a0 (by kernel_rfl))) (by kernel_rfl) (by kernel_rfl) ?_
  refine Ops.seg' 2 4 (by kernel_rfl) ?_
  refine Ops.done (by kernel_rfl) ?_
  refine seqQ.n ?_
  refine Wp.cnd h [0, 4] 0 (by kernel_rfl) (fun h => ?_) (fun h => ?_)
  · refine Wp.seq' (by kernel_rfl) ?_
    refine Wp.region (by kernel_rfl) ?_
    refine Ops.seg' 1 1 (by kernel_rfl) ?_
    refine Ops.done (by kernel_rfl) ?_
    refine seqQ.n ?_
    refine Wp.ret (by kernel_rfl) ?_
    refine sqQ.r ?_
    refine seqQ.r ?_
    exact fnQ.r' (X37 n) (fun z => (eI z)) h (RetOk.mk' (dI 2) (by kernel_rfl) (by kernel_rfl))
  · refine Wp.skip (by kernel_rfl) ?_
    refine sqQ.n' ?_
    refine seqQ.n ?_
    refine Wp.seq' (by kernel_rfl) ?_
    refine Wp.seq' (by kernel_rfl) ?_
    refine Wp.region (by kernel_rfl) ?_
    refine Ops.seg' 1 1 (by kernel_rfl) ?_
    refine Ops.one' 2 (fun h0 e0 => (len_r (T := T) h0 36 9 .plain eS a0 (by kernel_rfl))) (by kernel_rfl) (by kernel_rfl) ?_
    refine Ops.seg' 1 3 (by kernel_rfl) ?_
    refine Ops.done (by kernel_rfl) ?_
    refine seqQ.n ?_
    refine Wp.block' 0 [4] 0 (by kernel_rfl) ?_
    have hLx18 : ∀ (kx8 : Nat) (v6 : Int)  (ox7 : Int ⊕ (Int)), iter (fun (y : Int) => f37_B1 m a0 y) kx8 v6 = some ox7 → ∀ nx9, kx8 ≤ nx9 → (∀ r, ox7 = .inl r → ∀ σ, RetOk (X37 n) (resOf Proofs.Tryd.prog 37) (eI r) σ → (seqQ (X37 n) (cR (cR (cR C37))) (fnQ (X37 n).E.T (resOf Proofs.Tryd.prog 37) (eI o))) .ret σ) → (∀ (y : Int) , ox7 = .inr y → (seqQ (X37 n) (cR (cR (cR C37))) (fnQ (X37 n).E.T (resOf Proofs.Tryd.prog 37) (eI o))) .normal ⟨q4 ((dI 0) :: q6 ((dP eS a0) :: (dI ((a0.length : Int))) :: (dI y) :: q7 [])), []⟩) → Lp (X37 n) [4, 11, 12, 13] 0 (cL (cL (cR (cL (cR (cR C37)))))) nx9 ⟨q4 ((dI 0) :: q6 ((dP eS a0) :: (dI ((a0.length : Int))) :: (dI v6) :: q7 [])), []⟩ (blkQ (X37 n) 0 [4] 0 (seqQ (X37 n) (cR (cR (cR C37))) (fnQ (X37 n).E.T (resOf Proofs.Tryd.prog 37) (eI o)))) := by
      intro kx8
      induction kx8 with
      | zero => intro v6  ox7 h; exact (iter_zero h).elim
      | succ kx8 ihx10 =>
        intro v6  ox7 h nx9 hnx13 hrx11 hxx12
        obtain ⟨nx9, rfl⟩ : ∃ q, nx9 = q + 1 := ⟨nx9 - 1, by omega⟩
        obtain ⟨sx14, h, hsx15⟩ := iter_some h
        have h : f37_B1 m a0 v6 = some sx14 := h
        unfold f37_B1 at h
        refine Lp.succ ?_
        refine Wp.seq' (by kernel_rfl) ?_
        refine Wp.region (by kernel_rfl) ?_
        refine Ops.seg' 1 1 (by kernel_rfl) ?_
        refine Ops.done (by kernel_rfl) ?_
        refine seqQ.n ?_
        refine Wp.seq' (by kernel_rfl) ?_
        refine Wp.cnd h [4, 11, 12, 13] 0 (by kernel_rfl) (fun h => ?_) (fun h => ?_)
        · refine Wp.skip (by kernel_rfl) ?_
          refine sqQ.n' ?_
          refine seqQ.n ?_
          refine Wp.seq' (by kernel_rfl) ?_
          refine Wp.block' 1 [4, 11, 12, 13] 0 (by kernel_rfl) ?_
          refine Wp.seq' (by kernel_rfl) ?_
          refine Wp.region (by kernel_rfl) ?_
          obtain ⟨v16, ev16, h⟩ := bnd_some h
          refine Ops.one' 1 (fun h0 e0 => (ix_r (T := T) h0 36 9 1 .plain eS a0 v6 v16 ev16 (by kernel_rfl) (by kernel_rfl) (fun _ => rfl))) (by kernel_rfl) (by kernel_rfl) ?_
          refine Ops.seg' 2 3 (by kernel_rfl) ?_
          refine Ops.done (by kernel_rfl) ?_
          refine seqQ.n ?_
          refine Wp.seq' (by kernel_rfl) ?_
          refine Wp.region (by kernel_rfl) ?_
          refine Ops.seg' 1 1 (by kernel_rfl) ?_
          obtain ⟨v17, ev17, h⟩ := bnd_some h
          refine Ops.one' 2 (fun h0 e0 => (call_ok (E' := E) (h := h0) (by kernel_rfl) (Args.v (.str v16) (eS v16) (by kernel_rfl) Args.nil) (ok35 m v16 v17 ev17 n (by omega)))) (by kernel_rfl) (by kernel_rfl) ?_
          refine Ops.seg' 1 3 (by kernel_rfl) ?_
          refine Ops.done (by kernel_rfl) ?_
          refine seqQ.n ?_
          refine Wp.cnd h [4, 11, 12, 13] 0 (by kernel_rfl) (fun h => ?_) (fun h => ?_)
          · refine Wp.seq' (by kernel_rfl) ?_
            refine Wp.region (by kernel_rfl) ?_
            refine Ops.seg' 1 1 (by kernel_rfl) ?_
            refine Ops.done (by kernel_rfl) ?_
            refine seqQ.n ?_
            refine Wp.ret (by kernel_rfl) ?_
            refine sqQ.r ?_
            refine blkQ.r ?_
            refine seqQ.r ?_
            cases h
            refine lpQ.r ?_
            refine blkQ.r ?_
            exact hrx11 _ hsx15 _ (RetOk.forget [4, 11, 12, 13] (by kernel_rfl) (RetOk.mk' (dI 10) (by kernel_rfl) (by kernel_rfl)))
          · refine Wp.skip (by kernel_rfl) ?_
            refine sqQ.n' ?_
            refine blkQ.n' ?_
            refine seqQ.n ?_
            refine Wp.region (by kernel_rfl) ?_
            refine Ops.seg' 2 2 (by kernel_rfl) ?_
            refine Ops.done (by kernel_rfl) ?_
            refine lpQ.n ⟨q4 ((dI 0) :: q6 ((dP eS a0) :: (dI ((a0.length : Int))) :: (dI (w64 (v6 + 1))) :: q7 [])), []⟩ (by kernel_rfl) ?_
            cases h
            exact ihx10 (w64 (v6 + 1))  _ hsx15 _ (by omega) hrx11 hxx12
        · refine Wp.exit (id := 0) (by kernel_rfl) ?_
          refine sqQ.x ?_
          refine seqQ.x ?_
          cases h
          refine lpQ.x ?_
          refine blkQ.x ⟨q4 ((dI 0) :: q6 ((dP eS a0) :: (dI ((a0.length : Int))) :: (dI v6) :: q7 [])), []⟩ (by kernel_rfl) ?_
          exact hxx12 v6  hsx15
    refine Wp.loop' [4, 11, 12, 13] 0 (by kernel_rfl) ⟨q4 ((dI 0) :: q6 ((dP eS a0) :: (dI ((a0.length : Int))) :: (dI 0) :: q7 [])), []⟩ (by kernel_rfl) ?_
    rcases brk_some h with ⟨r20, er20, h⟩ | ⟨y19, ey19, h⟩
    · refine hLx18 _ 0  _ er20 n (by omega) (fun r er σ hσ => ?_) (fun y  ey => by cases ey)
      cases er
      refine seqQ.r ?_
      exact fnQ.r' (X37 n) (fun z => (eI z)) h hσ
    · refine hLx18 _ 0  _ ey19 n (by omega) (fun r er => by cases er) (fun y  ey => ?_)
      cases ey
      refine seqQ.n ?_
      refine Wp.seq' (by kernel_rfl) ?_
      refine Wp.region (by kernel_rfl) ?_
      refine Ops.seg' 1 1 (by kernel_rfl) ?_
      refine Ops.done (by kernel_rfl) ?_
      refine seqQ.n ?_
      refine Wp.ret (by kernel_rfl) ?_
      exact fnQ.r' (X37 n) (fun z => (eI z)) h (RetOk.mk' (dI 0) (by kernel_rfl) (by kernel_rfl))

/-! ### 64 glosswright/glosswrightref5.fault -/
def f64 (m : Nat) (a0 : Int) (a1 : Int) : Option S27 :=
  some ((⟨a0, a1⟩ : S27))
noncomputable abbrev X64 (n : Nat) : Cx := cxOf Proofs.Tryd.prog E 64 n
noncomputable def C64 : Code := bodyOf Proofs.Tryd.prog 64
theorem ok64 (m : Nat) (a0 : Int) (a1 : Int) (o : S27) (h : f64 m a0 a1 = some o) (n : Nat) (hn : m + 1 ≤ n) : Fn Proofs.Tryd.prog E n 64 [.v (eI a0), .v (eI a1)] (e27 o) := by
  obtain ⟨n, rfl⟩ : ∃ q, n = q + 1 := ⟨n - 1, by omega⟩
  unfold f64 at h
  refine Fn.of (by kernel_rfl) (by kernel_rfl) (by kernel_rfl) ⟨(dI a0) :: (dI a1) :: u6 [], []⟩ (by kernel_rfl) ?_
  refine Wp.seq' (by kernel_rfl) ?_
  refine Wp.region (by kernel_rfl) ?_
  refine Ops.seg' 1 1 (by kernel_rfl) ?_
  refine Ops.done (by kernel_rfl) ?_
  refine seqQ.n ?_
  refine Wp.seq' (by kernel_rfl) ?_
  refine Wp.region (by kernel_rfl) ?_
  refine Ops.seg' 4 4 (by kernel_rfl) ?_
  refine Ops.done (by kernel_rfl) ?_
  refine seqQ.n ?_
  refine Wp.ret (by kernel_rfl) ?_
  exact fnQ.r' (X64 n) (fun z => (e27 z)) h (RetOk.mk' (.v (.agg [(vI a0), (vI a1)])) (by kernel_rfl) (by kernel_rfl))

/-! ### 85 glosswright/glosswrightref5.Scalar -/
def f85_r1 (m : Nat) (v17 : Bool) : Option Bool :=
  some v17
def f85_r2 (m : Nat) (a0 : Int) (v6 : Bool) : Option Bool :=
  f85_r1 m ((v6 || (((decide (a0 > 57343)) && (decide (a0 ≤ 1114111))))))
def f85 (m : Nat) (a0 : Int) : Option Bool :=
  f85_r2 m a0 (((decide (a0 ≥ 0)) && (decide (a0 < 55296))))
noncomputable abbrev X85 (n : Nat) : Cx := cxOf Proofs.Tryd.prog E 85 n
noncomputable def C85 : Code := bodyOf Proofs.Tryd.prog 85
theorem ok85 (m : Nat) (a0 : Int) (o : Bool) (h : f85 m a0 = some o) (n : Nat) (hn : m + 1 ≤ n) : Fn Proofs.Tryd.prog E n 85 [.v (eI a0)] (eB o) := by
  obtain ⟨n, rfl⟩ : ∃ q, n = q + 1 := ⟨n - 1, by omega⟩
  unfold f85 at h
  refine Fn.of (by kernel_rfl) (by kernel_rfl) (by kernel_rfl) ⟨(dI a0) :: u16 [], []⟩ (by kernel_rfl) ?_
  refine Wp.seq' (by kernel_rfl) ?_
  refine Wp.region (by kernel_rfl) ?_
  refine Ops.seg' 1 1 (by kernel_rfl) ?_
  refine Ops.done (by kernel_rfl) ?_
  refine seqQ.n ?_
  refine Wp.seq' (by kernel_rfl) ?_
  refine Wp.region (by kernel_rfl) ?_
  refine Ops.seg' 3 3 (by kernel_rfl) ?_
  have J85j7 : ∀ (d3 d4 : D) (v5 : Bool) (v6 : Bool), f85_r2 m a0 v6 = some o → Ops (X85 n) (opl (cL (cR C85))) 6 ⟨(dI a0) :: u1 ((dB false) :: (dI a0) :: (dB v5) :: (dB v5) :: d3 :: d4 :: (dB v6) :: u8 []), []⟩ ((seqQ (X85 n) (cR (cR C85)) (fnQ (X85 n).E.T (resOf Proofs.Tryd.prog 85) (eB o))) .normal) := by
    intro d3 d4 v5 v6 h
    unfold f85_r2 at h
    refine Ops.seg' 1 7 (by kernel_rfl) ?_
    have J85j18 : ∀ (d10 d11 d12 d13 d14 d15 : D) (v16 : Bool) (v17 : Bool), f85_r1 m v17 = some o → Ops (X85 n) (opl (cL (cR C85))) 14 ⟨(dI a0) :: u1 ((dB false) :: (dI a0) :: (dB v5) :: (dB v5) :: d3 :: d4 :: (dB v16) :: (dB v16) :: d10 :: d11 :: d12 :: d13 :: d14 :: d15 :: (dB v17) :: []), []⟩ ((seqQ (X85 n) (cR (cR C85)) (fnQ (X85 n).E.T (resOf Proofs.Tryd.prog 85) (eB o))) .normal) := by
      intro d10 d11 d12 d13 d14 d15 v16 v17 h
      unfold f85_r1 at h
      refine Ops.seg' 1 15 (by kernel_rfl) ?_
      refine Ops.done (by kernel_rfl) ?_
      refine seqQ.n ?_
      refine Wp.ret (by kernel_rfl) ?_
      exact fnQ.r' (X85 n) (fun z => (eB z)) h (RetOk.mk' (dB v17) (by kernel_rfl) (by kernel_rfl))
    have G85g9 : ∀ v8 : Bool, f85_r1 m ((v8 || (((decide (a0 > 57343)) && (decide (a0 ≤ 1114111)))))) = some o → Ops (X85 n) (opl (cL (cR C85))) 7 ⟨(dI a0) :: u1 ((dB false) :: (dI a0) :: (dB v5) :: (dB v5) :: d3 :: d4 :: (dB v8) :: (dB v8) :: u7 []), []⟩ ((seqQ (X85 n) (cR (cR C85)) (fnQ (X85 n).E.T (resOf Proofs.Tryd.prog 85) (eB o))) .normal) := by
      intro v8 h
      cases v8
      · refine Ops.seg' 3 10 (by kernel_rfl) ?_
        have G85g20 : ∀ v19 : Bool, (f85_r1 m ((false || ((v19 && (decide (a0 ≤ 1114111))))))) = some o → Ops (X85 n) (opl (cL (cR C85))) 10 ⟨(dI a0) :: u1 ((dB false) :: (dI a0) :: (dB v5) :: (dB v5) :: d3 :: d4 :: (dB false) :: (dB false) :: (dI a0) :: (dB v19) :: (dB v19) :: u4 []), []⟩ ((seqQ (X85 n) (cR (cR C85)) (fnQ (X85 n).E.T (resOf Proofs.Tryd.prog 85) (eB o))) .normal) := by
          intro v19 h
          cases v19
          · refine Ops.seg' 4 14 (by kernel_rfl) ?_
            refine Ops.st ⟨(dI a0) :: u1 ((dB false) :: (dI a0) :: (dB v5) :: (dB v5) :: d3 :: d4 :: (dB false) :: (dB false) :: (dI a0) :: (dB false) :: (dB false) :: u2 ((dB false) :: (dB false) :: [])), []⟩ (by kernel_rfl) ?_
            exact J85j18 _ _ _ _ _ _ _ _ h
          · refine Ops.seg' 4 14 (by kernel_rfl) ?_
            refine Ops.st ⟨(dI a0) :: u1 ((dB false) :: (dI a0) :: (dB v5) :: (dB v5) :: d3 :: d4 :: (dB false) :: (dB false) :: (dI a0) :: (dB true) :: (dB true) :: (dI a0) :: (dB (decide (a0 ≤ 1114111))) :: (dB (decide (a0 ≤ 1114111))) :: (dB (decide (a0 ≤ 1114111))) :: []), []⟩ (by kernel_rfl) ?_
            exact J85j18 _ _ _ _ _ _ _ _ h
        exact Ops.st ⟨(dI a0) :: u1 ((dB false) :: (dI a0) :: (dB v5) :: (dB v5) :: d3 :: d4 :: (dB false) :: (dB false) :: (dI a0) :: (dB ((decide (a0 > 57343)))) :: (dB ((decide (a0 > 57343)))) :: u4 []), []⟩ (by kernel_rfl) (G85g20 (decide (a0 > 57343)) h)
      · refine Ops.seg' 7 14 (by kernel_rfl) ?_
        refine Ops.st ⟨(dI a0) :: u1 ((dB false) :: (dI a0) :: (dB v5) :: (dB v5) :: d3 :: d4 :: (dB true) :: (dB true) :: u6 ((dB true) :: [])), []⟩ (by kernel_rfl) ?_
        exact J85j18 _ _ _ _ _ _ _ _ h
    exact Ops.st ⟨(dI a0) :: u1 ((dB false) :: (dI a0) :: (dB v5) :: (dB v5) :: d3 :: d4 :: (dB v6) :: (dB v6) :: u7 []), []⟩ (by kernel_rfl) (G85g9 v6 h)
  have G85g2 : ∀ v1 : Bool, f85_r2 m a0 ((v1 && (decide (a0 < 55296)))) = some o → Ops (X85 n) (opl (cL (cR C85))) 3 ⟨(dI a0) :: u1 ((dB false) :: (dI a0) :: (dB v1) :: (dB v1) :: u11 []), []⟩ ((seqQ (X85 n) (cR (cR C85)) (fnQ (X85 n).E.T (resOf Proofs.Tryd.prog 85) (eB o))) .normal) := by
    intro v1 h
    cases v1
    · refine Ops.seg' 3 6 (by kernel_rfl) ?_
      refine Ops.st ⟨(dI a0) :: u1 ((dB false) :: (dI a0) :: (dB false) :: (dB false) :: u2 ((dB false) :: u8 [])), []⟩ (by kernel_rfl) ?_
      exact J85j7 _ _ _ _ h
    · refine Ops.seg' 3 6 (by kernel_rfl) ?_
      refine Ops.st ⟨(dI a0) :: u1 ((dB false) :: (dI a0) :: (dB true) :: (dB true) :: (dI a0) :: (dB (decide (a0 < 55296))) :: (dB (decide (a0 < 55296))) :: u8 []), []⟩ (by kernel_rfl) ?_
      exact J85j7 _ _ _ _ h
  exact Ops.st ⟨(dI a0) :: u1 ((dB false) :: (dI a0) :: (dB ((decide (a0 ≥ 0)))) :: (dB ((decide (a0 ≥ 0)))) :: u11 []), []⟩ (by kernel_rfl) (G85g2 (decide (a0 ≥ 0)) h)

/-! ### 66 glosswright/glosswrightref5.Width -/
def f66 (m : Nat) (a0 : Int) : Option Int :=
  cnd (decide (a0 < 128))
  (some 1)
  (cnd (decide (a0 < 2048))
  (some 2)
  (cnd (decide (a0 < 65536))
  (some 3)
  (some 4)))
noncomputable abbrev X66 (n : Nat) : Cx := cxOf Proofs.Tryd.prog E 66 n
noncomputable def C66 : Code := bodyOf Proofs.Tryd.prog 66
theorem ok66 (m : Nat) (a0 : Int) (o : Int) (h : f66 m a0 = some o) (n : Nat) (hn : m + 1 ≤ n) : Fn Proofs.Tryd.prog E n 66 [.v (eI a0)] (eI o) := by
  obtain ⟨n, rfl⟩ : ∃ q, n = q + 1 := ⟨n - 1, by omega⟩
  unfold f66 at h
  refine Fn.of (by kernel_rfl) (by kernel_rfl) (by kernel_rfl) ⟨(dI a0) :: u8 [], []⟩ (by kernel_rfl) ?_
  refine Wp.seq' (by kernel_rfl) ?_
  refine Wp.region (by kernel_rfl) ?_
  refine Ops.seg' 1 1 (by kernel_rfl) ?_
  refine Ops.done (by kernel_rfl) ?_
  refine seqQ.n ?_
  refine Wp.seq' (by kernel_rfl) ?_
  refine Wp.seq' (by kernel_rfl) ?_
  refine Wp.region (by kernel_rfl) ?_
  refine Ops.seg' 2 2 (by kernel_rfl) ?_
  refine Ops.done (by kernel_rfl) ?_
  refine seqQ.n ?_
  refine Wp.cnd h [0, 2] 0 (by kernel_rfl) (fun h => ?_) (fun h => ?_)
  · refine Wp.seq' (by kernel_rfl) ?_
    refine Wp.region (by kernel_rfl) ?_
    refine Ops.seg' 1 1 (by kernel_rfl) ?_
    refine Ops.done (by kernel_rfl) ?_
    refine seqQ.n ?_
    refine Wp.ret (by kernel_rfl) ?_
    refine sqQ.r ?_
    refine seqQ.r ?_
    exact fnQ.r' (X66 n) (fun z => (eI z)) h (RetOk.mk' (dI 1) (by kernel_rfl) (by kernel_rfl))
  · refine Wp.skip (by kernel_rfl) ?_
    refine sqQ.n' ?_
    refine seqQ.n ?_
    refine Wp.seq' (by kernel_rfl) ?_
    refine Wp.seq' (by kernel_rfl) ?_
    refine Wp.region (by kernel_rfl) ?_
    refine Ops.seg' 2 2 (by kernel_rfl) ?_
    refine Ops.done (by kernel_rfl) ?_
    refine seqQ.n ?_
    refine Wp.cnd h [0, 2] 0 (by kernel_rfl) (fun h => ?_) (fun h => ?_)
    · refine Wp.seq' (by kernel_rfl) ?_
      refine Wp.region (by kernel_rfl) ?_
      refine Ops.seg' 1 1 (by kernel_rfl) ?_
      refine Ops.done (by kernel_rfl) ?_
      refine seqQ.n ?_
      refine Wp.ret (by kernel_rfl) ?_
      refine sqQ.r ?_
      refine seqQ.r ?_
      exact fnQ.r' (X66 n) (fun z => (eI z)) h (RetOk.mk' (dI 2) (by kernel_rfl) (by kernel_rfl))
    · refine Wp.skip (by kernel_rfl) ?_
      refine sqQ.n' ?_
      refine seqQ.n ?_
      refine Wp.seq' (by kernel_rfl) ?_
      refine Wp.seq' (by kernel_rfl) ?_
      refine Wp.region (by kernel_rfl) ?_
      refine Ops.seg' 2 2 (by kernel_rfl) ?_
      refine Ops.done (by kernel_rfl) ?_
      refine seqQ.n ?_
      refine Wp.cnd h [2] 0 (by kernel_rfl) (fun h => ?_) (fun h => ?_)
      · refine Wp.seq' (by kernel_rfl) ?_
        refine Wp.region (by kernel_rfl) ?_
        refine Ops.seg' 1 1 (by kernel_rfl) ?_
        refine Ops.done (by kernel_rfl) ?_
        refine seqQ.n ?_
        refine Wp.ret (by kernel_rfl) ?_
        refine sqQ.r ?_
        refine seqQ.r ?_
        exact fnQ.r' (X66 n) (fun z => (eI z)) h (RetOk.mk' (dI 3) (by kernel_rfl) (by kernel_rfl))
      · refine Wp.skip (by kernel_rfl) ?_
        refine sqQ.n' ?_
        refine seqQ.n ?_
        refine Wp.seq' (by kernel_rfl) ?_
        refine Wp.region (by kernel_rfl) ?_
        refine Ops.seg' 1 1 (by kernel_rfl) ?_
        refine Ops.done (by kernel_rfl) ?_
        refine seqQ.n ?_
        refine Wp.ret (by kernel_rfl) ?_
        exact fnQ.r' (X66 n) (fun z => (eI z)) h (RetOk.mk' (dI 4) (by kernel_rfl) (by kernel_rfl))

/-! ### 65 glosswright/glosswrightref5.one -/
def f65_r1 (m : Nat) (v35 : Int) (v36 : Int) (v46 : Int) (v52 : Bool) : Option (Stp Int (Int × Int)) :=
  cnd v52
  (some (.ret ((-1))))
  (some (.nxt (w64 (w64 (w64 (v35 * 64) + w64 v46) - 128), w64 (v36 + 1))))
def f65_B2 (m : Nat) (a0 : ByteArray) (a1 : Int) (v2 : Int) (v35 : Int) (v36 : Int) : Option (Stp Int (Int × Int)) :=
  cnd (decide (v36 < v2))
  (bnd (sidx a0 (w64 (a1 + v36))) fun v46 =>
  f65_r1 m v35 v36 v46 (((decide (w64 v46 < 128)) || (decide (w64 v46 > 191)))))
  (some (.brk (v35, v36)))
def f65_r3 (m : Nat) (y55 : Int × Int) (v65 : Bool) : Option Int :=
  cnd v65
  (some ((-1)))
  (some y55.1)
def f65_j4 (m : Nat) (a0 : ByteArray) (a1 : Int) (v2 : Int) (v3 : Int) : Option Int :=
  cnd (decide (w64 (a1 + v2) > (a0.size : Int)))
  (some ((-1)))
  (brk (iter (fun (y : Int × Int) => f65_B2 m a0 a1 v2 y.1 y.2) m (v3, 1)) some fun y55 =>
  bnd (f85 m y55.1) fun v57 =>
  bnd (cnd (!v57)
  (some true)
  (bnd (f66 m y55.1) fun v67 =>
  some (v67 != v2))) fun v65 =>
  f65_r3 m y55 v65)
def f65_j5 (m : Nat) (a0 : ByteArray) (a1 : Int) (v68 : Int) (v69 : Int) : Option Int :=
  f65_j4 m a0 a1 v68 v69
def f65_j6 (m : Nat) (a0 : ByteArray) (a1 : Int) (v79 : Int) (v80 : Int) : Option Int :=
  f65_j5 m a0 a1 v79 v80
def f65 (m : Nat) (a0 : ByteArray) (a1 : Int) : Option Int :=
  bnd (sidx a0 a1) fun v1 =>
  cnd (decide (w64 v1 ≥ 240))
  (f65_j4 m a0 a1 4 (w64 (w64 v1 - 240)))
  (cnd (decide (w64 v1 ≥ 224))
  (f65_j5 m a0 a1 3 (w64 (w64 v1 - 224)))
  (cnd (decide (w64 v1 ≥ 192))
  (f65_j6 m a0 a1 2 (w64 (w64 v1 - 192)))
  (cnd (decide (w64 v1 ≥ 128))
  (some ((-1)))
  (f65_j6 m a0 a1 1 (w64 v1)))))
noncomputable abbrev X65 (n : Nat) : Cx := cxOf Proofs.Tryd.prog E 65 n
noncomputable def C65 : Code := bodyOf Proofs.Tryd.prog 65
theorem ok65 (m : Nat) (a0 : ByteArray) (a1 : Int) (o : Int) (h : f65 m a0 a1 = some o) (n : Nat) (hn : m + 2 ≤ n) : Fn Proofs.Tryd.prog E n 65 [.v (eS a0), .v (eI a1)] (eI o) := by
  obtain ⟨n, rfl⟩ : ∃ q, n = q + 1 := ⟨n - 1, by omega⟩
  unfold f65 at h
  refine Fn.of (by kernel_rfl) (by kernel_rfl) (by kernel_rfl) ⟨(.v (.str a0)) :: (dI a1) :: u40 (u25 []), []⟩ (by kernel_rfl) ?_
  refine Wp.seq' (by kernel_rfl) ?_
  refine Wp.region (by kernel_rfl) ?_
  refine Ops.seg' 1 1 (by kernel_rfl) ?_
  refine Ops.done (by kernel_rfl) ?_
  refine seqQ.n ?_
  refine Wp.seq' (by kernel_rfl) ?_
  refine Wp.region (by kernel_rfl) ?_
  refine Ops.seg' 2 2 (by kernel_rfl) ?_
  obtain ⟨v1, ev1, h⟩ := bnd_some h
  refine Ops.one' 3 (fun h0 e0 => (str_ix (T := T) h0 9 a0 a1 v1 ev1 (by kernel_rfl))) (by kernel_rfl) (by kernel_rfl) ?_
  refine Ops.seg' 2 5 (by kernel_rfl) ?_
  refine Ops.done (by kernel_rfl) ?_
  refine seqQ.n ?_
  refine Wp.seq' (by kernel_rfl) ?_
  refine Wp.region (by kernel_rfl) ?_
  refine Ops.seg' 1 1 (by kernel_rfl) ?_
  refine Ops.done (by kernel_rfl) ?_
  refine seqQ.n ?_
  refine Wp.seq' (by kernel_rfl) ?_
  refine Wp.region (by kernel_rfl) ?_
  refine Ops.seg' 2 2 (by kernel_rfl) ?_
  refine Ops.done (by kernel_rfl) ?_
  refine seqQ.n ?_
  refine Wp.seq' (by kernel_rfl) ?_
  refine Wp.seq' (by kernel_rfl) ?_
  refine Wp.region (by kernel_rfl) ?_
  refine Ops.seg' 2 2 (by kernel_rfl) ?_
  refine Ops.done (by kernel_rfl) ?_
  refine seqQ.n ?_
  have J65j16 : ∀ (v2 : Int) (v3 : Int) (d4 : D) (d5 : D) (d6 : D) (d7 : D) (d8 : D) (d9 : D) (d10 : D) (d11 : D) (d12 : D) (d13 : D) (d14 : D) (d15 : D), f65_j4 m a0 a1 v2 v3 = some o → (seqQ (X65 n) (cR (cR (cR (cR (cR C65))))) (fnQ (X65 n).E.T (resOf Proofs.Tryd.prog 65) (eI o))) .normal ⟨(.v (.str a0)) :: (dI a1) :: u2 ((dI 0) :: (dI (w64 v1)) :: (dI v2) :: (dI v3) :: u2 ((.v (.str a0)) :: (dI a1) :: (.v (.int .u8 v1)) :: (dI (w64 v1)) :: (dI (w64 v1)) :: (dI (w64 v1)) :: (dB (decide (w64 v1 ≥ 240))) :: d4 :: d5 :: d6 :: d7 :: d8 :: d9 :: d10 :: d11 :: d12 :: d13 :: d14 :: d15 :: u38 [])), []⟩ := by
    intro v2 v3 d4 d5 d6 d7 d8 d9 d10 d11 d12 d13 d14 d15 h
    unfold f65_j4 at h
    refine seqQ.n ?_
    refine Wp.seq' (by kernel_rfl) ?_
    refine Wp.seq' (by kernel_rfl) ?_
    refine Wp.region (by kernel_rfl) ?_
    refine Ops.seg' 6 6 (by kernel_rfl) ?_
    refine Ops.done (by kernel_rfl) ?_
    refine seqQ.n ?_
    refine Wp.cnd h [0, 1, 4, 6, 7] 0 (by kernel_rfl) (fun h => ?_) (fun h => ?_)
    · refine Wp.seq' (by kernel_rfl) ?_
      refine Wp.region (by kernel_rfl) ?_
      refine Ops.seg' 1 1 (by kernel_rfl) ?_
      refine Ops.done (by kernel_rfl) ?_
      refine seqQ.n ?_
      refine Wp.ret (by kernel_rfl) ?_
      refine sqQ.r ?_
      refine seqQ.r ?_
      exact fnQ.r' (X65 n) (fun z => (eI z)) h (RetOk.mk' (dI ((-1))) (by kernel_rfl) (by kernel_rfl))
    · refine Wp.skip (by kernel_rfl) ?_
      refine sqQ.n' ?_
      refine seqQ.n ?_
      refine Wp.seq' (by kernel_rfl) ?_
      refine Wp.seq' (by kernel_rfl) ?_
      refine Wp.region (by kernel_rfl) ?_
      refine Ops.seg' 1 1 (by kernel_rfl) ?_
      refine Ops.done (by kernel_rfl) ?_
      refine seqQ.n ?_
      refine Wp.block' 0 [4, 6, 7] 0 (by kernel_rfl) ?_
      have hLx54 : ∀ (kx38 : Nat) (v35 : Int) (v36 : Int)  (ox37 : Int ⊕ (Int × Int)), iter (fun (y : Int × Int) => f65_B2 m a0 a1 v2 y.1 y.2) kx38 (v35, v36) = some ox37 → ∀ nx39, kx38 ≤ nx39 → (∀ r, ox37 = .inl r → ∀ σ, RetOk (X65 n) (resOf Proofs.Tryd.prog 65) (eI r) σ → (seqQ (X65 n) (cR (cR (cR (cR (cR (cR (cR C65))))))) (fnQ (X65 n).E.T (resOf Proofs.Tryd.prog 65) (eI o))) .ret σ) → (∀ (y : Int × Int) , ox37 = .inr y → (seqQ (X65 n) (cR (cR (cR (cR (cR (cR (cR C65))))))) (fnQ (X65 n).E.T (resOf Proofs.Tryd.prog 65) (eI o))) .normal ⟨(.v (.str a0)) :: (dI a1) :: q2 ((dI 0) :: q1 ((dI v2) :: (dI y.1) :: (dI y.2) :: q40 (q18 []))), []⟩) → Lp (X65 n) [0, 1, 4, 6, 7, 8] 0 (cL (cL (cR (cL (cR (cR (cR (cR (cR (cR C65)))))))))) nx39 ⟨(.v (.str a0)) :: (dI a1) :: q2 ((dI 0) :: q1 ((dI v2) :: (dI v35) :: (dI v36) :: q40 (q18 []))), []⟩ (blkQ (X65 n) 0 [4, 6, 7] 0 (seqQ (X65 n) (cR (cR (cR (cR (cR (cR (cR C65))))))) (fnQ (X65 n).E.T (resOf Proofs.Tryd.prog 65) (eI o)))) := by
        intro kx38
        induction kx38 with
        | zero => intro v35 v36  ox37 h; exact (iter_zero h).elim
        | succ kx38 ihx40 =>
          intro v35 v36  ox37 h nx39 hnx43 hrx41 hxx42
          obtain ⟨nx39, rfl⟩ : ∃ q, nx39 = q + 1 := ⟨nx39 - 1, by omega⟩
          obtain ⟨sx44, h, hsx45⟩ := iter_some h
          have h : f65_B2 m a0 a1 v2 v35 v36 = some sx44 := h
          unfold f65_B2 at h
          refine Lp.succ ?_
          refine Wp.seq' (by kernel_rfl) ?_
          refine Wp.seq' (by kernel_rfl) ?_
          refine Wp.region (by kernel_rfl) ?_
          refine Ops.seg' 3 3 (by kernel_rfl) ?_
          refine Ops.done (by kernel_rfl) ?_
          refine seqQ.n ?_
          refine Wp.cnd h [0, 1, 4, 6, 7, 8] 0 (by kernel_rfl) (fun h => ?_) (fun h => ?_)
          · refine Wp.skip (by kernel_rfl) ?_
            refine sqQ.n' ?_
            refine seqQ.n ?_
            refine Wp.seq' (by kernel_rfl) ?_
            refine Wp.block' 1 [0, 1, 4, 6, 7, 8] 0 (by kernel_rfl) ?_
            refine Wp.seq' (by kernel_rfl) ?_
            refine Wp.region (by kernel_rfl) ?_
            refine Ops.seg' 4 4 (by kernel_rfl) ?_
            obtain ⟨v46, ev46, h⟩ := bnd_some h
            refine Ops.one' 5 (fun h0 e0 => (str_ix (T := T) h0 9 a0 (w64 (a1 + v36)) v46 ev46 (by kernel_rfl))) (by kernel_rfl) (by kernel_rfl) ?_
            refine Ops.seg' 2 7 (by kernel_rfl) ?_
            refine Ops.done (by kernel_rfl) ?_
            refine seqQ.n ?_
            refine Wp.seq' (by kernel_rfl) ?_
            refine Wp.seq' (by kernel_rfl) ?_
            refine Wp.region (by kernel_rfl) ?_
            refine Ops.seg' 3 3 (by kernel_rfl) ?_
            have J65j53 : ∀ (d49 d50 : D) (v51 : Bool) (v52 : Bool), f65_r1 m v35 v36 v46 v52 = some sx44 → Ops (X65 n) (opl (cL (cL (cR (cL (cL (cR (cL (cL (cR (cL (cR (cR (cR (cR (cR (cR C65))))))))))))))))) 6 ⟨(.v (.str a0)) :: (dI a1) :: q2 ((dI 0) :: q1 ((dI v2) :: (dI v35) :: (dI v36) :: (dI (w64 v46)) :: q25 ((dI v36) :: (dI v2) :: (dB (decide (v36 < v2))) :: q2 ((.v (.str a0)) :: (dI a1) :: (dI v36) :: (dI (w64 (a1 + v36))) :: (.v (.int .u8 v46)) :: (dI (w64 v46)) :: (dI (w64 v46)) :: (dB v51) :: (dB v51) :: d49 :: d50 :: (dB v52) :: q15 [])))), []⟩ ((seqQ (X65 n) (cR (cL (cR (cL (cL (cR (cL (cL (cR (cL (cR (cR (cR (cR (cR (cR C65)))))))))))))))) (seqQ (X65 n) (cR (cR (cL (cL (cR (cL (cL (cR (cL (cR (cR (cR (cR (cR (cR C65))))))))))))))) (blkQ (X65 n) 1 [0, 1, 4, 6, 7, 8] 0 (seqQ (X65 n) (cR (cR (cL (cL (cR (cL (cR (cR (cR (cR (cR (cR C65)))))))))))) (lpQ (X65 n) [0, 1, 4, 6, 7, 8] 0 (cL (cL (cR (cL (cR (cR (cR (cR (cR (cR C65)))))))))) nx39 (blkQ (X65 n) 0 [4, 6, 7] 0 (seqQ (X65 n) (cR (cR (cR (cR (cR (cR (cR C65))))))) (fnQ (X65 n).E.T (resOf Proofs.Tryd.prog 65) (eI o))))))))) .normal) := by
              intro d49 d50 v51 v52 h
              unfold f65_r1 at h
              refine Ops.done (by kernel_rfl) ?_
              refine seqQ.n ?_
              refine Wp.cnd h [0, 1, 4, 6, 7, 8, 9] 0 (by kernel_rfl) (fun h => ?_) (fun h => ?_)
              · refine Wp.seq' (by kernel_rfl) ?_
                refine Wp.region (by kernel_rfl) ?_
                refine Ops.seg' 1 1 (by kernel_rfl) ?_
                refine Ops.done (by kernel_rfl) ?_
                refine seqQ.n ?_
                refine Wp.ret (by kernel_rfl) ?_
                refine sqQ.r ?_
                refine seqQ.r ?_
                refine blkQ.r ?_
                refine seqQ.r ?_
                cases h
                refine lpQ.r ?_
                refine blkQ.r ?_
                exact hrx41 _ hsx45 _ (RetOk.forget [0, 1, 4, 6, 7, 8] (by kernel_rfl) (RetOk.mk' (dI ((-1))) (by kernel_rfl) (by kernel_rfl)))
              · refine Wp.skip (by kernel_rfl) ?_
                refine sqQ.n' ?_
                refine seqQ.n ?_
                refine Wp.region (by kernel_rfl) ?_
                refine Ops.seg' 6 6 (by kernel_rfl) ?_
                refine Ops.done (by kernel_rfl) ?_
                refine blkQ.n' ?_
                refine seqQ.n ?_
                refine Wp.region (by kernel_rfl) ?_
                refine Ops.seg' 3 3 (by kernel_rfl) ?_
                refine Ops.done (by kernel_rfl) ?_
                refine lpQ.n ⟨(.v (.str a0)) :: (dI a1) :: q2 ((dI 0) :: q1 ((dI v2) :: (dI (w64 (w64 (w64 (v35 * 64) + w64 v46) - 128))) :: (dI (w64 (v36 + 1))) :: q40 (q18 []))), []⟩ (by kernel_rfl) ?_
                cases h
                exact ihx40 (w64 (w64 (w64 (v35 * 64) + w64 v46) - 128)) (w64 (v36 + 1))  _ hsx45 _ (by omega) hrx41 hxx42
            have G65g48 : ∀ v47 : Bool, f65_r1 m v35 v36 v46 ((v47 || (decide (w64 v46 > 191)))) = some sx44 → Ops (X65 n) (opl (cL (cL (cR (cL (cL (cR (cL (cL (cR (cL (cR (cR (cR (cR (cR (cR C65))))))))))))))))) 3 ⟨(.v (.str a0)) :: (dI a1) :: q2 ((dI 0) :: q1 ((dI v2) :: (dI v35) :: (dI v36) :: (dI (w64 v46)) :: q25 ((dI v36) :: (dI v2) :: (dB (decide (v36 < v2))) :: q2 ((.v (.str a0)) :: (dI a1) :: (dI v36) :: (dI (w64 (a1 + v36))) :: (.v (.int .u8 v46)) :: (dI (w64 v46)) :: (dI (w64 v46)) :: (dB v47) :: (dB v47) :: q18 [])))), []⟩ ((seqQ (X65 n) (cR (cL (cR (cL (cL (cR (cL (cL (cR (cL (cR (cR (cR (cR (cR (cR C65)))))))))))))))) (seqQ (X65 n) (cR (cR (cL (cL (cR (cL (cL (cR (cL (cR (cR (cR (cR (cR (cR C65))))))))))))))) (blkQ (X65 n) 1 [0, 1, 4, 6, 7, 8] 0 (seqQ (X65 n) (cR (cR (cL (cL (cR (cL (cR (cR (cR (cR (cR (cR C65)))))))))))) (lpQ (X65 n) [0, 1, 4, 6, 7, 8] 0 (cL (cL (cR (cL (cR (cR (cR (cR (cR (cR C65)))))))))) nx39 (blkQ (X65 n) 0 [4, 6, 7] 0 (seqQ (X65 n) (cR (cR (cR (cR (cR (cR (cR C65))))))) (fnQ (X65 n).E.T (resOf Proofs.Tryd.prog 65) (eI o))))))))) .normal) := by
              intro v47 h
              cases v47
              · refine Ops.seg' 3 6 (by kernel_rfl) ?_
                refine Ops.st ⟨(.v (.str a0)) :: (dI a1) :: q2 ((dI 0) :: q1 ((dI v2) :: (dI v35) :: (dI v36) :: (dI (w64 v46)) :: q25 ((dI v36) :: (dI v2) :: (dB (decide (v36 < v2))) :: q2 ((.v (.str a0)) :: (dI a1) :: (dI v36) :: (dI (w64 (a1 + v36))) :: (.v (.int .u8 v46)) :: (dI (w64 v46)) :: (dI (w64 v46)) :: (dB false) :: (dB false) :: (dI (w64 v46)) :: (dB (decide (w64 v46 > 191))) :: (dB (decide (w64 v46 > 191))) :: q15 [])))), []⟩ (by kernel_rfl) ?_
                exact J65j53 _ _ _ _ h
              · refine Ops.seg' 3 6 (by kernel_rfl) ?_
                refine Ops.st ⟨(.v (.str a0)) :: (dI a1) :: q2 ((dI 0) :: q1 ((dI v2) :: (dI v35) :: (dI v36) :: (dI (w64 v46)) :: q25 ((dI v36) :: (dI v2) :: (dB (decide (v36 < v2))) :: q2 ((.v (.str a0)) :: (dI a1) :: (dI v36) :: (dI (w64 (a1 + v36))) :: (.v (.int .u8 v46)) :: (dI (w64 v46)) :: (dI (w64 v46)) :: (dB true) :: (dB true) :: u2 ((dB true) :: q15 []))))), []⟩ (by kernel_rfl) ?_
                exact J65j53 _ _ _ _ h
            exact Ops.st ⟨(.v (.str a0)) :: (dI a1) :: q2 ((dI 0) :: q1 ((dI v2) :: (dI v35) :: (dI v36) :: (dI (w64 v46)) :: q25 ((dI v36) :: (dI v2) :: (dB (decide (v36 < v2))) :: q2 ((.v (.str a0)) :: (dI a1) :: (dI v36) :: (dI (w64 (a1 + v36))) :: (.v (.int .u8 v46)) :: (dI (w64 v46)) :: (dI (w64 v46)) :: (dB ((decide (w64 v46 < 128)))) :: (dB ((decide (w64 v46 < 128)))) :: q18 [])))), []⟩ (by kernel_rfl) (G65g48 (decide (w64 v46 < 128)) h)
          · refine Wp.exit (id := 0) (by kernel_rfl) ?_
            refine sqQ.x ?_
            refine seqQ.x ?_
            cases h
            refine lpQ.x ?_
            refine blkQ.x ⟨(.v (.str a0)) :: (dI a1) :: q2 ((dI 0) :: q1 ((dI v2) :: (dI v35) :: (dI v36) :: q40 (q18 []))), []⟩ (by kernel_rfl) ?_
            exact hxx42 (v35, v36)  hsx45
      refine Wp.loop' [0, 1, 4, 6, 7, 8] 0 (by kernel_rfl) ⟨(.v (.str a0)) :: (dI a1) :: q2 ((dI 0) :: q1 ((dI v2) :: (dI v3) :: (dI 1) :: q40 (q18 []))), []⟩ (by kernel_rfl) ?_
      rcases brk_some h with ⟨r56, er56, h⟩ | ⟨y55, ey55, h⟩
      · refine hLx54 _ v3 1  _ er56 n (by omega) (fun r er σ hσ => ?_) (fun y  ey => by cases ey)
        cases er
        refine seqQ.r ?_
        exact fnQ.r' (X65 n) (fun z => (eI z)) h hσ
      · refine hLx54 _ v3 1  _ ey55 n (by omega) (fun r er => by cases er) (fun y  ey => ?_)
        cases ey
        refine seqQ.n ?_
        refine Wp.seq' (by kernel_rfl) ?_
        refine Wp.seq' (by kernel_rfl) ?_
        refine Wp.region (by kernel_rfl) ?_
        refine Ops.seg' 1 1 (by kernel_rfl) ?_
        obtain ⟨v57, ev57, h⟩ := bnd_some h
        refine Ops.one' 2 (fun h0 e0 => (call_ok (E' := E) (h := h0) (by kernel_rfl) (Args.v (vI y55.1) (eI y55.1) (by kernel_rfl) Args.nil) (ok85 m y55.1 v57 ev57 n (by omega)))) (by kernel_rfl) (by kernel_rfl) ?_
        refine Ops.seg' 2 4 (by kernel_rfl) ?_
        have J65j66 : ∀ (d60 d61 d62 d63 : D) (v64 : Bool) (v65 : Bool), f65_r3 m y55 v65 = some o → Ops (X65 n) (opl (cL (cL (cR (cR (cR (cR (cR (cR (cR C65)))))))))) 9 ⟨(.v (.str a0)) :: (dI a1) :: q2 ((dI 0) :: q1 ((dI v2) :: (dI y55.1) :: (dI y55.2) :: q40 (q8 ((dI y55.1) :: (dB v57) :: (dB v64) :: (dB v64) :: d60 :: d61 :: d62 :: d63 :: (dB v65) :: q1 [])))), []⟩ ((seqQ (X65 n) (cR (cL (cR (cR (cR (cR (cR (cR (cR C65))))))))) (seqQ (X65 n) (cR (cR (cR (cR (cR (cR (cR (cR C65)))))))) (fnQ (X65 n).E.T (resOf Proofs.Tryd.prog 65) (eI o)))) .normal) := by
          intro d60 d61 d62 d63 v64 v65 h
          unfold f65_r3 at h
          refine Ops.done (by kernel_rfl) ?_
          refine seqQ.n ?_
          refine Wp.cnd h [4, 7] 0 (by kernel_rfl) (fun h => ?_) (fun h => ?_)
          · refine Wp.seq' (by kernel_rfl) ?_
            refine Wp.region (by kernel_rfl) ?_
            refine Ops.seg' 1 1 (by kernel_rfl) ?_
            refine Ops.done (by kernel_rfl) ?_
            refine seqQ.n ?_
            refine Wp.ret (by kernel_rfl) ?_
            refine sqQ.r ?_
            refine seqQ.r ?_
            exact fnQ.r' (X65 n) (fun z => (eI z)) h (RetOk.mk' (dI ((-1))) (by kernel_rfl) (by kernel_rfl))
          · refine Wp.skip (by kernel_rfl) ?_
            refine sqQ.n' ?_
            refine seqQ.n ?_
            refine Wp.seq' (by kernel_rfl) ?_
            refine Wp.region (by kernel_rfl) ?_
            refine Ops.seg' 2 2 (by kernel_rfl) ?_
            refine Ops.done (by kernel_rfl) ?_
            refine seqQ.n ?_
            refine Wp.ret (by kernel_rfl) ?_
            exact fnQ.r' (X65 n) (fun z => (eI z)) h (RetOk.mk' (dI y55.1) (by kernel_rfl) (by kernel_rfl))
        obtain ⟨v65, ev65, h⟩ := bnd_some h
        have G65g59 : ∀ v58 : Bool, (cnd v58 (some true) (bnd (f66 m y55.1) fun v67 => some (v67 != v2))) = some v65 → Ops (X65 n) (opl (cL (cL (cR (cR (cR (cR (cR (cR (cR C65)))))))))) 4 ⟨(.v (.str a0)) :: (dI a1) :: q2 ((dI 0) :: q1 ((dI v2) :: (dI y55.1) :: (dI y55.2) :: q40 (q8 ((dI y55.1) :: (dB v57) :: (dB v58) :: (dB v58) :: q6 [])))), []⟩ ((seqQ (X65 n) (cR (cL (cR (cR (cR (cR (cR (cR (cR C65))))))))) (seqQ (X65 n) (cR (cR (cR (cR (cR (cR (cR (cR C65)))))))) (fnQ (X65 n).E.T (resOf Proofs.Tryd.prog 65) (eI o)))) .normal) := by
          intro v58 ev65
          cases v58
          · have ev65 := cnd_f ev65
            refine Ops.seg' 1 5 (by kernel_rfl) ?_
            obtain ⟨v67, ev67, ev65⟩ := bnd_some ev65
            refine Ops.one' 6 (fun h0 e0 => (call_ok (E' := E) (h := h0) (by kernel_rfl) (Args.v (vI y55.1) (eI y55.1) (by kernel_rfl) Args.nil) (ok66 m y55.1 v67 ev67 n (by omega)))) (by kernel_rfl) (by kernel_rfl) ?_
            refine Ops.seg' 3 9 (by kernel_rfl) ?_
            refine Ops.st ⟨(.v (.str a0)) :: (dI a1) :: q2 ((dI 0) :: q1 ((dI v2) :: (dI y55.1) :: (dI y55.2) :: q40 (q8 ((dI y55.1) :: (dB v57) :: (dB false) :: (dB false) :: (dI y55.1) :: (dI v67) :: (dI v2) :: (dB (v67 != v2)) :: (dB (v67 != v2)) :: q1 [])))), []⟩ (by kernel_rfl) ?_
            exact J65j66 _ _ _ _ _ _ (some_sub (fun v65 => f65_r3 m y55 v65 = some o) ev65 h)
          · have ev65 := cnd_t ev65
            refine Ops.seg' 5 9 (by kernel_rfl) ?_
            refine Ops.st ⟨(.v (.str a0)) :: (dI a1) :: q2 ((dI 0) :: q1 ((dI v2) :: (dI y55.1) :: (dI y55.2) :: q40 (q8 ((dI y55.1) :: (dB v57) :: (dB true) :: (dB true) :: u4 ((dB true) :: q1 []))))), []⟩ (by kernel_rfl) ?_
            exact J65j66 _ _ _ _ _ _ (some_sub (fun v65 => f65_r3 m y55 v65 = some o) ev65 h)
        exact Ops.st ⟨(.v (.str a0)) :: (dI a1) :: q2 ((dI 0) :: q1 ((dI v2) :: (dI y55.1) :: (dI y55.2) :: q40 (q8 ((dI y55.1) :: (dB v57) :: (dB ((!v57))) :: (dB ((!v57))) :: q6 [])))), []⟩ (by kernel_rfl) (G65g59 (!v57) ev65)
  refine Wp.cnd h [0, 1, 4, 6, 7] 0 (by kernel_rfl) (fun h => ?_) (fun h => ?_)
  · refine Wp.seq' (by kernel_rfl) ?_
    refine Wp.region (by kernel_rfl) ?_
    refine Ops.seg' 1 1 (by kernel_rfl) ?_
    refine Ops.done (by kernel_rfl) ?_
    refine seqQ.n ?_
    refine Wp.region (by kernel_rfl) ?_
    refine Ops.seg' 3 3 (by kernel_rfl) ?_
    refine Ops.done (by kernel_rfl) ?_
    refine sqQ.n ⟨(.v (.str a0)) :: (dI a1) :: u2 ((dI 0) :: (dI (w64 v1)) :: (dI 4) :: (dI (w64 (w64 v1 - 240))) :: u2 ((.v (.str a0)) :: (dI a1) :: (.v (.int .u8 v1)) :: (dI (w64 v1)) :: (dI (w64 v1)) :: (dI (w64 v1)) :: (dB (decide (w64 v1 ≥ 240))) :: (dI (w64 v1)) :: (dI (w64 (w64 v1 - 240))) :: u40 (u8 []))), []⟩ (by kernel_rfl) ?_
    exact J65j16 4 (w64 (w64 v1 - 240)) _ _ _ _ _ _ _ _ _ _ _ _ h
  · refine Wp.seq' (by kernel_rfl) ?_
    refine Wp.region (by kernel_rfl) ?_
    refine Ops.seg' 2 2 (by kernel_rfl) ?_
    refine Ops.done (by kernel_rfl) ?_
    refine seqQ.n ?_
    have J65j78 : ∀ (v68 : Int) (v69 : Int) (d70 : D) (d71 : D) (d72 : D) (d73 : D) (d74 : D) (d75 : D) (d76 : D) (d77 : D), f65_j5 m a0 a1 v68 v69 = some o → (sqQ (X65 n) [0, 1, 4, 6, 7] 0 (seqQ (X65 n) (cR (cR (cR (cR (cR C65))))) (fnQ (X65 n).E.T (resOf Proofs.Tryd.prog 65) (eI o)))) .normal ⟨(.v (.str a0)) :: (dI a1) :: u2 ((dI 0) :: (dI (w64 v1)) :: (dI v68) :: (dI v69) :: u2 ((.v (.str a0)) :: (dI a1) :: (.v (.int .u8 v1)) :: (dI (w64 v1)) :: (dI (w64 v1)) :: (dI (w64 v1)) :: (dB (decide (w64 v1 ≥ 240))) :: u2 ((dI (w64 v1)) :: (dB (decide (w64 v1 ≥ 224))) :: d70 :: d71 :: d72 :: d73 :: d74 :: d75 :: d76 :: d77 :: u38 []))), []⟩ := by
      intro v68 v69 d70 d71 d72 d73 d74 d75 d76 d77 h
      unfold f65_j5 at h
      refine sqQ.n ⟨(.v (.str a0)) :: (dI a1) :: u2 ((dI 0) :: (dI (w64 v1)) :: (dI v68) :: (dI v69) :: u2 ((.v (.str a0)) :: (dI a1) :: (.v (.int .u8 v1)) :: (dI (w64 v1)) :: (dI (w64 v1)) :: (dI (w64 v1)) :: (dB (decide (w64 v1 ≥ 240))) :: u2 ((dI (w64 v1)) :: (dB (decide (w64 v1 ≥ 224))) :: d70 :: d71 :: d72 :: d73 :: d74 :: d75 :: d76 :: d77 :: u38 []))), []⟩ (by kernel_rfl) ?_
      exact J65j16 v68 v69 _ _ _ _ _ _ _ _ _ _ _ _ h
    refine Wp.cnd h [0, 1, 4, 6, 7] 0 (by kernel_rfl) (fun h => ?_) (fun h => ?_)
    · refine Wp.seq' (by kernel_rfl) ?_
      refine Wp.region (by kernel_rfl) ?_
      refine Ops.seg' 1 1 (by kernel_rfl) ?_
      refine Ops.done (by kernel_rfl) ?_
      refine seqQ.n ?_
      refine Wp.region (by kernel_rfl) ?_
      refine Ops.seg' 3 3 (by kernel_rfl) ?_
      refine Ops.done (by kernel_rfl) ?_
      refine sqQ.n ⟨(.v (.str a0)) :: (dI a1) :: u2 ((dI 0) :: (dI (w64 v1)) :: (dI 3) :: (dI (w64 (w64 v1 - 224))) :: u2 ((.v (.str a0)) :: (dI a1) :: (.v (.int .u8 v1)) :: (dI (w64 v1)) :: (dI (w64 v1)) :: (dI (w64 v1)) :: (dB (decide (w64 v1 ≥ 240))) :: u2 ((dI (w64 v1)) :: (dB (decide (w64 v1 ≥ 224))) :: (dI (w64 v1)) :: (dI (w64 (w64 v1 - 224))) :: u40 (u4 [])))), []⟩ (by kernel_rfl) ?_
      exact J65j78 3 (w64 (w64 v1 - 224)) _ _ _ _ _ _ _ _ h
    · refine Wp.seq' (by kernel_rfl) ?_
      refine Wp.region (by kernel_rfl) ?_
      refine Ops.seg' 2 2 (by kernel_rfl) ?_
      refine Ops.done (by kernel_rfl) ?_
      refine seqQ.n ?_
      have J65j85 : ∀ (v79 : Int) (v80 : Int) (d81 : D) (d82 : D) (d83 : D) (d84 : D), f65_j6 m a0 a1 v79 v80 = some o → (sqQ (X65 n) [0, 1, 4, 6, 7] 0 (sqQ (X65 n) [0, 1, 4, 6, 7] 0 (seqQ (X65 n) (cR (cR (cR (cR (cR C65))))) (fnQ (X65 n).E.T (resOf Proofs.Tryd.prog 65) (eI o))))) .normal ⟨(.v (.str a0)) :: (dI a1) :: u2 ((dI 0) :: (dI (w64 v1)) :: (dI v79) :: (dI v80) :: u2 ((.v (.str a0)) :: (dI a1) :: (.v (.int .u8 v1)) :: (dI (w64 v1)) :: (dI (w64 v1)) :: (dI (w64 v1)) :: (dB (decide (w64 v1 ≥ 240))) :: u2 ((dI (w64 v1)) :: (dB (decide (w64 v1 ≥ 224))) :: u2 ((dI (w64 v1)) :: (dB (decide (w64 v1 ≥ 192))) :: d81 :: d82 :: d83 :: d84 :: u38 [])))), []⟩ := by
        intro v79 v80 d81 d82 d83 d84 h
        unfold f65_j6 at h
        refine sqQ.n ⟨(.v (.str a0)) :: (dI a1) :: u2 ((dI 0) :: (dI (w64 v1)) :: (dI v79) :: (dI v80) :: u2 ((.v (.str a0)) :: (dI a1) :: (.v (.int .u8 v1)) :: (dI (w64 v1)) :: (dI (w64 v1)) :: (dI (w64 v1)) :: (dB (decide (w64 v1 ≥ 240))) :: u2 ((dI (w64 v1)) :: (dB (decide (w64 v1 ≥ 224))) :: u2 ((dI (w64 v1)) :: (dB (decide (w64 v1 ≥ 192))) :: d81 :: d82 :: d83 :: d84 :: u38 [])))), []⟩ (by kernel_rfl) ?_
        exact J65j78 v79 v80 _ _ _ _ _ _ _ _ h
      refine Wp.cnd h [0, 1, 4, 6, 7] 0 (by kernel_rfl) (fun h => ?_) (fun h => ?_)
      · refine Wp.seq' (by kernel_rfl) ?_
        refine Wp.region (by kernel_rfl) ?_
        refine Ops.seg' 1 1 (by kernel_rfl) ?_
        refine Ops.done (by kernel_rfl) ?_
        refine seqQ.n ?_
        refine Wp.region (by kernel_rfl) ?_
        refine Ops.seg' 3 3 (by kernel_rfl) ?_
        refine Ops.done (by kernel_rfl) ?_
        refine sqQ.n ⟨(.v (.str a0)) :: (dI a1) :: u2 ((dI 0) :: (dI (w64 v1)) :: (dI 2) :: (dI (w64 (w64 v1 - 192))) :: u2 ((.v (.str a0)) :: (dI a1) :: (.v (.int .u8 v1)) :: (dI (w64 v1)) :: (dI (w64 v1)) :: (dI (w64 v1)) :: (dB (decide (w64 v1 ≥ 240))) :: u2 ((dI (w64 v1)) :: (dB (decide (w64 v1 ≥ 224))) :: u2 ((dI (w64 v1)) :: (dB (decide (w64 v1 ≥ 192))) :: (dI (w64 v1)) :: (dI (w64 (w64 v1 - 192))) :: u40 [])))), []⟩ (by kernel_rfl) ?_
        exact J65j85 2 (w64 (w64 v1 - 192)) _ _ _ _ h
      · refine Wp.seq' (by kernel_rfl) ?_
        refine Wp.region (by kernel_rfl) ?_
        refine Ops.seg' 2 2 (by kernel_rfl) ?_
        refine Ops.done (by kernel_rfl) ?_
        refine seqQ.n ?_
        refine Wp.cnd h [0, 1, 4, 6, 7] 0 (by kernel_rfl) (fun h => ?_) (fun h => ?_)
        · refine Wp.seq' (by kernel_rfl) ?_
          refine Wp.region (by kernel_rfl) ?_
          refine Ops.seg' 1 1 (by kernel_rfl) ?_
          refine Ops.done (by kernel_rfl) ?_
          refine seqQ.n ?_
          refine Wp.ret (by kernel_rfl) ?_
          refine sqQ.r ?_
          refine sqQ.r ?_
          refine sqQ.r ?_
          refine sqQ.r ?_
          refine seqQ.r ?_
          exact fnQ.r' (X65 n) (fun z => (eI z)) h (RetOk.mk' (dI ((-1))) (by kernel_rfl) (by kernel_rfl))
        · refine Wp.skip (by kernel_rfl) ?_
          refine sqQ.n' ?_
          refine sqQ.n ⟨(.v (.str a0)) :: (dI a1) :: u2 ((dI 0) :: (dI (w64 v1)) :: (dI 1) :: (dI (w64 v1)) :: u2 ((.v (.str a0)) :: (dI a1) :: (.v (.int .u8 v1)) :: (dI (w64 v1)) :: (dI (w64 v1)) :: (dI (w64 v1)) :: (dB (decide (w64 v1 ≥ 240))) :: u2 ((dI (w64 v1)) :: (dB (decide (w64 v1 ≥ 224))) :: u2 ((dI (w64 v1)) :: (dB (decide (w64 v1 ≥ 192))) :: u2 ((dI (w64 v1)) :: (dB (decide (w64 v1 ≥ 128))) :: u38 []))))), []⟩ (by kernel_rfl) ?_
          exact J65j85 1 (w64 v1) _ _ _ _ h

/-! ### 41 glosswright/glosswrightref5.Points -/
def f41_B1 (m : Nat) (a0 : ByteArray) (v12 : (List Int)) (v13 : Int) : Option (Stp (((List Int) × S27)) ((List Int) × Int)) :=
  cnd (decide (v13 < (a0.size : Int)))
  (bnd (f65 m a0 v13) fun v23 =>
  cnd (decide (v23 < 0))
  (bnd (f64 m 5 v13) fun v24 =>
  some (.ret (([], v24))))
  (bnd (app 8 v12 [v23]) fun v25 =>
  bnd (f66 m v23) fun v26 =>
  some (.nxt (v25, w64 (v13 + v26)))))
  (some (.brk (v12, v13)))
def f41 (m : Nat) (a0 : ByteArray) : Option ((List Int) × S27) :=
  cnd (decide ((a0.size : Int) > 4000))
  (bnd (f64 m 1 ((-1))) fun v1 =>
  some (([], v1)))
  (brk (iter (fun (y : (List Int) × Int) => f41_B1 m a0 y.1 y.2) m ([], 0)) some fun y28 =>
  some ((y28.1, (⟨0, 0⟩ : S27))))
noncomputable abbrev X41 (n : Nat) : Cx := cxOf Proofs.Tryd.prog E 41 n
noncomputable def C41 : Code := bodyOf Proofs.Tryd.prog 41
theorem ok41 (m : Nat) (a0 : ByteArray) (o : ((List Int) × S27)) (h : f41 m a0 = some o) (n : Nat) (hn : m + 3 ≤ n) : Fn Proofs.Tryd.prog E n 41 [.v (eS a0)] (.tuple [(eL eI) o.1, e27 o.2]) := by
  obtain ⟨n, rfl⟩ : ∃ q, n = q + 1 := ⟨n - 1, by omega⟩
  unfold f41 at h
  refine Fn.of (by kernel_rfl) (by kernel_rfl) (by kernel_rfl) ⟨(.v (.str a0)) :: u31 [], []⟩ (by kernel_rfl) ?_
  refine Wp.seq' (by kernel_rfl) ?_
  refine Wp.region (by kernel_rfl) ?_
  refine Ops.seg' 2 2 (by kernel_rfl) ?_
  refine Ops.done (by kernel_rfl) ?_
  refine seqQ.n ?_
  refine Wp.seq' (by kernel_rfl) ?_
  refine Wp.seq' (by kernel_rfl) ?_
  refine Wp.region (by kernel_rfl) ?_
  refine Ops.seg' 3 3 (by kernel_rfl) ?_
  refine Ops.done (by kernel_rfl) ?_
  refine seqQ.n ?_
  refine Wp.cnd h [0, 2, 3] 1 (by kernel_rfl) (fun h => ?_) (fun h => ?_)
  · refine Wp.seq' (by kernel_rfl) ?_
    refine Wp.region (by kernel_rfl) ?_
    obtain ⟨v1, ev1, h⟩ := bnd_some h
    refine Ops.one' 1 (fun h0 e0 => (call_ok (E' := E) (h := h0) (by kernel_rfl) (Args.v (vI 1) (eI 1) (by kernel_rfl) (Args.v (vI ((-1))) (eI ((-1))) (by kernel_rfl) Args.nil)) (ok64 m 1 ((-1)) v1 ev1 n (by omega)))) (by kernel_rfl) (by kernel_rfl) ?_
    refine Ops.seg' 2 3 (by kernel_rfl) ?_
    refine Ops.done (by kernel_rfl) ?_
    refine seqQ.n ?_
    refine Wp.ret (by kernel_rfl) ?_
    refine sqQ.r ?_
    refine seqQ.r ?_
    exact fnQ.r' (X41 n) (fun z => (.tuple [(eL eI) z.1, e27 z.2])) h (RetOk.mk' (.v (.tuple [(.sl .nil (List.map eI [])), (.agg [(vI v1.fCode), (vI v1.fIndex)])])) (by kernel_rfl) (by kernel_rfl))
  · refine Wp.skip (by kernel_rfl) ?_
    refine sqQ.n' ?_
    refine seqQ.n ?_
    refine Wp.seq' (by kernel_rfl) ?_
    refine Wp.region (by kernel_rfl) ?_
    refine Ops.seg' 1 1 (by kernel_rfl) ?_
    refine Ops.done (by kernel_rfl) ?_
    refine seqQ.n ?_
    refine Wp.seq' (by kernel_rfl) ?_
    refine Wp.seq' (by kernel_rfl) ?_
    refine Wp.region (by kernel_rfl) ?_
    refine Ops.seg' 1 1 (by kernel_rfl) ?_
    refine Ops.done (by kernel_rfl) ?_
    refine seqQ.n ?_
    refine Wp.block' 0 [2, 3, 4] 2 (by kernel_rfl) ?_
    have hLx27 : ∀ (kx15 : Nat) (v12 : (List Int)) (v13 : Int)  (ox14 : ((List Int) × S27) ⊕ ((List Int) × Int)), iter (fun (y : (List Int) × Int) => f41_B1 m a0 y.1 y.2) kx15 (v12, v13) = some ox14 → ∀ nx16, kx15 ≤ nx16 → (∀ r, ox14 = .inl r → ∀ σ, RetOk (X41 n) (resOf Proofs.Tryd.prog 41) (.tuple [(eL eI) r.1, e27 r.2]) σ → (seqQ (X41 n) (cR (cR (cR (cR C41)))) (fnQ (X41 n).E.T (resOf Proofs.Tryd.prog 41) (.tuple [(eL eI) o.1, e27 o.2]))) .ret σ) → (∀ (y : (List Int) × Int) , ox14 = .inr y → (seqQ (X41 n) (cR (cR (cR (cR C41)))) (fnQ (X41 n).E.T (resOf Proofs.Tryd.prog 41) (.tuple [(eL eI) o.1, e27 o.2]))) .normal ⟨q2 ((.v (.sl .nil (List.map eI []))) :: (.ptr 0 0) :: (appD 2 (List.map eI y.1)) :: q27 []), [(.cells [(dI 0), (dI 0)]), .dead, (appO 1 (List.map eI y.1))]⟩) → Lp (X41 n) [0, 2, 3, 4, 5] 2 (cL (cL (cR (cL (cR (cR (cR C41))))))) nx16 ⟨(.v (.str a0)) :: q1 ((.v (.sl .nil (List.map eI []))) :: (.ptr 0 0) :: (appD 2 (List.map eI v12)) :: (dI v13) :: q26 []), [(.cells [(dI 0), (dI 0)]), .dead, (appO 1 (List.map eI v12))]⟩ (blkQ (X41 n) 0 [2, 3, 4] 2 (seqQ (X41 n) (cR (cR (cR (cR C41)))) (fnQ (X41 n).E.T (resOf Proofs.Tryd.prog 41) (.tuple [(eL eI) o.1, e27 o.2])))) := by
      intro kx15
      induction kx15 with
      | zero => intro v12 v13  ox14 h; exact (iter_zero h).elim
      | succ kx15 ihx17 =>
        intro v12 v13  ox14 h nx16 hnx20 hrx18 hxx19
        obtain ⟨nx16, rfl⟩ : ∃ q, nx16 = q + 1 := ⟨nx16 - 1, by omega⟩
        obtain ⟨sx21, h, hsx22⟩ := iter_some h
        have h : f41_B1 m a0 v12 v13 = some sx21 := h
        unfold f41_B1 at h
        refine Lp.succ ?_
        refine Wp.seq' (by kernel_rfl) ?_
        refine Wp.seq' (by kernel_rfl) ?_
        refine Wp.region (by kernel_rfl) ?_
        refine Ops.seg' 4 4 (by kernel_rfl) ?_
        refine Ops.done (by kernel_rfl) ?_
        refine seqQ.n ?_
        refine Wp.cnd h [0, 2, 3, 4, 5] 3 (by kernel_rfl) (fun h => ?_) (fun h => ?_)
        · refine Wp.skip (by kernel_rfl) ?_
          refine sqQ.n ⟨(.v (.str a0)) :: q1 ((.v (.sl .nil (List.map eI []))) :: (.ptr 0 0) :: (appD 3 (List.map eI v12)) :: (dI v13) :: q26 []), [(.cells [(dI 0), (dI 0)]), .dead, .dead, (appO 1 (List.map eI v12))]⟩ (by generalize v12 = z0; cases z0 <;> kernel_rfl) ?_
          refine seqQ.n ?_
          refine Wp.block' 1 [0, 2, 3, 4, 5] 4 (by kernel_rfl) ?_
          refine Wp.seq' (by kernel_rfl) ?_
          refine Wp.region (by kernel_rfl) ?_
          refine Ops.seg' 2 2 (by kernel_rfl) ?_
          obtain ⟨v23, ev23, h⟩ := bnd_some h
          refine Ops.one' 3 (fun h0 e0 => (call_ok (E' := E) (h := h0) (by kernel_rfl) (Args.v (.str a0) (eS a0) (by kernel_rfl) (Args.v (vI v13) (eI v13) (by kernel_rfl) Args.nil)) (ok65 m a0 v13 v23 ev23 n (by omega)))) (by kernel_rfl) (by kernel_rfl) ?_
          refine Ops.seg' 1 4 (by kernel_rfl) ?_
          refine Ops.done (by kernel_rfl) ?_
          refine seqQ.n ?_
          refine Wp.seq' (by kernel_rfl) ?_
          refine Wp.seq' (by kernel_rfl) ?_
          refine Wp.region (by kernel_rfl) ?_
          refine Ops.seg' 2 2 (by kernel_rfl) ?_
          refine Ops.done (by kernel_rfl) ?_
          refine seqQ.n ?_
          refine Wp.cnd h [0, 2, 3, 4, 5, 6] 4 (by kernel_rfl) (fun h => ?_) (fun h => ?_)
          · refine Wp.seq' (by kernel_rfl) ?_
            refine Wp.region (by kernel_rfl) ?_
            refine Ops.seg' 1 1 (by kernel_rfl) ?_
            obtain ⟨v24, ev24, h⟩ := bnd_some h
            refine Ops.one' 2 (fun h0 e0 => (call_ok (E' := E) (h := h0) (by kernel_rfl) (Args.v (vI 5) (eI 5) (by kernel_rfl) (Args.v (vI v13) (eI v13) (by kernel_rfl) Args.nil)) (ok64 m 5 v13 v24 ev24 n (by omega)))) (by kernel_rfl) (by kernel_rfl) ?_
            refine Ops.seg' 2 4 (by kernel_rfl) ?_
            refine Ops.done (by kernel_rfl) ?_
            refine seqQ.n ?_
            refine Wp.ret (by kernel_rfl) ?_
            refine sqQ.r ?_
            refine seqQ.r ?_
            refine blkQ.r ?_
            cases h
            refine lpQ.r ?_
            refine blkQ.r ?_
            exact hrx18 _ hsx22 _ (RetOk.forget [0, 2, 3, 4, 5] (by kernel_rfl) (RetOk.mk' (.v (.tuple [(.sl .nil (List.map eI [])), (.agg [(vI v24.fCode), (vI v24.fIndex)])])) (by kernel_rfl) (by kernel_rfl)))
          · refine Wp.skip (by kernel_rfl) ?_
            refine sqQ.n ⟨(.v (.str a0)) :: q1 ((.v (.sl .nil (List.map eI []))) :: (.ptr 0 0) :: (appD 4 (List.map eI v12)) :: (dI v13) :: (dI v23) :: q25 []), [(.cells [(dI 0), (dI 0)]), .dead, .dead, .dead, (appO 1 (List.map eI v12))]⟩ (by generalize v12 = z0; cases z0 <;> kernel_rfl) ?_
            refine seqQ.n ?_
            refine Wp.seq' (by kernel_rfl) ?_
            refine Wp.region (by kernel_rfl) ?_
            refine Ops.seg' 3 3 (by kernel_rfl) ?_
            obtain ⟨v25, ev25, h⟩ := bnd_some h
            refine Ops.one' 4 (fun h0 e0 => (app_r (T := T) (g := .nil) h0 44 3 4 1 ti3 .nonfull eI v12 [v23] v25 ev25 (by kernel_rfl) (by kernel_rfl) (by kernel_rfl) (by kernel_rfl) (fun _ => rfl) (hq_of e0 (by kernel_rfl)))) (by kernel_rfl) (by kernel_rfl) ?_
            refine Ops.seg' 1 5 (by kernel_rfl) ?_
            refine Ops.done (by kernel_rfl) ?_
            refine seqQ.n ?_
            refine Wp.region (by kernel_rfl) ?_
            refine Ops.seg' 2 2 (by kernel_rfl) ?_
            obtain ⟨v26, ev26, h⟩ := bnd_some h
            refine Ops.one' 3 (fun h0 e0 => (call_ok (E' := E) (h := h0) (by kernel_rfl) (Args.v (vI v23) (eI v23) (by kernel_rfl) Args.nil) (ok66 m v23 v26 ev26 n (by omega)))) (by kernel_rfl) (by kernel_rfl) ?_
            refine Ops.seg' 2 5 (by kernel_rfl) ?_
            refine Ops.done (by kernel_rfl) ?_
            refine blkQ.n ⟨(.v (.str a0)) :: q1 ((.v (.sl .nil (List.map eI []))) :: (.ptr 0 0) :: (appD 4 (List.map eI v25)) :: (dI (w64 (v13 + v26))) :: q26 []), [(.cells [(dI 0), (dI 0)]), .dead, .dead, .dead, (appO 1 (List.map eI v25))]⟩ (by generalize v25 = z0; cases z0 <;> kernel_rfl) ?_
            refine lpQ.n ⟨(.v (.str a0)) :: q1 ((.v (.sl .nil (List.map eI []))) :: (.ptr 0 0) :: (appD 2 (List.map eI v25)) :: (dI (w64 (v13 + v26))) :: q26 []), [(.cells [(dI 0), (dI 0)]), .dead, (appO 1 (List.map eI v25))]⟩ (by generalize v25 = z0; cases z0 <;> kernel_rfl) ?_
            cases h
            exact ihx17 v25 (w64 (v13 + v26))  _ hsx22 _ (by omega) hrx18 hxx19
        · refine Wp.exit (id := 0) (by kernel_rfl) ?_
          refine sqQ.x ?_
          refine seqQ.x ?_
          cases h
          refine lpQ.x ?_
          refine blkQ.x ⟨q2 ((.v (.sl .nil (List.map eI []))) :: (.ptr 0 0) :: (appD 2 (List.map eI v12)) :: q27 []), [(.cells [(dI 0), (dI 0)]), .dead, (appO 1 (List.map eI v12))]⟩ (by generalize v12 = z0; cases z0 <;> kernel_rfl) ?_
          exact hxx19 (v12, v13)  hsx22
    refine Wp.loop' [0, 2, 3, 4, 5] 2 (by kernel_rfl) ⟨(.v (.str a0)) :: q1 ((.v (.sl .nil (List.map eI []))) :: (.ptr 0 0) :: (appD 2 (List.map eI [])) :: (dI 0) :: q26 []), [(.cells [(dI 0), (dI 0)]), .dead, .dead]⟩ (by kernel_rfl) ?_
    rcases brk_some h with ⟨r29, er29, h⟩ | ⟨y28, ey28, h⟩
    · refine hLx27 _ [] 0  _ er29 n (by omega) (fun r er σ hσ => ?_) (fun y  ey => by cases ey)
      cases er
      refine seqQ.r ?_
      exact fnQ.r' (X41 n) (fun z => (.tuple [(eL eI) z.1, e27 z.2])) h hσ
    · refine hLx27 _ [] 0  _ ey28 n (by omega) (fun r er => by cases er) (fun y  ey => ?_)
      cases ey
      refine seqQ.n ?_
      refine Wp.seq' (by kernel_rfl) ?_
      refine Wp.region (by kernel_rfl) ?_
      refine Ops.seg' 4 4 (by kernel_rfl) ?_
      refine Ops.done (by kernel_rfl) ?_
      refine seqQ.n ?_
      refine Wp.ret (by kernel_rfl) ?_
      exact fnQ.r' (X41 n) (fun z => (.tuple [(eL eI) z.1, e27 z.2])) h (RetOk.tup [(appD 2 (List.map eI y28.1)), (.v (.agg [(vI 0), (vI 0)]))] (by kernel_rfl) (.d (appD 2 (List.map eI y28.1)) _ (appD_frz _ _ _ _) (appF_nt _ _ _) (.v (.agg [(vI 0), (vI 0)]) _ (by kernel_rfl) (by kernel_rfl) .nil)))

/-! ### 16 glosswright/glosswrightref6.Word -/
def f16_B1 (m : Nat) (v65 : Int) (v69 : Int) : Option (Stp Bool (Int)) :=
  cnd (decide (v69 < (([0, 9, 10, 32, 40, 41, 91, 93, 44, 59]).length : Int)))
  (bnd (idx ([0, 9, 10, 32, 40, 41, 91, 93, 44, 59]) v69) fun v79 =>
  cnd (v65 == v79)
  (some (.ret false))
  (some (.nxt (w64 (v69 + 1)))))
  (some (.brk v69))
def f16_B2 (m : Nat) (v1 : ((List Int) × S27)) (v55 : Int) : Option (Stp Bool (Int)) :=
  cnd (decide (v55 < (v1.1.length : Int)))
  (bnd (idx v1.1 v55) fun v65 =>
  brk (iter (fun (y : Int) => f16_B1 m v65 y) m 0) (fun r => some (.ret r)) fun y81 =>
  cnd (decide (v65 ≥ 983040))
  (some (.ret false))
  (some (.nxt (w64 (v55 + 1)))))
  (some (.brk v55))
def f16_r3 (m : Nat) (v1 : ((List Int) × S27)) (v16 : Bool) : Option Bool :=
  cnd v16
  (some false)
  (brk (iter (fun (y : Int) => f16_B2 m v1 y) m 0) some fun y84 =>
  some true)
def f16_r4 (m : Nat) (v1 : ((List Int) × S27)) (v8 : Bool) : Option Bool :=
  f16_r3 m v1 ((v8 || (decide ((v1.1.length : Int) > 30))))
def f16 (m : Nat) (a0 : ByteArray) : Option Bool :=
  bnd (f41 m a0) fun v1 =>
  f16_r4 m v1 (((!((v1.2.fCode == 0) && ((v1.2.fIndex == 0) && true))) || (((v1.1.length : Int)) == 0)))
noncomputable abbrev X16 (n : Nat) : Cx := cxOf Proofs.Tryd.prog E 16 n
noncomputable def C16 : Code := bodyOf Proofs.Tryd.prog 16
theorem ok16 (m : Nat) (a0 : ByteArray) (o : Bool) (h : f16 m a0 = some o) (n : Nat) (hn : m + 4 ≤ n) : Fn Proofs.Tryd.prog E n 16 [.v (eS a0)] (eB o) := by
  obtain ⟨n, rfl⟩ : ∃ q, n = q + 1 := ⟨n - 1, by omega⟩
  unfold f16 at h
  refine Fn.of (by kernel_rfl) (by kernel_rfl) (by kernel_rfl) ⟨(.v (.str a0)) :: u40 (u5 []), []⟩ (by kernel_rfl) ?_
  refine Wp.seq' (by kernel_rfl) ?_
  refine Wp.region (by kernel_rfl) ?_
  refine Ops.seg' 1 1 (by kernel_rfl) ?_
  refine Ops.done (by kernel_rfl) ?_
  refine seqQ.n ?_
  refine Wp.seq' (by kernel_rfl) ?_
  refine Wp.region (by kernel_rfl) ?_
  refine Ops.seg' 1 1 (by kernel_rfl) ?_
  obtain ⟨v1, ev1, h⟩ := bnd_some h
  refine Ops.one' 2 (fun h0 e0 => (call_ok (E' := E) (h := h0) (by kernel_rfl) (Args.v (.str a0) (eS a0) (by kernel_rfl) Args.nil) (ok41 m a0 v1 ev1 n (by omega)))) (by kernel_rfl) (by kernel_rfl) ?_
  refine Ops.seg' 6 8 (by kernel_rfl) ?_
  refine Ops.done (by kernel_rfl) ?_
  refine seqQ.n ?_
  refine Wp.seq' (by kernel_rfl) ?_
  refine Wp.seq' (by kernel_rfl) ?_
  refine Wp.region (by kernel_rfl) ?_
  refine Ops.seg' 4 4 (by kernel_rfl) ?_
  have J16j9 : ∀ (d4 d5 d6 : D) (v7 : Bool) (v8 : Bool), f16_r4 m v1 v8 = some o → Ops (X16 n) (opl (cL (cL (cR (cR C16))))) 8 ⟨(.v (.str a0)) :: u1 ((dB false) :: (dP eI v1.1) :: (.ptr 0 0) :: u4 ((.v (.tuple [(vP eI v1.1), (.agg [(vI v1.2.fCode), (vI v1.2.fIndex)])])) :: (.v (.str a0)) :: (.v (.tuple [(vP eI v1.1), (.agg [(vI v1.2.fCode), (vI v1.2.fIndex)])])) :: (dP eI v1.1) :: (.v (.agg [(vI v1.2.fCode), (vI v1.2.fIndex)])) :: (.v (.agg [(vI v1.2.fCode), (vI v1.2.fIndex)])) :: (.v (.agg [(vI 0), (vI 0)])) :: (dB v7) :: (dB v7) :: d4 :: d5 :: d6 :: (dB v8) :: u24 [])), [(.cells [(dI v1.2.fCode), (dI v1.2.fIndex)])]⟩ ((seqQ (X16 n) (cR (cL (cR (cR C16)))) (seqQ (X16 n) (cR (cR (cR C16))) (fnQ (X16 n).E.T (resOf Proofs.Tryd.prog 16) (eB o)))) .normal) := by
    intro d4 d5 d6 v7 v8 h
    unfold f16_r4 at h
    refine Ops.seg' 1 9 (by kernel_rfl) ?_
    have J16j17 : ∀ (d12 d13 d14 : D) (v15 : Bool) (v16 : Bool), f16_r3 m v1 v16 = some o → Ops (X16 n) (opl (cL (cL (cR (cR C16))))) 13 ⟨(.v (.str a0)) :: u1 ((dB false) :: (dP eI v1.1) :: (.ptr 0 0) :: u4 ((.v (.tuple [(vP eI v1.1), (.agg [(vI v1.2.fCode), (vI v1.2.fIndex)])])) :: (.v (.str a0)) :: (.v (.tuple [(vP eI v1.1), (.agg [(vI v1.2.fCode), (vI v1.2.fIndex)])])) :: (dP eI v1.1) :: (.v (.agg [(vI v1.2.fCode), (vI v1.2.fIndex)])) :: (.v (.agg [(vI v1.2.fCode), (vI v1.2.fIndex)])) :: (.v (.agg [(vI 0), (vI 0)])) :: (dB v7) :: (dB v7) :: d4 :: d5 :: d6 :: (dB v15) :: (dB v15) :: d12 :: d13 :: d14 :: (dB v16) :: u19 [])), [(.cells [(dI v1.2.fCode), (dI v1.2.fIndex)])]⟩ ((seqQ (X16 n) (cR (cL (cR (cR C16)))) (seqQ (X16 n) (cR (cR (cR C16))) (fnQ (X16 n).E.T (resOf Proofs.Tryd.prog 16) (eB o)))) .normal) := by
      intro d12 d13 d14 v15 v16 h
      unfold f16_r3 at h
      refine Ops.done (by kernel_rfl) ?_
      refine seqQ.n ?_
      refine Wp.cnd h [2, 3] 1 (by kernel_rfl) (fun h => ?_) (fun h => ?_)
      · refine Wp.seq' (by kernel_rfl) ?_
        refine Wp.region (by kernel_rfl) ?_
        refine Ops.seg' 1 1 (by kernel_rfl) ?_
        refine Ops.done (by kernel_rfl) ?_
        refine seqQ.n ?_
        refine Wp.ret (by kernel_rfl) ?_
        refine sqQ.r ?_
        refine seqQ.r ?_
        exact fnQ.r' (X16 n) (fun z => (eB z)) h (RetOk.mk' (dB false) (by kernel_rfl) (by kernel_rfl))
      · refine Wp.skip (by kernel_rfl) ?_
        refine sqQ.n' ?_
        refine seqQ.n ?_
        refine Wp.seq' (by kernel_rfl) ?_
        refine Wp.seq' (by kernel_rfl) ?_
        refine Wp.region (by kernel_rfl) ?_
        refine Ops.seg' 1 1 (by kernel_rfl) ?_
        refine Ops.one' 2 (fun h0 e0 => (len_r (T := T) h0 44 3 .plain eI v1.1 (by kernel_rfl))) (by kernel_rfl) (by kernel_rfl) ?_
        refine Ops.seg' 1 3 (by kernel_rfl) ?_
        refine Ops.done (by kernel_rfl) ?_
        refine seqQ.n ?_
        refine Wp.block' 0 [2] 1 (by kernel_rfl) ?_
        have hLx83 : ∀ (kx57 : Nat) (v55 : Int)  (ox56 : Bool ⊕ (Int)), iter (fun (y : Int) => f16_B2 m v1 y) kx57 v55 = some ox56 → ∀ nx58, kx57 ≤ nx58 → (∀ r, ox56 = .inl r → ∀ σ, RetOk (X16 n) (resOf Proofs.Tryd.prog 16) (eB r) σ → (seqQ (X16 n) (cR (cR (cR (cR C16)))) (fnQ (X16 n).E.T (resOf Proofs.Tryd.prog 16) (eB o))) .ret σ) → (∀ (y : Int) , ox56 = .inr y → (seqQ (X16 n) (cR (cR (cR (cR C16)))) (fnQ (X16 n).E.T (resOf Proofs.Tryd.prog 16) (eB o))) .normal ⟨q2 ((dB false) :: q24 ((dP eI v1.1) :: (dI ((v1.1.length : Int))) :: (dI y) :: q16 [])), [(.cells [(dI v1.2.fCode), (dI v1.2.fIndex)])]⟩) → Lp (X16 n) [2, 27, 28, 29] 1 (cL (cL (cR (cL (cR (cR (cR C16))))))) nx58 ⟨q2 ((dB false) :: q24 ((dP eI v1.1) :: (dI ((v1.1.length : Int))) :: (dI v55) :: q16 [])), [(.cells [(dI v1.2.fCode), (dI v1.2.fIndex)])]⟩ (blkQ (X16 n) 0 [2] 1 (seqQ (X16 n) (cR (cR (cR (cR C16)))) (fnQ (X16 n).E.T (resOf Proofs.Tryd.prog 16) (eB o)))) := by
          intro kx57
          induction kx57 with
          | zero => intro v55  ox56 h; exact (iter_zero h).elim
          | succ kx57 ihx59 =>
            intro v55  ox56 h nx58 hnx62 hrx60 hxx61
            obtain ⟨nx58, rfl⟩ : ∃ q, nx58 = q + 1 := ⟨nx58 - 1, by omega⟩
            obtain ⟨sx63, h, hsx64⟩ := iter_some h
            have h : f16_B2 m v1 v55 = some sx63 := h
            unfold f16_B2 at h
            refine Lp.succ ?_
            refine Wp.seq' (by kernel_rfl) ?_
            refine Wp.region (by kernel_rfl) ?_
            refine Ops.seg' 1 1 (by kernel_rfl) ?_
            refine Ops.done (by kernel_rfl) ?_
            refine seqQ.n ?_
            refine Wp.seq' (by kernel_rfl) ?_
            refine Wp.cnd h [2, 27, 28, 29] 1 (by kernel_rfl) (fun h => ?_) (fun h => ?_)
            · refine Wp.skip (by kernel_rfl) ?_
              refine sqQ.n' ?_
              refine seqQ.n ?_
              refine Wp.seq' (by kernel_rfl) ?_
              refine Wp.block' 1 [2, 27, 28, 29] 1 (by kernel_rfl) ?_
              refine Wp.seq' (by kernel_rfl) ?_
              refine Wp.region (by kernel_rfl) ?_
              obtain ⟨v65, ev65, h⟩ := bnd_some h
              refine Ops.one' 1 (fun h0 e0 => (ix_r (T := T) h0 44 3 1 .plain eI v1.1 v55 v65 ev65 (by kernel_rfl) (by kernel_rfl) (fun _ => rfl))) (by kernel_rfl) (by kernel_rfl) ?_
              refine Ops.seg' 2 3 (by kernel_rfl) ?_
              refine Ops.done (by kernel_rfl) ?_
              refine seqQ.n ?_
              refine Wp.seq' (by kernel_rfl) ?_
              refine Wp.seq' (by kernel_rfl) ?_
              refine Wp.region (by kernel_rfl) ?_
              refine Ops.seg' 1 1 (by kernel_rfl) ?_
              refine Ops.one' 2 (fun h0 e0 => (len_r (T := T) h0 44 3 .nonfull eI ([0, 9, 10, 32, 40, 41, 91, 93, 44, 59]) (by kernel_rfl))) (by kernel_rfl) (by kernel_rfl) ?_
              refine Ops.seg' 1 3 (by kernel_rfl) ?_
              refine Ops.done (by kernel_rfl) ?_
              refine seqQ.n ?_
              refine Wp.block' 2 [2, 6, 27, 28, 29] 1 (by kernel_rfl) ?_
              have hLx80 : ∀ (kx71 : Nat) (v69 : Int)  (ox70 : Bool ⊕ (Int)), iter (fun (y : Int) => f16_B1 m v65 y) kx71 v69 = some ox70 → ∀ nx72, kx71 ≤ nx72 → (∀ r, ox70 = .inl r → ∀ σ, RetOk (X16 n) (resOf Proofs.Tryd.prog 16) (eB r) σ → (seqQ (X16 n) (cR (cR (cL (cL (cR (cR (cL (cL (cR (cL (cR (cR (cR C16))))))))))))) (blkQ (X16 n) 1 [2, 27, 28, 29] 1 (seqQ (X16 n) (cR (cR (cR (cL (cL (cR (cL (cR (cR (cR C16)))))))))) (lpQ (X16 n) [2, 27, 28, 29] 1 (cL (cL (cR (cL (cR (cR (cR C16))))))) nx58 (blkQ (X16 n) 0 [2] 1 (seqQ (X16 n) (cR (cR (cR (cR C16)))) (fnQ (X16 n).E.T (resOf Proofs.Tryd.prog 16) (eB o)))))))) .ret σ) → (∀ (y : Int) , ox70 = .inr y → (seqQ (X16 n) (cR (cR (cL (cL (cR (cR (cL (cL (cR (cL (cR (cR (cR C16))))))))))))) (blkQ (X16 n) 1 [2, 27, 28, 29] 1 (seqQ (X16 n) (cR (cR (cR (cL (cL (cR (cL (cR (cR (cR C16)))))))))) (lpQ (X16 n) [2, 27, 28, 29] 1 (cL (cL (cR (cL (cR (cR (cR C16))))))) nx58 (blkQ (X16 n) 0 [2] 1 (seqQ (X16 n) (cR (cR (cR (cR C16)))) (fnQ (X16 n).E.T (resOf Proofs.Tryd.prog 16) (eB o)))))))) .normal ⟨q2 ((dB false) :: q3 ((dI v65) :: q20 ((dP eI v1.1) :: (dI ((v1.1.length : Int))) :: (dI v55) :: q3 ((.v (.sl .nonfull (List.map eI ([0, 9, 10, 32, 40, 41, 91, 93, 44, 59])))) :: (dI ((([0, 9, 10, 32, 40, 41, 91, 93, 44, 59]).length : Int))) :: (dI y) :: q10 [])))), [(.cells [(dI v1.2.fCode), (dI v1.2.fIndex)])]⟩) → Lp (X16 n) [2, 6, 27, 28, 29, 33, 34, 35] 1 (cL (cL (cR (cL (cR (cL (cL (cR (cR (cL (cL (cR (cL (cR (cR (cR C16)))))))))))))))) nx72 ⟨q2 ((dB false) :: q3 ((dI v65) :: q20 ((dP eI v1.1) :: (dI ((v1.1.length : Int))) :: (dI v55) :: q3 ((.v (.sl .nonfull (List.map eI ([0, 9, 10, 32, 40, 41, 91, 93, 44, 59])))) :: (dI ((([0, 9, 10, 32, 40, 41, 91, 93, 44, 59]).length : Int))) :: (dI v69) :: q10 [])))), [(.cells [(dI v1.2.fCode), (dI v1.2.fIndex)])]⟩ (blkQ (X16 n) 2 [2, 6, 27, 28, 29] 1 (seqQ (X16 n) (cR (cR (cL (cL (cR (cR (cL (cL (cR (cL (cR (cR (cR C16))))))))))))) (blkQ (X16 n) 1 [2, 27, 28, 29] 1 (seqQ (X16 n) (cR (cR (cR (cL (cL (cR (cL (cR (cR (cR C16)))))))))) (lpQ (X16 n) [2, 27, 28, 29] 1 (cL (cL (cR (cL (cR (cR (cR C16))))))) nx58 (blkQ (X16 n) 0 [2] 1 (seqQ (X16 n) (cR (cR (cR (cR C16)))) (fnQ (X16 n).E.T (resOf Proofs.Tryd.prog 16) (eB o))))))))) := by
                intro kx71
                induction kx71 with
                | zero => intro v69  ox70 h; exact (iter_zero h).elim
                | succ kx71 ihx73 =>
                  intro v69  ox70 h nx72 hnx76 hrx74 hxx75
                  obtain ⟨nx72, rfl⟩ : ∃ q, nx72 = q + 1 := ⟨nx72 - 1, by omega⟩
                  obtain ⟨sx77, h, hsx78⟩ := iter_some h
                  have h : f16_B1 m v65 v69 = some sx77 := h
                  unfold f16_B1 at h
                  refine Lp.succ ?_
                  refine Wp.seq' (by kernel_rfl) ?_
                  refine Wp.region (by kernel_rfl) ?_
                  refine Ops.seg' 1 1 (by kernel_rfl) ?_
                  refine Ops.done (by kernel_rfl) ?_
                  refine seqQ.n ?_
                  refine Wp.seq' (by kernel_rfl) ?_
                  refine Wp.cnd h [2, 6, 27, 28, 29, 33, 34, 35] 1 (by kernel_rfl) (fun h => ?_) (fun h => ?_)
                  · refine Wp.skip (by kernel_rfl) ?_
                    refine sqQ.n' ?_
                    refine seqQ.n ?_
                    refine Wp.seq' (by kernel_rfl) ?_
                    refine Wp.block' 3 [2, 6, 27, 28, 29, 33, 34, 35] 1 (by kernel_rfl) ?_
                    refine Wp.seq' (by kernel_rfl) ?_
                    refine Wp.region (by kernel_rfl) ?_
                    obtain ⟨v79, ev79, h⟩ := bnd_some h
                    refine Ops.one' 1 (fun h0 e0 => (ix_r (T := T) h0 44 3 1 .nonfull eI ([0, 9, 10, 32, 40, 41, 91, 93, 44, 59]) v69 v79 ev79 (by kernel_rfl) (by kernel_rfl) (fun _ => rfl))) (by kernel_rfl) (by kernel_rfl) ?_
                    refine Ops.seg' 2 3 (by kernel_rfl) ?_
                    refine Ops.done (by kernel_rfl) ?_
                    refine seqQ.n ?_
                    refine Wp.seq' (by kernel_rfl) ?_
                    refine Wp.region (by kernel_rfl) ?_
                    refine Ops.seg' 3 3 (by kernel_rfl) ?_
                    refine Ops.done (by kernel_rfl) ?_
                    refine seqQ.n ?_
                    refine Wp.cnd h [2, 6, 27, 28, 29, 33, 34, 35] 1 (by kernel_rfl) (fun h => ?_) (fun h => ?_)
                    · refine Wp.seq' (by kernel_rfl) ?_
                      refine Wp.region (by kernel_rfl) ?_
                      refine Ops.seg' 1 1 (by kernel_rfl) ?_
                      refine Ops.done (by kernel_rfl) ?_
                      refine seqQ.n ?_
                      refine Wp.ret (by kernel_rfl) ?_
                      refine sqQ.r ?_
                      refine blkQ.r ?_
                      refine seqQ.r ?_
                      cases h
                      refine lpQ.r ?_
                      refine blkQ.r ?_
                      exact hrx74 _ hsx78 _ (RetOk.forget [2, 6, 27, 28, 29, 33, 34, 35] (by kernel_rfl) (RetOk.mk' (dB false) (by kernel_rfl) (by kernel_rfl)))
                    · refine Wp.skip (by kernel_rfl) ?_
                      refine sqQ.n' ?_
                      refine blkQ.n' ?_
                      refine seqQ.n ?_
                      refine Wp.region (by kernel_rfl) ?_
                      refine Ops.seg' 2 2 (by kernel_rfl) ?_
                      refine Ops.done (by kernel_rfl) ?_
                      refine lpQ.n ⟨q2 ((dB false) :: q3 ((dI v65) :: q20 ((dP eI v1.1) :: (dI ((v1.1.length : Int))) :: (dI v55) :: q3 ((.v (.sl .nonfull (List.map eI ([0, 9, 10, 32, 40, 41, 91, 93, 44, 59])))) :: (dI ((([0, 9, 10, 32, 40, 41, 91, 93, 44, 59]).length : Int))) :: (dI (w64 (v69 + 1))) :: q10 [])))), [(.cells [(dI v1.2.fCode), (dI v1.2.fIndex)])]⟩ (by kernel_rfl) ?_
                      cases h
                      exact ihx73 (w64 (v69 + 1))  _ hsx78 _ (by omega) hrx74 hxx75
                  · refine Wp.exit (id := 2) (by kernel_rfl) ?_
                    refine sqQ.x ?_
                    refine seqQ.x ?_
                    cases h
                    refine lpQ.x ?_
                    refine blkQ.x ⟨q2 ((dB false) :: q3 ((dI v65) :: q20 ((dP eI v1.1) :: (dI ((v1.1.length : Int))) :: (dI v55) :: q3 ((.v (.sl .nonfull (List.map eI ([0, 9, 10, 32, 40, 41, 91, 93, 44, 59])))) :: (dI ((([0, 9, 10, 32, 40, 41, 91, 93, 44, 59]).length : Int))) :: (dI v69) :: q10 [])))), [(.cells [(dI v1.2.fCode), (dI v1.2.fIndex)])]⟩ (by kernel_rfl) ?_
                    exact hxx75 v69  hsx78
              refine Wp.loop' [2, 6, 27, 28, 29, 33, 34, 35] 1 (by kernel_rfl) ⟨q2 ((dB false) :: q3 ((dI v65) :: q20 ((dP eI v1.1) :: (dI ((v1.1.length : Int))) :: (dI v55) :: q3 ((.v (.sl .nonfull (List.map eI ([0, 9, 10, 32, 40, 41, 91, 93, 44, 59])))) :: (dI ((([0, 9, 10, 32, 40, 41, 91, 93, 44, 59]).length : Int))) :: (dI 0) :: q10 [])))), [(.cells [(dI v1.2.fCode), (dI v1.2.fIndex)])]⟩ (by kernel_rfl) ?_
              rcases brk_some h with ⟨r82, er82, h⟩ | ⟨y81, ey81, h⟩
              · refine hLx80 _ 0  _ er82 n (by omega) (fun r er σ hσ => ?_) (fun y  ey => by cases ey)
                cases er
                refine seqQ.r ?_
                refine blkQ.r ?_
                refine seqQ.r ?_
                refine lpQ.r ?_
                cases h
                refine blkQ.r ?_
                exact hrx60 _ hsx64 _ (RetOk.forget [2, 27, 28, 29] (by kernel_rfl) hσ)
              · refine hLx80 _ 0  _ ey81 n (by omega) (fun r er => by cases er) (fun y  ey => ?_)
                cases ey
                refine seqQ.n ?_
                refine Wp.seq' (by kernel_rfl) ?_
                refine Wp.region (by kernel_rfl) ?_
                refine Ops.seg' 2 2 (by kernel_rfl) ?_
                refine Ops.done (by kernel_rfl) ?_
                refine seqQ.n ?_
                refine Wp.cnd h [2, 27, 28, 29] 1 (by kernel_rfl) (fun h => ?_) (fun h => ?_)
                · refine Wp.seq' (by kernel_rfl) ?_
                  refine Wp.region (by kernel_rfl) ?_
                  refine Ops.seg' 1 1 (by kernel_rfl) ?_
                  refine Ops.done (by kernel_rfl) ?_
                  refine seqQ.n ?_
                  refine Wp.ret (by kernel_rfl) ?_
                  refine sqQ.r ?_
                  refine blkQ.r ?_
                  refine seqQ.r ?_
                  cases h
                  refine lpQ.r ?_
                  refine blkQ.r ?_
                  exact hrx60 _ hsx64 _ (RetOk.forget [2, 27, 28, 29] (by kernel_rfl) (RetOk.mk' (dB false) (by kernel_rfl) (by kernel_rfl)))
                · refine Wp.skip (by kernel_rfl) ?_
                  refine sqQ.n' ?_
                  refine blkQ.n' ?_
                  refine seqQ.n ?_
                  refine Wp.region (by kernel_rfl) ?_
                  refine Ops.seg' 2 2 (by kernel_rfl) ?_
                  refine Ops.done (by kernel_rfl) ?_
                  refine lpQ.n ⟨q2 ((dB false) :: q24 ((dP eI v1.1) :: (dI ((v1.1.length : Int))) :: (dI (w64 (v55 + 1))) :: q16 [])), [(.cells [(dI v1.2.fCode), (dI v1.2.fIndex)])]⟩ (by kernel_rfl) ?_
                  cases h
                  exact ihx59 (w64 (v55 + 1))  _ hsx64 _ (by omega) hrx60 hxx61
            · refine Wp.exit (id := 0) (by kernel_rfl) ?_
              refine sqQ.x ?_
              refine seqQ.x ?_
              cases h
              refine lpQ.x ?_
              refine blkQ.x ⟨q2 ((dB false) :: q24 ((dP eI v1.1) :: (dI ((v1.1.length : Int))) :: (dI v55) :: q16 [])), [(.cells [(dI v1.2.fCode), (dI v1.2.fIndex)])]⟩ (by kernel_rfl) ?_
              exact hxx61 v55  hsx64
        refine Wp.loop' [2, 27, 28, 29] 1 (by kernel_rfl) ⟨q2 ((dB false) :: q24 ((dP eI v1.1) :: (dI ((v1.1.length : Int))) :: (dI 0) :: q16 [])), [(.cells [(dI v1.2.fCode), (dI v1.2.fIndex)])]⟩ (by kernel_rfl) ?_
        rcases brk_some h with ⟨r85, er85, h⟩ | ⟨y84, ey84, h⟩
        · refine hLx83 _ 0  _ er85 n (by omega) (fun r er σ hσ => ?_) (fun y  ey => by cases ey)
          cases er
          refine seqQ.r ?_
          exact fnQ.r' (X16 n) (fun z => (eB z)) h hσ
        · refine hLx83 _ 0  _ ey84 n (by omega) (fun r er => by cases er) (fun y  ey => ?_)
          cases ey
          refine seqQ.n ?_
          refine Wp.seq' (by kernel_rfl) ?_
          refine Wp.region (by kernel_rfl) ?_
          refine Ops.seg' 1 1 (by kernel_rfl) ?_
          refine Ops.done (by kernel_rfl) ?_
          refine seqQ.n ?_
          refine Wp.ret (by kernel_rfl) ?_
          exact fnQ.r' (X16 n) (fun z => (eB z)) h (RetOk.mk' (dB true) (by kernel_rfl) (by kernel_rfl))
    have G16g11 : ∀ v10 : Bool, f16_r3 m v1 ((v10 || (decide ((v1.1.length : Int) > 30)))) = some o → Ops (X16 n) (opl (cL (cL (cR (cR C16))))) 9 ⟨(.v (.str a0)) :: u1 ((dB false) :: (dP eI v1.1) :: (.ptr 0 0) :: u4 ((.v (.tuple [(vP eI v1.1), (.agg [(vI v1.2.fCode), (vI v1.2.fIndex)])])) :: (.v (.str a0)) :: (.v (.tuple [(vP eI v1.1), (.agg [(vI v1.2.fCode), (vI v1.2.fIndex)])])) :: (dP eI v1.1) :: (.v (.agg [(vI v1.2.fCode), (vI v1.2.fIndex)])) :: (.v (.agg [(vI v1.2.fCode), (vI v1.2.fIndex)])) :: (.v (.agg [(vI 0), (vI 0)])) :: (dB v7) :: (dB v7) :: d4 :: d5 :: d6 :: (dB v10) :: (dB v10) :: u23 [])), [(.cells [(dI v1.2.fCode), (dI v1.2.fIndex)])]⟩ ((seqQ (X16 n) (cR (cL (cR (cR C16)))) (seqQ (X16 n) (cR (cR (cR C16))) (fnQ (X16 n).E.T (resOf Proofs.Tryd.prog 16) (eB o)))) .normal) := by
      intro v10 h
      cases v10
      · refine Ops.seg' 1 10 (by kernel_rfl) ?_
        refine Ops.one' 11 (fun h0 e0 => (len_r (T := T) h0 44 3 .plain eI v1.1 (by kernel_rfl))) (by kernel_rfl) (by kernel_rfl) ?_
        refine Ops.seg' 2 13 (by kernel_rfl) ?_
        refine Ops.st ⟨(.v (.str a0)) :: u1 ((dB false) :: (dP eI v1.1) :: (.ptr 0 0) :: u4 ((.v (.tuple [(vP eI v1.1), (.agg [(vI v1.2.fCode), (vI v1.2.fIndex)])])) :: (.v (.str a0)) :: (.v (.tuple [(vP eI v1.1), (.agg [(vI v1.2.fCode), (vI v1.2.fIndex)])])) :: (dP eI v1.1) :: (.v (.agg [(vI v1.2.fCode), (vI v1.2.fIndex)])) :: (.v (.agg [(vI v1.2.fCode), (vI v1.2.fIndex)])) :: (.v (.agg [(vI 0), (vI 0)])) :: (dB v7) :: (dB v7) :: d4 :: d5 :: d6 :: (dB false) :: (dB false) :: (dP eI v1.1) :: (dI ((v1.1.length : Int))) :: (dB (decide ((v1.1.length : Int) > 30))) :: (dB (decide ((v1.1.length : Int) > 30))) :: u19 [])), [(.cells [(dI v1.2.fCode), (dI v1.2.fIndex)])]⟩ (by kernel_rfl) ?_
        exact J16j17 _ _ _ _ _ h
      · refine Ops.seg' 4 13 (by kernel_rfl) ?_
        refine Ops.st ⟨(.v (.str a0)) :: u1 ((dB false) :: (dP eI v1.1) :: (.ptr 0 0) :: u4 ((.v (.tuple [(vP eI v1.1), (.agg [(vI v1.2.fCode), (vI v1.2.fIndex)])])) :: (.v (.str a0)) :: (.v (.tuple [(vP eI v1.1), (.agg [(vI v1.2.fCode), (vI v1.2.fIndex)])])) :: (dP eI v1.1) :: (.v (.agg [(vI v1.2.fCode), (vI v1.2.fIndex)])) :: (.v (.agg [(vI v1.2.fCode), (vI v1.2.fIndex)])) :: (.v (.agg [(vI 0), (vI 0)])) :: (dB v7) :: (dB v7) :: d4 :: d5 :: d6 :: (dB true) :: (dB true) :: u3 ((dB true) :: u19 []))), [(.cells [(dI v1.2.fCode), (dI v1.2.fIndex)])]⟩ (by kernel_rfl) ?_
        exact J16j17 _ _ _ _ _ h
    exact Ops.st ⟨(.v (.str a0)) :: u1 ((dB false) :: (dP eI v1.1) :: (.ptr 0 0) :: u4 ((.v (.tuple [(vP eI v1.1), (.agg [(vI v1.2.fCode), (vI v1.2.fIndex)])])) :: (.v (.str a0)) :: (.v (.tuple [(vP eI v1.1), (.agg [(vI v1.2.fCode), (vI v1.2.fIndex)])])) :: (dP eI v1.1) :: (.v (.agg [(vI v1.2.fCode), (vI v1.2.fIndex)])) :: (.v (.agg [(vI v1.2.fCode), (vI v1.2.fIndex)])) :: (.v (.agg [(vI 0), (vI 0)])) :: (dB v7) :: (dB v7) :: d4 :: d5 :: d6 :: (dB v8) :: (dB v8) :: u23 [])), [(.cells [(dI v1.2.fCode), (dI v1.2.fIndex)])]⟩ (by kernel_rfl) (G16g11 v8 h)
  have G16g3 : ∀ v2 : Bool, f16_r4 m v1 ((v2 || (((v1.1.length : Int)) == 0))) = some o → Ops (X16 n) (opl (cL (cL (cR (cR C16))))) 4 ⟨(.v (.str a0)) :: u1 ((dB false) :: (dP eI v1.1) :: (.ptr 0 0) :: u4 ((.v (.tuple [(vP eI v1.1), (.agg [(vI v1.2.fCode), (vI v1.2.fIndex)])])) :: (.v (.str a0)) :: (.v (.tuple [(vP eI v1.1), (.agg [(vI v1.2.fCode), (vI v1.2.fIndex)])])) :: (dP eI v1.1) :: (.v (.agg [(vI v1.2.fCode), (vI v1.2.fIndex)])) :: (.v (.agg [(vI v1.2.fCode), (vI v1.2.fIndex)])) :: (.v (.agg [(vI 0), (vI 0)])) :: (dB v2) :: (dB v2) :: u28 [])), [(.cells [(dI v1.2.fCode), (dI v1.2.fIndex)])]⟩ ((seqQ (X16 n) (cR (cL (cR (cR C16)))) (seqQ (X16 n) (cR (cR (cR C16))) (fnQ (X16 n).E.T (resOf Proofs.Tryd.prog 16) (eB o)))) .normal) := by
    intro v2 h
    cases v2
    · refine Ops.seg' 1 5 (by kernel_rfl) ?_
      refine Ops.one' 6 (fun h0 e0 => (len_r (T := T) h0 44 3 .plain eI v1.1 (by kernel_rfl))) (by kernel_rfl) (by kernel_rfl) ?_
      refine Ops.seg' 2 8 (by kernel_rfl) ?_
      refine Ops.st ⟨(.v (.str a0)) :: u1 ((dB false) :: (dP eI v1.1) :: (.ptr 0 0) :: u4 ((.v (.tuple [(vP eI v1.1), (.agg [(vI v1.2.fCode), (vI v1.2.fIndex)])])) :: (.v (.str a0)) :: (.v (.tuple [(vP eI v1.1), (.agg [(vI v1.2.fCode), (vI v1.2.fIndex)])])) :: (dP eI v1.1) :: (.v (.agg [(vI v1.2.fCode), (vI v1.2.fIndex)])) :: (.v (.agg [(vI v1.2.fCode), (vI v1.2.fIndex)])) :: (.v (.agg [(vI 0), (vI 0)])) :: (dB false) :: (dB false) :: (dP eI v1.1) :: (dI ((v1.1.length : Int))) :: (dB (((v1.1.length : Int)) == 0)) :: (dB (((v1.1.length : Int)) == 0)) :: u24 [])), [(.cells [(dI v1.2.fCode), (dI v1.2.fIndex)])]⟩ (by kernel_rfl) ?_
      exact J16j9 _ _ _ _ _ h
    · refine Ops.seg' 4 8 (by kernel_rfl) ?_
      refine Ops.st ⟨(.v (.str a0)) :: u1 ((dB false) :: (dP eI v1.1) :: (.ptr 0 0) :: u4 ((.v (.tuple [(vP eI v1.1), (.agg [(vI v1.2.fCode), (vI v1.2.fIndex)])])) :: (.v (.str a0)) :: (.v (.tuple [(vP eI v1.1), (.agg [(vI v1.2.fCode), (vI v1.2.fIndex)])])) :: (dP eI v1.1) :: (.v (.agg [(vI v1.2.fCode), (vI v1.2.fIndex)])) :: (.v (.agg [(vI v1.2.fCode), (vI v1.2.fIndex)])) :: (.v (.agg [(vI 0), (vI 0)])) :: (dB true) :: (dB true) :: u3 ((dB true) :: u24 []))), [(.cells [(dI v1.2.fCode), (dI v1.2.fIndex)])]⟩ (by kernel_rfl) ?_
      exact J16j9 _ _ _ _ _ h
  exact Ops.st ⟨(.v (.str a0)) :: u1 ((dB false) :: (dP eI v1.1) :: (.ptr 0 0) :: u4 ((.v (.tuple [(vP eI v1.1), (.agg [(vI v1.2.fCode), (vI v1.2.fIndex)])])) :: (.v (.str a0)) :: (.v (.tuple [(vP eI v1.1), (.agg [(vI v1.2.fCode), (vI v1.2.fIndex)])])) :: (dP eI v1.1) :: (.v (.agg [(vI v1.2.fCode), (vI v1.2.fIndex)])) :: (.v (.agg [(vI v1.2.fCode), (vI v1.2.fIndex)])) :: (.v (.agg [(vI 0), (vI 0)])) :: (dB ((!((v1.2.fCode == 0) && ((v1.2.fIndex == 0) && true))))) :: (dB ((!((v1.2.fCode == 0) && ((v1.2.fIndex == 0) && true))))) :: u28 [])), [(.cells [(dI v1.2.fCode), (dI v1.2.fIndex)])]⟩ (by kernel_rfl) (G16g3 (!((v1.2.fCode == 0) && ((v1.2.fIndex == 0) && true))) h)

/-! ### 38 glosswright/glosswrightref6.Part -/
def f38_r1 (m : Nat) (v6 : Bool) : Option Bool :=
  some v6
def f38 (m : Nat) (a0 : ByteArray) : Option Bool :=
  bnd (cnd ((a0.toList == ((⟨#[]⟩ : ByteArray)).toList))
  (some true)
  (bnd (f16 m a0) fun v8 =>
  some v8)) fun v6 =>
  f38_r1 m v6
noncomputable abbrev X38 (n : Nat) : Cx := cxOf Proofs.Tryd.prog E 38 n
noncomputable def C38 : Code := bodyOf Proofs.Tryd.prog 38
theorem ok38 (m : Nat) (a0 : ByteArray) (o : Bool) (h : f38 m a0 = some o) (n : Nat) (hn : m + 5 ≤ n) : Fn Proofs.Tryd.prog E n 38 [.v (eS a0)] (eB o) := by
  obtain ⟨n, rfl⟩ : ∃ q, n = q + 1 := ⟨n - 1, by omega⟩
  unfold f38 at h
  refine Fn.of (by kernel_rfl) (by kernel_rfl) (by kernel_rfl) ⟨(.v (.str a0)) :: u8 [], []⟩ (by kernel_rfl) ?_
  refine Wp.seq' (by kernel_rfl) ?_
  refine Wp.region (by kernel_rfl) ?_
  refine Ops.seg' 1 1 (by kernel_rfl) ?_
  refine Ops.done (by kernel_rfl) ?_
  refine seqQ.n ?_
  refine Wp.seq' (by kernel_rfl) ?_
  refine Wp.region (by kernel_rfl) ?_
  refine Ops.seg' 3 3 (by kernel_rfl) ?_
  have J38j7 : ∀ (d3 d4 : D) (v5 : Bool) (v6 : Bool), f38_r1 m v6 = some o → Ops (X38 n) (opl (cL (cR C38))) 6 ⟨(.v (.str a0)) :: u1 ((dB false) :: (.v (.str a0)) :: (dB v5) :: (dB v5) :: d3 :: d4 :: (dB v6) :: []), []⟩ ((seqQ (X38 n) (cR (cR C38)) (fnQ (X38 n).E.T (resOf Proofs.Tryd.prog 38) (eB o))) .normal) := by
    intro d3 d4 v5 v6 h
    unfold f38_r1 at h
    refine Ops.seg' 1 7 (by kernel_rfl) ?_
    refine Ops.done (by kernel_rfl) ?_
    refine seqQ.n ?_
    refine Wp.ret (by kernel_rfl) ?_
    exact fnQ.r' (X38 n) (fun z => (eB z)) h (RetOk.mk' (dB v6) (by kernel_rfl) (by kernel_rfl))
  obtain ⟨v6, ev6, h⟩ := bnd_some h
  have G38g2 : ∀ v1 : Bool, (cnd v1 (some true) (bnd (f16 m a0) fun v8 => some v8)) = some v6 → Ops (X38 n) (opl (cL (cR C38))) 3 ⟨(.v (.str a0)) :: u1 ((dB false) :: (.v (.str a0)) :: (dB v1) :: (dB v1) :: u3 []), []⟩ ((seqQ (X38 n) (cR (cR C38)) (fnQ (X38 n).E.T (resOf Proofs.Tryd.prog 38) (eB o))) .normal) := by
    intro v1 ev6
    cases v1
    · have ev6 := cnd_f ev6
      refine Ops.seg' 1 4 (by kernel_rfl) ?_
      obtain ⟨v8, ev8, ev6⟩ := bnd_some ev6
      refine Ops.one' 5 (fun h0 e0 => (call_ok (E' := E) (h := h0) (by kernel_rfl) (Args.v (.str a0) (eS a0) (by kernel_rfl) Args.nil) (ok16 m a0 v8 ev8 n (by omega)))) (by kernel_rfl) (by kernel_rfl) ?_
      refine Ops.seg' 1 6 (by kernel_rfl) ?_
      refine Ops.st ⟨(.v (.str a0)) :: u1 ((dB false) :: (.v (.str a0)) :: (dB false) :: (dB false) :: (.v (.str a0)) :: (dB v8) :: (dB v8) :: []), []⟩ (by kernel_rfl) ?_
      exact J38j7 _ _ _ _ (some_sub (fun v6 => f38_r1 m v6 = some o) ev6 h)
    · have ev6 := cnd_t ev6
      refine Ops.seg' 3 6 (by kernel_rfl) ?_
      refine Ops.st ⟨(.v (.str a0)) :: u1 ((dB false) :: (.v (.str a0)) :: (dB true) :: (dB true) :: u2 ((dB true) :: [])), []⟩ (by kernel_rfl) ?_
      exact J38j7 _ _ _ _ (some_sub (fun v6 => f38_r1 m v6 = some o) ev6 h)
  exact Ops.st ⟨(.v (.str a0)) :: u1 ((dB false) :: (.v (.str a0)) :: (dB (((a0.toList == ((⟨#[]⟩ : ByteArray)).toList)))) :: (dB (((a0.toList == ((⟨#[]⟩ : ByteArray)).toList)))) :: u3 []), []⟩ (by kernel_rfl) (G38g2 ((a0.toList == ((⟨#[]⟩ : ByteArray)).toList)) ev6)

end Go.Abs
