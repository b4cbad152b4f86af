import Derived.Test.YthjhdnonlkooiaaDoorWF1
namespace Go.Abs
set_option linter.unusedVariables false
set_option maxRecDepth 100000

/-! ### 35 glosswright/glosswrightref6.Name -/
def f35_r1 (m : Nat) (v96 : Int) (v137 : Bool) : Option (Stp Bool (Int)) :=
  cnd (!v137)
  (some (.ret false))
  (some (.nxt (w64 (v96 + 1))))
def f35_r2 (m : Nat) (v96 : Int) (v106 : Int) (v130 : Bool) : Option (Stp Bool (Int)) :=
  f35_r1 m v96 ((v130 || (v106 == 45)))
def f35_r3 (m : Nat) (v96 : Int) (v106 : Int) (v123 : Bool) : Option (Stp Bool (Int)) :=
  f35_r2 m v96 v106 ((v123 || (v106 == 95)))
def f35_r4 (m : Nat) (v96 : Int) (v106 : Int) (v112 : Bool) : Option (Stp Bool (Int)) :=
  f35_r3 m v96 v106 ((v112 || (((decide (v106 ≥ 48)) && (decide (v106 ≤ 57))))))
def f35_B5 (m : Nat) (a0 : ByteArray) (v96 : Int) : Option (Stp Bool (Int)) :=
  cnd (decide (v96 < (a0.size : Int)))
  (bnd (sidx a0 v96) fun v106 =>
  f35_r4 m v96 v106 (((decide (v106 ≥ 97)) && (decide (v106 ≤ 122)))))
  (some (.brk v96))
def f35_r6 (m : Nat) (a0 : ByteArray) (v23 : Bool) : Option Bool :=
  cnd v23
  (some false)
  (brk (iter (fun (y : Int) => f35_B5 m a0 y) m 0) some fun y142 =>
  some true)
def f35_r7 (m : Nat) (a0 : ByteArray) (v15 : Bool) : Option Bool :=
  bnd (cnd v15
  (some true)
  (bnd (sidx a0 0) fun v144 =>
  some (decide (v144 > 122)))) fun v23 =>
  f35_r6 m a0 v23
def f35_r8 (m : Nat) (a0 : ByteArray) (v7 : Bool) : Option Bool :=
  bnd (cnd v7
  (some true)
  (bnd (sidx a0 0) fun v145 =>
  some (decide (v145 < 97)))) fun v15 =>
  f35_r7 m a0 v15
def f35 (m : Nat) (a0 : ByteArray) : Option Bool :=
  f35_r8 m a0 (((((a0.size : Int)) == 0) || (decide ((a0.size : Int) > 30))))
noncomputable abbrev X35 (n : Nat) : Cx := cxOf Proofs.Tryd.prog E 35 n
noncomputable def C35 : Code := bodyOf Proofs.Tryd.prog 35
theorem ok35 (m : Nat) (a0 : ByteArray) (o : Bool) (h : f35 m a0 = some o) (n : Nat) (hn : m + 1 ≤ n) : Fn Proofs.Tryd.prog E n 35 [.v (eS a0)] (eB o) := by
  obtain ⟨n, rfl⟩ : ∃ q, n = q + 1 := ⟨n - 1, by omega⟩
  unfold f35 at h
  refine Fn.of (by kernel_rfl) (by kernel_rfl) (by kernel_rfl) ⟨(.v (.str a0)) :: u40 (u14 []), []⟩ (by kernel_rfl) ?_
  refine Wp.seq' (by kernel_rfl) ?_
  refine Wp.region (by kernel_rfl) ?_
  refine Ops.seg' 1 1 (by kernel_rfl) ?_
  refine Ops.done (by kernel_rfl) ?_
  refine seqQ.n ?_
  refine Wp.seq' (by kernel_rfl) ?_
  refine Wp.seq' (by kernel_rfl) ?_
  refine Wp.region (by kernel_rfl) ?_
  refine Ops.seg' 4 4 (by kernel_rfl) ?_
  have J35j8 : ∀ (d3 d4 d5 : D) (v6 : Bool) (v7 : Bool), f35_r8 m a0 v7 = some o → Ops (X35 n) (opl (cL (cL (cR C35)))) 8 ⟨(.v (.str a0)) :: u1 ((dB false) :: u2 ((.v (.str a0)) :: (dI ((a0.size : Int))) :: (dB v6) :: (dB v6) :: d3 :: d4 :: d5 :: (dB v7) :: u40 (u2 []))), []⟩ ((seqQ (X35 n) (cR (cL (cR C35))) (seqQ (X35 n) (cR (cR C35)) (fnQ (X35 n).E.T (resOf Proofs.Tryd.prog 35) (eB o)))) .normal) := by
    intro d3 d4 d5 v6 v7 h
    unfold f35_r8 at h
    refine Ops.seg' 1 9 (by kernel_rfl) ?_
    have J35j16 : ∀ (d11 d12 d13 : D) (v14 : Bool) (v15 : Bool), f35_r7 m a0 v15 = some o → Ops (X35 n) (opl (cL (cL (cR C35)))) 13 ⟨(.v (.str a0)) :: u1 ((dB false) :: u2 ((.v (.str a0)) :: (dI ((a0.size : Int))) :: (dB v6) :: (dB v6) :: d3 :: d4 :: d5 :: (dB v14) :: (dB v14) :: d11 :: d12 :: d13 :: (dB v15) :: u37 [])), []⟩ ((seqQ (X35 n) (cR (cL (cR C35))) (seqQ (X35 n) (cR (cR C35)) (fnQ (X35 n).E.T (resOf Proofs.Tryd.prog 35) (eB o)))) .normal) := by
      intro d11 d12 d13 v14 v15 h
      unfold f35_r7 at h
      refine Ops.seg' 1 14 (by kernel_rfl) ?_
      have J35j24 : ∀ (d19 d20 d21 : D) (v22 : Bool) (v23 : Bool), f35_r6 m a0 v23 = some o → Ops (X35 n) (opl (cL (cL (cR C35)))) 18 ⟨(.v (.str a0)) :: u1 ((dB false) :: u2 ((.v (.str a0)) :: (dI ((a0.size : Int))) :: (dB v6) :: (dB v6) :: d3 :: d4 :: d5 :: (dB v14) :: (dB v14) :: d11 :: d12 :: d13 :: (dB v22) :: (dB v22) :: d19 :: d20 :: d21 :: (dB v23) :: u32 [])), []⟩ ((seqQ (X35 n) (cR (cL (cR C35))) (seqQ (X35 n) (cR (cR C35)) (fnQ (X35 n).E.T (resOf Proofs.Tryd.prog 35) (eB o)))) .normal) := by
        intro d19 d20 d21 v22 v23 h
        unfold f35_r6 at h
        refine Ops.done (by kernel_rfl) ?_
        refine seqQ.n ?_
        refine Wp.cnd h [0, 2] 0 (by kernel_rfl) (fun h => ?_) (fun h => ?_)
        · refine Wp.seq' (by kernel_rfl) ?_
          refine Wp.region (by kernel_rfl) ?_
          refine Ops.seg' 1 1 (by kernel_rfl) ?_
          refine Ops.done (by kernel_rfl) ?_
          refine seqQ.n ?_
          refine Wp.ret (by kernel_rfl) ?_
          refine sqQ.r ?_
          refine seqQ.r ?_
          exact fnQ.r' (X35 n) (fun z => (eB z)) h (RetOk.mk' (dB false) (by kernel_rfl) (by kernel_rfl))
        · refine Wp.skip (by kernel_rfl) ?_
          refine sqQ.n' ?_
          refine seqQ.n ?_
          refine Wp.seq' (by kernel_rfl) ?_
          refine Wp.seq' (by kernel_rfl) ?_
          refine Wp.region (by kernel_rfl) ?_
          refine Ops.seg' 1 1 (by kernel_rfl) ?_
          refine Ops.done (by kernel_rfl) ?_
          refine seqQ.n ?_
          refine Wp.block' 0 [2] 0 (by kernel_rfl) ?_
          have hLx141 : ∀ (kx98 : Nat) (v96 : Int)  (ox97 : Bool ⊕ (Int)), iter (fun (y : Int) => f35_B5 m a0 y) kx98 v96 = some ox97 → ∀ nx99, kx98 ≤ nx99 → (∀ r, ox97 = .inl r → ∀ σ, RetOk (X35 n) (resOf Proofs.Tryd.prog 35) (eB r) σ → (seqQ (X35 n) (cR (cR (cR C35))) (fnQ (X35 n).E.T (resOf Proofs.Tryd.prog 35) (eB o))) .ret σ) → (∀ (y : Int) , ox97 = .inr y → (seqQ (X35 n) (cR (cR (cR C35))) (fnQ (X35 n).E.T (resOf Proofs.Tryd.prog 35) (eB o))) .normal ⟨(.v (.str a0)) :: q1 ((dB false) :: (dI y) :: q40 (q11 [])), []⟩) → Lp (X35 n) [0, 2, 3] 0 (cL (cL (cR (cL (cR (cR C35)))))) nx99 ⟨(.v (.str a0)) :: q1 ((dB false) :: (dI v96) :: q40 (q11 [])), []⟩ (blkQ (X35 n) 0 [2] 0 (seqQ (X35 n) (cR (cR (cR C35))) (fnQ (X35 n).E.T (resOf Proofs.Tryd.prog 35) (eB o)))) := by
            intro kx98
            induction kx98 with
            | zero => intro v96  ox97 h; exact (iter_zero h).elim
            | succ kx98 ihx100 =>
              intro v96  ox97 h nx99 hnx103 hrx101 hxx102
              obtain ⟨nx99, rfl⟩ : ∃ q, nx99 = q + 1 := ⟨nx99 - 1, by omega⟩
              obtain ⟨sx104, h, hsx105⟩ := iter_some h
              have h : f35_B5 m a0 v96 = some sx104 := h
              unfold f35_B5 at h
              refine Lp.succ ?_
              refine Wp.seq' (by kernel_rfl) ?_
              refine Wp.seq' (by kernel_rfl) ?_
              refine Wp.region (by kernel_rfl) ?_
              refine Ops.seg' 4 4 (by kernel_rfl) ?_
              refine Ops.done (by kernel_rfl) ?_
              refine seqQ.n ?_
              refine Wp.cnd h [0, 2, 3] 0 (by kernel_rfl) (fun h => ?_) (fun h => ?_)
              · refine Wp.skip (by kernel_rfl) ?_
                refine sqQ.n' ?_
                refine seqQ.n ?_
                refine Wp.seq' (by kernel_rfl) ?_
                refine Wp.block' 1 [0, 2, 3] 0 (by kernel_rfl) ?_
                refine Wp.seq' (by kernel_rfl) ?_
                refine Wp.region (by kernel_rfl) ?_
                refine Ops.seg' 2 2 (by kernel_rfl) ?_
                obtain ⟨v106, ev106, h⟩ := bnd_some h
                refine Ops.one' 3 (fun h0 e0 => (str_ix (T := T) h0 9 a0 v96 v106 ev106 (by kernel_rfl))) (by kernel_rfl) (by kernel_rfl) ?_
                refine Ops.seg' 1 4 (by kernel_rfl) ?_
                refine Ops.done (by kernel_rfl) ?_
                refine seqQ.n ?_
                refine Wp.seq' (by kernel_rfl) ?_
                refine Wp.region (by kernel_rfl) ?_
                refine Ops.seg' 3 3 (by kernel_rfl) ?_
                have J35j113 : ∀ (d109 d110 : D) (v111 : Bool) (v112 : Bool), f35_r4 m v96 v106 v112 = some sx104 → Ops (X35 n) (opl (cL (cR (cL (cL (cR (cL (cL (cR (cL (cR (cR C35)))))))))))) 6 ⟨(.v (.str a0)) :: q1 ((dB false) :: (dI v96) :: (.v (.int .u8 v106)) :: q18 ((dI v96) :: (.v (.str a0)) :: (dI ((a0.size : Int))) :: (dB (decide (v96 < (a0.size : Int)))) :: q2 ((.v (.str a0)) :: (dI v96) :: (.v (.int .u8 v106)) :: (.v (.int .u8 v106)) :: (dB v111) :: (dB v111) :: d109 :: d110 :: (dB v112) :: q17 []))), []⟩ ((seqQ (X35 n) (cR (cR (cL (cL (cR (cL (cL (cR (cL (cR (cR C35))))))))))) (blkQ (X35 n) 1 [0, 2, 3] 0 (seqQ (X35 n) (cR (cR (cL (cL (cR (cL (cR (cR C35)))))))) (lpQ (X35 n) [0, 2, 3] 0 (cL (cL (cR (cL (cR (cR C35)))))) nx99 (blkQ (X35 n) 0 [2] 0 (seqQ (X35 n) (cR (cR (cR C35))) (fnQ (X35 n).E.T (resOf Proofs.Tryd.prog 35) (eB o)))))))) .normal) := by
                  intro d109 d110 v111 v112 h
                  unfold f35_r4 at h
                  refine Ops.seg' 1 7 (by kernel_rfl) ?_
                  have J35j124 : ∀ (d116 d117 d118 d119 d120 d121 : D) (v122 : Bool) (v123 : Bool), f35_r3 m v96 v106 v123 = some sx104 → Ops (X35 n) (opl (cL (cR (cL (cL (cR (cL (cL (cR (cL (cR (cR C35)))))))))))) 14 ⟨(.v (.str a0)) :: q1 ((dB false) :: (dI v96) :: (.v (.int .u8 v106)) :: q18 ((dI v96) :: (.v (.str a0)) :: (dI ((a0.size : Int))) :: (dB (decide (v96 < (a0.size : Int)))) :: q2 ((.v (.str a0)) :: (dI v96) :: (.v (.int .u8 v106)) :: (.v (.int .u8 v106)) :: (dB v111) :: (dB v111) :: d109 :: d110 :: (dB v122) :: (dB v122) :: d116 :: d117 :: d118 :: d119 :: d120 :: d121 :: (dB v123) :: q9 []))), []⟩ ((seqQ (X35 n) (cR (cR (cL (cL (cR (cL (cL (cR (cL (cR (cR C35))))))))))) (blkQ (X35 n) 1 [0, 2, 3] 0 (seqQ (X35 n) (cR (cR (cL (cL (cR (cL (cR (cR C35)))))))) (lpQ (X35 n) [0, 2, 3] 0 (cL (cL (cR (cL (cR (cR C35)))))) nx99 (blkQ (X35 n) 0 [2] 0 (seqQ (X35 n) (cR (cR (cR C35))) (fnQ (X35 n).E.T (resOf Proofs.Tryd.prog 35) (eB o)))))))) .normal) := by
                    intro d116 d117 d118 d119 d120 d121 v122 v123 h
                    unfold f35_r3 at h
                    refine Ops.seg' 1 15 (by kernel_rfl) ?_
                    have J35j131 : ∀ (d127 d128 : D) (v129 : Bool) (v130 : Bool), f35_r2 m v96 v106 v130 = some sx104 → Ops (X35 n) (opl (cL (cR (cL (cL (cR (cL (cL (cR (cL (cR (cR C35)))))))))))) 18 ⟨(.v (.str a0)) :: q1 ((dB false) :: (dI v96) :: (.v (.int .u8 v106)) :: q18 ((dI v96) :: (.v (.str a0)) :: (dI ((a0.size : Int))) :: (dB (decide (v96 < (a0.size : Int)))) :: q2 ((.v (.str a0)) :: (dI v96) :: (.v (.int .u8 v106)) :: (.v (.int .u8 v106)) :: (dB v111) :: (dB v111) :: d109 :: d110 :: (dB v122) :: (dB v122) :: d116 :: d117 :: d118 :: d119 :: d120 :: d121 :: (dB v129) :: (dB v129) :: d127 :: d128 :: (dB v130) :: q5 []))), []⟩ ((seqQ (X35 n) (cR (cR (cL (cL (cR (cL (cL (cR (cL (cR (cR C35))))))))))) (blkQ (X35 n) 1 [0, 2, 3] 0 (seqQ (X35 n) (cR (cR (cL (cL (cR (cL (cR (cR C35)))))))) (lpQ (X35 n) [0, 2, 3] 0 (cL (cL (cR (cL (cR (cR C35)))))) nx99 (blkQ (X35 n) 0 [2] 0 (seqQ (X35 n) (cR (cR (cR C35))) (fnQ (X35 n).E.T (resOf Proofs.Tryd.prog 35) (eB o)))))))) .normal) := by
                      intro d127 d128 v129 v130 h
                      unfold f35_r2 at h
                      refine Ops.seg' 1 19 (by kernel_rfl) ?_
                      have J35j138 : ∀ (d134 d135 : D) (v136 : Bool) (v137 : Bool), f35_r1 m v96 v137 = some sx104 → Ops (X35 n) (opl (cL (cR (cL (cL (cR (cL (cL (cR (cL (cR (cR C35)))))))))))) 22 ⟨(.v (.str a0)) :: q1 ((dB false) :: (dI v96) :: (.v (.int .u8 v106)) :: q18 ((dI v96) :: (.v (.str a0)) :: (dI ((a0.size : Int))) :: (dB (decide (v96 < (a0.size : Int)))) :: q2 ((.v (.str a0)) :: (dI v96) :: (.v (.int .u8 v106)) :: (.v (.int .u8 v106)) :: (dB v111) :: (dB v111) :: d109 :: d110 :: (dB v122) :: (dB v122) :: d116 :: d117 :: d118 :: d119 :: d120 :: d121 :: (dB v129) :: (dB v129) :: d127 :: d128 :: (dB v136) :: (dB v136) :: d134 :: d135 :: (dB v137) :: q1 []))), []⟩ ((seqQ (X35 n) (cR (cR (cL (cL (cR (cL (cL (cR (cL (cR (cR C35))))))))))) (blkQ (X35 n) 1 [0, 2, 3] 0 (seqQ (X35 n) (cR (cR (cL (cL (cR (cL (cR (cR C35)))))))) (lpQ (X35 n) [0, 2, 3] 0 (cL (cL (cR (cL (cR (cR C35)))))) nx99 (blkQ (X35 n) 0 [2] 0 (seqQ (X35 n) (cR (cR (cR C35))) (fnQ (X35 n).E.T (resOf Proofs.Tryd.prog 35) (eB o)))))))) .normal) := by
                        intro d134 d135 v136 v137 h
                        unfold f35_r1 at h
                        refine Ops.seg' 1 23 (by kernel_rfl) ?_
                        refine Ops.done (by kernel_rfl) ?_
                        refine seqQ.n ?_
                        refine Wp.cnd h [0, 2, 3] 0 (by kernel_rfl) (fun h => ?_) (fun h => ?_)
                        · refine Wp.seq' (by kernel_rfl) ?_
                          refine Wp.region (by kernel_rfl) ?_
                          refine Ops.seg' 1 1 (by kernel_rfl) ?_
                          refine Ops.done (by kernel_rfl) ?_
                          refine seqQ.n ?_
                          refine Wp.ret (by kernel_rfl) ?_
                          refine sqQ.r ?_
                          refine blkQ.r ?_
                          refine seqQ.r ?_
                          cases h
                          refine lpQ.r ?_
                          refine blkQ.r ?_
                          exact hrx101 _ hsx105 _ (RetOk.forget [0, 2, 3] (by kernel_rfl) (RetOk.mk' (dB false) (by kernel_rfl) (by kernel_rfl)))
                        · refine Wp.skip (by kernel_rfl) ?_
                          refine sqQ.n' ?_
                          refine blkQ.n' ?_
                          refine seqQ.n ?_
                          refine Wp.region (by kernel_rfl) ?_
                          refine Ops.seg' 3 3 (by kernel_rfl) ?_
                          refine Ops.done (by kernel_rfl) ?_
                          refine lpQ.n ⟨(.v (.str a0)) :: q1 ((dB false) :: (dI (w64 (v96 + 1))) :: q40 (q11 [])), []⟩ (by kernel_rfl) ?_
                          cases h
                          exact ihx100 (w64 (v96 + 1))  _ hsx105 _ (by omega) hrx101 hxx102
                      have G35g133 : ∀ v132 : Bool, f35_r1 m v96 ((v132 || (v106 == 45))) = some sx104 → Ops (X35 n) (opl (cL (cR (cL (cL (cR (cL (cL (cR (cL (cR (cR C35)))))))))))) 19 ⟨(.v (.str a0)) :: q1 ((dB false) :: (dI v96) :: (.v (.int .u8 v106)) :: q18 ((dI v96) :: (.v (.str a0)) :: (dI ((a0.size : Int))) :: (dB (decide (v96 < (a0.size : Int)))) :: q2 ((.v (.str a0)) :: (dI v96) :: (.v (.int .u8 v106)) :: (.v (.int .u8 v106)) :: (dB v111) :: (dB v111) :: d109 :: d110 :: (dB v122) :: (dB v122) :: d116 :: d117 :: d118 :: d119 :: d120 :: d121 :: (dB v129) :: (dB v129) :: d127 :: d128 :: (dB v132) :: (dB v132) :: q4 []))), []⟩ ((seqQ (X35 n) (cR (cR (cL (cL (cR (cL (cL (cR (cL (cR (cR C35))))))))))) (blkQ (X35 n) 1 [0, 2, 3] 0 (seqQ (X35 n) (cR (cR (cL (cL (cR (cL (cR (cR C35)))))))) (lpQ (X35 n) [0, 2, 3] 0 (cL (cL (cR (cL (cR (cR C35)))))) nx99 (blkQ (X35 n) 0 [2] 0 (seqQ (X35 n) (cR (cR (cR C35))) (fnQ (X35 n).E.T (resOf Proofs.Tryd.prog 35) (eB o)))))))) .normal) := by
                        intro v132 h
                        cases v132
                        · refine Ops.seg' 3 22 (by kernel_rfl) ?_
                          refine Ops.st ⟨(.v (.str a0)) :: q1 ((dB false) :: (dI v96) :: (.v (.int .u8 v106)) :: q18 ((dI v96) :: (.v (.str a0)) :: (dI ((a0.size : Int))) :: (dB (decide (v96 < (a0.size : Int)))) :: q2 ((.v (.str a0)) :: (dI v96) :: (.v (.int .u8 v106)) :: (.v (.int .u8 v106)) :: (dB v111) :: (dB v111) :: d109 :: d110 :: (dB v122) :: (dB v122) :: d116 :: d117 :: d118 :: d119 :: d120 :: d121 :: (dB v129) :: (dB v129) :: d127 :: d128 :: (dB false) :: (dB false) :: (.v (.int .u8 v106)) :: (dB (v106 == 45)) :: (dB (v106 == 45)) :: q1 []))), []⟩ (by kernel_rfl) ?_
                          exact J35j138 _ _ _ _ h
                        · refine Ops.seg' 3 22 (by kernel_rfl) ?_
                          refine Ops.st ⟨(.v (.str a0)) :: q1 ((dB false) :: (dI v96) :: (.v (.int .u8 v106)) :: q18 ((dI v96) :: (.v (.str a0)) :: (dI ((a0.size : Int))) :: (dB (decide (v96 < (a0.size : Int)))) :: q2 ((.v (.str a0)) :: (dI v96) :: (.v (.int .u8 v106)) :: (.v (.int .u8 v106)) :: (dB v111) :: (dB v111) :: d109 :: d110 :: (dB v122) :: (dB v122) :: d116 :: d117 :: d118 :: d119 :: d120 :: d121 :: (dB v129) :: (dB v129) :: d127 :: d128 :: (dB true) :: (dB true) :: u2 ((dB true) :: q1 [])))), []⟩ (by kernel_rfl) ?_
                          exact J35j138 _ _ _ _ h
                      exact Ops.st ⟨(.v (.str a0)) :: q1 ((dB false) :: (dI v96) :: (.v (.int .u8 v106)) :: q18 ((dI v96) :: (.v (.str a0)) :: (dI ((a0.size : Int))) :: (dB (decide (v96 < (a0.size : Int)))) :: q2 ((.v (.str a0)) :: (dI v96) :: (.v (.int .u8 v106)) :: (.v (.int .u8 v106)) :: (dB v111) :: (dB v111) :: d109 :: d110 :: (dB v122) :: (dB v122) :: d116 :: d117 :: d118 :: d119 :: d120 :: d121 :: (dB v129) :: (dB v129) :: d127 :: d128 :: (dB v130) :: (dB v130) :: q4 []))), []⟩ (by kernel_rfl) (G35g133 v130 h)
                    have G35g126 : ∀ v125 : Bool, f35_r2 m v96 v106 ((v125 || (v106 == 95))) = some sx104 → Ops (X35 n) (opl (cL (cR (cL (cL (cR (cL (cL (cR (cL (cR (cR C35)))))))))))) 15 ⟨(.v (.str a0)) :: q1 ((dB false) :: (dI v96) :: (.v (.int .u8 v106)) :: q18 ((dI v96) :: (.v (.str a0)) :: (dI ((a0.size : Int))) :: (dB (decide (v96 < (a0.size : Int)))) :: q2 ((.v (.str a0)) :: (dI v96) :: (.v (.int .u8 v106)) :: (.v (.int .u8 v106)) :: (dB v111) :: (dB v111) :: d109 :: d110 :: (dB v122) :: (dB v122) :: d116 :: d117 :: d118 :: d119 :: d120 :: d121 :: (dB v125) :: (dB v125) :: q8 []))), []⟩ ((seqQ (X35 n) (cR (cR (cL (cL (cR (cL (cL (cR (cL (cR (cR C35))))))))))) (blkQ (X35 n) 1 [0, 2, 3] 0 (seqQ (X35 n) (cR (cR (cL (cL (cR (cL (cR (cR C35)))))))) (lpQ (X35 n) [0, 2, 3] 0 (cL (cL (cR (cL (cR (cR C35)))))) nx99 (blkQ (X35 n) 0 [2] 0 (seqQ (X35 n) (cR (cR (cR C35))) (fnQ (X35 n).E.T (resOf Proofs.Tryd.prog 35) (eB o)))))))) .normal) := by
                      intro v125 h
                      cases v125
                      · refine Ops.seg' 3 18 (by kernel_rfl) ?_
                        refine Ops.st ⟨(.v (.str a0)) :: q1 ((dB false) :: (dI v96) :: (.v (.int .u8 v106)) :: q18 ((dI v96) :: (.v (.str a0)) :: (dI ((a0.size : Int))) :: (dB (decide (v96 < (a0.size : Int)))) :: q2 ((.v (.str a0)) :: (dI v96) :: (.v (.int .u8 v106)) :: (.v (.int .u8 v106)) :: (dB v111) :: (dB v111) :: d109 :: d110 :: (dB v122) :: (dB v122) :: d116 :: d117 :: d118 :: d119 :: d120 :: d121 :: (dB false) :: (dB false) :: (.v (.int .u8 v106)) :: (dB (v106 == 95)) :: (dB (v106 == 95)) :: q5 []))), []⟩ (by kernel_rfl) ?_
                        exact J35j131 _ _ _ _ h
                      · refine Ops.seg' 3 18 (by kernel_rfl) ?_
                        refine Ops.st ⟨(.v (.str a0)) :: q1 ((dB false) :: (dI v96) :: (.v (.int .u8 v106)) :: q18 ((dI v96) :: (.v (.str a0)) :: (dI ((a0.size : Int))) :: (dB (decide (v96 < (a0.size : Int)))) :: q2 ((.v (.str a0)) :: (dI v96) :: (.v (.int .u8 v106)) :: (.v (.int .u8 v106)) :: (dB v111) :: (dB v111) :: d109 :: d110 :: (dB v122) :: (dB v122) :: d116 :: d117 :: d118 :: d119 :: d120 :: d121 :: (dB true) :: (dB true) :: u2 ((dB true) :: q5 [])))), []⟩ (by kernel_rfl) ?_
                        exact J35j131 _ _ _ _ h
                    exact Ops.st ⟨(.v (.str a0)) :: q1 ((dB false) :: (dI v96) :: (.v (.int .u8 v106)) :: q18 ((dI v96) :: (.v (.str a0)) :: (dI ((a0.size : Int))) :: (dB (decide (v96 < (a0.size : Int)))) :: q2 ((.v (.str a0)) :: (dI v96) :: (.v (.int .u8 v106)) :: (.v (.int .u8 v106)) :: (dB v111) :: (dB v111) :: d109 :: d110 :: (dB v122) :: (dB v122) :: d116 :: d117 :: d118 :: d119 :: d120 :: d121 :: (dB v123) :: (dB v123) :: q8 []))), []⟩ (by kernel_rfl) (G35g126 v123 h)
                  have G35g115 : ∀ v114 : Bool, f35_r3 m v96 v106 ((v114 || (((decide (v106 ≥ 48)) && (decide (v106 ≤ 57)))))) = some sx104 → Ops (X35 n) (opl (cL (cR (cL (cL (cR (cL (cL (cR (cL (cR (cR C35)))))))))))) 7 ⟨(.v (.str a0)) :: q1 ((dB false) :: (dI v96) :: (.v (.int .u8 v106)) :: q18 ((dI v96) :: (.v (.str a0)) :: (dI ((a0.size : Int))) :: (dB (decide (v96 < (a0.size : Int)))) :: q2 ((.v (.str a0)) :: (dI v96) :: (.v (.int .u8 v106)) :: (.v (.int .u8 v106)) :: (dB v111) :: (dB v111) :: d109 :: d110 :: (dB v114) :: (dB v114) :: q16 []))), []⟩ ((seqQ (X35 n) (cR (cR (cL (cL (cR (cL (cL (cR (cL (cR (cR C35))))))))))) (blkQ (X35 n) 1 [0, 2, 3] 0 (seqQ (X35 n) (cR (cR (cL (cL (cR (cL (cR (cR C35)))))))) (lpQ (X35 n) [0, 2, 3] 0 (cL (cL (cR (cL (cR (cR C35)))))) nx99 (blkQ (X35 n) 0 [2] 0 (seqQ (X35 n) (cR (cR (cR C35))) (fnQ (X35 n).E.T (resOf Proofs.Tryd.prog 35) (eB o)))))))) .normal) := by
                    intro v114 h
                    cases v114
                    · refine Ops.seg' 3 10 (by kernel_rfl) ?_
                      have G35g140 : ∀ v139 : Bool, (f35_r3 m v96 v106 ((false || ((v139 && (decide (v106 ≤ 57))))))) = some sx104 → Ops (X35 n) (opl (cL (cR (cL (cL (cR (cL (cL (cR (cL (cR (cR C35)))))))))))) 10 ⟨(.v (.str a0)) :: q1 ((dB false) :: (dI v96) :: (.v (.int .u8 v106)) :: q18 ((dI v96) :: (.v (.str a0)) :: (dI ((a0.size : Int))) :: (dB (decide (v96 < (a0.size : Int)))) :: q2 ((.v (.str a0)) :: (dI v96) :: (.v (.int .u8 v106)) :: (.v (.int .u8 v106)) :: (dB v111) :: (dB v111) :: d109 :: d110 :: (dB false) :: (dB false) :: (.v (.int .u8 v106)) :: (dB v139) :: (dB v139) :: q13 []))), []⟩ ((seqQ (X35 n) (cR (cR (cL (cL (cR (cL (cL (cR (cL (cR (cR C35))))))))))) (blkQ (X35 n) 1 [0, 2, 3] 0 (seqQ (X35 n) (cR (cR (cL (cL (cR (cL (cR (cR C35)))))))) (lpQ (X35 n) [0, 2, 3] 0 (cL (cL (cR (cL (cR (cR C35)))))) nx99 (blkQ (X35 n) 0 [2] 0 (seqQ (X35 n) (cR (cR (cR C35))) (fnQ (X35 n).E.T (resOf Proofs.Tryd.prog 35) (eB o)))))))) .normal) := by
                        intro v139 h
                        cases v139
                        · refine Ops.seg' 4 14 (by kernel_rfl) ?_
                          refine Ops.st ⟨(.v (.str a0)) :: q1 ((dB false) :: (dI v96) :: (.v (.int .u8 v106)) :: q18 ((dI v96) :: (.v (.str a0)) :: (dI ((a0.size : Int))) :: (dB (decide (v96 < (a0.size : Int)))) :: q2 ((.v (.str a0)) :: (dI v96) :: (.v (.int .u8 v106)) :: (.v (.int .u8 v106)) :: (dB v111) :: (dB v111) :: d109 :: d110 :: (dB false) :: (dB false) :: (.v (.int .u8 v106)) :: (dB false) :: (dB false) :: u2 ((dB false) :: (dB false) :: q9 [])))), []⟩ (by kernel_rfl) ?_
                          exact J35j124 _ _ _ _ _ _ _ _ h
                        · refine Ops.seg' 4 14 (by kernel_rfl) ?_
                          refine Ops.st ⟨(.v (.str a0)) :: q1 ((dB false) :: (dI v96) :: (.v (.int .u8 v106)) :: q18 ((dI v96) :: (.v (.str a0)) :: (dI ((a0.size : Int))) :: (dB (decide (v96 < (a0.size : Int)))) :: q2 ((.v (.str a0)) :: (dI v96) :: (.v (.int .u8 v106)) :: (.v (.int .u8 v106)) :: (dB v111) :: (dB v111) :: d109 :: d110 :: (dB false) :: (dB false) :: (.v (.int .u8 v106)) :: (dB true) :: (dB true) :: (.v (.int .u8 v106)) :: (dB (decide (v106 ≤ 57))) :: (dB (decide (v106 ≤ 57))) :: (dB (decide (v106 ≤ 57))) :: q9 []))), []⟩ (by kernel_rfl) ?_
                          exact J35j124 _ _ _ _ _ _ _ _ h
                      exact Ops.st ⟨(.v (.str a0)) :: q1 ((dB false) :: (dI v96) :: (.v (.int .u8 v106)) :: q18 ((dI v96) :: (.v (.str a0)) :: (dI ((a0.size : Int))) :: (dB (decide (v96 < (a0.size : Int)))) :: q2 ((.v (.str a0)) :: (dI v96) :: (.v (.int .u8 v106)) :: (.v (.int .u8 v106)) :: (dB v111) :: (dB v111) :: d109 :: d110 :: (dB false) :: (dB false) :: (.v (.int .u8 v106)) :: (dB ((decide (v106 ≥ 48)))) :: (dB ((decide (v106 ≥ 48)))) :: q13 []))), []⟩ (by kernel_rfl) (G35g140 (decide (v106 ≥ 48)) h)
                    · refine Ops.seg' 7 14 (by kernel_rfl) ?_
                      refine Ops.st ⟨(.v (.str a0)) :: q1 ((dB false) :: (dI v96) :: (.v (.int .u8 v106)) :: q18 ((dI v96) :: (.v (.str a0)) :: (dI ((a0.size : Int))) :: (dB (decide (v96 < (a0.size : Int)))) :: q2 ((.v (.str a0)) :: (dI v96) :: (.v (.int .u8 v106)) :: (.v (.int .u8 v106)) :: (dB v111) :: (dB v111) :: d109 :: d110 :: (dB true) :: (dB true) :: u6 ((dB true) :: q9 [])))), []⟩ (by kernel_rfl) ?_
                      exact J35j124 _ _ _ _ _ _ _ _ h
                  exact Ops.st ⟨(.v (.str a0)) :: q1 ((dB false) :: (dI v96) :: (.v (.int .u8 v106)) :: q18 ((dI v96) :: (.v (.str a0)) :: (dI ((a0.size : Int))) :: (dB (decide (v96 < (a0.size : Int)))) :: q2 ((.v (.str a0)) :: (dI v96) :: (.v (.int .u8 v106)) :: (.v (.int .u8 v106)) :: (dB v111) :: (dB v111) :: d109 :: d110 :: (dB v112) :: (dB v112) :: q16 []))), []⟩ (by kernel_rfl) (G35g115 v112 h)
                have G35g108 : ∀ v107 : Bool, f35_r4 m v96 v106 ((v107 && (decide (v106 ≤ 122)))) = some sx104 → Ops (X35 n) (opl (cL (cR (cL (cL (cR (cL (cL (cR (cL (cR (cR C35)))))))))))) 3 ⟨(.v (.str a0)) :: q1 ((dB false) :: (dI v96) :: (.v (.int .u8 v106)) :: q18 ((dI v96) :: (.v (.str a0)) :: (dI ((a0.size : Int))) :: (dB (decide (v96 < (a0.size : Int)))) :: q2 ((.v (.str a0)) :: (dI v96) :: (.v (.int .u8 v106)) :: (.v (.int .u8 v106)) :: (dB v107) :: (dB v107) :: q20 []))), []⟩ ((seqQ (X35 n) (cR (cR (cL (cL (cR (cL (cL (cR (cL (cR (cR C35))))))))))) (blkQ (X35 n) 1 [0, 2, 3] 0 (seqQ (X35 n) (cR (cR (cL (cL (cR (cL (cR (cR C35)))))))) (lpQ (X35 n) [0, 2, 3] 0 (cL (cL (cR (cL (cR (cR C35)))))) nx99 (blkQ (X35 n) 0 [2] 0 (seqQ (X35 n) (cR (cR (cR C35))) (fnQ (X35 n).E.T (resOf Proofs.Tryd.prog 35) (eB o)))))))) .normal) := by
                  intro v107 h
                  cases v107
                  · refine Ops.seg' 3 6 (by kernel_rfl) ?_
                    refine Ops.st ⟨(.v (.str a0)) :: q1 ((dB false) :: (dI v96) :: (.v (.int .u8 v106)) :: q18 ((dI v96) :: (.v (.str a0)) :: (dI ((a0.size : Int))) :: (dB (decide (v96 < (a0.size : Int)))) :: q2 ((.v (.str a0)) :: (dI v96) :: (.v (.int .u8 v106)) :: (.v (.int .u8 v106)) :: (dB false) :: (dB false) :: u2 ((dB false) :: q17 [])))), []⟩ (by kernel_rfl) ?_
                    exact J35j113 _ _ _ _ h
                  · refine Ops.seg' 3 6 (by kernel_rfl) ?_
                    refine Ops.st ⟨(.v (.str a0)) :: q1 ((dB false) :: (dI v96) :: (.v (.int .u8 v106)) :: q18 ((dI v96) :: (.v (.str a0)) :: (dI ((a0.size : Int))) :: (dB (decide (v96 < (a0.size : Int)))) :: q2 ((.v (.str a0)) :: (dI v96) :: (.v (.int .u8 v106)) :: (.v (.int .u8 v106)) :: (dB true) :: (dB true) :: (.v (.int .u8 v106)) :: (dB (decide (v106 ≤ 122))) :: (dB (decide (v106 ≤ 122))) :: q17 []))), []⟩ (by kernel_rfl) ?_
                    exact J35j113 _ _ _ _ h
                exact Ops.st ⟨(.v (.str a0)) :: q1 ((dB false) :: (dI v96) :: (.v (.int .u8 v106)) :: q18 ((dI v96) :: (.v (.str a0)) :: (dI ((a0.size : Int))) :: (dB (decide (v96 < (a0.size : Int)))) :: q2 ((.v (.str a0)) :: (dI v96) :: (.v (.int .u8 v106)) :: (.v (.int .u8 v106)) :: (dB ((decide (v106 ≥ 97)))) :: (dB ((decide (v106 ≥ 97)))) :: q20 []))), []⟩ (by kernel_rfl) (G35g108 (decide (v106 ≥ 97)) h)
              · refine Wp.exit (id := 0) (by kernel_rfl) ?_
                refine sqQ.x ?_
                refine seqQ.x ?_
                cases h
                refine lpQ.x ?_
                refine blkQ.x ⟨(.v (.str a0)) :: q1 ((dB false) :: (dI v96) :: q40 (q11 [])), []⟩ (by kernel_rfl) ?_
                exact hxx102 v96  hsx105
          refine Wp.loop' [0, 2, 3] 0 (by kernel_rfl) ⟨(.v (.str a0)) :: q1 ((dB false) :: (dI 0) :: q40 (q11 [])), []⟩ (by kernel_rfl) ?_
          rcases brk_some h with ⟨r143, er143, h⟩ | ⟨y142, ey142, h⟩
          · refine hLx141 _ 0  _ er143 n (by omega) (fun r er σ hσ => ?_) (fun y  ey => by cases ey)
            cases er
            refine seqQ.r ?_
            exact fnQ.r' (X35 n) (fun z => (eB z)) h hσ
          · refine hLx141 _ 0  _ ey142 n (by omega) (fun r er => by cases er) (fun y  ey => ?_)
            cases ey
            refine seqQ.n ?_
            refine Wp.seq' (by kernel_rfl) ?_
            refine Wp.region (by kernel_rfl) ?_
            refine Ops.seg' 1 1 (by kernel_rfl) ?_
            refine Ops.done (by kernel_rfl) ?_
            refine seqQ.n ?_
            refine Wp.ret (by kernel_rfl) ?_
            exact fnQ.r' (X35 n) (fun z => (eB z)) h (RetOk.mk' (dB true) (by kernel_rfl) (by kernel_rfl))
      obtain ⟨v23, ev23, h⟩ := bnd_some h
      have G35g18 : ∀ v17 : Bool, (cnd v17 (some true) (bnd (sidx a0 0) fun v144 => some (decide (v144 > 122)))) = some v23 → Ops (X35 n) (opl (cL (cL (cR C35)))) 14 ⟨(.v (.str a0)) :: u1 ((dB false) :: u2 ((.v (.str a0)) :: (dI ((a0.size : Int))) :: (dB v6) :: (dB v6) :: d3 :: d4 :: d5 :: (dB v14) :: (dB v14) :: d11 :: d12 :: d13 :: (dB v17) :: (dB v17) :: u36 [])), []⟩ ((seqQ (X35 n) (cR (cL (cR C35))) (seqQ (X35 n) (cR (cR C35)) (fnQ (X35 n).E.T (resOf Proofs.Tryd.prog 35) (eB o)))) .normal) := by
        intro v17 ev23
        cases v17
        · have ev23 := cnd_f ev23
          refine Ops.seg' 1 15 (by kernel_rfl) ?_
          obtain ⟨v144, ev144, ev23⟩ := bnd_some ev23
          refine Ops.one' 16 (fun h0 e0 => (str_ix (T := T) h0 9 a0 0 v144 ev144 (by kernel_rfl))) (by kernel_rfl) (by kernel_rfl) ?_
          refine Ops.seg' 2 18 (by kernel_rfl) ?_
          refine Ops.st ⟨(.v (.str a0)) :: u1 ((dB false) :: u2 ((.v (.str a0)) :: (dI ((a0.size : Int))) :: (dB v6) :: (dB v6) :: d3 :: d4 :: d5 :: (dB v14) :: (dB v14) :: d11 :: d12 :: d13 :: (dB false) :: (dB false) :: (.v (.str a0)) :: (.v (.int .u8 v144)) :: (dB (decide (v144 > 122))) :: (dB (decide (v144 > 122))) :: u32 [])), []⟩ (by kernel_rfl) ?_
          exact J35j24 _ _ _ _ _ (some_sub (fun v23 => f35_r6 m a0 v23 = some o) ev23 h)
        · have ev23 := cnd_t ev23
          refine Ops.seg' 4 18 (by kernel_rfl) ?_
          refine Ops.st ⟨(.v (.str a0)) :: u1 ((dB false) :: u2 ((.v (.str a0)) :: (dI ((a0.size : Int))) :: (dB v6) :: (dB v6) :: d3 :: d4 :: d5 :: (dB v14) :: (dB v14) :: d11 :: d12 :: d13 :: (dB true) :: (dB true) :: u3 ((dB true) :: u32 []))), []⟩ (by kernel_rfl) ?_
          exact J35j24 _ _ _ _ _ (some_sub (fun v23 => f35_r6 m a0 v23 = some o) ev23 h)
      exact Ops.st ⟨(.v (.str a0)) :: u1 ((dB false) :: u2 ((.v (.str a0)) :: (dI ((a0.size : Int))) :: (dB v6) :: (dB v6) :: d3 :: d4 :: d5 :: (dB v14) :: (dB v14) :: d11 :: d12 :: d13 :: (dB v15) :: (dB v15) :: u36 [])), []⟩ (by kernel_rfl) (G35g18 v15 ev23)
    obtain ⟨v15, ev15, h⟩ := bnd_some h
    have G35g10 : ∀ v9 : Bool, (cnd v9 (some true) (bnd (sidx a0 0) fun v145 => some (decide (v145 < 97)))) = some v15 → Ops (X35 n) (opl (cL (cL (cR C35)))) 9 ⟨(.v (.str a0)) :: u1 ((dB false) :: u2 ((.v (.str a0)) :: (dI ((a0.size : Int))) :: (dB v6) :: (dB v6) :: d3 :: d4 :: d5 :: (dB v9) :: (dB v9) :: u40 (u1 []))), []⟩ ((seqQ (X35 n) (cR (cL (cR C35))) (seqQ (X35 n) (cR (cR C35)) (fnQ (X35 n).E.T (resOf Proofs.Tryd.prog 35) (eB o)))) .normal) := by
      intro v9 ev15
      cases v9
      · have ev15 := cnd_f ev15
        refine Ops.seg' 1 10 (by kernel_rfl) ?_
        obtain ⟨v145, ev145, ev15⟩ := bnd_some ev15
        refine Ops.one' 11 (fun h0 e0 => (str_ix (T := T) h0 9 a0 0 v145 ev145 (by kernel_rfl))) (by kernel_rfl) (by kernel_rfl) ?_
        refine Ops.seg' 2 13 (by kernel_rfl) ?_
        refine Ops.st ⟨(.v (.str a0)) :: u1 ((dB false) :: u2 ((.v (.str a0)) :: (dI ((a0.size : Int))) :: (dB v6) :: (dB v6) :: d3 :: d4 :: d5 :: (dB false) :: (dB false) :: (.v (.str a0)) :: (.v (.int .u8 v145)) :: (dB (decide (v145 < 97))) :: (dB (decide (v145 < 97))) :: u37 [])), []⟩ (by kernel_rfl) ?_
        exact J35j16 _ _ _ _ _ (some_sub (fun v15 => f35_r7 m a0 v15 = some o) ev15 h)
      · have ev15 := cnd_t ev15
        refine Ops.seg' 4 13 (by kernel_rfl) ?_
        refine Ops.st ⟨(.v (.str a0)) :: u1 ((dB false) :: u2 ((.v (.str a0)) :: (dI ((a0.size : Int))) :: (dB v6) :: (dB v6) :: d3 :: d4 :: d5 :: (dB true) :: (dB true) :: u3 ((dB true) :: u37 []))), []⟩ (by kernel_rfl) ?_
        exact J35j16 _ _ _ _ _ (some_sub (fun v15 => f35_r7 m a0 v15 = some o) ev15 h)
    exact Ops.st ⟨(.v (.str a0)) :: u1 ((dB false) :: u2 ((.v (.str a0)) :: (dI ((a0.size : Int))) :: (dB v6) :: (dB v6) :: d3 :: d4 :: d5 :: (dB v7) :: (dB v7) :: u40 (u1 []))), []⟩ (by kernel_rfl) (G35g10 v7 ev15)
  have G35g2 : ∀ v1 : Bool, f35_r8 m a0 ((v1 || (decide ((a0.size : Int) > 30)))) = some o → Ops (X35 n) (opl (cL (cL (cR C35)))) 4 ⟨(.v (.str a0)) :: u1 ((dB false) :: u2 ((.v (.str a0)) :: (dI ((a0.size : Int))) :: (dB v1) :: (dB v1) :: u40 (u6 []))), []⟩ ((seqQ (X35 n) (cR (cL (cR C35))) (seqQ (X35 n) (cR (cR C35)) (fnQ (X35 n).E.T (resOf Proofs.Tryd.prog 35) (eB o)))) .normal) := by
    intro v1 h
    cases v1
    · refine Ops.seg' 4 8 (by kernel_rfl) ?_
      refine Ops.st ⟨(.v (.str a0)) :: u1 ((dB false) :: u2 ((.v (.str a0)) :: (dI ((a0.size : Int))) :: (dB false) :: (dB false) :: (.v (.str a0)) :: (dI ((a0.size : Int))) :: (dB (decide ((a0.size : Int) > 30))) :: (dB (decide ((a0.size : Int) > 30))) :: u40 (u2 []))), []⟩ (by kernel_rfl) ?_
      exact J35j8 _ _ _ _ _ h
    · refine Ops.seg' 4 8 (by kernel_rfl) ?_
      refine Ops.st ⟨(.v (.str a0)) :: u1 ((dB false) :: u2 ((.v (.str a0)) :: (dI ((a0.size : Int))) :: (dB true) :: (dB true) :: u3 ((dB true) :: u40 (u2 [])))), []⟩ (by kernel_rfl) ?_
      exact J35j8 _ _ _ _ _ h
  exact Ops.st ⟨(.v (.str a0)) :: u1 ((dB false) :: u2 ((.v (.str a0)) :: (dI ((a0.size : Int))) :: (dB ((((a0.size : Int)) == 0))) :: (dB ((((a0.size : Int)) == 0))) :: u40 (u6 []))), []⟩ (by kernel_rfl) (G35g2 (((a0.size : Int)) == 0) h)

/-! ### 36 glosswright/glosswrightref6.fault -/
def f36 (m : Nat) (a0 : Int) (a1 : Int) : Option S27 :=
  some ((⟨a0, a1⟩ : S27))
noncomputable abbrev X36 (n : Nat) : Cx := cxOf Proofs.Tryd.prog E 36 n
noncomputable def C36 : Code := bodyOf Proofs.Tryd.prog 36
theorem ok36 (m : Nat) (a0 : Int) (a1 : Int) (o : S27) (h : f36 m a0 a1 = some o) (n : Nat) (hn : m + 1 ≤ n) : Fn Proofs.Tryd.prog E n 36 [.v (eI a0), .v (eI a1)] (e27 o) := by
  obtain ⟨n, rfl⟩ : ∃ q, n = q + 1 := ⟨n - 1, by omega⟩
  unfold f36 at h
  refine Fn.of (by kernel_rfl) (by kernel_rfl) (by kernel_rfl) ⟨(dI a0) :: (dI a1) :: u6 [], []⟩ (by kernel_rfl) ?_
  refine Wp.seq' (by kernel_rfl) ?_
  refine Wp.region (by kernel_rfl) ?_
  refine Ops.seg' 1 1 (by kernel_rfl) ?_
  refine Ops.done (by kernel_rfl) ?_
  refine seqQ.n ?_
  refine Wp.seq' (by kernel_rfl) ?_
  refine Wp.region (by kernel_rfl) ?_
  refine Ops.seg' 4 4 (by kernel_rfl) ?_
  refine Ops.done (by kernel_rfl) ?_
  refine seqQ.n ?_
  refine Wp.ret (by kernel_rfl) ?_
  exact fnQ.r' (X36 n) (fun z => (e27 z)) h (RetOk.mk' (.v (.agg [(vI a0), (vI a1)])) (by kernel_rfl) (by kernel_rfl))

/-! ### 37 glosswright/glosswrightref6.TagsFault -/
def f37_B1 (m : Nat) (a0 : (List ByteArray)) (v6 : Int) : Option (Stp Int (Int)) :=
  cnd (decide (v6 < (a0.length : Int)))
  (bnd (idx a0 v6) fun v16 =>
  bnd (f35 m v16) fun v17 =>
  cnd (!v17)
  (some (.ret 10))
  (some (.nxt (w64 (v6 + 1)))))
  (some (.brk v6))
def f37 (m : Nat) (a0 : (List ByteArray)) (a1 : Int) : Option Int :=
  cnd (decide ((a0.length : Int) > a1))
  (some 2)
  (brk (iter (fun (y : Int) => f37_B1 m a0 y) m 0) some fun y19 =>
  some 0)
noncomputable abbrev X37 (n : Nat) : Cx := cxOf Proofs.Tryd.prog E 37 n
noncomputable def C37 : Code := bodyOf Proofs.Tryd.prog 37
theorem ok37 (m : Nat) (a0 : (List ByteArray)) (a1 : Int) (o : Int) (h : f37 m a0 a1 = some o) (n : Nat) (hn : m + 2 ≤ n) : Fn Proofs.Tryd.prog E n 37 [.v ((eL eS) a0), .v (eI a1)] (eI o) := by
  obtain ⟨n, rfl⟩ : ∃ q, n = q + 1 := ⟨n - 1, by omega⟩
  unfold f37 at h
  refine Fn.of (by kernel_rfl) (by kernel_rfl) (by kernel_rfl) ⟨(dP eS a0) :: (dI a1) :: u19 [], []⟩ (by kernel_rfl) ?_
  refine Wp.seq' (by kernel_rfl) ?_
  refine Wp.region (by kernel_rfl) ?_
  refine Ops.seg' 1 1 (by kernel_rfl) ?_
  refine Ops.done (by kernel_rfl) ?_
  refine seqQ.n ?_
  refine Wp.seq' (by kernel_rfl) ?_
  refine Wp.seq' (by kernel_rfl) ?_
  refine Wp.region (by kernel_rfl) ?_
  refine Ops.seg' 1 1 (by kernel_rfl) ?_
  refine Ops.one' 2 (fun h0 e0 => (len_r (T := T) h0 36 9 .plain eS a0 (by kernel_rfl))) (by kernel_rfl) (by kernel_rfl) ?_
  refine Ops.seg' 2 4 (by kernel_rfl) ?_
  refine Ops.done (by kernel_rfl) ?_
  refine seqQ.n ?_
  refine Wp.cnd h [0, 4] 0 (by kernel_rfl) (fun h => ?_) (fun h => ?_)
  · refine Wp.seq' (by kernel_rfl) ?_
    refine Wp.region (by kernel_rfl) ?_
    refine Ops.seg' 1 1 (by kernel_rfl) ?_
    refine Ops.done (by kernel_rfl) ?_
    refine seqQ.n ?_
    refine Wp.ret (by kernel_rfl) ?_
    refine sqQ.r ?_
    refine seqQ.r ?_
    exact fnQ.r' (X37 n) (fun z => (eI z)) h (RetOk.mk' (dI 2) (by kernel_rfl) (by kernel_rfl))
  · refine Wp.skip (by kernel_rfl) ?_
    refine sqQ.n' ?_
    refine seqQ.n ?_
    refine Wp.seq' (by kernel_rfl) ?_
    refine Wp.seq' (by kernel_rfl) ?_
    refine Wp.region (by kernel_rfl) ?_
    refine Ops.seg' 1 1 (by kernel_rfl) ?_
    refine Ops.one' 2 (fun h0 e0 => (len_r (T := T) h0 36 9 .plain eS a0 (by kernel_rfl))) (by kernel_rfl) (by kernel_rfl) ?_
    refine Ops.seg' 1 3 (by kernel_rfl) ?_
    refine Ops.done (by kernel_rfl) ?_
    refine seqQ.n ?_
    refine Wp.block' 0 [4] 0 (by kernel_rfl) ?_
    have hLx18 : ∀ (kx8 : Nat) (v6 : Int)  (ox7 : Int ⊕ (Int)), iter (fun (y : Int) => f37_B1 m a0 y) kx8 v6 = some ox7 → ∀ nx9, kx8 ≤ nx9 → (∀ r, ox7 = .inl r → ∀ σ, RetOk (X37 n) (resOf Proofs.Tryd.prog 37) (eI r) σ → (seqQ (X37 n) (cR (cR (cR C37))) (fnQ (X37 n).E.T (resOf Proofs.Tryd.prog 37) (eI o))) .ret σ) → (∀ (y : Int) , ox7 = .inr y → (seqQ (X37 n) (cR (cR (cR C37))) (fnQ (X37 n).E.T (resOf Proofs.Tryd.prog 37) (eI o))) .normal ⟨q4 ((dI 0) :: q6 ((dP eS a0) :: (dI ((a0.length : Int))) :: (dI y) :: q7 [])), []⟩) → Lp (X37 n) [4, 11, 12, 13] 0 (cL (cL (cR (cL (cR (cR C37)))))) nx9 ⟨q4 ((dI 0) :: q6 ((dP eS a0) :: (dI ((a0.length : Int))) :: (dI v6) :: q7 [])), []⟩ (blkQ (X37 n) 0 [4] 0 (seqQ (X37 n) (cR (cR (cR C37))) (fnQ (X37 n).E.T (resOf Proofs.Tryd.prog 37) (eI o)))) := by
      intro kx8
      induction kx8 with
      | zero => intro v6  ox7 h; exact (iter_zero h).elim
      | succ kx8 ihx10 =>
        intro v6  ox7 h nx9 hnx13 hrx11 hxx12
        obtain ⟨nx9, rfl⟩ : ∃ q, nx9 = q + 1 := ⟨nx9 - 1, by omega⟩
        obtain ⟨sx14, h, hsx15⟩ := iter_some h
        have h : f37_B1 m a0 v6 = some sx14 := h
        unfold f37_B1 at h
        refine Lp.succ ?_
        refine Wp.seq' (by kernel_rfl) ?_
        refine Wp.region (by kernel_rfl) ?_
        refine Ops.seg' 1 1 (by kernel_rfl) ?_
        refine Ops.done (by kernel_rfl) ?_
        refine seqQ.n ?_
        refine Wp.seq' (by kernel_rfl) ?_
        refine Wp.cnd h [4, 11, 12, 13] 0 (by kernel_rfl) (fun h => ?_) (fun h => ?_)
        · refine Wp.skip (by kernel_rfl) ?_
          refine sqQ.n' ?_
          refine seqQ.n ?_
          refine Wp.seq' (by kernel_rfl) ?_
          refine Wp.block' 1 [4, 11, 12, 13] 0 (by kernel_rfl) ?_
          refine Wp.seq' (by kernel_rfl) ?_
          refine Wp.region (by kernel_rfl) ?_
          obtain ⟨v16, ev16, h⟩ := bnd_some h
          refine Ops.one' 1 (fun h0 e0 => (ix_r (T := T) h0 36 9 1 .plain eS a0 v6 v16 ev16 (by kernel_rfl) (by kernel_rfl) (fun _ => rfl))) (by kernel_rfl) (by kernel_rfl) ?_
          refine Ops.seg' 2 3 (by kernel_rfl) ?_
          refine Ops.done (by kernel_rfl) ?_
          refine seqQ.n ?_
          refine Wp.seq' (by kernel_rfl) ?_
          refine Wp.region (by kernel_rfl) ?_
          refine Ops.seg' 1 1 (by kernel_rfl) ?_
          obtain ⟨v17, ev17, h⟩ := bnd_some h
          refine Ops.one' 2 (fun h0 e0 => (call_ok (E' := E) (h := h0) (by kernel_rfl) (Args.v (.str v16) (eS v16) (by kernel_rfl) Args.nil) (ok35 m v16 v17 ev17 n (by omega)))) (by kernel_rfl) (by kernel_rfl) ?_
          refine Ops.seg' 1 3 (by kernel_rfl) ?_
          refine Ops.done (by kernel_rfl) ?_
          refine seqQ.n ?_
          refine Wp.cnd h [4, 11, 12, 13] 0 (by kernel_rfl) (fun h => ?_) (fun h => ?_)
          · refine Wp.seq' (by kernel_rfl) ?_
            refine Wp.region (by kernel_rfl) ?_
            refine Ops.seg' 1 1 (by kernel_rfl) ?_
            refine Ops.done (by kernel_rfl) ?_
            refine seqQ.n ?_
            refine Wp.ret (by kernel_rfl) ?_
            refine sqQ.r ?_
            refine blkQ.r ?_
            refine seqQ.r ?_
            cases h
            refine lpQ.r ?_
            refine blkQ.r ?_
            exact hrx11 _ hsx15 _ (RetOk.forget [4, 11, 12, 13] (by kernel_rfl) (RetOk.mk' (dI 10) (by kernel_rfl) (by kernel_rfl)))
          · refine Wp.skip (by kernel_rfl) ?_
            refine sqQ.n' ?_
            refine blkQ.n' ?_
            refine seqQ.n ?_
            refine Wp.region (by kernel_rfl) ?_
            refine Ops.seg' 2 2 (by kernel_rfl) ?_
            refine Ops.done (by kernel_rfl) ?_
            refine lpQ.n ⟨q4 ((dI 0) :: q6 ((dP eS a0) :: (dI ((a0.length : Int))) :: (dI (w64 (v6 + 1))) :: q7 [])), []⟩ (by kernel_rfl) ?_
            cases h
            exact ihx10 (w64 (v6 + 1))  _ hsx15 _ (by omega) hrx11 hxx12
        · refine Wp.exit (id := 0) (by kernel_rfl) ?_
          refine sqQ.x ?_
          refine seqQ.x ?_
          cases h
          refine lpQ.x ?_
          refine blkQ.x ⟨q4 ((dI 0) :: q6 ((dP eS a0) :: (dI ((a0.length : Int))) :: (dI v6) :: q7 [])), []⟩ (by kernel_rfl) ?_
          exact hxx12 v6  hsx15
    refine Wp.loop' [4, 11, 12, 13] 0 (by kernel_rfl) ⟨q4 ((dI 0) :: q6 ((dP eS a0) :: (dI ((a0.length : Int))) :: (dI 0) :: q7 [])), []⟩ (by kernel_rfl) ?_
    rcases brk_some h with ⟨r20, er20, h⟩ | ⟨y19, ey19, h⟩
    · refine hLx18 _ 0  _ er20 n (by omega) (fun r er σ hσ => ?_) (fun y  ey => by cases ey)
      cases er
      refine seqQ.r ?_
      exact fnQ.r' (X37 n) (fun z => (eI z)) h hσ
    · refine hLx18 _ 0  _ ey19 n (by omega) (fun r er => by cases er) (fun y  ey => ?_)
      cases ey
      refine seqQ.n ?_
      refine Wp.seq' (by kernel_rfl) ?_
      refine Wp.region (by kernel_rfl) ?_
      refine Ops.seg' 1 1 (by kernel_rfl) ?_
      refine Ops.done (by kernel_rfl) ?_
      refine seqQ.n ?_
      refine Wp.ret (by kernel_rfl) ?_
      exact fnQ.r' (X37 n) (fun z => (eI z)) h (RetOk.mk' (dI 0) (by kernel_rfl) (by kernel_rfl))

/-! ### 64 glosswright/glosswrightref5.fault -/
def f64 (m : Nat) (a0 : Int) (a1 : Int) : Option S27 :=
  some ((⟨a0, a1⟩ : S27))
noncomputable abbrev X64 (n : Nat) : Cx := cxOf Proofs.Tryd.prog E 64 n
noncomputable def C64 : Code := bodyOf Proofs.Tryd.prog 64
theorem ok64 (m : Nat) (a0 : Int) (a1 : Int) (o : S27) (h : f64 m a0 a1 = some o) (n : Nat) (hn : m + 1 ≤ n) : Fn Proofs.Tryd.prog E n 64 [.v (eI a0), .v (eI a1)] (e27 o) := by
  obtain ⟨n, rfl⟩ : ∃ q, n = q + 1 := ⟨n - 1, by omega⟩
  unfold f64 at h
  refine Fn.of (by kernel_rfl) (by kernel_rfl) (by kernel_rfl) ⟨(dI a0) :: (dI a1) :: u6 [], []⟩ (by kernel_rfl) ?_
  refine Wp.seq' (by kernel_rfl) ?_
  refine Wp.region (by kernel_rfl) ?_
  refine Ops.seg' 1 1 (by kernel_rfl) ?_
  refine Ops.done (by kernel_rfl) ?_
  refine seqQ.n ?_
  refine Wp.seq' (by kernel_rfl) ?_
  refine Wp.region (by kernel_rfl) ?_
  refine Ops.seg' 4 4 (by kernel_rfl) ?_
  refine Ops.done (by kernel_rfl) ?_
  refine seqQ.n ?_
  refine Wp.ret (by kernel_rfl) ?_
  exact fnQ.r' (X64 n) (fun z => (e27 z)) h (RetOk.mk' (.v (.agg [(vI a0), (vI a1)])) (by kernel_rfl) (by kernel_rfl))

/-! ### 85 glosswright/glosswrightref5.Scalar -/
def f85_r1 (m : Nat) (v17 : Bool) : Option Bool :=
  some v17
def f85_r2 (m : Nat) (a0 : Int) (v6 : Bool) : Option Bool :=
  f85_r1 m ((v6 || (((decide (a0 > 57343)) && (decide (a0 ≤ 1114111))))))
def f85 (m : Nat) (a0 : Int) : Option Bool :=
  f85_r2 m a0 (((decide (a0 ≥ 0)) && (decide (a0 < 55296))))
noncomputable abbrev X85 (n : Nat) : Cx := cxOf Proofs.Tryd.prog E 85 n
noncomputable def C85 : Code := bodyOf Proofs.Tryd.prog 85
theorem ok85 (m : Nat) (a0 : Int) (o : Bool) (h : f85 m a0 = some o) (n : Nat) (hn : m + 1 ≤ n) : Fn Proofs.Tryd.prog E n 85 [.v (eI a0)] (eB o) := by
  obtain ⟨n, rfl⟩ : ∃ q, n = q + 1 := ⟨n - 1, by omega⟩
  unfold f85 at h
  refine Fn.of (by kernel_rfl) (by kernel_rfl) (by kernel_rfl) ⟨(dI a0) :: u16 [], []⟩ (by kernel_rfl) ?_
  refine Wp.seq' (by kernel_rfl) ?_
  refine Wp.region (by kernel_rfl) ?_
  refine Ops.seg' 1 1 (by kernel_rfl) ?_
  refine Ops.done (by kernel_rfl) ?_
  refine seqQ.n ?_
  refine Wp.seq' (by kernel_rfl) ?_
  refine Wp.region (by kernel_rfl) ?_
  refine Ops.seg' 3 3 (by kernel_rfl) ?_
  have J85j7 : ∀ (d3 d4 : D) (v5 : Bool) (v6 : Bool), f85_r2 m a0 v6 = some o → Ops (X85 n) (opl (cL (cR C85))) 6 ⟨(dI a0) :: u1 ((dB false) :: (dI a0) :: (dB v5) :: (dB v5) :: d3 :: d4 :: (dB v6) :: u8 []), []⟩ ((seqQ (X85 n) (cR (cR C85)) (fnQ (X85 n).E.T (resOf Proofs.Tryd.prog 85) (eB o))) .normal) := by
    intro d3 d4 v5 v6 h
    unfold f85_r2 at h
    refine Ops.seg' 1 7 (by kernel_rfl) ?_
    have J85j18 : ∀ (d10 d11 d12 d13 d14 d15 : D) (v16 : Bool) (v17 : Bool), f85_r1 m v17 = some o → Ops (X85 n) (opl (cL (cR C85))) 14 ⟨(dI a0) :: u1 ((dB false) :: (dI a0) :: (dB v5) :: (dB v5) :: d3 :: d4 :: (dB v16) :: (dB v16) :: d10 :: d11 :: d12 :: d13 :: d14 :: d15 :: (dB v17) :: []), []⟩ ((seqQ (X85 n) (cR (cR C85)) (fnQ (X85 n).E.T (resOf Proofs.Tryd.prog 85) (eB o))) .normal) := by
      intro d10 d11 d12 d13 d14 d15 v16 v17 h
      unfold f85_r1 at h
      refine Ops.seg' 1 15 (by kernel_rfl) ?_
      refine Ops.done (by kernel_rfl) ?_
      refine seqQ.n ?_
      refine Wp.ret (by kernel_rfl) ?_
      exact fnQ.r' (X85 n) (fun z => (eB z)) h (RetOk.mk' (dB v17) (by kernel_rfl) (by kernel_rfl))
    have G85g9 : ∀ v8 : Bool, f85_r1 m ((v8 || (((decide (a0 > 57343)) && (decide (a0 ≤ 1114111)))))) = some o → Ops (X85 n) (opl (cL (cR C85))) 7 ⟨(dI a0) :: u1 ((dB false) :: (dI a0) :: (dB v5) :: (dB v5) :: d3 :: d4 :: (dB v8) :: (dB v8) :: u7 []), []⟩ ((seqQ (X85 n) (cR (cR C85)) (fnQ (X85 n).E.T (resOf Proofs.Tryd.prog 85) (eB o))) .normal) := by
      intro v8 h
      cases v8
      · refine Ops.seg' 3 10 (by kernel_rfl) ?_
        have G85g20 : ∀ v19 : Bool, (f85_r1 m ((false || ((v19 && (decide (a0 ≤ 1114111))))))) = some o → Ops (X85 n) (opl (cL (cR C85))) 10 ⟨(dI a0) :: u1 ((dB false) :: (dI a0) :: (dB v5) :: (dB v5) :: d3 :: d4 :: (dB false) :: (dB false) :: (dI a0) :: (dB v19) :: (dB v19) :: u4 []), []⟩ ((seqQ (X85 n) (cR (cR C85)) (fnQ (X85 n).E.T (resOf Proofs.Tryd.prog 85) (eB o))) .normal) := by
          intro v19 h
          cases v19
          · refine Ops.seg' 4 14 (by kernel_rfl) ?_
            refine Ops.st ⟨(dI a0) :: u1 ((dB false) :: (dI a0) :: (dB v5) :: (dB v5) :: d3 :: d4 :: (dB false) :: (dB false) :: (dI a0) :: (dB false) :: (dB false) :: u2 ((dB false) :: (dB false) :: [])), []⟩ (by kernel_rfl) ?_
            exact J85j18 _ _ _ _ _ _ _ _ h
          · refine Ops.seg' 4 14 (by kernel_rfl) ?_
            refine Ops.st ⟨(dI a0) :: u1 ((dB false) :: (dI a0) :: (dB v5) :: (dB v5) :: d3 :: d4 :: (dB false) :: (dB false) :: (dI a0) :: (dB true) :: (dB true) :: (dI a0) :: (dB (decide (a0 ≤ 1114111))) :: (dB (decide (a0 ≤ 1114111))) :: (dB (decide (a0 ≤ 1114111))) :: []), []⟩ (by kernel_rfl) ?_
            exact J85j18 _ _ _ _ _ _ _ _ h
        exact Ops.st ⟨(dI a0) :: u1 ((dB false) :: (dI a0) :: (dB v5) :: (dB v5) :: d3 :: d4 :: (dB false) :: (dB false) :: (dI a0) :: (dB ((decide (a0 > 57343)))) :: (dB ((decide (a0 > 57343)))) :: u4 []), []⟩ (by kernel_rfl) (G85g20 (decide (a0 > 57343)) h)
      · refine Ops.seg' 7 14 (by kernel_rfl) ?_
        refine Ops.st ⟨(dI a0) :: u1 ((dB false) :: (dI a0) :: (dB v5) :: (dB v5) :: d3 :: d4 :: (dB true) :: (dB true) :: u6 ((dB true) :: [])), []⟩ (by kernel_rfl) ?_
        exact J85j18 _ _ _ _ _ _ _ _ h
    exact Ops.st ⟨(dI a0) :: u1 ((dB false) :: (dI a0) :: (dB v5) :: (dB v5) :: d3 :: d4 :: (dB v6) :: (dB v6) :: u7 []), []⟩ (by kernel_rfl) (G85g9 v6 h)
  have G85g2 : ∀ v1 : Bool, f85_r2 m a0 ((v1 && (decide (a0 < 55296)))) = some o → Ops (X85 n) (opl (cL (cR C85))) 3 ⟨(dI a0) :: u1 ((dB false) :: (dI a0) :: (dB v1) :: (dB v1) :: u11 []), []⟩ ((seqQ (X85 n) (cR (cR C85)) (fnQ (X85 n).E.T (resOf Proofs.Tryd.prog 85) (eB o))) .normal) := by
    intro v1 h
    cases v1
    · refine Ops.seg' 3 6 (by kernel_rfl) ?_
      refine Ops.st ⟨(dI a0) :: u1 ((dB false) :: (dI a0) :: (dB false) :: (dB false) :: u2 ((dB false) :: u8 [])), []⟩ (by kernel_rfl) ?_
      exact J85j7 _ _ _ _ h
    · refine Ops.seg' 3 6 (by kernel_rfl) ?_
      refine Ops.st ⟨(dI a0) :: u1 ((dB false) :: (dI a0) :: (dB true) :: (dB true) :: (dI a0) :: (dB (decide (a0 < 55296))) :: (dB (decide (a0 < 55296))) :: u8 []), []⟩ (by kernel_rfl) ?_
      exact J85j7 _ _ _ _ h
  exact Ops.st ⟨(dI a0) :: u1 ((dB false) :: (dI a0) :: (dB ((decide (a0 ≥ 0)))) :: (dB ((decide (a0 ≥ 0)))) :: u11 []), []⟩ (by kernel_rfl) (G85g2 (decide (a0 ≥ 0)) h)

/-! ### 66 glosswright/glosswrightref5.Width -/
def f66 (m : Nat) (a0 : Int) : Option Int :=
  cnd (decide (a0 < 128))
  (some 1)
  (cnd (decide (a0 < 2048))
  (some 2)
  (cnd (decide (a0 < 65536))
  (some 3)
  (some 4)))
noncomputable abbrev X66 (n : Nat) : Cx := cxOf Proofs.Tryd.prog E 66 n
noncomputable def C66 : Code := bodyOf Proofs.Tryd.prog 66
theorem ok66 (m : Nat) (a0 : Int) (o : Int) (h : f66 m a0 = some o) (n : Nat) (hn : m + 1 ≤ n) : Fn Proofs.Tryd.prog E n 66 [.v (eI a0)] (eI o) := by
  obtain ⟨n, rfl⟩ : ∃ q, n = q + 1 := ⟨n - 1, by omega⟩
  unfold f66 at h
  refine Fn.of (by kernel_rfl) (by kernel_rfl) (by kernel_rfl) ⟨(dI a0) :: u8 [], []⟩ (by kernel_rfl) ?_
  refine Wp.seq' (by kernel_rfl) ?_
  refine Wp.region (by kernel_rfl) ?_
  refine Ops.seg' 1 1 (by kernel_rfl) ?_
  refine Ops.done (by kernel_rfl) ?_
  refine seqQ.n ?_
  refine Wp.seq' (by kernel_rfl) ?_
  refine Wp.seq' (by kernel_rfl) ?_
  refine Wp.region (by kernel_rfl) ?_
  refine Ops.seg' 2 2 (by kernel_rfl) ?_
  refine Ops.done (by kernel_rfl) ?_
  refine seqQ.n ?_
  refine Wp.cnd h [0, 2] 0 (by kernel_rfl) (fun h => ?_) (fun h => ?_)
  · refine Wp.seq' (by kernel_rfl) ?_
    refine Wp.region (by kernel_rfl) ?_
    refine Ops.seg' 1 1 (by kernel_rfl) ?_
    refine Ops.done (by kernel_rfl) ?_
    refine seqQ.n ?_
    refine Wp.ret (by kernel_rfl) ?_
    refine sqQ.r ?_
    refine seqQ.r ?_
    exact fnQ.r' (X66 n) (fun z => (eI z)) h (RetOk.mk' (dI 1) (by kernel_rfl) (by kernel_rfl))
  · refine Wp.skip (by kernel_rfl) ?_
    refine sqQ.n' ?_
    refine seqQ.n ?_
    refine Wp.seq' (by kernel_rfl) ?_
    refine Wp.seq' (by kernel_rfl) ?_
    refine Wp.region (by kernel_rfl) ?_
    refine Ops.seg' 2 2 (by kernel_rfl) ?_
    refine Ops.done (by kernel_rfl) ?_
    refine seqQ.n ?_
    refine Wp.cnd h [0, 2] 0 (by kernel_rfl) (fun h => ?_) (fun h => ?_)
    · refine Wp.seq' (by kernel_rfl) ?_
      refine Wp.region (by kernel_rfl) ?_
      refine Ops.seg' 1 1 (by kernel_rfl) ?_
      refine Ops.done (by kernel_rfl) ?_
      refine seqQ.n ?_
      refine Wp.ret (by kernel_rfl) ?_
      refine sqQ.r ?_
      refine seqQ.r ?_
      exact fnQ.r' (X66 n) (fun z => (eI z)) h (RetOk.mk' (dI 2) (by kernel_rfl) (by kernel_rfl))
    · refine Wp.skip (by kernel_rfl) ?_
      refine sqQ.n' ?_
      refine seqQ.n ?_
      refine Wp.seq' (by kernel_rfl) ?_
      refine Wp.seq' (by kernel_rfl) ?_
      refine Wp.region (by kernel_rfl) ?_
      refine Ops.seg' 2 2 (by kernel_rfl) ?_
      refine Ops.done (by kernel_rfl) ?_
      refine seqQ.n ?_
      refine Wp.cnd h [2] 0 (by kernel_rfl) (fun h => ?_) (fun h => ?_)
      · refine Wp.seq' (by kernel_rfl) ?_
        refine Wp.region (by kernel_rfl) ?_
        refine Ops.seg' 1 1 (by kernel_rfl) ?_
        refine Ops.done (by kernel_rfl) ?_
        refine seqQ.n ?_
        refine Wp.ret (by kernel_rfl) ?_
        refine sqQ.r ?_
        refine seqQ.r ?_
        exact fnQ.r' (X66 n) (fun z => (eI z)) h (RetOk.mk' (dI 3) (by kernel_rfl) (by kernel_rfl))
      · refine Wp.skip (by kernel_rfl) ?_
        refine sqQ.n' ?_
        refine seqQ.n ?_
        refine Wp.seq' (by kernel_rfl) ?_
        refine Wp.region (by kernel_rfl) ?_
        refine Ops.seg' 1 1 (by kernel_rfl) ?_
        refine Ops.done (by kernel_rfl) ?_
        refine seqQ.n ?_
        refine Wp.ret (by kernel_rfl) ?_
        exact fnQ.r' (X66 n) (fun z => (eI z)) h (RetOk.mk' (dI 4) (by kernel_rfl) (by kernel_rfl))

/-! ### 65 glosswright/glosswrightref5.one -/
def f65_r1 (m : Nat) (v35 : Int) (v36 : Int) (v46 : Int) (v52 : Bool) : Option (Stp Int (Int × Int)) :=
  cnd v52
  (some (.ret ((-1))))
  (some (.nxt (w64 (w64 (w64 (v35 * 64) + w64 v46) - 128), w64 (v36 + 1))))
def f65_B2 (m : Nat) (a0 : ByteArray) (a1 : Int) (v2 : Int) (v35 : Int) (v36 : Int) : Option (Stp Int (Int × Int)) :=
  cnd (decide (v36 < v2))
  (bnd (sidx a0 (w64 (a1 + v36))) fun v46 =>
  f65_r1 m v35 v36 v46 (((decide (w64 v46 < 128)) || (decide (w64 v46 > 191)))))
  (some (.brk (v35, v36)))
def f65_r3 (m : Nat) (y55 : Int × Int) (v65 : Bool) : Option Int :=
  cnd v65
  (some ((-1)))
  (some y55.1)
def f65_j4 (m : Nat) (a0 : ByteArray) (a1 : Int) (v2 : Int) (v3 : Int) : Option Int :=
  cnd (decide (w64 (a1 + v2) > (a0.size : Int)))
  (some ((-1)))
  (brk (iter (fun (y : Int × Int) => f65_B2 m a0 a1 v2 y.1 y.2) m (v3, 1)) some fun y55 =>
  bnd (f85 m y55.1) fun v57 =>
  bnd (cnd (!v57)
  (some true)
  (bnd (f66 m y55.1) fun v67 =>
  some (v67 != v2))) fun v65 =>
  f65_r3 m y55 v65)
def f65_j5 (m : Nat) (a0 : ByteArray) (a1 : Int) (v68 : Int) (v69 : Int) : Option Int :=
  f65_j4 m a0 a1 v68 v69
def f65_j6 (m : Nat) (a0 : ByteArray) (a1 : Int) (v79 : Int) (v80 : Int) : Option Int :=
  f65_j5 m a0 a1 v79 v80
def f65 (m : Nat) (a0 : ByteArray) (a1 : Int) : Option Int :=
  bnd (sidx a0 a1) fun v1 =>
  cnd (decide (w64 v1 ≥ 240))
  (f65_j4 m a0 a1 4 (w64 (w64 v1 - 240)))
  (cnd (decide (w64 v1 ≥ 224))
  (f65_j5 m a0 a1 3 (w64 (w64 v1 - 224)))
  (cnd (decide (w64 v1 ≥ 192))
  (f65_j6 m a0 a1 2 (w64 (w64 v1 - 192)))
  (cnd (decide (w64 v1 ≥ 128))
  (some ((-1)))
  (f65_j6 m a0 a1 1 (w64 v1)))))
noncomputable abbrev X65 (n : Nat) : Cx := cxOf Proofs.Tryd.prog E 65 n
noncomputable def C65 : Code := bodyOf Proofs.Tryd.prog 65
theorem ok65 (m : Nat) (a0 : ByteArray) (a1 : Int) (o : Int) (h : f65 m a0 a1 = some o) (n : Nat) (hn : m + 2 ≤ n) : Fn Proofs.Tryd.prog E n 65 [.v (eS a0), .v (eI a1)] (eI o) := by
  obtain ⟨n, rfl⟩ : ∃ q, n = q + 1 := ⟨n - 1, by omega⟩
  unfold f65 at h
  refine Fn.of (by kernel_rfl) (by kernel_rfl) (by kernel_rfl) ⟨(.v (.str a0)) :: (dI a1) :: u40 (u25 []), []⟩ (by kernel_rfl) ?_
  refine Wp.seq' (by kernel_rfl) ?_
  refine Wp.region (by kernel_rfl) ?_
  refine Ops.seg' 1 1 (by kernel_rfl) ?_
  refine Ops.done (by kernel_rfl) ?_
  refine seqQ.n ?_
  refine Wp.seq' (by kernel_rfl) ?_
  refine Wp.region (by kernel_rfl) ?_
  refine Ops.seg' 2 2 (by kernel_rfl) ?_
  obtain ⟨v1, ev1, h⟩ := bnd_some h
  refine Ops.one' 3 (fun h0 e0 => (str_ix (T := T) h0 9 a0 a1 v1 ev1 (by kernel_rfl))) (by kernel_rfl) (by kernel_rfl) ?_
  refine Ops.seg' 2 5 (by kernel_rfl) ?_
  refine Ops.done (by kernel_rfl) ?_
  refine seqQ.n ?_
  refine Wp.seq' (by kernel_rfl) ?_
  refine Wp.region (by kernel_rfl) ?_
  refine Ops.seg' 1 1 (by kernel_rfl) ?_
  refine Ops.done (by kernel_rfl) ?_
  refine seqQ.n ?_
  refine Wp.seq' (by kernel_rfl) ?_
  refine Wp.region (by kernel_rfl) ?_
  refine Ops.seg' 2 2 (by kernel_rfl) ?_
  refine Ops.done (by kernel_rfl) ?_
  refine seqQ.n ?_
  refine Wp.seq' (by kernel_rfl) ?_
  refine Wp.seq' (by kernel_rfl) ?_
  refine Wp.region (by kernel_rfl) ?_
  refine Ops.seg' 2 2 (by kernel_rfl) ?_
  refine Ops.done (by kernel_rfl) ?_
  refine seqQ.n ?_
  have J65j16 : ∀ (v2 : Int) (v3 : Int) (d4 : D) (d5 : D) (d6 : D) (d7 : D) (d8 : D) (d9 : D) (d10 : D) (d11 : D) (d12 : D) (d13 : D) (d14 : D) (d15 : D), f65_j4 m a0 a1 v2 v3 = some o → (seqQ (X65 n) (cR (cR (cR (cR (cR C65))))) (fnQ (X65 n).E.T (resOf Proofs.Tryd.prog 65) (eI o))) .normal ⟨(.v (.str a0)) :: (dI a1) :: u2 ((dI 0) :: (dI (w64 v1)) :: (dI v2) :: (dI v3) :: u2 ((.v (.str a0)) :: (dI a1) :: (.v (.int .u8 v1)) :: (dI (w64 v1)) :: (dI (w64 v1)) :: (dI (w64 v1)) :: (dB (decide (w64 v1 ≥ 240))) :: d4 :: d5 :: d6 :: d7 :: d8 :: d9 :: d10 :: d11 :: d12 :: d13 :: d14 :: d15 :: u38 [])), []⟩ := by
    intro v2 v3 d4 d5 d6 d7 d8 d9 d10 d11 d12 d13 d14 d15 h
    unfold f65_j4 at h
    refine seqQ.n ?_
    refine Wp.seq' (by kernel_rfl) ?_
    refine Wp.seq' (by kernel_rfl) ?_
    refine Wp.region (by kernel_rfl) ?_
    refine Ops.seg' 6 6 (by kernel_rfl) ?_
    refine Ops.done (by kernel_rfl) ?_
    refine seqQ.n ?_
    refine Wp.cnd h [0, 1, 4, 6, 7] 0 (by kernel_rfl) (fun h => ?_) (fun h => ?_)
    · refine Wp.seq' (by kernel_rfl) ?_
      refine Wp.region (by kernel_rfl) ?_
      refine Ops.seg' 1 1 (by kernel_rfl) ?_
      refine Ops.done (by kernel_rfl) ?_
      refine seqQ.n ?_
      refine Wp.ret (by kernel_rfl) ?_
      refine sqQ.r ?_
      refine seqQ.r ?_
      exact fnQ.r' (X65 n) (fun z => (eI z)) h (RetOk.mk' (dI ((-1))) (by kernel_rfl) (by kernel_rfl))
    · refine Wp.skip (by kernel_rfl) ?_
      refine sqQ.n' ?_
      refine seqQ.n ?_
      refine Wp.seq' (by kernel_rfl) ?_
      refine Wp.seq' (by kernel_rfl) ?_
      refine Wp.region (by kernel_rfl) ?_
      refine Ops.seg' 1 1 (by kernel_rfl) ?_
      refine Ops.done (by kernel_rfl) ?_
      refine seqQ.n ?_
      refine Wp.block' 0 [4, 6, 7] 0 (by kernel_rfl) ?_
      have hLx54 : ∀ (kx38 : Nat) (v35 : Int) (v36 : Int)  (ox37 : Int ⊕ (Int × Int)), iter (fun (y : Int × Int) => f65_B2 m a0 a1 v2 y.1 y.2) kx38 (v35, v36) = some ox37 → ∀ nx39, kx38 ≤ nx39 → (∀ r, ox37 = .inl r → ∀ σ, RetOk (X65 n) (resOf Proofs.Tryd.prog 65) (eI r) σ → (seqQ (X65 n) (cR (cR (cR (cR (cR (cR (cR C65))))))) (fnQ (X65 n).E.T (resOf Proofs.Tryd.prog 65) (eI o))) .ret σ) → (∀ (y : Int × Int) , ox37 = .inr y → (seqQ (X65 n) (cR (cR (cR (cR (cR (cR (cR C65))))))) (fnQ (X65 n).E.T (resOf Proofs.Tryd.prog 65) (eI o))) .normal ⟨(.v (.str a0)) :: (dI a1) :: q2 ((dI 0) :: q1 ((dI v2) :: (dI y.1) :: (dI y.2) :: q40 (q18 []))), []⟩) → Lp (X65 n) [0, 1, 4, 6, 7, 8] 0 (cL (cL (cR (cL (cR (cR (cR (cR (cR (cR C65)))))))))) nx39 ⟨(.v (.str a0)) :: (dI a1) :: q2 ((dI 0) :: q1 ((dI v2) :: (dI v35) :: (dI v36) :: q40 (q18 []))), []⟩ (blkQ (X65 n) 0 [4, 6, 7] 0 (seqQ (X65 n) (cR (cR (cR (cR (cR (cR (cR C65))))))) (fnQ (X65 n).E.T (resOf Proofs.Tryd.prog 65) (eI o)))) := by
        intro kx38
        induction kx38 with
        | zero => intro v35 v36  ox37 h; exact (iter_zero h).elim
        | succ kx38 ihx40 =>
          intro v35 v36  ox37 h nx39 hnx43 hrx41 hxx42
          obtain ⟨nx39, rfl⟩ : ∃ q, nx39 = q + 1 := ⟨nx39 - 1, by omega⟩
          obtain ⟨sx44, h, hsx45⟩ := iter_some h
          have h : f65_B2 m a0 a1 v2 v35 v36 = some sx44 := h
          unfold f65_B2 at h
          refine Lp.succ ?_
          refine Wp.seq' (by kernel_rfl) ?_
          refine Wp.seq' (by kernel_rfl) ?_
          refine Wp.region (by kernel_rfl) ?_
          refine Ops.seg' 3 3 (by kernel_rfl) ?_
          refine Ops.done (by kernel_rfl) ?_
          refine seqQ.n ?_
          refine Wp.cnd h [0, 1, 4, 6, 7, 8] 0 (by kernel_rfl) (fun h => ?_) (fun h => ?_)
          · refine Wp.skip (by kernel_rfl) ?_
            refine sqQ.n' ?_
            refine seqQ.n ?_
            refine Wp.seq' (by kernel_rfl) ?_
            refine Wp.block' 1 [0, 1, 4, 6, 7, 8] 0 (by kernel_rfl) ?_
            refine Wp.seq' (by kernel_rfl) ?_
            refine Wp.region (by kernel_rfl) ?_
            refine Ops.seg' 4 4 (by kernel_rfl) ?_
            obtain ⟨v46, ev46, h⟩ := bnd_some h
            refine Ops.one' 5 (fun h0 e0 => (str_ix (T := T) h0 9 a0 (w64 (a1 + v36)) v46 ev46 (by kernel_rfl))) (by kernel_rfl) (by kernel_rfl) ?_
            refine Ops.seg' 2 7 (by kernel_rfl) ?_
            refine Ops.done (by kernel_rfl) ?_
            refine seqQ.n ?_
            refine Wp.seq' (by kernel_rfl) ?_
            refine Wp.seq' (by kernel_rfl) ?_
            refine Wp.region (by kernel_rfl) ?_
            refine Ops.seg' 3 3 (by kernel_rfl) ?_
            have J65j53 : ∀ (d49 d50 : D) (v51 : Bool) (v52 : Bool), f65_r1 m v35 v36 v46 v52 = some sx44 → Ops (X65 n) (opl (cL (cL (cR (cL (cL (cR (cL (cL (cR (cL (cR (cR (cR (cR (cR (cR C65))))))))))))))))) 6 ⟨(.v (.str a0)) :: (dI a1) :: q2 ((dI 0) :: q1 ((dI v2) :: (dI v35) :: (dI v36) :: (dI (w64 v46)) :: q25 ((dI v36) :: (dI v2) :: (dB (decide (v36 < v2))) :: q2 ((.v (.str a0)) :: (dI a1) :: (dI v36) :: (dI (w64 (a1 + v36))) :: (.v (.int .u8 v46)) :: (dI (w64 v46)) :: (dI (w64 v46)) :: (dB v51) :: (dB v51) :: d49 :: d50 :: (dB v52) :: q15 [])))), []⟩ ((seqQ (X65 n) (cR (cL (cR (cL (cL (cR (cL (cL (cR (cL (cR (cR (cR (cR (cR (cR C65)))))))))))))))) (seqQ (X65 n) (cR (cR (cL (cL (cR (cL (cL (cR (cL (cR (cR (cR (cR (cR (cR C65))))))))))))))) (blkQ (X65 n) 1 [0, 1, 4, 6, 7, 8] 0 (seqQ (X65 n) (cR (cR (cL (cL (cR (cL (cR (cR (cR (cR (cR (cR C65)))))))))))) (lpQ (X65 n) [0, 1, 4, 6, 7, 8] 0 (cL (cL (cR (cL (cR (cR (cR (cR (cR (cR C65)))))))))) nx39 (blkQ (X65 n) 0 [4, 6, 7] 0 (seqQ (X65 n) (cR (cR (cR (cR (cR (cR (cR C65))))))) (fnQ (X65 n).E.T (resOf Proofs.Tryd.prog 65) (eI o))))))))) .normal) := by
              intro d49 d50 v51 v52 h
              unfold f65_r1 at h
              refine Ops.done (by kernel_rfl) ?_
              refine seqQ.n ?_
              refine Wp.cnd h [0, 1, 4, 6, 7, 8, 9] 0 (by kernel_rfl) (fun h => ?_) (fun h => ?_)
              · refine Wp.seq' (by kernel_rfl) ?_
                refine Wp.region (by kernel_rfl) ?_
                refine Ops.seg' 1 1 (by kernel_rfl) ?_
                refine Ops.done (by kernel_rfl) ?_
                refine seqQ.n ?_
                refine Wp.ret (by kernel_rfl) ?_
                refine sqQ.r ?_
                refine seqQ.r ?_
                refine blkQ.r ?_
                refine seqQ.r ?_
                cases h
                refine lpQ.r ?_
                refine blkQ.r ?_
                exact hrx41 _ hsx45 _ (RetOk.forget [0, 1, 4, 6, 7, 8] (by kernel_rfl) (RetOk.mk' (dI ((-1))) (by kernel_rfl) (by kernel_rfl)))
              · refine Wp.skip (by kernel_rfl) ?_
                refine sqQ.n' ?_
                refine seqQ.n ?_
                refine Wp.region (by kernel_rfl) ?_
                refine Ops.seg' 6 6 (by kernel_rfl) ?_
                refine Ops.done (by kernel_rfl) ?_
                refine blkQ.n' ?_
                refine seqQ.n ?_
                refine Wp.region (by kernel_rfl) ?_
                refine Ops.seg' 3 3 (by kernel_rfl) ?_
                refine Ops.done (by kernel_rfl) ?_
                refine lpQ.n ⟨(.v (.str a0)) :: (dI a1) :: q2 ((dI 0) :: q1 ((dI v2) :: (dI (w64 (w64 (w64 (v35 * 64) + w64 v46) - 128))) :: (dI (w64 (v36 + 1))) :: q40 (q18 []))), []⟩ (by kernel_rfl) ?_
                cases h
                exact ihx40 (w64 (w64 (w64 (v35 * 64) + w64 v46) - 128)) (w64 (v36 + 1))  _ hsx45 _ (by omega) hrx41 hxx42
            have G65g48 : ∀ v47 : Bool, f65_r1 m v35 v36 v46 ((v47 || (decide (w64 v46 > 191)))) = some sx44 → Ops (X65 n) (opl (cL (cL (cR (cL (cL (cR (cL (cL (cR (cL (cR (cR (cR (cR (cR (cR C65))))))))))))))))) 3 ⟨(.v (.str a0)) :: (dI a1) :: q2 ((dI 0) :: q1 ((dI v2) :: (dI v35) :: (dI v36) :: (dI (w64 v46)) :: q25 ((dI v36) :: (dI v2) :: (dB (decide (v36 < v2))) :: q2 ((.v (.str a0)) :: (dI a1) :: (dI v36) :: (dI (w64 (a1 + v36))) :: (.v (.int .u8 v46)) :: (dI (w64 v46)) :: (dI (w64 v46)) :: (dB v47) :: (dB v47) :: q18 [])))), []⟩ ((seqQ (X65 n) (cR (cL (cR (cL (cL (cR (cL (cL (cR (cL (cR (cR (cR (cR (cR (cR C65)))))))))))))))) (seqQ (X65 n) (cR (cR (cL (cL (cR (cL (cL (cR (cL (cR (cR (cR (cR (cR (cR C65))))))))))))))) (blkQ (X65 n) 1 [0, 1, 4, 6, 7, 8] 0 (seqQ (X65 n) (cR (cR (cL (cL (cR (cL (cR (cR (cR (cR (cR (cR C65)))))))))))) (lpQ (X65 n) [0, 1, 4, 6, 7, 8] 0 (cL (cL (cR (cL (cR (cR (cR (cR (cR (cR C65)))))))))) nx39 (blkQ (X65 n) 0 [4, 6, 7] 0 (seqQ (X65 n) (cR (cR (cR (cR (cR (cR (cR C65))))))) (fnQ (X65 n).E.T (resOf Proofs.Tryd.prog 65) (eI o))))))))) .normal) := by
              intro v47 h
              cases v47
              · refine Ops.seg' 3 6 (by kernel_rfl) ?_
                refine Ops.st ⟨(.v (.str a0)) :: (dI a1) :: q2 ((dI 0) :: q1 ((dI v2) :: (dI v35) :: (dI v36) :: (dI (w64 v46)) :: q25 ((dI v36) :: (dI v2) :: (dB (decide (v36 < v2))) :: q2 ((.v (.str a0)) :: (dI a1) :: (dI v36) :: (dI (w64 (a1 + v36))) :: (.v (.int .u8 v46)) :: (dI (w64 v46)) :: (dI (w64 v46)) :: (dB false) :: (dB false) :: (dI (w64 v46)) :: (dB (decide (w64 v46 > 191))) :: (dB (decide (w64 v46 > 191))) :: q15 [])))), []⟩ (by kernel_rfl) ?_
                exact J65j53 _ _ _ _ h
              · refine Ops.seg' 3 6 (by kernel_rfl) ?_
                refine Ops.st ⟨(.v (.str a0)) :: (dI a1) :: q2 ((dI 0) :: q1 ((dI v2) :: (dI v35) :: (dI v36) :: (dI (w64 v46)) :: q25 ((dI v36) :: (dI v2) :: (dB (decide (v36 < v2))) :: q2 ((.v (.str a0)) :: (dI a1) :: (dI v36) :: (dI (w64 (a1 + v36))) :: (.v (.int .u8 v46)) :: (dI (w64 v46)) :: (dI (w64 v46)) :: (dB true) :: (dB true) :: u2 ((dB true) :: q15 []))))), []⟩ (by kernel_rfl) ?_
                exact J65j53 _ _ _ _ h
            exact Ops.st ⟨(.v (.str a0)) :: (dI a1) :: q2 ((dI 0) :: q1 ((dI v2) :: (dI v35) :: (dI v36) :: (dI (w64 v46)) :: q25 ((dI v36) :: (dI v2) :: (dB (decide (v36 < v2))) :: q2 ((.v (.str a0)) :: (dI a1) :: (dI v36) :: (dI (w64 (a1 + v36))) :: (.v (.int .u8 v46)) :: (dI (w64 v46)) :: (dI (w64 v46)) :: (dB ((decide (w64 v46 < 128)))) :: (dB ((decide (w64 v46 < 128)))) :: q18 [])))), []⟩ (by kernel_rfl) (G65g48 (decide (w64 v46 < 128)) h)
          · refine Wp.exit (id := 0) (by kernel_rfl) ?_
            refine sqQ.x ?_
            refine seqQ.x ?_
            cases h
            refine lpQ.x ?_
            refine blkQ.x ⟨(.v (.str a0)) :: (dI a1) :: q2 ((dI 0) :: q1 ((dI v2) :: (dI v35) :: (dI v36) :: q40 (q18 []))), []⟩ (by kernel_rfl) ?_
            exact hxx42 (v35, v36)  hsx45
      refine Wp.loop' [0, 1, 4, 6, 7, 8] 0 (by kernel_rfl) ⟨(.v (.str a0)) :: (dI a1) :: q2 ((dI 0) :: q1 ((dI v2) :: (dI v3) :: (dI 1) :: q40 (q18 []))), []⟩ (by kernel_rfl) ?_
      rcases brk_some h with ⟨r56, er56, h⟩ | ⟨y55, ey55, h⟩
      · refine hLx54 _ v3 1  _ er56 n (by omega) (fun r er σ hσ => ?_) (fun y  ey => by cases ey)
        cases er
        refine seqQ.r ?_
        exact fnQ.r' (X65 n) (fun z => (eI z)) h hσ
      · refine hLx54 _ v3 1  _ ey55 n (by omega) (fun r er => by cases er) (fun y  ey => ?_)
        cases ey
        refine seqQ.n ?_
        refine Wp.seq' (by kernel_rfl) ?_
        refine Wp.seq' (by kernel_rfl) ?_
        refine Wp.region (by kernel_rfl) ?_
        refine Ops.seg' 1 1 (by kernel_rfl) ?_
        obtain ⟨v57, ev57, h⟩ := bnd_some h
        refine Ops.one' 2 (fun h0 e0 => (call_ok (E' := E) (h := h0) (by kernel_rfl) (Args.v (vI y55.1) (eI y55.1) (by kernel_rfl) Args.nil) (ok85 m y55.1 v57 ev57 n (by omega)))) (by kernel_rfl) (by kernel_rfl) ?_
        refine Ops.seg' 2 4 (by kernel_rfl) ?_
        have J65j66 : ∀ (d60 d61 d62 d63 : D) (v64 : Bool) (v65 : Bool), f65_r3 m y55 v65 = some o → Ops (X65 n) (opl (cL (cL (cR (cR (cR (cR (cR (cR (cR C65)))))))))) 9 ⟨(.v (.str a0)) :: (dI a1) :: q2 ((dI 0) :: q1 ((dI v2) :: (dI y55.1) :: (dI y55.2) :: q40 (q8 ((dI y55.1) :: (dB v57) :: (dB v64) :: (dB v64) :: d60 :: d61 :: d62 :: d63 :: (dB v65) :: q1 [])))), []⟩ ((seqQ (X65 n) (cR (cL (cR (cR (cR (cR (cR (cR (cR C65))))))))) (seqQ (X65 n) (cR (cR (cR (cR (cR (cR (cR (cR C65)))))))) (fnQ (X65 n).E.T (resOf Proofs.Tryd.prog 65) (eI o)))) .normal) := by
          intro d60 d61 d62 d63 v64 v65 h
          unfold f65_r3 at h
          refine Ops.done (by kernel_rfl) ?_
          refine seqQ.n ?_
          refine Wp.cnd h [4, 7] 0 (by kernel_rfl) (fun h => ?_) (fun h => ?_)
          · refine Wp.seq' (by kernel_rfl) ?_
            refine Wp.region (by kernel_rfl) ?_
            refine Ops.seg' 1 1 (by kernel_rfl) ?_
            refine Ops.done (by kernel_rfl) ?_
            refine seqQ.n ?_
            refine Wp.ret (by kernel_rfl) ?_
            refine sqQ.r ?_
            refine seqQ.r ?_
            exact fnQ.r' (X65 n) (fun z => (eI z)) h (RetOk.mk' (dI ((-1))) (by kernel_rfl) (by kernel_rfl))
          · refine Wp.skip (by kernel_rfl) ?_
            refine sqQ.n' ?_
            refine seqQ.n ?_
            refine Wp.seq' (by kernel_rfl) ?_
            refine Wp.region (by kernel_rfl) ?_
            refine Ops.seg' 2 2 (by kernel_rfl) ?_
            refine Ops.done (by kernel_rfl) ?_
            refine seqQ.n ?_
            refine Wp.ret (by kernel_rfl) ?_
            exact fnQ.r' (X65 n) (fun z => (eI z)) h (RetOk.mk' (dI y55.1) (by kernel_rfl) (by kernel_rfl))
        obtain ⟨v65, ev65, h⟩ := bnd_some h
        have G65g59 : ∀ v58 : Bool, (cnd v58 (some true) (bnd (f66 m y55.1) fun v67 => some (v67 != v2))) = some v65 → Ops (X65 n) (opl (cL (cL (cR (cR (cR (cR (cR (cR (cR C65)))))))))) 4 ⟨(.v (.str a0)) :: (dI a1) :: q2 ((dI 0) :: q1 ((dI v2) :: (dI y55.1) :: (dI y55.2) :: q40 (q8 ((dI y55.1) :: (dB v57) :: (dB v58) :: (dB v58) :: q6 [])))), []⟩ ((seqQ (X65 n) (cR (cL (cR (cR (cR (cR (cR (cR (cR C65))))))))) (seqQ (X65 n) (cR (cR (cR (cR (cR (cR (cR (cR C65)))))))) (fnQ (X65 n).E.T (resOf Proofs.Tryd.prog 65) (eI o)))) .normal) := by
          intro v58 ev65
          cases v58
          · have ev65 := cnd_f ev65
            refine Ops.seg' 1 5 (by kernel_rfl) ?_
            obtain ⟨v67, ev67, ev65⟩ := bnd_some ev65
            refine Ops.one' 6 (fun h0 e0 => (call_ok (E' := E) (h := h0) (by kernel_rfl) (Args.v (vI y55.1) (eI y55.1) (by kernel_rfl) Args.nil) (ok66 m y55.1 v67 ev67 n (by omega)))) (by kernel_rfl) (by kernel_rfl) ?_
            refine Ops.seg' 3 9 (by kernel_rfl) ?_
            refine Ops.st ⟨(.v (.str a0)) :: (dI a1) :: q2 ((dI 0) :: q1 ((dI v2) :: (dI y55.1) :: (dI y55.2) :: q40 (q8 ((dI y55.1) :: (dB v57) :: (dB false) :: (dB false) :: (dI y55.1) :: (dI v67) :: (dI v2) :: (dB (v67 != v2)) :: (dB (v67 != v2)) :: q1 [])))), []⟩ (by kernel_rfl) ?_
            exact J65j66 _ _ _ _ _ _ (some_sub (fun v65 => f65_r3 m y55 v65 = some o) ev65 h)
          · have ev65 := cnd_t ev65
            refine Ops.seg' 5 9 (by kernel_rfl) ?_
            refine Ops.st ⟨(.v (.str a0)) :: (dI a1) :: q2 ((dI 0) :: q1 ((dI v2) :: (dI y55.1) :: (dI y55.2) :: q40 (q8 ((dI y55.1) :: (dB v57) :: (dB true) :: (dB true) :: u4 ((dB true) :: q1 []))))), []⟩ (by kernel_rfl) ?_
            exact J65j66 _ _ _ _ _ _ (some_sub (fun v65 => f65_r3 m y55 v65 = some o) ev65 h)
        exact Ops.st ⟨(.v (.str a0)) :: (dI a1) :: q2 ((dI 0) :: q1 ((dI v2) :: (dI y55.1) :: (dI y55.2) :: q40 (q8 ((dI y55.1) :: (dB v57) :: (dB ((!v57))) :: (dB ((!v57))) :: q6 [])))), []⟩ (by kernel_rfl) (G65g59 (!v57) ev65)
  refine Wp.cnd h [0, 1, 4, 6, 7] 0 (by kernel_rfl) (fun h => ?_) (fun h => ?_)
  · refine Wp.seq' (by kernel_rfl) ?_
    refine Wp.region (by kernel_rfl) ?_
    refine Ops.seg' 1 1 (by kernel_rfl) ?_
    refine Ops.done (by kernel_rfl) ?_
    refine seqQ.n ?_
    refine Wp.region (by kernel_rfl) ?_
    refine Ops.seg' 3 3 (by kernel_rfl) ?_
    refine Ops.done (by kernel_rfl) ?_
    refine sqQ.n ⟨(.v (.str a0)) :: (dI a1) :: u2 ((dI 0) :: (dI (w64 v1)) :: (dI 4) :: (dI (w64 (w64 v1 - 240))) :: u2 ((.v (.str a0)) :: (dI a1) :: (.v (.int .u8 v1)) :: (dI (w64 v1)) :: (dI (w64 v1)) :: (dI (w64 v1)) :: (dB (decide (w64 v1 ≥ 240))) :: (dI (w64 v1)) :: (dI (w64 (w64 v1 - 240))) :: u40 (u8 []))), []⟩ (by kernel_rfl) ?_
    exact J65j16 4 (w64 (w64 v1 - 240)) _ _ _ _ _ _ _ _ _ _ _ _ h
  · refine Wp.seq' (by kernel_rfl) ?_
    refine Wp.region (by kernel_rfl) ?_
    refine Ops.seg' 2 2 (by kernel_rfl) ?_
    refine Ops.done (by kernel_rfl) ?_
    refine seqQ.n ?_
    have J65j78 : ∀ (v68 : Int) (v69 : Int) (d70 : D) (d71 : D) (d72 : D) (d73 : D) (d74 : D) (d75 : D) (d76 : D) (d77 : D), f65_j5 m a0 a1 v68 v69 = some o → (sqQ (X65 n) [0, 1, 4, 6, 7] 0 (seqQ (X65 n) (cR (cR (cR (cR (cR C65))))) (fnQ (X65 n).E.T (resOf Proofs.Tryd.prog 65) (eI o)))) .normal ⟨(.v (.str a0)) :: (dI a1) :: u2 ((dI 0) :: (dI (w64 v1)) :: (dI v68) :: (dI v69) :: u2 ((.v (.str a0)) :: (dI a1) :: (.v (.int .u8 v1)) :: (dI (w64 v1)) :: (dI (w64 v1)) :: (dI (w64 v1)) :: (dB (decide (w64 v1 ≥ 240))) :: u2 ((dI (w64 v1)) :: (dB (decide (w64 v1 ≥ 224))) :: d70 :: d71 :: d72 :: d73 :: d74 :: d75 :: d76 :: d77 :: u38 []))), []⟩ := by
      intro v68 v69 d70 d71 d72 d73 d74 d75 d76 d77 h
      unfold f65_j5 at h
      refine sqQ.n ⟨(.v (.str a0)) :: (dI a1) :: u2 ((dI 0) :: (dI (w64 v1)) :: (dI v68) :: (dI v69) :: u2 ((.v (.str a0)) :: (dI a1) :: (.v (.int .u8 v1)) :: (dI (w64 v1)) :: (dI (w64 v1)) :: (dI (w64 v1)) :: (dB (decide (w64 v1 ≥ 240))) :: u2 ((dI (w64 v1)) :: (dB (decide (w64 v1 ≥ 224))) :: d70 :: d71 :: d72 :: d73 :: d74 :: d75 :: d76 :: d77 :: u38 []))), []⟩ (by kernel_rfl) ?_
      exact J65j16 v68 v69 _ _ _ _ _ _ _ _ _ _ _ _ h
    refine Wp.cnd h [0, 1, 4, 6, 7] 0 (by kernel_rfl) (fun h => ?_) (fun h => ?_)
    · refine Wp.seq' (by kernel_rfl) ?_
      refine Wp.region (by kernel_rfl) ?_
      refine Ops.seg' 1 1 (by kernel_rfl) ?_
      refine Ops.done (by kernel_rfl) ?_
      refine seqQ.n ?_
      refine Wp.region (by kernel_rfl) ?_
      refine Ops.seg' 3 3 (by kernel_rfl) ?_
      refine Ops.done (by kernel_rfl) ?_
      refine sqQ.n ⟨(.v (.str a0)) :: (dI a1) :: u2 ((dI 0) :: (dI (w64 v1)) :: (dI 3) :: (dI (w64 (w64 v1 - 224))) :: u2 ((.v (.str a0)) :: (dI a1) :: (.v (.int .u8 v1)) :: (dI (w64 v1)) :: (dI (w64 v1)) :: (dI (w64 v1)) :: (dB (decide (w64 v1 ≥ 240))) :: u2 ((dI (w64 v1)) :: (dB (decide (w64 v1 ≥ 224))) :: (dI (w64 v1)) :: (dI (w64 (w64 v1 - 224))) :: u40 (u4 [])))), []⟩ (by kernel_rfl) ?_
      exact J65j78 3 (w64 (w64 v1 - 224)) _ _ _ _ _ _ _ _ h
    · refine Wp.seq' (by kernel_rfl) ?_
      refine Wp.region (by kernel_rfl) ?_
      refine Ops.seg' 2 2 (by kernel_rfl) ?_
      refine Ops.done (by kernel_rfl) ?_
      refine seqQ.n ?_
      have J65j85 : ∀ (v79 : Int) (v80 : Int) (d81 : D) (d82 : D) (d83 : D) (d84 : D), f65_j6 m a0 a1 v79 v80 = some o → (sqQ (X65 n) [0, 1, 4, 6, 7] 0 (sqQ (X65 n) [0, 1, 4, 6, 7] 0 (seqQ (X65 n) (cR (cR (cR (cR (cR C65))))) (fnQ (X65 n).E.T (resOf Proofs.Tryd.prog 65) (eI o))))) .normal ⟨(.v (.str a0)) :: (dI a1) :: u2 ((dI 0) :: (dI (w64 v1)) :: (dI v79) :: (dI v80) :: u2 ((.v (.str a0)) :: (dI a1) :: (.v (.int .u8 v1)) :: (dI (w64 v1)) :: (dI (w64 v1)) :: (dI (w64 v1)) :: (dB (decide (w64 v1 ≥ 240))) :: u2 ((dI (w64 v1)) :: (dB (decide (w64 v1 ≥ 224))) :: u2 ((dI (w64 v1)) :: (dB (decide (w64 v1 ≥ 192))) :: d81 :: d82 :: d83 :: d84 :: u38 [])))), []⟩ := by
        intro v79 v80 d81 d82 d83 d84 h
        unfold f65_j6 at h
        refine sqQ.n ⟨(.v (.str a0)) :: (dI a1) :: u2 ((dI 0) :: (dI (w64 v1)) :: (dI v79) :: (dI v80) :: u2 ((.v (.str a0)) :: (dI a1) :: (.v (.int .u8 v1)) :: (dI (w64 v1)) :: (dI (w64 v1)) :: (dI (w64 v1)) :: (dB (decide (w64 v1 ≥ 240))) :: u2 ((dI (w64 v1)) :: (dB (decide (w64 v1 ≥ 224))) :: u2 ((dI (w64 v1)) :: (dB (decide (w64 v1 ≥ 192))) :: d81 :: d82 :: d83 :: d84 :: u38 [])))), []⟩ (by kernel_rfl) ?_
        exact J65j78 v79 v80 _ _ _ _ _ _ _ _ h
      refine Wp.cnd h [0, 1, 4, 6, 7] 0 (by kernel_rfl) (fun h => ?_) (fun h => ?_)
      · refine Wp.seq' (by kernel_rfl) ?_
        refine Wp.region (by kernel_rfl) ?_
        refine Ops.seg' 1 1 (by kernel_rfl) ?_
        refine Ops.done (by kernel_rfl) ?_
        refine seqQ.n ?_
        refine Wp.region (by kernel_rfl) ?_
        refine Ops.seg' 3 3 (by kernel_rfl) ?_
        refine Ops.done (by kernel_rfl) ?_
        refine sqQ.n ⟨(.v (.str a0)) :: (dI a1) :: u2 ((dI 0) :: (dI (w64 v1)) :: (dI 2) :: (dI (w64 (w64 v1 - 192))) :: u2 ((.v (.str a0)) :: (dI a1) :: (.v (.int .u8 v1)) :: (dI (w64 v1)) :: (dI (w64 v1)) :: (dI (w64 v1)) :: (dB (decide (w64 v1 ≥ 240))) :: u2 ((dI (w64 v1)) :: (dB (decide (w64 v1 ≥ 224))) :: u2 ((dI (w64 v1)) :: (dB (decide (w64 v1 ≥ 192))) :: (dI (w64 v1)) :: (dI (w64 (w64 v1 - 192))) :: u40 [])))), []⟩ (by kernel_rfl) ?_
        exact J65j85 2 (w64 (w64 v1 - 192)) _ _ _ _ h
      · refine Wp.seq' (by kernel_rfl) ?_
        refine Wp.region (by kernel_rfl) ?_
        refine Ops.seg' 2 2 (by kernel_rfl) ?_
        refine Ops.done (by kernel_rfl) ?_
        refine seqQ.n ?_
        refine Wp.cnd h [0, 1, 4, 6, 7] 0 (by kernel_rfl) (fun h => ?_) (fun h => ?_)
        · refine Wp.seq' (by kernel_rfl) ?_
          refine Wp.region (by kernel_rfl) ?_
          refine Ops.seg' 1 1 (by kernel_rfl) ?_
          refine Ops.done (by kernel_rfl) ?_
          refine seqQ.n ?_
          refine Wp.ret (by kernel_rfl) ?_
          refine sqQ.r ?_
          refine sqQ.r ?_
          refine sqQ.r ?_
          refine sqQ.r ?_
          refine seqQ.r ?_
          exact fnQ.r' (X65 n) (fun z => (eI z)) h (RetOk.mk' (dI ((-1))) (by kernel_rfl) (by kernel_rfl))
        · refine Wp.skip (by kernel_rfl) ?_
          refine sqQ.n' ?_
          refine sqQ.n ⟨(.v (.str a0)) :: (dI a1) :: u2 ((dI 0) :: (dI (w64 v1)) :: (dI 1) :: (dI (w64 v1)) :: u2 ((.v (.str a0)) :: (dI a1) :: (.v (.int .u8 v1)) :: (dI (w64 v1)) :: (dI (w64 v1)) :: (dI (w64 v1)) :: (dB (decide (w64 v1 ≥ 240))) :: u2 ((dI (w64 v1)) :: (dB (decide (w64 v1 ≥ 224))) :: u2 ((dI (w64 v1)) :: (dB (decide (w64 v1 ≥ 192))) :: u2 ((dI (w64 v1)) :: (dB (decide (w64 v1 ≥ 128))) :: u38 []))))), []⟩ (by kernel_rfl) ?_
          exact J65j85 1 (w64 v1) _ _ _ _ h

/-! ### 41 glosswright/glosswrightref5.Points -/
def f41_B1 (m : Nat) (a0 : ByteArray) (v12 : (List Int)) (v13 : Int) : Option (Stp (((List Int) × S27)) ((List Int) × Int)) :=
  cnd (decide (v13 < (a0.size : Int)))
  (bnd (f65 m a0 v13) fun v23 =>
  cnd (decide (v23 < 0))
  (bnd (f64 m 5 v13) fun v24 =>
  some (.ret (([], v24))))
  (bnd (app 8 v12 [v23]) fun v25 =>
  bnd (f66 m v23) fun v26 =>
  some (.nxt (v25, w64 (v13 + v26)))))
  (some (.brk (v12, v13)))
def f41 (m : Nat) (a0 : ByteArray) : Option ((List Int) × S27) :=
  cnd (decide ((a0.size : Int) > 4000))
  (bnd (f64 m 1 ((-1))) fun v1 =>
  some (([], v1)))
  (brk (iter (fun (y : (List Int) × Int) => f41_B1 m a0 y.1 y.2) m ([], 0)) some fun y28 =>
  some ((y28.1, (⟨0, 0⟩ : S27))))
noncomputable abbrev X41 (n : Nat) : Cx := cxOf Proofs.Tryd.prog E 41 n
noncomputable def C41 : Code := bodyOf Proofs.Tryd.prog 41
theorem ok41 (m : Nat) (a0 : ByteArray) (o : ((List Int) × S27)) (h : f41 m a0 = some o) (n : Nat) (hn : m + 3 ≤ n) : Fn Proofs.Tryd.prog E n 41 [.v (eS a0)] (.tuple [(eL eI) o.1, e27 o.2]) := by
  obtain ⟨n, rfl⟩ : ∃ q, n = q + 1 := ⟨n - 1, by omega⟩
  unfold f41 at h
  refine Fn.of (by kernel_rfl) (by kernel_rfl) (by kernel_rfl) ⟨(.v (.str a0)) :: u31 [], []⟩ (by kernel_rfl) ?_
  refine Wp.seq' (by kernel_rfl) ?_
  refine Wp.region (by kernel_rfl) ?_
  refine Ops.seg' 2 2 (by kernel_rfl) ?_
  refine Ops.done (by kernel_rfl) ?_
  refine seqQ.n ?_
  refine Wp.seq' (by kernel_rfl) ?_
  refine Wp.seq' (by kernel_rfl) ?_
  refine Wp.region (by kernel_rfl) ?_
  refine Ops.seg' 3 3 (by kernel_rfl) ?_
  refine Ops.done (by kernel_rfl) ?_
  refine seqQ.n ?_
  refine Wp.cnd h [0, 2, 3] 1 (by kernel_rfl) (fun h => ?_) (fun h => ?_)
  · refine Wp.seq' (by kernel_rfl) ?_
    refine Wp.region (by kernel_rfl) ?_
    obtain ⟨v1, ev1, h⟩ := bnd_some h
    refine Ops.one' 1 (fun h0 e0 => (call_ok (E' := E) (h := h0) (by kernel_rfl) (Args.v (vI 1) (eI 1) (by kernel_rfl) (Args.v (vI ((-1))) (eI ((-1))) (by kernel_rfl) Args.nil)) (ok64 m 1 ((-1)) v1 ev1 n (by omega)))) (by kernel_rfl) (by kernel_rfl) ?_
    refine Ops.seg' 2 3 (by kernel_rfl) ?_
    refine Ops.done (by kernel_rfl) ?_
    refine seqQ.n ?_
    refine Wp.ret (by kernel_rfl) ?_
    refine sqQ.r ?_
    refine seqQ.r ?_
    exact fnQ.r' (X41 n) (fun z => (.tuple [(eL eI) z.1, e27 z.2])) h (RetOk.mk' (.v (.tuple [(.sl .nil (List.map eI [])), (.agg [(vI v1.fCode), (vI v1.fIndex)])])) (by kernel_rfl) (by kernel_rfl))
  · refine Wp.skip (by kernel_rfl) ?_
    refine sqQ.n' ?_
    refine seqQ.n ?_
    refine Wp.seq' (by kernel_rfl) ?_
    refine Wp.region (by kernel_rfl) ?_
    refine Ops.seg' 1 1 (by kernel_rfl) ?_
    refine Ops.done (by kernel_rfl) ?_
    refine seqQ.n ?_
    refine Wp.seq' (by kernel_rfl) ?_
    refine Wp.seq' (by kernel_rfl) ?_
    refine Wp.region (by kernel_rfl) ?_
    refine Ops.seg' 1 1 (by kernel_rfl) ?_
    refine Ops.done (by kernel_rfl) ?_
    refine seqQ.n ?_
    refine Wp.block' 0 [2, 3, 4] 2 (by kernel_rfl) ?_
    have hLx27 : ∀ (kx15 : Nat) (v12 : (List Int)) (v13 : Int)  (ox14 : ((List Int) × S27) ⊕ ((List Int) × Int)), iter (fun (y : (List Int) × Int) => f41_B1 m a0 y.1 y.2) kx15 (v12, v13) = some ox14 → ∀ nx16, kx15 ≤ nx16 → (∀ r, ox14 = .inl r → ∀ σ, RetOk (X41 n) (resOf Proofs.Tryd.prog 41) (.tuple [(eL eI) r.1, e27 r.2]) σ → (seqQ (X41 n) (cR (cR (cR (cR C41)))) (fnQ (X41 n).E.T (resOf Proofs.Tryd.prog 41) (.tuple [(eL eI) o.1, e27 o.2]))) .ret σ) → (∀ (y : (List Int) × Int) , ox14 = .inr y → (seqQ (X41 n) (cR (cR (cR (cR C41)))) (fnQ (X41 n).E.T (resOf Proofs.Tryd.prog 41) (.tuple [(eL eI) o.1, e27 o.2]))) .normal ⟨q2 ((.v (.sl .nil (List.map eI []))) :: (.ptr 0 0) :: (appD 2 (List.map eI y.1)) :: q27 []), [(.cells [(dI 0), (dI 0)]), .dead, (appO 1 (List.map eI y.1))]⟩) → Lp (X41 n) [0, 2, 3, 4, 5] 2 (cL (cL (cR (cL (cR (cR (cR C41))))))) nx16 ⟨(.v (.str a0)) :: q1 ((.v (.sl .nil (List.map eI []))) :: (.ptr 0 0) :: (appD 2 (List.map eI v12)) :: (dI v13) :: q26 []), [(.cells [(dI 0), (dI 0)]), .dead, (appO 1 (List.map eI v12))]⟩ (blkQ (X41 n) 0 [2, 3, 4] 2 (seqQ (X41 n) (cR (cR (cR (cR C41)))) (fnQ (X41 n).E.T (resOf Proofs.Tryd.prog 41) (.tuple [(eL eI) o.1, e27 o.2])))) := by
      intro kx15
      induction kx15 with
      | zero => intro v12 v13  ox14 h; exact (iter_zero h).elim
      | succ kx15 ihx17 =>
        intro v12 v13  ox14 h nx16 hnx20 hrx18 hxx19
        obtain ⟨nx16, rfl⟩ : ∃ q, nx16 = q + 1 := ⟨nx16 - 1, by omega⟩
        obtain ⟨sx21, h, hsx22⟩ := iter_some h
        have h : f41_B1 m a0 v12 v13 = some sx21 := h
        unfold f41_B1 at h
        refine Lp.succ ?_
        refine Wp.seq' (by kernel_rfl) ?_
        refine Wp.seq' (by kernel_rfl) ?_
        refine Wp.region (by kernel_rfl) ?_
        refine Ops.seg' 4 4 (by kernel_rfl) ?_
        refine Ops.done (by kernel_rfl) ?_
        refine seqQ.n ?_
        refine Wp.cnd h [0, 2, 3, 4, 5] 3 (by kernel_rfl) (fun h => ?_) (fun h => ?_)
        · refine Wp.skip (by kernel_rfl) ?_
          refine sqQ.n ⟨(.v (.str a0)) :: q1 ((.v (.sl .nil (List.map eI []))) :: (.ptr 0 0) :: (appD 3 (List.map eI v12)) :: (dI v13) :: q26 []), [(.cells [(dI 0), (dI 0)]), .dead, .dead, (appO 1 (List.map eI v12))]⟩ (by generalize v12 = z0; cases z0 <;> kernel_rfl) ?_
          refine seqQ.n ?_
          refine Wp.block' 1 [0, 2, 3, 4, 5] 4 (by kernel_rfl) ?_
          refine Wp.seq' (by kernel_rfl) ?_
          refine Wp.region (by kernel_rfl) ?_
          refine Ops.seg' 2 2 (by kernel_rfl) ?_
          obtain ⟨v23, ev23, h⟩ := bnd_some h
          refine Ops.one' 3 (fun h0 e0 => (call_ok (E' := E) (h := h0) (by kernel_rfl) (Args.v (.str a0) (eS a0) (by kernel_rfl) (Args.v (vI v13) (eI v13) (by kernel_rfl) Args.nil)) (ok65 m a0 v13 v23 ev23 n (by omega)))) (by kernel_rfl) (by kernel_rfl) ?_
          refine Ops.seg' 1 4 (by kernel_rfl) ?_
          refine Ops.done (by kernel_rfl) ?_
          refine seqQ.n ?_
          refine Wp.seq' (by kernel_rfl) ?_
          refine Wp.seq' (by kernel_rfl) ?_
          refine Wp.region (by kernel_rfl) ?_
          refine Ops.seg' 2 2 (by kernel_rfl) ?_
          refine Ops.done (by kernel_rfl) ?_
          refine seqQ.n ?_
          refine Wp.cnd h [0, 2, 3, 4, 5, 6] 4 (by kernel_rfl) (fun h => ?_) (fun h => ?_)
          · refine Wp.seq' (by kernel_rfl) ?_
            refine Wp.region (by kernel_rfl) ?_
            refine Ops.seg' 1 1 (by kernel_rfl) ?_
            obtain ⟨v24, ev24, h⟩ := bnd_some h
            refine Ops.one' 2 (fun h0 e0 => (call_ok (E' := E) (h := h0) (by kernel_rfl) (Args.v (vI 5) (eI 5) (by kernel_rfl) (Args.v (vI v13) (eI v13) (by kernel_rfl) Args.nil)) (ok64 m 5 v13 v24 ev24 n (by omega)))) (by kernel_rfl) (by kernel_rfl) ?_
            refine Ops.seg' 2 4 (by kernel_rfl) ?_
            refine Ops.done (by kernel_rfl) ?_
            refine seqQ.n ?_
            refine Wp.ret (by kernel_rfl) ?_
            refine sqQ.r ?_
            refine seqQ.r ?_
            refine blkQ.r ?_
            cases h
            refine lpQ.r ?_
            refine blkQ.r ?_
            exact hrx18 _ hsx22 _ (RetOk.forget [0, 2, 3, 4, 5] (by kernel_rfl) (RetOk.mk' (.v (.tuple [(.sl .nil (List.map eI [])), (.agg [(vI v24.fCode), (vI v24.fIndex)])])) (by kernel_rfl) (by kernel_rfl)))
          · refine Wp.skip (by kernel_rfl) ?_
            refine sqQ.n ⟨(.v (.str a0)) :: q1 ((.v (.sl .nil (List.map eI []))) :: (.ptr 0 0) :: (appD 4 (List.map eI v12)) :: (dI v13) :: (dI v23) :: q25 []), [(.cells [(dI 0), (dI 0)]), .dead, .dead, .dead, (appO 1 (List.map eI v12))]⟩ (by generalize v12 = z0; cases z0 <;> kernel_rfl) ?_
            refine seqQ.n ?_
            refine Wp.seq' (by kernel_rfl) ?_
            refine Wp.region (by kernel_rfl) ?_
            refine Ops.seg' 3 3 (by kernel_rfl) ?_
            obtain ⟨v25, ev25, h⟩ := bnd_some h
            refine Ops.one' 4 (fun h0 e0 => (app_r (T := T) (g := .nil) h0 44 3 4 1 ti3 .nonfull eI v12 [v23] v25 ev25 (by kernel_rfl) (by kernel_rfl) (by kernel_rfl) (by kernel_rfl) (fun _ => rfl) (hq_of e0 (by kernel_rfl)))) (by kernel_rfl) (by kernel_rfl) ?_
            refine Ops.seg' 1 5 (by kernel_rfl) ?_
            refine Ops.done (by kernel_rfl) ?_
            refine seqQ.n ?_
            refine Wp.region (by kernel_rfl) ?_
            refine Ops.seg' 2 2 (by kernel_rfl) ?_
            obtain ⟨v26, ev26, h⟩ := bnd_some h
            refine Ops.one' 3 (fun h0 e0 => (call_ok (E' := E) (h := h0) (by kernel_rfl) (Args.v (vI v23) (eI v23) (by kernel_rfl) Args.nil) (ok66 m v23 v26 ev26 n (by omega)))) (by kernel_rfl) (by kernel_rfl) ?_
            refine Ops.seg' 2 5 (by kernel_rfl) ?_
            refine Ops.done (by kernel_rfl) ?_
            refine blkQ.n ⟨(.v (.str a0)) :: q1 ((.v (.sl .nil (List.map eI []))) :: (.ptr 0 0) :: (appD 4 (List.map eI v25)) :: (dI (w64 (v13 + v26))) :: q26 []), [(.cells [(dI 0), (dI 0)]), .dead, .dead, .dead, (appO 1 (List.map eI v25))]⟩ (by generalize v25 = z0; cases z0 <;> kernel_rfl) ?_
            refine lpQ.n ⟨(.v (.str a0)) :: q1 ((.v (.sl .nil (List.map eI []))) :: (.ptr 0 0) :: (appD 2 (List.map eI v25)) :: (dI (w64 (v13 + v26))) :: q26 []), [(.cells [(dI 0), (dI 0)]), .dead, (appO 1 (List.map eI v25))]⟩ (by generalize v25 = z0; cases z0 <;> kernel_rfl) ?_
            cases h
            exact ihx17 v25 (w64 (v13 + v26))  _ hsx22 _ (by omega) hrx18 hxx19
        · refine Wp.exit (id := 0) (by kernel_rfl) ?_
          refine sqQ.x ?_
          refine seqQ.x ?_
          cases h
          refine lpQ.x ?_
          refine blkQ.x ⟨q2 ((.v (.sl .nil (List.map eI []))) :: (.ptr 0 0) :: (appD 2 (List.map eI v12)) :: q27 []), [(.cells [(dI 0), (dI 0)]), .dead, (appO 1 (List.map eI v12))]⟩ (by generalize v12 = z0; cases z0 <;> kernel_rfl) ?_
          exact hxx19 (v12, v13)  hsx22
    refine Wp.loop' [0, 2, 3, 4, 5] 2 (by kernel_rfl) ⟨(.v (.str a0)) :: q1 ((.v (.sl .nil (List.map eI []))) :: (.ptr 0 0) :: (appD 2 (List.map eI [])) :: (dI 0) :: q26 []), [(.cells [(dI 0), (dI 0)]), .dead, .dead]⟩ (by kernel_rfl) ?_
    rcases brk_some h with ⟨r29, er29, h⟩ | ⟨y28, ey28, h⟩
    · refine hLx27 _ [] 0  _ er29 n (by omega) (fun r er σ hσ => ?_) (fun y  ey => by cases ey)
      cases er
      refine seqQ.r ?_
      exact fnQ.r' (X41 n) (fun z => (.tuple [(eL eI) z.1, e27 z.2])) h hσ
    · refine hLx27 _ [] 0  _ ey28 n (by omega) (fun r er => by cases er) (fun y  ey => ?_)
      cases ey
      refine seqQ.n ?_
      refine Wp.seq' (by kernel_rfl) ?_
      refine Wp.region (by kernel_rfl) ?_
      refine Ops.seg' 4 4 (by kernel_rfl) ?_
      refine Ops.done (by kernel_rfl) ?_
      refine seqQ.n ?_
      refine Wp.ret (by kernel_rfl) ?_
      exact fnQ.r' (X41 n) (fun z => (.tuple [(eL eI) z.1, e27 z.2])) h (RetOk.tup [(appD 2 (List.map eI y28.1)), (.v (.agg [(vI 0), (vI 0)]))] (by kernel_rfl) (.d (appD 2 (List.map eI y28.1)) _ (appD_frz _ _ _ _) (appF_nt _ _ _) (.v (.agg [(vI 0), (vI 0)]) _ (by kernel_rfl) (by kernel_rfl) .nil)))

/-! ### 16 glosswright/glosswrightref6.Word -/
def f16_B1 (m : Nat) (v65 : Int) (v69 : Int) : Option (Stp Bool (Int)) :=
  cnd (decide (v69 < (([0, 9, 10, 32, 40, 41, 91, 93, 44, 59]).length : Int)))
  (bnd (idx ([0, 9, 10, 32, 40, 41, 91, 93, 44, 59]) v69) fun v79 =>
  cnd (v65 == v79)
  (some (.ret false))
  (some (.nxt (w64 (v69 + 1)))))
  (some (.brk v69))
def f16_B2 (m : Nat) (v1 : ((List Int) × S27)) (v55 : Int) : Option (Stp Bool (Int)) :=
  cnd (decide (v55 < (v1.1.length : Int)))
  (bnd (idx v1.1 v55) fun v65 =>
  brk (iter (fun (y : Int) => f16_B1 m v65 y) m 0) (fun r => some (.ret r)) fun y81 =>
  cnd (decide (v65 ≥ 983040))
  (some (.ret false))
  (some (.nxt (w64 (v55 + 1)))))
  (some (.brk v55))
def f16_r3 (m : Nat) (v1 : ((List Int) × S27)) (v16 : Bool) : Option Bool :=
  cnd v16
  (some false)
  (brk (iter (fun (y : Int) => f16_B2 m v1 y) m 0) some fun y84 =>
  some true)
def f16_r4 (m : Nat) (v1 : ((List Int) × S27)) (v8 : Bool) : Option Bool :=
  f16_r3 m v1 ((v8 || (decide ((v1.1.length : Int) > 30))))
def f16 (m : Nat) (a0 : ByteArray) : Option Bool :=
  bnd (f41 m a0) fun v1 =>
  f16_r4 m v1 (((!((v1.2.fCode == 0) && ((v1.2.fIndex == 0) && true))) || (((v1.1.length : Int)) == 0)))
noncomputable abbrev X16 (n : Nat) : Cx := cxOf Proofs.Tryd.prog E 16 n
noncomputable def C16 : Code := bodyOf Proofs.Tryd.prog 16
theorem ok16 (m : Nat) (a0 : ByteArray) (o : Bool) (h : f16 m a0 = some o) (n : Nat) (hn : m + 4 ≤ n) : Fn Proofs.Tryd.prog E n 16 [.v (eS a0)] (eB o) := by
  obtain ⟨n, rfl⟩ : ∃ q, n = q + 1 := ⟨n - 1, by omega⟩
  unfold f16 at h
  refine Fn.of (by kernel_rfl) (by kernel_rfl) (by kernel_rfl) ⟨(.v (.str a0)) :: u40 (u5 []), []⟩ (by kernel_rfl) ?_
  refine Wp.seq' (by kernel_rfl) ?_
  refine Wp.region (by kernel_rfl) ?_
  refine Ops.seg' 1 1 (by kernel_rfl) ?_
  refine Ops.done (by kernel_rfl) ?_
  refine seqQ.n ?_
  refine Wp.seq' (by kernel_rfl) ?_
  refine Wp.region (by kernel_rfl) ?_
  refine Ops.seg' 1 1 (by kernel_rfl) ?_
  obtain ⟨v1, ev1, h⟩ := bnd_some h
  refine Ops.one' 2 (fun h0 e0 => (call_ok (E' := E) (h := h0) (by kernel_rfl) (Args.v (.str a0) (eS a0) (by kernel_rfl) Args.nil) (ok41 m a0 v1 ev1 n (by omega)))) (by kernel_rfl) (by kernel_rfl) ?_
  refine Ops.seg' 6 8 (by kernel_rfl) ?_
  refine Ops.done (by kernel_rfl) ?_
  refine seqQ.n ?_
  refine Wp.seq' (by kernel_rfl) ?_
  refine Wp.seq' (by kernel_rfl) ?_
  refine Wp.region (by kernel_rfl) ?_
  refine Ops.seg' 4 4 (by kernel_rfl) ?_
  have J16j9 : ∀ (d4 d5 d6 : D) (v7 : Bool) (v8 : Bool), f16_r4 m v1 v8 = some o → Ops (X16 n) (opl (cL (cL (cR (cR C16))))) 8 ⟨(.v (.str a0)) :: u1 ((dB false) :: (dP eI v1.1) :: (.ptr 0 0) :: u4 ((.v (.tuple [(vP eI v1.1), (.agg [(vI v1.2.fCode), (vI v1.2.fIndex)])])) :: (.v (.str a0)) :: (.v (.tuple [(vP eI v1.1), (.agg [(vI v1.2.fCode), (vI v1.2.fIndex)])])) :: (dP eI v1.1) :: (.v (.agg [(vI v1.2.fCode), (vI v1.2.fIndex)])) :: (.v (.agg [(vI v1.2.fCode), (vI v1.2.fIndex)])) :: (.v (.agg [(vI 0), (vI 0)])) :: (dB v7) :: (dB v7) :: d4 :: d5 :: d6 :: (dB v8) :: u24 [])), [(.cells [(dI v1.2.fCode), (dI v1.2.fIndex)])]⟩ ((seqQ (X16 n) (cR (cL (cR (cR C16)))) (seqQ (X16 n) (cR (cR (cR C16))) (fnQ (X16 n).E.T (resOf Proofs.Tryd.prog 16) (eB o)))) .normal) := by
    intro d4 d5 d6 v7 v8 h
    unfold f16_r4 at h
    refine Ops.seg' 1 9 (by kernel_rfl) ?_
    have J16j17 : ∀ (d12 d13 d14 : D) (v15 : Bool) (v16 : Bool), f16_r3 m v1 v16 = some o → Ops (X16 n) (opl (cL (cL (cR (cR C16))))) 13 ⟨(.v (.str a0)) :: u1 ((dB false) :: (dP eI v1.1) :: (.ptr 0 0) :: u4 ((.v (.tuple [(vP eI v1.1), (.agg [(vI v1.2.fCode), (vI v1.2.fIndex)])])) :: (.v (.str a0)) :: (.v (.tuple [(vP eI v1.1), (.agg [(vI v1.2.fCode), (vI v1.2.fIndex)])])) :: (dP eI v1.1) :: (.v (.agg [(vI v1.2.fCode), (vI v1.2.fIndex)])) :: (.v (.agg [(vI v1.2.fCode), (vI v1.2.fIndex)])) :: (.v (.agg [(vI 0), (vI 0)])) :: (dB v7) :: (dB v7) :: d4 :: d5 :: d6 :: (dB v15) :: (dB v15) :: d12 :: d13 :: d14 :: (dB v16) :: u19 [])), [(.cells [(dI v1.2.fCode), (dI v1.2.fIndex)])]⟩ ((seqQ (X16 n) (cR (cL (cR (cR C16)))) (seqQ (X16 n) (cR (cR (cR C16))) (fnQ (X16 n).E.T (resOf Proofs.Tryd.prog 16) (eB o)))) .normal) := by
      intro d12 d13 d14 v15 v16 h
      unfold f16_r3 at h
      refine Ops.done (by kernel_rfl) ?_
      refine seqQ.n ?_
      refine Wp.cnd h [2, 3] 1 (by kernel_rfl) (fun h => ?_) (fun h => ?_)
      · refine Wp.seq' (by kernel_rfl) ?_
        refine Wp.region (by kernel_rfl) ?_
        refine Ops.seg' 1 1 (by kernel_rfl) ?_
        refine Ops.done (by kernel_rfl) ?_
        refine seqQ.n ?_
        refine Wp.ret (by kernel_rfl) ?_
        refine sqQ.r ?_
        refine seqQ.r ?_
        exact fnQ.r' (X16 n) (fun z => (eB z)) h (RetOk.mk' (dB false) (by kernel_rfl) (by kernel_rfl))
      · refine Wp.skip (by kernel_rfl) ?_
        refine sqQ.n' ?_
        refine seqQ.n ?_
        refine Wp.seq' (by kernel_rfl) ?_
        refine Wp.seq' (by kernel_rfl) ?_
        refine Wp.region (by kernel_rfl) ?_
        refine Ops.seg' 1 1 (by kernel_rfl) ?_
        refine Ops.one' 2 (fun h0 e0 => (len_r (T := T) h0 44 3 .plain eI v1.1 (by kernel_rfl))) (by kernel_rfl) (by kernel_rfl) ?_
        refine Ops.seg' 1 3 (by kernel_rfl) ?_
        refine Ops.done (by kernel_rfl) ?_
        refine seqQ.n ?_
        refine Wp.block' 0 [2] 1 (by kernel_rfl) ?_
        have hLx83 : ∀ (kx57 : Nat) (v55 : Int)  (ox56 : Bool ⊕ (Int)), iter (fun (y : Int) => f16_B2 m v1 y) kx57 v55 = some ox56 → ∀ nx58, kx57 ≤ nx58 → (∀ r, ox56 = .inl r → ∀ σ, RetOk (X16 n) (resOf Proofs.Tryd.prog 16) (eB r) σ → (seqQ (X16 n) (cR (cR (cR (cR C16)))) (fnQ (X16 n).E.T (resOf Proofs.Tryd.prog 16) (eB o))) .ret σ) → (∀ (y : Int) , ox56 = .inr y → (seqQ (X16 n) (cR (cR (cR (cR C16)))) (fnQ (X16 n).E.T (resOf Proofs.Tryd.prog 16) (eB o))) .normal ⟨q2 ((dB false) :: q24 ((dP eI v1.1) :: (dI ((v1.1.length : Int))) :: (dI y) :: q16 [])), [(.cells [(dI v1.2.fCode), (dI v1.2.fIndex)])]⟩) → Lp (X16 n) [2, 27, 28, 29] 1 (cL (cL (cR (cL (cR (cR (cR C16))))))) nx58 ⟨q2 ((dB false) :: q24 ((dP eI v1.1) :: (dI ((v1.1.length : Int))) :: (dI v55) :: q16 [])), [(.cells [(dI v1.2.fCode), (dI v1.2.fIndex)])]⟩ (blkQ (X16 n) 0 [2] 1 (seqQ (X16 n) (cR (cR (cR (cR C16)))) (fnQ (X16 n).E.T (resOf Proofs.Tryd.prog 16) (eB o)))) := by
          intro kx57
          induction kx57 with
          | zero => intro v55  ox56 h; exact (iter_zero h).elim
          | succ kx57 ihx59 =>
            intro v55  ox56 h nx58 hnx62 hrx60 hxx61
            obtain ⟨nx58, rfl⟩ : ∃ q, nx58 = q + 1 := ⟨nx58 - 1, by omega⟩
            obtain ⟨sx63, h, hsx64⟩ := iter_some h
            have h : f16_B2 m v1 v55 = some sx63 := h
            unfold f16_B2 at h
            refine Lp.succ ?_
            refine Wp.seq' (by kernel_rfl) ?_
            refine Wp.region (by kernel_rfl) ?_
            refine Ops.seg' 1 1 (by kernel_rfl) ?_
            refine Ops.done (by kernel_rfl) ?_
            refine seqQ.n ?_
            refine Wp.seq' (by kernel_rfl) ?_
            refine Wp.cnd h [2, 27, 28, 29] 1 (by kernel_rfl) (fun h => ?_) (fun h => ?_)
            · refine Wp.skip (by kernel_rfl) ?_
              refine sqQ.n' ?_
              refine seqQ.n ?_
              refine Wp.seq' (by kernel_rfl) ?_
              refine Wp.block' 1 [2, 27, 28, 29] 1 (by kernel_rfl) ?_
              refine Wp.seq' (by kernel_rfl) ?_
              refine Wp.region (by kernel_rfl) ?_
              obtain ⟨v65, ev65, h⟩ := bnd_some h
              refine Ops.one' 1 (fun h0 e0 => (ix_r (T := T) h0 44 3 1 .plain eI v1.1 v55 v65 ev65 (by kernel_rfl) (by kernel_rfl) (fun _ => rfl))) (by kernel_rfl) (by kernel_rfl) ?_
              refine Ops.seg' 2 3 (by kernel_rfl) ?_
              refine Ops.done (by kernel_rfl) ?_
              refine seqQ.n ?_
              refine Wp.seq' (by kernel_rfl) ?_
              refine Wp.seq' (by kernel_rfl) ?_
              refine Wp.region (by kernel_rfl) ?_
              refine Ops.seg' 1 1 (by kernel_rfl) ?_
              refine Ops.one' 2 (fun h0 e0 => (len_r (T := T) h0 44 3 .nonfull eI ([0, 9, 10, 32, 40, 41, 91, 93, 44, 59]) (by kernel_rfl))) (by kernel_rfl) (by kernel_rfl) ?_
              refine Ops.seg' 1 3 (by kernel_rfl) ?_
              refine Ops.done (by kernel_rfl) ?_
              refine seqQ.n ?_
              refine Wp.block' 2 [2, 6, 27, 28, 29] 1 (by kernel_rfl) ?_
              have hLx80 : ∀ (kx71 : Nat) (v69 : Int)  (ox70 : Bool ⊕ (Int)), iter (fun (y : Int) => f16_B1 m v65 y) kx71 v69 = some ox70 → ∀ nx72, kx71 ≤ nx72 → (∀ r, ox70 = .inl r → ∀ σ, RetOk (X16 n) (resOf Proofs.Tryd.prog 16) (eB r) σ → (seqQ (X16 n) (cR (cR (cL (cL (cR (cR (cL (cL (cR (cL (cR (cR (cR C16))))))))))))) (blkQ (X16 n) 1 [2, 27, 28, 29] 1 (seqQ (X16 n) (cR (cR (cR (cL (cL (cR (cL (cR (cR (cR C16)))))))))) (lpQ (X16 n) [2, 27, 28, 29] 1 (cL (cL (cR (cL (cR (cR (cR C16))))))) nx58 (blkQ (X16 n) 0 [2] 1 (seqQ (X16 n) (cR (cR (cR (cR C16)))) (fnQ (X16 n).E.T (resOf Proofs.Tryd.prog 16) (eB o)))))))) .ret σ) → (∀ (y : Int) , ox70 = .inr y → (seqQ (X16 n) (cR (cR (cL (cL (cR (cR (cL (cL (cR (cL (cR (cR (cR C16))))))))))))) (blkQ (X16 n) 1 [2, 27, 28, 29] 1 (seqQ (X16 n) (cR (cR (cR (cL (cL (cR (cL (cR (cR (cR C16)))))))))) (lpQ (X16 n) [2, 27, 28, 29] 1 (cL (cL (cR (cL (cR (cR (cR C16))))))) nx58 (blkQ (X16 n) 0 [2] 1 (seqQ (X16 n) (cR (cR (cR (cR C16)))) (fnQ (X16 n).E.T (resOf Proofs.Tryd.prog 16) (eB o)))))))) .normal ⟨q2 ((dB false) :: q3 ((dI v65) :: q20 ((dP eI v1.1) :: (dI ((v1.1.length : Int))) :: (dI v55) :: q3 ((.v (.sl .nonfull (List.map eI ([0, 9, 10, 32, 40, 41, 91, 93, 44, 59])))) :: (dI ((([0, 9, 10, 32, 40, 41, 91, 93, 44, 59]).length : Int))) :: (dI y) :: q10 [])))), [(.cells [(dI v1.2.fCode), (dI v1.2.fIndex)])]⟩) → Lp (X16 n) [2, 6, 27, 28, 29, 33, 34, 35] 1 (cL (cL (cR (cL (cR (cL (cL (cR (cR (cL (cL (cR (cL (cR (cR (cR C16)))))))))))))))) nx72 ⟨q2 ((dB false) :: q3 ((dI v65) :: q20 ((dP eI v1.1) :: (dI ((v1.1.length : Int))) :: (dI v55) :: q3 ((.v (.sl .nonfull (List.map eI ([0, 9, 10, 32, 40, 41, 91, 93, 44, 59])))) :: (dI ((([0, 9, 10, 32, 40, 41, 91, 93, 44, 59]).length : Int))) :: (dI v69) :: q10 [])))), [(.cells [(dI v1.2.fCode), (dI v1.2.fIndex)])]⟩ (blkQ (X16 n) 2 [2, 6, 27, 28, 29] 1 (seqQ (X16 n) (cR (cR (cL (cL (cR (cR (cL (cL (cR (cL (cR (cR (cR C16))))))))))))) (blkQ (X16 n) 1 [2, 27, 28, 29] 1 (seqQ (X16 n) (cR (cR (cR (cL (cL (cR (cL (cR (cR (cR C16)))))))))) (lpQ (X16 n) [2, 27, 28, 29] 1 (cL (cL (cR (cL (cR (cR (cR C16))))))) nx58 (blkQ (X16 n) 0 [2] 1 (seqQ (X16 n) (cR (cR (cR (cR C16)))) (fnQ (X16 n).E.T (resOf Proofs.Tryd.prog 16) (eB o))))))))) := by
                intro kx71
                induction kx71 with
                | zero => intro v69  ox70 h; exact (iter_zero h).elim
                | succ kx71 ihx73 =>
                  intro v69  ox70 h nx72 hnx76 hrx74 hxx75
                  obtain ⟨nx72, rfl⟩ : ∃ q, nx72 = q + 1 := ⟨nx72 - 1, by omega⟩
                  obtain ⟨sx77, h, hsx78⟩ := iter_some h
                  have h : f16_B1 m v65 v69 = some sx77 := h
                  unfold f16_B1 at h
                  refine Lp.succ ?_
                  refine Wp.seq' (by kernel_rfl) ?_
                  refine Wp.region (by kernel_rfl) ?_
                  refine Ops.seg' 1 1 (by kernel_rfl) ?_
                  refine Ops.done (by kernel_rfl) ?_
                  refine seqQ.n ?_
                  refine Wp.seq' (by kernel_rfl) ?_
                  refine Wp.cnd h [2, 6, 27, 28, 29, 33, 34, 35] 1 (by kernel_rfl) (fun h => ?_) (fun h => ?_)
                  · refine Wp.skip (by kernel_rfl) ?_
                    refine sqQ.n' ?_
                    refine seqQ.n ?_
                    refine Wp.seq' (by kernel_rfl) ?_
                    refine Wp.block' 3 [2, 6, 27, 28, 29, 33, 34, 35] 1 (by kernel_rfl) ?_
                    refine Wp.seq' (by kernel_rfl) ?_
                    refine Wp.region (by kernel_rfl) ?_
                    obtain ⟨v79, ev79, h⟩ := bnd_some h
                    refine Ops.one' 1 (fun h0 e0 => (ix_r (T := T) h0 44 3 1 .nonfull eI ([0, 9, 10, 32, 40, 41, 91, 93, 44, 59]) v69 v79 ev79 (by kernel_rfl) (by kernel_rfl) (fun _ => rfl))) (by kernel_rfl) (by kernel_rfl) ?_
                    refine Ops.seg' 2 3 (by kernel_rfl) ?_
                    refine Ops.done (by kernel_rfl) ?_
                    refine seqQ.n ?_
                    refine Wp.seq' (by kernel_rfl) ?_
                    refine Wp.region (by kernel_rfl) ?_
                    refine Ops.seg' 3 3 (by kernel_rfl) ?_
                    refine Ops.done (by kernel_rfl) ?_
                    refine seqQ.n ?_
                    refine Wp.cnd h [2, 6, 27, 28, 29, 33, 34, 35] 1 (by kernel_rfl) (fun h => ?_) (fun h => ?_)
                    · refine Wp.seq' (by kernel_rfl) ?_
                      refine Wp.region (by kernel_rfl) ?_
                      refine Ops.seg' 1 1 (by kernel_rfl) ?_
                      refine Ops.done (by kernel_rfl) ?_
                      refine seqQ.n ?_
                      refine Wp.ret (by kernel_rfl) ?_
                      refine sqQ.r ?_
                      refine blkQ.r ?_
                      refine seqQ.r ?_
                      cases h
                      refine lpQ.r ?_
                      refine blkQ.r ?_
                      exact hrx74 _ hsx78 _ (RetOk.forget [2, 6, 27, 28, 29, 33, 34, 35] (by kernel_rfl) (RetOk.mk' (dB false) (by kernel_rfl) (by kernel_rfl)))
                    · refine Wp.skip (by kernel_rfl) ?_
                      refine sqQ.n' ?_
                      refine blkQ.n' ?_
                      refine seqQ.n ?_
                      refine Wp.region (by kernel_rfl) ?_
                      refine Ops.seg' 2 2 (by kernel_rfl) ?_
                      refine Ops.done (by kernel_rfl) ?_
                      refine lpQ.n ⟨q2 ((dB false) :: q3 ((dI v65) :: q20 ((dP eI v1.1) :: (dI ((v1.1.length : Int))) :: (dI v55) :: q3 ((.v (.sl .nonfull (List.map eI ([0, 9, 10, 32, 40, 41, 91, 93, 44, 59])))) :: (dI ((([0, 9, 10, 32, 40, 41, 91, 93, 44, 59]).length : Int))) :: (dI (w64 (v69 + 1))) :: q10 [])))), [(.cells [(dI v1.2.fCode), (dI v1.2.fIndex)])]⟩ (by kernel_rfl) ?_
                      cases h
                      exact ihx73 (w64 (v69 + 1))  _ hsx78 _ (by omega) hrx74 hxx75
                  · refine Wp.exit (id := 2) (by kernel_rfl) ?_
                    refine sqQ.x ?_
                    refine seqQ.x ?_
                    cases h
                    refine lpQ.x ?_
                    refine blkQ.x ⟨q2 ((dB false) :: q3 ((dI v65) :: q20 ((dP eI v1.1) :: (dI ((v1.1.length : Int))) :: (dI v55) :: q3 ((.v (.sl .nonfull (List.map eI ([0, 9, 10, 32, 40, 41, 91, 93, 44, 59])))) :: (dI ((([0, 9, 10, 32, 40, 41, 91, 93, 44, 59]).length : Int))) :: (dI v69) :: q10 [])))), [(.cells [(dI v1.2.fCode), (dI v1.2.fIndex)])]⟩ (by kernel_rfl) ?_
                    exact hxx75 v69  hsx78
              refine Wp.loop' [2, 6, 27, 28, 29, 33, 34, 35] 1 (by kernel_rfl) ⟨q2 ((dB false) :: q3 ((dI v65) :: q20 ((dP eI v1.1) :: (dI ((v1.1.length : Int))) :: (dI v55) :: q3 ((.v (.sl .nonfull (List.map eI ([0, 9, 10, 32, 40, 41, 91, 93, 44, 59])))) :: (dI ((([0, 9, 10, 32, 40, 41, 91, 93, 44, 59]).length : Int))) :: (dI 0) :: q10 [])))), [(.cells [(dI v1.2.fCode), (dI v1.2.fIndex)])]⟩ (by kernel_rfl) ?_
              rcases brk_some h with ⟨r82, er82, h⟩ | ⟨y81, ey81, h⟩
              · refine hLx80 _ 0  _ er82 n (by omega) (fun r er σ hσ => ?_) (fun y  ey => by cases ey)
                cases er
                refine seqQ.r ?_
                refine blkQ.r ?_
                refine seqQ.r ?_
                refine lpQ.r ?_
                cases h
                refine blkQ.r ?_
                exact hrx60 _ hsx64 _ (RetOk.forget [2, 27, 28, 29] (by kernel_rfl) hσ)
              · refine hLx80 _ 0  _ ey81 n (by omega) (fun r er => by cases er) (fun y  ey => ?_)
                cases ey
                refine seqQ.n ?_
                refine Wp.seq' (by kernel_rfl) ?_
                refine Wp.region (by kernel_rfl) ?_
                refine Ops.seg' 2 2 (by kernel_rfl) ?_
                refine Ops.done (by kernel_rfl) ?_
                refine seqQ.n ?_
                refine Wp.cnd h [2, 27, 28, 29] 1 (by kernel_rfl) (fun h => ?_) (fun h => ?_)
                · refine Wp.seq' (by kernel_rfl) ?_
                  refine Wp.region (by kernel_rfl) ?_
                  refine Ops.seg' 1 1 (by kernel_rfl) ?_
                  refine Ops.done (by kernel_rfl) ?_
                  refine seqQ.n ?_
                  refine Wp.ret (by kernel_rfl) ?_
                  refine sqQ.r ?_
                  refine blkQ.r ?_
                  refine seqQ.r ?_
                  cases h
                  refine lpQ.r ?_
                  refine blkQ.r ?_
                  exact hrx60 _ hsx64 _ (RetOk.forget [2, 27, 28, 29] (by kernel_rfl) (RetOk.mk' (dB false) (by kernel_rfl) (by kernel_rfl)))
                · refine Wp.skip (by kernel_rfl) ?_
                  refine sqQ.n' ?_
                  refine blkQ.n' ?_
                  refine seqQ.n ?_
                  refine Wp.region (by kernel_rfl) ?_
                  refine Ops.seg' 2 2 (by kernel_rfl) ?_
                  refine Ops.done (by kernel_rfl) ?_
                  refine lpQ.n ⟨q2 ((dB false) :: q24 ((dP eI v1.1) :: (dI ((v1.1.length : Int))) :: (dI (w64 (v55 + 1))) :: q16 [])), [(.cells [(dI v1.2.fCode), (dI v1.2.fIndex)])]⟩ (by kernel_rfl) ?_
                  cases h
                  exact ihx59 (w64 (v55 + 1))  _ hsx64 _ (by omega) hrx60 hxx61
            · refine Wp.exit (id := 0) (by kernel_rfl) ?_
              refine sqQ.x ?_
              refine seqQ.x ?_
              cases h
              refine lpQ.x ?_
              refine blkQ.x ⟨q2 ((dB false) :: q24 ((dP eI v1.1) :: (dI ((v1.1.length : Int))) :: (dI v55) :: q16 [])), [(.cells [(dI v1.2.fCode), (dI v1.2.fIndex)])]⟩ (by kernel_rfl) ?_
              exact hxx61 v55  hsx64
        refine Wp.loop' [2, 27, 28, 29] 1 (by kernel_rfl) ⟨q2 ((dB false) :: q24 ((dP eI v1.1) :: (dI ((v1.1.length : Int))) :: (dI 0) :: q16 [])), [(.cells [(dI v1.2.fCode), (dI v1.2.fIndex)])]⟩ (by kernel_rfl) ?_
        rcases brk_some h with ⟨r85, er85, h⟩ | ⟨y84, ey84, h⟩
        · refine hLx83 _ 0  _ er85 n (by omega) (fun r er σ hσ => ?_) (fun y  ey => by cases ey)
          cases er
          refine seqQ.r ?_
          exact fnQ.r' (X16 n) (fun z => (eB z)) h hσ
        · refine hLx83 _ 0  _ ey84 n (by omega) (fun r er => by cases er) (fun y  ey => ?_)
          cases ey
          refine seqQ.n ?_
          refine Wp.seq' (by kernel_rfl) ?_
          refine Wp.region (by kernel_rfl) ?_
          refine Ops.seg' 1 1 (by kernel_rfl) ?_
          refine Ops.done (by kernel_rfl) ?_
          refine seqQ.n ?_
          refine Wp.ret (by kernel_rfl) ?_
          exact fnQ.r' (X16 n) (fun z => (eB z)) h (RetOk.mk' (dB true) (by kernel_rfl) (by kernel_rfl))
    have G16g11 : ∀ v10 : Bool, f16_r3 m v1 ((v10 || (decide ((v1.1.length : Int) > 30)))) = some o → Ops (X16 n) (opl (cL (cL (cR (cR C16))))) 9 ⟨(.v (.str a0)) :: u1 ((dB false) :: (dP eI v1.1) :: (.ptr 0 0) :: u4 ((.v (.tuple [(vP eI v1.1), (.agg [(vI v1.2.fCode), (vI v1.2.fIndex)])])) :: (.v (.str a0)) :: (.v (.tuple [(vP eI v1.1), (.agg [(vI v1.2.fCode), (vI v1.2.fIndex)])])) :: (dP eI v1.1) :: (.v (.agg [(vI v1.2.fCode), (vI v1.2.fIndex)])) :: (.v (.agg [(vI v1.2.fCode), (vI v1.2.fIndex)])) :: (.v (.agg [(vI 0), (vI 0)])) :: (dB v7) :: (dB v7) :: d4 :: d5 :: d6 :: (dB v10) :: (dB v10) :: u23 [])), [(.cells [(dI v1.2.fCode), (dI v1.2.fIndex)])]⟩ ((seqQ (X16 n) (cR (cL (cR (cR C16)))) (seqQ (X16 n) (cR (cR (cR C16))) (fnQ (X16 n).E.T (resOf Proofs.Tryd.prog 16) (eB o)))) .normal) := by
      intro v10 h
      cases v10
      · refine Ops.seg' 1 10 (by kernel_rfl) ?_
        refine Ops.one' 11 (fun h0 e0 => (len_r (T := T) h0 44 3 .plain eI v1.1 (by kernel_rfl))) (by kernel_rfl) (by kernel_rfl) ?_
        refine Ops.seg' 2 13 (by kernel_rfl) ?_
        refine Ops.st ⟨(.v (.str a0)) :: u1 ((dB false) :: (dP eI v1.1) :: (.ptr 0 0) :: u4 ((.v (.tuple [(vP eI v1.1), (.agg [(vI v1.2.fCode), (vI v1.2.fIndex)])])) :: (.v (.str a0)) :: (.v (.tuple [(vP eI v1.1), (.agg [(vI v1.2.fCode), (vI v1.2.fIndex)])])) :: (dP eI v1.1) :: (.v (.agg [(vI v1.2.fCode), (vI v1.2.fIndex)])) :: (.v (.agg [(vI v1.2.fCode), (vI v1.2.fIndex)])) :: (.v (.agg [(vI 0), (vI 0)])) :: (dB v7) :: (dB v7) :: d4 :: d5 :: d6 :: (dB false) :: (dB false) :: (dP eI v1.1) :: (dI ((v1.1.length : Int))) :: (dB (decide ((v1.1.length : Int) > 30))) :: (dB (decide ((v1.1.length : Int) > 30))) :: u19 [])), [(.cells [(dI v1.2.fCode), (dI v1.2.fIndex)])]⟩ (by kernel_rfl) ?_
        exact J16j17 _ _ _ _ _ h
      · refine Ops.seg' 4 13 (by kernel_rfl) ?_
        refine Ops.st ⟨(.v (.str a0)) :: u1 ((dB false) :: (dP eI v1.1) :: (.ptr 0 0) :: u4 ((.v (.tuple [(vP eI v1.1), (.agg [(vI v1.2.fCode), (vI v1.2.fIndex)])])) :: (.v (.str a0)) :: (.v (.tuple [(vP eI v1.1), (.agg [(vI v1.2.fCode), (vI v1.2.fIndex)])])) :: (dP eI v1.1) :: (.v (.agg [(vI v1.2.fCode), (vI v1.2.fIndex)])) :: (.v (.agg [(vI v1.2.fCode), (vI v1.2.fIndex)])) :: (.v (.agg [(vI 0), (vI 0)])) :: (dB v7) :: (dB v7) :: d4 :: d5 :: d6 :: (dB true) :: (dB true) :: u3 ((dB true) :: u19 []))), [(.cells [(dI v1.2.fCode), (dI v1.2.fIndex)])]⟩ (by kernel_rfl) ?_
        exact J16j17 _ _ _ _ _ h
    exact Ops.st ⟨(.v (.str a0)) :: u1 ((dB false) :: (dP eI v1.1) :: (.ptr 0 0) :: u4 ((.v (.tuple [(vP eI v1.1), (.agg [(vI v1.2.fCode), (vI v1.2.fIndex)])])) :: (.v (.str a0)) :: (.v (.tuple [(vP eI v1.1), (.agg [(vI v1.2.fCode), (vI v1.2.fIndex)])])) :: (dP eI v1.1) :: (.v (.agg [(vI v1.2.fCode), (vI v1.2.fIndex)])) :: (.v (.agg [(vI v1.2.fCode), (vI v1.2.fIndex)])) :: (.v (.agg [(vI 0), (vI 0)])) :: (dB v7) :: (dB v7) :: d4 :: d5 :: d6 :: (dB v8) :: (dB v8) :: u23 [])), [(.cells [(dI v1.2.fCode), (dI v1.2.fIndex)])]⟩ (by kernel_rfl) (G16g11 v8 h)
  have G16g3 : ∀ v2 : Bool, f16_r4 m v1 ((v2 || (((v1.1.length : Int)) == 0))) = some o → Ops (X16 n) (opl (cL (cL (cR (cR C16))))) 4 ⟨(.v (.str a0)) :: u1 ((dB false) :: (dP eI v1.1) :: (.ptr 0 0) :: u4 ((.v (.tuple [(vP eI v1.1), (.agg [(vI v1.2.fCode), (vI v1.2.fIndex)])])) :: (.v (.str a0)) :: (.v (.tuple [(vP eI v1.1), (.agg [(vI v1.2.fCode), (vI v1.2.fIndex)])])) :: (dP eI v1.1) :: (.v (.agg [(vI v1.2.fCode), (vI v1.2.fIndex)])) :: (.v (.agg [(vI v1.2.fCode), (vI v1.2.fIndex)])) :: (.v (.agg [(vI 0), (vI 0)])) :: (dB v2) :: (dB v2) :: u28 [])), [(.cells [(dI v1.2.fCode), (dI v1.2.fIndex)])]⟩ ((seqQ (X16 n) (cR (cL (cR (cR C16)))) (seqQ (X16 n) (cR (cR (cR C16))) (fnQ (X16 n).E.T (resOf Proofs.Tryd.prog 16) (eB o)))) .normal) := by
    intro v2 h
    cases v2
    · refine Ops.seg' 1 5 (by kernel_rfl) ?_
      refine Ops.one' 6 (fun h0 e0 => (len_r (T := T) h0 44 3 .plain eI v1.1 (by kernel_rfl))) (by kernel_rfl) (by kernel_rfl) ?_
      refine Ops.seg' 2 8 (by kernel_rfl) ?_
      refine Ops.st ⟨(.v (.str a0)) :: u1 ((dB false) :: (dP eI v1.1) :: (.ptr 0 0) :: u4 ((.v (.tuple [(vP eI v1.1), (.agg [(vI v1.2.fCode), (vI v1.2.fIndex)])])) :: (.v (.str a0)) :: (.v (.tuple [(vP eI v1.1), (.agg [(vI v1.2.fCode), (vI v1.2.fIndex)])])) :: (dP eI v1.1) :: (.v (.agg [(vI v1.2.fCode), (vI v1.2.fIndex)])) :: (.v (.agg [(vI v1.2.fCode), (vI v1.2.fIndex)])) :: (.v (.agg [(vI 0), (vI 0)])) :: (dB false) :: (dB false) :: (dP eI v1.1) :: (dI ((v1.1.length : Int))) :: (dB (((v1.1.length : Int)) == 0)) :: (dB (((v1.1.length : Int)) == 0)) :: u24 [])), [(.cells [(dI v1.2.fCode), (dI v1.2.fIndex)])]⟩ (by kernel_rfl) ?_
      exact J16j9 _ _ _ _ _ h
    · refine Ops.seg' 4 8 (by kernel_rfl) ?_
      refine Ops.st ⟨(.v (.str a0)) :: u1 ((dB false) :: (dP eI v1.1) :: (.ptr 0 0) :: u4 ((.v (.tuple [(vP eI v1.1), (.agg [(vI v1.2.fCode), (vI v1.2.fIndex)])])) :: (.v (.str a0)) :: (.v (.tuple [(vP eI v1.1), (.agg [(vI v1.2.fCode), (vI v1.2.fIndex)])])) :: (dP eI v1.1) :: (.v (.agg [(vI v1.2.fCode), (vI v1.2.fIndex)])) :: (.v (.agg [(vI v1.2.fCode), (vI v1.2.fIndex)])) :: (.v (.agg [(vI 0), (vI 0)])) :: (dB true) :: (dB true) :: u3 ((dB true) :: u24 []))), [(.cells [(dI v1.2.fCode), (dI v1.2.fIndex)])]⟩ (by kernel_rfl) ?_
      exact J16j9 _ _ _ _ _ h
  exact Ops.st ⟨(.v (.str a0)) :: u1 ((dB false) :: (dP eI v1.1) :: (.ptr 0 0) :: u4 ((.v (.tuple [(vP eI v1.1), (.agg [(vI v1.2.fCode), (vI v1.2.fIndex)])])) :: (.v (.str a0)) :: (.v (.tuple [(vP eI v1.1), (.agg [(vI v1.2.fCode), (vI v1.2.fIndex)])])) :: (dP eI v1.1) :: (.v (.agg [(vI v1.2.fCode), (vI v1.2.fIndex)])) :: (.v (.agg [(vI v1.2.fCode), (vI v1.2.fIndex)])) :: (.v (.agg [(vI 0), (vI 0)])) :: (dB ((!((v1.2.fCode == 0) && ((v1.2.fIndex == 0) && true))))) :: (dB ((!((v1.2.fCode == 0) && ((v1.2.fIndex == 0) && true))))) :: u28 [])), [(.cells [(dI v1.2.fCode), (dI v1.2.fIndex)])]⟩ (by kernel_rfl) (G16g3 (!((v1.2.fCode == 0) && ((v1.2.fIndex == 0) && true))) h)

/-! ### 38 glosswright/glosswrightref6.Part -/
def f38_r1 (m : Nat) (v6 : Bool) : Option Bool :=
  some v6
def f38 (m : Nat) (a0 : ByteArray) : Option Bool :=
  bnd (cnd ((a0.toList == ((⟨#[]⟩ : ByteArray)).toList))
  (some true)
  (bnd (f16 m a0) fun v8 =>
  some v8)) fun v6 =>
  f38_r1 m v6
noncomputable abbrev X38 (n : Nat) : Cx := cxOf Proofs.Tryd.prog E 38 n
noncomputable def C38 : Code := bodyOf Proofs.Tryd.prog 38
theorem ok38 (m : Nat) (a0 : ByteArray) (o : Bool) (h : f38 m a0 = some o) (n : Nat) (hn : m + 5 ≤ n) : Fn Proofs.Tryd.prog E n 38 [.v (eS a0)] (eB o) := by
  obtain ⟨n, rfl⟩ : ∃ q, n = q + 1 := ⟨n - 1, by omega⟩
  unfold f38 at h
  refine Fn.of (by kernel_rfl) (by kernel_rfl) (by kernel_rfl) ⟨(.v (.str a0)) :: u8 [], []⟩ (by kernel_rfl) ?_
  refine Wp.seq' (by kernel_rfl) ?_
  refine Wp.region (by kernel_rfl) ?_
  refine Ops.seg' 1 1 (by kernel_rfl) ?_
  refine Ops.done (by kernel_rfl) ?_
  refine seqQ.n ?_
  refine Wp.seq' (by kernel_rfl) ?_
  refine Wp.region (by kernel_rfl) ?_
  refine Ops.seg' 3 3 (by kernel_rfl) ?_
  have J38j7 : ∀ (d3 d4 : D) (v5 : Bool) (v6 : Bool), f38_r1 m v6 = some o → Ops (X38 n) (opl (cL (cR C38))) 6 ⟨(.v (.str a0)) :: u1 ((dB false) :: (.v (.str a0)) :: (dB v5) :: (dB v5) :: d3 :: d4 :: (dB v6) :: []), []⟩ ((seqQ (X38 n) (cR (cR C38)) (fnQ (X38 n).E.T (resOf Proofs.Tryd.prog 38) (eB o))) .normal) := by
    intro d3 d4 v5 v6 h
    unfold f38_r1 at h
    refine Ops.seg' 1 7 (by kernel_rfl) ?_
    refine Ops.done (by kernel_rfl) ?_
    refine seqQ.n ?_
    refine Wp.ret (by kernel_rfl) ?_
    exact fnQ.r' (X38 n) (fun z => (eB z)) h (RetOk.mk' (dB v6) (by kernel_rfl) (by kernel_rfl))
  obtain ⟨v6, ev6, h⟩ := bnd_some h
  have G38g2 : ∀ v1 : Bool, (cnd v1 (some true) (bnd (f16 m a0) fun v8 => some v8)) = some v6 → Ops (X38 n) (opl (cL (cR C38))) 3 ⟨(.v (.str a0)) :: u1 ((dB false) :: (.v (.str a0)) :: (dB v1) :: (dB v1) :: u3 []), []⟩ ((seqQ (X38 n) (cR (cR C38)) (fnQ (X38 n).E.T (resOf Proofs.Tryd.prog 38) (eB o))) .normal) := by
    intro v1 ev6
    cases v1
    · have ev6 := cnd_f ev6
      refine Ops.seg' 1 4 (by kernel_rfl) ?_
      obtain ⟨v8, ev8, ev6⟩ := bnd_some ev6
      refine Ops.one' 5 (fun h0 e0 => (call_ok (E' := E) (h := h0) (by kernel_rfl) (Args.v (.str a0) (eS a0) (by kernel_rfl) Args.nil) (ok16 m a0 v8 ev8 n (by omega)))) (by kernel_rfl) (by kernel_rfl) ?_
      refine Ops.seg' 1 6 (by kernel_rfl) ?_
      refine Ops.st ⟨(.v (.str a0)) :: u1 ((dB false) :: (.v (.str a0)) :: (dB false) :: (dB false) :: (.v (.str a0)) :: (dB v8) :: (dB v8) :: []), []⟩ (by kernel_rfl) ?_
      exact J38j7 _ _ _ _ (some_sub (fun v6 => f38_r1 m v6 = some o) ev6 h)
    · have ev6 := cnd_t ev6
      refine Ops.seg' 3 6 (by kernel_rfl) ?_
      refine Ops.st ⟨(.v (.str a0)) :: u1 ((dB false) :: (.v (.str a0)) :: (dB true) :: (dB true) :: u2 ((dB true) :: [])), []⟩ (by kernel_rfl) ?_
      exact J38j7 _ _ _ _ (some_sub (fun v6 => f38_r1 m v6 = some o) ev6 h)
  exact Ops.st ⟨(.v (.str a0)) :: u1 ((dB false) :: (.v (.str a0)) :: (dB (((a0.toList == ((⟨#[]⟩ : ByteArray)).toList)))) :: (dB (((a0.toList == ((⟨#[]⟩ : ByteArray)).toList)))) :: u3 []), []⟩ (by kernel_rfl) (G38g2 ((a0.toList == ((⟨#[]⟩ : ByteArray)).toList)) ev6)

/-! ### 14 glosswright/glosswrightref6.ParadigmFault -/
def f14_r1 (m : Nat) (v44 : Int) (v65 : Bool) : Option (Stp S27 (Int)) :=
  cnd v65
  (bnd (f36 m 5 v44) fun v67 =>
  some (.ret v67))
  (some (.nxt (w64 (v44 + 1))))
def f14_B2 (m : Nat) (a0 : S23) (v44 : Int) : Option (Stp S27 (Int)) :=
  cnd (decide (v44 < (a0.fCells.length : Int)))
  (bnd (idx a0.fCells v44) fun v54 =>
  bnd (f37 m v54.fTags 4) fun v55 =>
  cnd (v55 != 0)
  (bnd (f36 m v55 v44) fun v56 =>
  some (.ret v56))
  (bnd (f38 m v54.fCut) fun v57 =>
  bnd (cnd (!v57)
  (some true)
  (bnd (f38 m v54.fAdd) fun v68 =>
  some (!v68))) fun v65 =>
  f14_r1 m v44 v65))
  (some (.brk v44))
def f14_r3 (m : Nat) (a0 : S23) (v10 : Bool) : Option S27 :=
  cnd v10
  (bnd (f36 m 9 ((-1))) fun v12 =>
  some v12)
  (brk (iter (fun (y : Int) => f14_B2 m a0 y) m 0) some fun y70 =>
  some ((⟨0, 0⟩ : S27)))
def f14 (m : Nat) (a0 : S23) : Option S27 :=
  bnd (f35 m a0.fName) fun v1 =>
  cnd (!v1)
  (bnd (f36 m 10 ((-1))) fun v2 =>
  some v2)
  (f14_r3 m a0 (((((a0.fCells.length : Int)) == 0) || (decide ((a0.fCells.length : Int) > 40)))))
noncomputable abbrev X14 (n : Nat) : Cx := cxOf Proofs.Tryd.prog E 14 n
noncomputable def C14 : Code := bodyOf Proofs.Tryd.prog 14
theorem ok14 (m : Nat) (a0 : S23) (o : S27) (h : f14 m a0 = some o) (n : Nat) (hn : m + 6 ≤ n) : Fn Proofs.Tryd.prog E n 14 [.v (e23 a0)] (e27 o) := by
  obtain ⟨n, rfl⟩ : ∃ q, n = q + 1 := ⟨n - 1, by omega⟩
  unfold f14 at h
  refine Fn.of (by kernel_rfl) (by kernel_rfl) (by kernel_rfl) ⟨(.v (.agg [(.str a0.fName), (vP e67 a0.fCells)])) :: u40 (u11 []), []⟩ (by kernel_rfl) ?_
  refine Wp.seq' (by kernel_rfl) ?_
  refine Wp.region (by kernel_rfl) ?_
  refine Ops.seg' 2 2 (by kernel_rfl) ?_
  refine Ops.done (by kernel_rfl) ?_
  refine seqQ.n ?_
  refine Wp.seq' (by kernel_rfl) ?_
  refine Wp.seq' (by kernel_rfl) ?_
  refine Wp.region (by kernel_rfl) ?_
  refine Ops.seg' 2 2 (by kernel_rfl) ?_
  obtain ⟨v1, ev1, h⟩ := bnd_some h
  refine Ops.one' 3 (fun h0 e0 => (call_ok (E' := E) (h := h0) (by kernel_rfl) (Args.v (.str a0.fName) (eS a0.fName) (by kernel_rfl) Args.nil) (ok35 m a0.fName v1 ev1 n (by omega)))) (by kernel_rfl) (by kernel_rfl) ?_
  refine Ops.seg' 1 4 (by kernel_rfl) ?_
  refine Ops.done (by kernel_rfl) ?_
  refine seqQ.n ?_
  refine Wp.cnd h [1, 2] 2 (by kernel_rfl) (fun h => ?_) (fun h => ?_)
  · refine Wp.seq' (by kernel_rfl) ?_
    refine Wp.region (by kernel_rfl) ?_
    obtain ⟨v2, ev2, h⟩ := bnd_some h
    refine Ops.one' 1 (fun h0 e0 => (call_ok (E' := E) (h := h0) (by kernel_rfl) (Args.v (vI 10) (eI 10) (by kernel_rfl) (Args.v (vI ((-1))) (eI ((-1))) (by kernel_rfl) Args.nil)) (ok36 m 10 ((-1)) v2 ev2 n (by omega)))) (by kernel_rfl) (by kernel_rfl) ?_
    refine Ops.seg' 1 2 (by kernel_rfl) ?_
    refine Ops.done (by kernel_rfl) ?_
    refine seqQ.n ?_
    refine Wp.ret (by kernel_rfl) ?_
    refine sqQ.r ?_
    refine seqQ.r ?_
    exact fnQ.r' (X14 n) (fun z => (e27 z)) h (RetOk.mk' (.v (.agg [(vI v2.fCode), (vI v2.fIndex)])) (by kernel_rfl) (by kernel_rfl))
  · refine Wp.skip (by kernel_rfl) ?_
    refine sqQ.n' ?_
    refine seqQ.n ?_
    refine Wp.seq' (by kernel_rfl) ?_
    refine Wp.seq' (by kernel_rfl) ?_
    refine Wp.region (by kernel_rfl) ?_
    refine Ops.seg' 2 2 (by kernel_rfl) ?_
    refine Ops.one' 3 (fun h0 e0 => (len_r (T := T) h0 22 68 .plain e67 a0.fCells (by kernel_rfl))) (by kernel_rfl) (by kernel_rfl) ?_
    refine Ops.seg' 2 5 (by kernel_rfl) ?_
    have J14j11 : ∀ (d5 d6 d7 d8 : D) (v9 : Bool) (v10 : Bool), f14_r3 m a0 v10 = some o → Ops (X14 n) (opl (cL (cL (cR (cR C14))))) 10 ⟨(.v (.agg [(.str a0.fName), (vP e67 a0.fCells)])) :: (.ptr 0 0) :: (.ptr 1 0) :: u3 ((.ptr 0 0) :: (.v (.str a0.fName)) :: (dB v1) :: (dB (!v1)) :: u1 ((.ptr 0 1) :: (dP e67 a0.fCells) :: (dI ((a0.fCells.length : Int))) :: (dB v9) :: (dB v9) :: d5 :: d6 :: d7 :: d8 :: (dB v10) :: u31 [])), [(.cells [(.v (.str a0.fName)), (dP e67 a0.fCells)]), (.cells [(dI 0), (dI 0)])]⟩ ((seqQ (X14 n) (cR (cL (cR (cR C14)))) (seqQ (X14 n) (cR (cR (cR C14))) (fnQ (X14 n).E.T (resOf Proofs.Tryd.prog 14) (e27 o)))) .normal) := by
      intro d5 d6 d7 d8 v9 v10 h
      unfold f14_r3 at h
      refine Ops.done (by kernel_rfl) ?_
      refine seqQ.n ?_
      refine Wp.cnd h [1, 2] 2 (by kernel_rfl) (fun h => ?_) (fun h => ?_)
      · refine Wp.seq' (by kernel_rfl) ?_
        refine Wp.region (by kernel_rfl) ?_
        obtain ⟨v12, ev12, h⟩ := bnd_some h
        refine Ops.one' 1 (fun h0 e0 => (call_ok (E' := E) (h := h0) (by kernel_rfl) (Args.v (vI 9) (eI 9) (by kernel_rfl) (Args.v (vI ((-1))) (eI ((-1))) (by kernel_rfl) Args.nil)) (ok36 m 9 ((-1)) v12 ev12 n (by omega)))) (by kernel_rfl) (by kernel_rfl) ?_
        refine Ops.seg' 1 2 (by kernel_rfl) ?_
        refine Ops.done (by kernel_rfl) ?_
        refine seqQ.n ?_
        refine Wp.ret (by kernel_rfl) ?_
        refine sqQ.r ?_
        refine seqQ.r ?_
        exact fnQ.r' (X14 n) (fun z => (e27 z)) h (RetOk.mk' (.v (.agg [(vI v12.fCode), (vI v12.fIndex)])) (by kernel_rfl) (by kernel_rfl))
      · refine Wp.skip (by kernel_rfl) ?_
        refine sqQ.n' ?_
        refine seqQ.n ?_
        refine Wp.seq' (by kernel_rfl) ?_
        refine Wp.seq' (by kernel_rfl) ?_
        refine Wp.region (by kernel_rfl) ?_
        refine Ops.seg' 2 2 (by kernel_rfl) ?_
        refine Ops.one' 3 (fun h0 e0 => (len_r (T := T) h0 22 68 .plain e67 a0.fCells (by kernel_rfl))) (by kernel_rfl) (by kernel_rfl) ?_
        refine Ops.seg' 1 4 (by kernel_rfl) ?_
        refine Ops.done (by kernel_rfl) ?_
        refine seqQ.n ?_
        refine Wp.block' 0 [2] 2 (by kernel_rfl) ?_
        have hLx69 : ∀ (kx46 : Nat) (v44 : Int)  (ox45 : S27 ⊕ (Int)), iter (fun (y : Int) => f14_B2 m a0 y) kx46 v44 = some ox45 → ∀ nx47, kx46 ≤ nx47 → (∀ r, ox45 = .inl r → ∀ σ, RetOk (X14 n) (resOf Proofs.Tryd.prog 14) (e27 r) σ → (seqQ (X14 n) (cR (cR (cR (cR C14)))) (fnQ (X14 n).E.T (resOf Proofs.Tryd.prog 14) (e27 o))) .ret σ) → (∀ (y : Int) , ox45 = .inr y → (seqQ (X14 n) (cR (cR (cR (cR C14)))) (fnQ (X14 n).E.T (resOf Proofs.Tryd.prog 14) (e27 o))) .normal ⟨q2 ((.ptr 1 0) :: q20 ((dP e67 a0.fCells) :: (dI ((a0.fCells.length : Int))) :: (dI y) :: q26 [])), [(.cells [(.v (.str a0.fName)), (dP e67 a0.fCells)]), (.cells [(dI 0), (dI 0)])]⟩) → Lp (X14 n) [2, 23, 24, 25] 2 (cL (cL (cR (cL (cR (cR (cR C14))))))) nx47 ⟨q2 ((.ptr 1 0) :: q20 ((dP e67 a0.fCells) :: (dI ((a0.fCells.length : Int))) :: (dI v44) :: q26 [])), [(.cells [(.v (.str a0.fName)), (dP e67 a0.fCells)]), (.cells [(dI 0), (dI 0)])]⟩ (blkQ (X14 n) 0 [2] 2 (seqQ (X14 n) (cR (cR (cR (cR C14)))) (fnQ (X14 n).E.T (resOf Proofs.Tryd.prog 14) (e27 o)))) := by
          intro kx46
          induction kx46 with
          | zero => intro v44  ox45 h; exact (iter_zero h).elim
          | succ kx46 ihx48 =>
            intro v44  ox45 h nx47 hnx51 hrx49 hxx50
            obtain ⟨nx47, rfl⟩ : ∃ q, nx47 = q + 1 := ⟨nx47 - 1, by omega⟩
            obtain ⟨sx52, h, hsx53⟩ := iter_some h
            have h : f14_B2 m a0 v44 = some sx52 := h
            unfold f14_B2 at h
            refine Lp.succ ?_
            refine Wp.seq' (by kernel_rfl) ?_
            refine Wp.region (by kernel_rfl) ?_
            refine Ops.seg' 1 1 (by kernel_rfl) ?_
            refine Ops.done (by kernel_rfl) ?_
            refine seqQ.n ?_
            refine Wp.seq' (by kernel_rfl) ?_
            refine Wp.cnd h [2, 23, 24, 25] 2 (by kernel_rfl) (fun h => ?_) (fun h => ?_)
            · refine Wp.skip (by kernel_rfl) ?_
              refine sqQ.n' ?_
              refine seqQ.n ?_
              refine Wp.seq' (by kernel_rfl) ?_
              refine Wp.block' 1 [2, 23, 24, 25] 2 (by kernel_rfl) ?_
              refine Wp.seq' (by kernel_rfl) ?_
              refine Wp.region (by kernel_rfl) ?_
              refine Ops.seg' 1 1 (by kernel_rfl) ?_
              obtain ⟨v54, ev54, h⟩ := bnd_some h
              refine Ops.one' 2 (fun h0 e0 => (ix_r (T := T) h0 22 68 3 .plain e67 a0.fCells v44 v54 ev54 (by kernel_rfl) (by kernel_rfl) (fun _ => rfl))) (by kernel_rfl) (by kernel_rfl) ?_
              refine Ops.seg' 4 6 (by kernel_rfl) ?_
              refine Ops.done (by kernel_rfl) ?_
              refine seqQ.n ?_
              refine Wp.seq' (by kernel_rfl) ?_
              refine Wp.seq' (by kernel_rfl) ?_
              refine Wp.region (by kernel_rfl) ?_
              refine Ops.seg' 2 2 (by kernel_rfl) ?_
              obtain ⟨v55, ev55, h⟩ := bnd_some h
              refine Ops.one' 3 (fun h0 e0 => (call_ok (E' := E) (h := h0) (by kernel_rfl) (Args.v (vP eS v54.fTags) ((eL eS) v54.fTags) (by kernel_rfl) (Args.v (vI 4) (eI 4) (by kernel_rfl) Args.nil)) (ok37 m v54.fTags 4 v55 ev55 n (by omega)))) (by kernel_rfl) (by kernel_rfl) ?_
              refine Ops.seg' 1 4 (by kernel_rfl) ?_
              refine Ops.done (by kernel_rfl) ?_
              refine seqQ.n ?_
              refine Wp.seq' (by kernel_rfl) ?_
              refine Wp.region (by kernel_rfl) ?_
              refine Ops.seg' 2 2 (by kernel_rfl) ?_
              refine Ops.done (by kernel_rfl) ?_
              refine seqQ.n ?_
              refine Wp.cnd h [2, 3, 4, 23, 24, 25] 3 (by kernel_rfl) (fun h => ?_) (fun h => ?_)
              · refine Wp.seq' (by kernel_rfl) ?_
                refine Wp.region (by kernel_rfl) ?_
                refine Ops.seg' 2 2 (by kernel_rfl) ?_
                obtain ⟨v56, ev56, h⟩ := bnd_some h
                refine Ops.one' 3 (fun h0 e0 => (call_ok (E' := E) (h := h0) (by kernel_rfl) (Args.v (vI v55) (eI v55) (by kernel_rfl) (Args.v (vI v44) (eI v44) (by kernel_rfl) Args.nil)) (ok36 m v55 v44 v56 ev56 n (by omega)))) (by kernel_rfl) (by kernel_rfl) ?_
                refine Ops.seg' 1 4 (by kernel_rfl) ?_
                refine Ops.done (by kernel_rfl) ?_
                refine seqQ.n ?_
                refine Wp.ret (by kernel_rfl) ?_
                refine sqQ.r ?_
                refine seqQ.r ?_
                refine blkQ.r ?_
                refine seqQ.r ?_
                cases h
                refine lpQ.r ?_
                refine blkQ.r ?_
                exact hrx49 _ hsx53 _ (RetOk.forget [2, 23, 24, 25] (by kernel_rfl) (RetOk.mk' (.v (.agg [(vI v56.fCode), (vI v56.fIndex)])) (by kernel_rfl) (by kernel_rfl)))
              · refine Wp.skip (by kernel_rfl) ?_
                refine sqQ.n' ?_
                refine seqQ.n ?_
                refine Wp.seq' (by kernel_rfl) ?_
                refine Wp.region (by kernel_rfl) ?_
                refine Ops.seg' 2 2 (by kernel_rfl) ?_
                obtain ⟨v57, ev57, h⟩ := bnd_some h
                refine Ops.one' 3 (fun h0 e0 => (call_ok (E' := E) (h := h0) (by kernel_rfl) (Args.v (.str v54.fCut) (eS v54.fCut) (by kernel_rfl) Args.nil) (ok38 m v54.fCut v57 ev57 n (by omega)))) (by kernel_rfl) (by kernel_rfl) ?_
                refine Ops.seg' 2 5 (by kernel_rfl) ?_
                have J14j66 : ∀ (d60 d61 d62 d63 : D) (v64 : Bool) (v65 : Bool), f14_r1 m v44 v65 = some sx52 → Ops (X14 n) (opl (cL (cR (cR (cL (cL (cR (cR (cL (cL (cR (cL (cR (cR (cR C14))))))))))))))) 10 ⟨q2 ((.ptr 1 0) :: (dI v44) :: (.ptr 2 0) :: (dI v55) :: q17 ((dP e67 a0.fCells) :: (dI ((a0.fCells.length : Int))) :: (dI v44) :: (dB (decide (v44 < (a0.fCells.length : Int)))) :: (dI v44) :: (.vptr [(vP eS v54.fTags), (.str v54.fCut), (.str v54.fAdd)]) :: (.v (.agg [(vP eS v54.fTags), (.str v54.fCut), (.str v54.fAdd)])) :: (.ptr 2 0) :: (dP eS v54.fTags) :: (dI v55) :: (dI v55) :: (dB (v55 != 0)) :: q3 ((.ptr 2 1) :: (.v (.str v54.fCut)) :: (dB v57) :: (dB v64) :: (dB v64) :: d60 :: d61 :: d62 :: d63 :: (dB v65) :: q4 []))), [(.cells [(.v (.str a0.fName)), (dP e67 a0.fCells)]), (.cells [(dI 0), (dI 0)]), (.cells [(dP eS v54.fTags), (.v (.str v54.fCut)), (.v (.str v54.fAdd))])]⟩ ((seqQ (X14 n) (cR (cR (cR (cL (cL (cR (cR (cL (cL (cR (cL (cR (cR (cR C14)))))))))))))) (blkQ (X14 n) 1 [2, 23, 24, 25] 2 (seqQ (X14 n) (cR (cR (cR (cL (cL (cR (cL (cR (cR (cR C14)))))))))) (lpQ (X14 n) [2, 23, 24, 25] 2 (cL (cL (cR (cL (cR (cR (cR C14))))))) nx47 (blkQ (X14 n) 0 [2] 2 (seqQ (X14 n) (cR (cR (cR (cR C14)))) (fnQ (X14 n).E.T (resOf Proofs.Tryd.prog 14) (e27 o)))))))) .normal) := by
                  intro d60 d61 d62 d63 v64 v65 h
                  unfold f14_r1 at h
                  refine Ops.done (by kernel_rfl) ?_
                  refine seqQ.n ?_
                  refine Wp.cnd h [2, 23, 24, 25] 3 (by kernel_rfl) (fun h => ?_) (fun h => ?_)
                  · refine Wp.seq' (by kernel_rfl) ?_
                    refine Wp.region (by kernel_rfl) ?_
                    refine Ops.seg' 1 1 (by kernel_rfl) ?_
                    obtain ⟨v67, ev67, h⟩ := bnd_some h
                    refine Ops.one' 2 (fun h0 e0 => (call_ok (E' := E) (h := h0) (by kernel_rfl) (Args.v (vI 5) (eI 5) (by kernel_rfl) (Args.v (vI v44) (eI v44) (by kernel_rfl) Args.nil)) (ok36 m 5 v44 v67 ev67 n (by omega)))) (by kernel_rfl) (by kernel_rfl) ?_
                    refine Ops.seg' 1 3 (by kernel_rfl) ?_
                    refine Ops.done (by kernel_rfl) ?_
                    refine seqQ.n ?_
                    refine Wp.ret (by kernel_rfl) ?_
                    refine sqQ.r ?_
                    refine blkQ.r ?_
                    refine seqQ.r ?_
                    cases h
                    refine lpQ.r ?_
                    refine blkQ.r ?_
                    exact hrx49 _ hsx53 _ (RetOk.forget [2, 23, 24, 25] (by kernel_rfl) (RetOk.mk' (.v (.agg [(vI v67.fCode), (vI v67.fIndex)])) (by kernel_rfl) (by kernel_rfl)))
                  · refine Wp.skip (by kernel_rfl) ?_
                    refine sqQ.n' ?_
                    refine blkQ.n' ?_
                    refine seqQ.n ?_
                    refine Wp.region (by kernel_rfl) ?_
                    refine Ops.seg' 2 2 (by kernel_rfl) ?_
                    refine Ops.done (by kernel_rfl) ?_
                    refine lpQ.n ⟨q2 ((.ptr 1 0) :: q20 ((dP e67 a0.fCells) :: (dI ((a0.fCells.length : Int))) :: (dI (w64 (v44 + 1))) :: q26 [])), [(.cells [(.v (.str a0.fName)), (dP e67 a0.fCells)]), (.cells [(dI 0), (dI 0)])]⟩ (by kernel_rfl) ?_
                    cases h
                    exact ihx48 (w64 (v44 + 1))  _ hsx53 _ (by omega) hrx49 hxx50
                obtain ⟨v65, ev65, h⟩ := bnd_some h
                have G14g59 : ∀ v58 : Bool, (cnd v58 (some true) (bnd (f38 m v54.fAdd) fun v68 => some (!v68))) = some v65 → Ops (X14 n) (opl (cL (cR (cR (cL (cL (cR (cR (cL (cL (cR (cL (cR (cR (cR C14))))))))))))))) 5 ⟨q2 ((.ptr 1 0) :: (dI v44) :: (.ptr 2 0) :: (dI v55) :: q17 ((dP e67 a0.fCells) :: (dI ((a0.fCells.length : Int))) :: (dI v44) :: (dB (decide (v44 < (a0.fCells.length : Int)))) :: (dI v44) :: (.vptr [(vP eS v54.fTags), (.str v54.fCut), (.str v54.fAdd)]) :: (.v (.agg [(vP eS v54.fTags), (.str v54.fCut), (.str v54.fAdd)])) :: (.ptr 2 0) :: (dP eS v54.fTags) :: (dI v55) :: (dI v55) :: (dB (v55 != 0)) :: q3 ((.ptr 2 1) :: (.v (.str v54.fCut)) :: (dB v57) :: (dB v58) :: (dB v58) :: q9 []))), [(.cells [(.v (.str a0.fName)), (dP e67 a0.fCells)]), (.cells [(dI 0), (dI 0)]), (.cells [(dP eS v54.fTags), (.v (.str v54.fCut)), (.v (.str v54.fAdd))])]⟩ ((seqQ (X14 n) (cR (cR (cR (cL (cL (cR (cR (cL (cL (cR (cL (cR (cR (cR C14)))))))))))))) (blkQ (X14 n) 1 [2, 23, 24, 25] 2 (seqQ (X14 n) (cR (cR (cR (cL (cL (cR (cL (cR (cR (cR C14)))))))))) (lpQ (X14 n) [2, 23, 24, 25] 2 (cL (cL (cR (cL (cR (cR (cR C14))))))) nx47 (blkQ (X14 n) 0 [2] 2 (seqQ (X14 n) (cR (cR (cR (cR C14)))) (fnQ (X14 n).E.T (resOf Proofs.Tryd.prog 14) (e27 o)))))))) .normal) := by
                  intro v58 ev65
                  cases v58
                  · have ev65 := cnd_f ev65
                    refine Ops.seg' 2 7 (by kernel_rfl) ?_
                    obtain ⟨v68, ev68, ev65⟩ := bnd_some ev65
                    refine Ops.one' 8 (fun h0 e0 => (call_ok (E' := E) (h := h0) (by kernel_rfl) (Args.v (.str v54.fAdd) (eS v54.fAdd) (by kernel_rfl) Args.nil) (ok38 m v54.fAdd v68 ev68 n (by omega)))) (by kernel_rfl) (by kernel_rfl) ?_
                    refine Ops.seg' 2 10 (by kernel_rfl) ?_
                    refine Ops.st ⟨q2 ((.ptr 1 0) :: (dI v44) :: (.ptr 2 0) :: (dI v55) :: q17 ((dP e67 a0.fCells) :: (dI ((a0.fCells.length : Int))) :: (dI v44) :: (dB (decide (v44 < (a0.fCells.length : Int)))) :: (dI v44) :: (.vptr [(vP eS v54.fTags), (.str v54.fCut), (.str v54.fAdd)]) :: (.v (.agg [(vP eS v54.fTags), (.str v54.fCut), (.str v54.fAdd)])) :: (.ptr 2 0) :: (dP eS v54.fTags) :: (dI v55) :: (dI v55) :: (dB (v55 != 0)) :: q3 ((.ptr 2 1) :: (.v (.str v54.fCut)) :: (dB v57) :: (dB false) :: (dB false) :: (.ptr 2 2) :: (.v (.str v54.fAdd)) :: (dB v68) :: (dB (!v68)) :: (dB (!v68)) :: q4 []))), [(.cells [(.v (.str a0.fName)), (dP e67 a0.fCells)]), (.cells [(dI 0), (dI 0)]), (.cells [(dP eS v54.fTags), (.v (.str v54.fCut)), (.v (.str v54.fAdd))])]⟩ (by kernel_rfl) ?_
                    exact J14j66 _ _ _ _ _ _ (some_sub (fun v65 => f14_r1 m v44 v65 = some sx52) ev65 h)
                  · have ev65 := cnd_t ev65
                    refine Ops.seg' 5 10 (by kernel_rfl) ?_
                    refine Ops.st ⟨q2 ((.ptr 1 0) :: (dI v44) :: (.ptr 2 0) :: (dI v55) :: q17 ((dP e67 a0.fCells) :: (dI ((a0.fCells.length : Int))) :: (dI v44) :: (dB (decide (v44 < (a0.fCells.length : Int)))) :: (dI v44) :: (.vptr [(vP eS v54.fTags), (.str v54.fCut), (.str v54.fAdd)]) :: (.v (.agg [(vP eS v54.fTags), (.str v54.fCut), (.str v54.fAdd)])) :: (.ptr 2 0) :: (dP eS v54.fTags) :: (dI v55) :: (dI v55) :: (dB (v55 != 0)) :: q3 ((.ptr 2 1) :: (.v (.str v54.fCut)) :: (dB v57) :: (dB true) :: (dB true) :: u4 ((dB true) :: q4 [])))), [(.cells [(.v (.str a0.fName)), (dP e67 a0.fCells)]), (.cells [(dI 0), (dI 0)]), (.cells [(dP eS v54.fTags), (.v (.str v54.fCut)), (.v (.str v54.fAdd))])]⟩ (by kernel_rfl) ?_
                    exact J14j66 _ _ _ _ _ _ (some_sub (fun v65 => f14_r1 m v44 v65 = some sx52) ev65 h)
                exact Ops.st ⟨q2 ((.ptr 1 0) :: (dI v44) :: (.ptr 2 0) :: (dI v55) :: q17 ((dP e67 a0.fCells) :: (dI ((a0.fCells.length : Int))) :: (dI v44) :: (dB (decide (v44 < (a0.fCells.length : Int)))) :: (dI v44) :: (.vptr [(vP eS v54.fTags), (.str v54.fCut), (.str v54.fAdd)]) :: (.v (.agg [(vP eS v54.fTags), (.str v54.fCut), (.str v54.fAdd)])) :: (.ptr 2 0) :: (dP eS v54.fTags) :: (dI v55) :: (dI v55) :: (dB (v55 != 0)) :: q3 ((.ptr 2 1) :: (.v (.str v54.fCut)) :: (dB v57) :: (dB ((!v57))) :: (dB ((!v57))) :: q9 []))), [(.cells [(.v (.str a0.fName)), (dP e67 a0.fCells)]), (.cells [(dI 0), (dI 0)]), (.cells [(dP eS v54.fTags), (.v (.str v54.fCut)), (.v (.str v54.fAdd))])]⟩ (by kernel_rfl) (G14g59 (!v57) ev65)
            · refine Wp.exit (id := 0) (by kernel_rfl) ?_
              refine sqQ.x ?_
              refine seqQ.x ?_
              cases h
              refine lpQ.x ?_
              refine blkQ.x ⟨q2 ((.ptr 1 0) :: q20 ((dP e67 a0.fCells) :: (dI ((a0.fCells.length : Int))) :: (dI v44) :: q26 [])), [(.cells [(.v (.str a0.fName)), (dP e67 a0.fCells)]), (.cells [(dI 0), (dI 0)])]⟩ (by kernel_rfl) ?_
              exact hxx50 v44  hsx53
        refine Wp.loop' [2, 23, 24, 25] 2 (by kernel_rfl) ⟨q2 ((.ptr 1 0) :: q20 ((dP e67 a0.fCells) :: (dI ((a0.fCells.length : Int))) :: (dI 0) :: q26 [])), [(.cells [(.v (.str a0.fName)), (dP e67 a0.fCells)]), (.cells [(dI 0), (dI 0)])]⟩ (by kernel_rfl) ?_
        rcases brk_some h with ⟨r71, er71, h⟩ | ⟨y70, ey70, h⟩
        · refine hLx69 _ 0  _ er71 n (by omega) (fun r er σ hσ => ?_) (fun y  ey => by cases ey)
          cases er
          refine seqQ.r ?_
          exact fnQ.r' (X14 n) (fun z => (e27 z)) h hσ
        · refine hLx69 _ 0  _ ey70 n (by omega) (fun r er => by cases er) (fun y  ey => ?_)
          cases ey
          refine seqQ.n ?_
          refine Wp.seq' (by kernel_rfl) ?_
          refine Wp.region (by kernel_rfl) ?_
          refine Ops.seg' 2 2 (by kernel_rfl) ?_
          refine Ops.done (by kernel_rfl) ?_
          refine seqQ.n ?_
          refine Wp.ret (by kernel_rfl) ?_
          exact fnQ.r' (X14 n) (fun z => (e27 z)) h (RetOk.mk' (.v (.agg [(vI 0), (vI 0)])) (by kernel_rfl) (by kernel_rfl))
    have G14g4 : ∀ v3 : Bool, f14_r3 m a0 ((v3 || (decide ((a0.fCells.length : Int) > 40)))) = some o → Ops (X14 n) (opl (cL (cL (cR (cR C14))))) 5 ⟨(.v (.agg [(.str a0.fName), (vP e67 a0.fCells)])) :: (.ptr 0 0) :: (.ptr 1 0) :: u3 ((.ptr 0 0) :: (.v (.str a0.fName)) :: (dB v1) :: (dB (!v1)) :: u1 ((.ptr 0 1) :: (dP e67 a0.fCells) :: (dI ((a0.fCells.length : Int))) :: (dB v3) :: (dB v3) :: u36 [])), [(.cells [(.v (.str a0.fName)), (dP e67 a0.fCells)]), (.cells [(dI 0), (dI 0)])]⟩ ((seqQ (X14 n) (cR (cL (cR (cR C14)))) (seqQ (X14 n) (cR (cR (cR C14))) (fnQ (X14 n).E.T (resOf Proofs.Tryd.prog 14) (e27 o)))) .normal) := by
      intro v3 h
      cases v3
      · refine Ops.seg' 2 7 (by kernel_rfl) ?_
        refine Ops.one' 8 (fun h0 e0 => (len_r (T := T) h0 22 68 .plain e67 a0.fCells (by kernel_rfl))) (by kernel_rfl) (by kernel_rfl) ?_
        refine Ops.seg' 2 10 (by kernel_rfl) ?_
        refine Ops.st ⟨(.v (.agg [(.str a0.fName), (vP e67 a0.fCells)])) :: (.ptr 0 0) :: (.ptr 1 0) :: u3 ((.ptr 0 0) :: (.v (.str a0.fName)) :: (dB v1) :: (dB (!v1)) :: u1 ((.ptr 0 1) :: (dP e67 a0.fCells) :: (dI ((a0.fCells.length : Int))) :: (dB false) :: (dB false) :: (.ptr 0 1) :: (dP e67 a0.fCells) :: (dI ((a0.fCells.length : Int))) :: (dB (decide ((a0.fCells.length : Int) > 40))) :: (dB (decide ((a0.fCells.length : Int) > 40))) :: u31 [])), [(.cells [(.v (.str a0.fName)), (dP e67 a0.fCells)]), (.cells [(dI 0), (dI 0)])]⟩ (by kernel_rfl) ?_
        exact J14j11 _ _ _ _ _ _ h
      · refine Ops.seg' 5 10 (by kernel_rfl) ?_
        refine Ops.st ⟨(.v (.agg [(.str a0.fName), (vP e67 a0.fCells)])) :: (.ptr 0 0) :: (.ptr 1 0) :: u3 ((.ptr 0 0) :: (.v (.str a0.fName)) :: (dB v1) :: (dB (!v1)) :: u1 ((.ptr 0 1) :: (dP e67 a0.fCells) :: (dI ((a0.fCells.length : Int))) :: (dB true) :: (dB true) :: u4 ((dB true) :: u31 []))), [(.cells [(.v (.str a0.fName)), (dP e67 a0.fCells)]), (.cells [(dI 0), (dI 0)])]⟩ (by kernel_rfl) ?_
        exact J14j11 _ _ _ _ _ _ h
    exact Ops.st ⟨(.v (.agg [(.str a0.fName), (vP e67 a0.fCells)])) :: (.ptr 0 0) :: (.ptr 1 0) :: u3 ((.ptr 0 0) :: (.v (.str a0.fName)) :: (dB v1) :: (dB (!v1)) :: u1 ((.ptr 0 1) :: (dP e67 a0.fCells) :: (dI ((a0.fCells.length : Int))) :: (dB ((((a0.fCells.length : Int)) == 0))) :: (dB ((((a0.fCells.length : Int)) == 0))) :: u36 [])), [(.cells [(.v (.str a0.fName)), (dP e67 a0.fCells)]), (.cells [(dI 0), (dI 0)])]⟩ (by kernel_rfl) (G14g4 (((a0.fCells.length : Int)) == 0) h)

/-! ### 11 glosswright/glosswrightlaw6.ParadigmClassOfTables -/
def f11_r1 (m : Nat) (a0 : (List S23)) (v28 : ((List Int) × S27)) (v37 : Bool) : Option Bool :=
  cnd v37
  (some (decide ((a0.length : Int) > 40)))
  (bnd (idx a0 v28.2.fIndex) fun v39 =>
  bnd (f14 m v39) fun v40 =>
  some (!((v40.fCode == 0) && ((v40.fIndex == 0) && true))))
def f11_B2 (m : Nat) (a1 : Int) (v28 : ((List Int) × S27)) (v44 : Int) : Option (Stp Bool (Int)) :=
  cnd (decide (v44 < (v28.1.length : Int)))
  (bnd (idx v28.1 v44) fun v54 =>
  cnd (v54 == a1)
  (some (.ret true))
  (some (.nxt (w64 (v44 + 1)))))
  (some (.brk v44))
def f11_r3 (m : Nat) (a0 : (List S23)) (a1 : Int) (v19 : ((List S41) × S27)) (v26 : Bool) : Option Bool :=
  cnd v26
  (some true)
  (bnd (f23 m a0 v19.1) fun v28 =>
  cnd (!((v28.2.fCode == 0) && ((v28.2.fIndex == 0) && true)))
  (f11_r1 m a0 v28 (((decide (v28.2.fIndex < 0)) || (decide (v28.2.fIndex ≥ (a0.length : Int))))))
  (brk (iter (fun (y : Int) => f11_B2 m a1 v28 y) m 0) some fun y56 =>
  some false))
def f11_r4 (m : Nat) (a0 : (List S23)) (a1 : Int) (a2 : ByteArray) (v16 : Bool) : Option Bool :=
  cnd v16
  (some true)
  (bnd (idx a0 a1) fun v18 =>
  bnd (f13 m v18 a2) fun v19 =>
  f11_r3 m a0 a1 v19 (((!((v19.2.fCode == 0) && ((v19.2.fIndex == 0) && true))) || (((v19.1.length : Int)) == 0))))
def f11_r5 (m : Nat) (a0 : (List S23)) (a1 : Int) (a2 : ByteArray) (v7 : Bool) : Option Bool :=
  cnd v7
  (some false)
  (f11_r4 m a0 a1 a2 (((decide (a1 < 0)) || (decide (a1 ≥ (a0.length : Int))))))
def f11 (m : Nat) (a0 : (List S23)) (a1 : Int) (a2 : ByteArray) : Option Bool :=
  bnd (f12 m ) fun v1 =>
  bnd (cnd (!v1)
  (some true)
  (bnd (f22 m ) fun v58 =>
  some (!v58))) fun v7 =>
  f11_r5 m a0 a1 a2 v7
noncomputable abbrev X11 (n : Nat) : Cx := cxOf Proofs.Tryd.prog E 11 n
noncomputable def C11 : Code := bodyOf Proofs.Tryd.prog 11
theorem ok11 (m : Nat) (a0 : (List S23)) (a1 : Int) (a2 : ByteArray) (o : Bool) (h : f11 m a0 a1 a2 = some o) (n : Nat) (hn : m + 10 ≤ n) : Fn Proofs.Tryd.prog E n 11 [.v ((eL e23) a0), .v (eI a1), .v (eS a2)] (eB o) := by
  obtain ⟨n, rfl⟩ : ∃ q, n = q + 1 := ⟨n - 1, by omega⟩
  unfold f11 at h
  refine Fn.of (by kernel_rfl) (by kernel_rfl) (by kernel_rfl) ⟨(dP e23 a0) :: (dI a1) :: (.v (.str a2)) :: u40 (u40 (u1 [])), []⟩ (by kernel_rfl) ?_
  refine Wp.seq' (by kernel_rfl) ?_
  refine Wp.region (by kernel_rfl) ?_
  refine Ops.seg' 1 1 (by kernel_rfl) ?_
  refine Ops.done (by kernel_rfl) ?_
  refine seqQ.n ?_
  refine Wp.seq' (by kernel_rfl) ?_
  refine Wp.seq' (by kernel_rfl) ?_
  refine Wp.region (by kernel_rfl) ?_
  obtain ⟨v1, ev1, h⟩ := bnd_some h
  refine Ops.one' 1 (fun h0 e0 => (call_ok (E' := E) (h := h0) (by kernel_rfl) Args.nil (ok12 m  v1 ev1 n (by omega)))) (by kernel_rfl) (by kernel_rfl) ?_
  refine Ops.seg' 2 3 (by kernel_rfl) ?_
  have J11j8 : ∀ (d4 d5 : D) (v6 : Bool) (v7 : Bool), f11_r5 m a0 a1 a2 v7 = some o → Ops (X11 n) (opl (cL (cL (cR C11)))) 6 ⟨(dP e23 a0) :: (dI a1) :: (.v (.str a2)) :: u3 ((dB false) :: u6 ((dB v1) :: (dB v6) :: (dB v6) :: d4 :: d5 :: (dB v7) :: u40 (u25 []))), []⟩ ((seqQ (X11 n) (cR (cL (cR C11))) (seqQ (X11 n) (cR (cR C11)) (fnQ (X11 n).E.T (resOf Proofs.Tryd.prog 11) (eB o)))) .normal) := by
    intro d4 d5 v6 v7 h
    unfold f11_r5 at h
    refine Ops.done (by kernel_rfl) ?_
    refine seqQ.n ?_
    refine Wp.cnd h [0, 1, 2, 6] 0 (by kernel_rfl) (fun h => ?_) (fun h => ?_)
    · refine Wp.seq' (by kernel_rfl) ?_
      refine Wp.region (by kernel_rfl) ?_
      refine Ops.seg' 1 1 (by kernel_rfl) ?_
      refine Ops.done (by kernel_rfl) ?_
      refine seqQ.n ?_
      refine Wp.ret (by kernel_rfl) ?_
      refine sqQ.r ?_
      refine seqQ.r ?_
      exact fnQ.r' (X11 n) (fun z => (eB z)) h (RetOk.mk' (dB false) (by kernel_rfl) (by kernel_rfl))
    · refine Wp.skip (by kernel_rfl) ?_
      refine sqQ.n' ?_
      refine seqQ.n ?_
      refine Wp.seq' (by kernel_rfl) ?_
      refine Wp.seq' (by kernel_rfl) ?_
      refine Wp.region (by kernel_rfl) ?_
      refine Ops.seg' 3 3 (by kernel_rfl) ?_
      have J11j17 : ∀ (d11 d12 d13 d14 : D) (v15 : Bool) (v16 : Bool), f11_r4 m a0 a1 a2 v16 = some o → Ops (X11 n) (opl (cL (cL (cR (cR C11))))) 8 ⟨(dP e23 a0) :: (dI a1) :: (.v (.str a2)) :: u3 ((dB false) :: u6 ((dB v1) :: (dB v6) :: (dB v6) :: d4 :: d5 :: (dB v7) :: (dI a1) :: (dB v15) :: (dB v15) :: d11 :: d12 :: d13 :: d14 :: (dB v16) :: u40 (u17 []))), []⟩ ((seqQ (X11 n) (cR (cL (cR (cR C11)))) (seqQ (X11 n) (cR (cR (cR C11))) (fnQ (X11 n).E.T (resOf Proofs.Tryd.prog 11) (eB o)))) .normal) := by
        intro d11 d12 d13 d14 v15 v16 h
        unfold f11_r4 at h
        refine Ops.done (by kernel_rfl) ?_
        refine seqQ.n ?_
        refine Wp.cnd h [0, 1, 2, 6] 0 (by kernel_rfl) (fun h => ?_) (fun h => ?_)
        · refine Wp.seq' (by kernel_rfl) ?_
          refine Wp.region (by kernel_rfl) ?_
          refine Ops.seg' 1 1 (by kernel_rfl) ?_
          refine Ops.done (by kernel_rfl) ?_
          refine seqQ.n ?_
          refine Wp.ret (by kernel_rfl) ?_
          refine sqQ.r ?_
          refine seqQ.r ?_
          exact fnQ.r' (X11 n) (fun z => (eB z)) h (RetOk.mk' (dB true) (by kernel_rfl) (by kernel_rfl))
        · refine Wp.skip (by kernel_rfl) ?_
          refine sqQ.n' ?_
          refine seqQ.n ?_
          refine Wp.seq' (by kernel_rfl) ?_
          refine Wp.region (by kernel_rfl) ?_
          refine Ops.seg' 2 2 (by kernel_rfl) ?_
          obtain ⟨v18, ev18, h⟩ := bnd_some h
          refine Ops.one' 3 (fun h0 e0 => (ix_r (T := T) h0 43 24 2 .plain e23 a0 a1 v18 ev18 (by kernel_rfl) (by kernel_rfl) (fun _ => rfl))) (by kernel_rfl) (by kernel_rfl) ?_
          refine Ops.seg' 2 5 (by kernel_rfl) ?_
          obtain ⟨v19, ev19, h⟩ := bnd_some h
          refine Ops.one' 6 (fun h0 e0 => (call_ok (E' := E) (h := h0) (by kernel_rfl) (Args.v (.agg [(.str v18.fName), (vP e67 v18.fCells)]) (e23 v18) (by kernel_rfl) (Args.v (.str a2) (eS a2) (by kernel_rfl) Args.nil)) (ok13 m v18 a2 v19 ev19 n (by omega)))) (by kernel_rfl) (by kernel_rfl) ?_
          refine Ops.seg' 6 12 (by kernel_rfl) ?_
          refine Ops.done (by kernel_rfl) ?_
          refine seqQ.n ?_
          refine Wp.seq' (by kernel_rfl) ?_
          refine Wp.seq' (by kernel_rfl) ?_
          refine Wp.region (by kernel_rfl) ?_
          refine Ops.seg' 4 4 (by kernel_rfl) ?_
          have J11j27 : ∀ (d22 d23 d24 : D) (v25 : Bool) (v26 : Bool), f11_r3 m a0 a1 v19 v26 = some o → Ops (X11 n) (opl (cL (cL (cR (cR (cR (cR C11))))))) 8 ⟨(dP e23 a0) :: (dI a1) :: (.v (.str a2)) :: u3 ((dB false) :: (dP e41 v19.1) :: (.ptr 0 0) :: u4 ((dB v1) :: (dB v6) :: (dB v6) :: d4 :: d5 :: (dB v7) :: (dI a1) :: (dB v15) :: (dB v15) :: d11 :: d12 :: d13 :: d14 :: (dB v16) :: (.v (.tuple [(vP e41 v19.1), (.agg [(vI v19.2.fCode), (vI v19.2.fIndex)])])) :: (dP e23 a0) :: (dI a1) :: (.vptr [(.str v18.fName), (vP e67 v18.fCells)]) :: (.v (.agg [(.str v18.fName), (vP e67 v18.fCells)])) :: (.v (.str a2)) :: (.v (.tuple [(vP e41 v19.1), (.agg [(vI v19.2.fCode), (vI v19.2.fIndex)])])) :: (dP e41 v19.1) :: (.v (.agg [(vI v19.2.fCode), (vI v19.2.fIndex)])) :: (.v (.agg [(vI v19.2.fCode), (vI v19.2.fIndex)])) :: (.v (.agg [(vI 0), (vI 0)])) :: (dB v25) :: (dB v25) :: d22 :: d23 :: d24 :: (dB v26) :: u40 [])), [(.cells [(dI v19.2.fCode), (dI v19.2.fIndex)])]⟩ ((seqQ (X11 n) (cR (cL (cR (cR (cR (cR C11)))))) (seqQ (X11 n) (cR (cR (cR (cR (cR C11))))) (fnQ (X11 n).E.T (resOf Proofs.Tryd.prog 11) (eB o)))) .normal) := by
            intro d22 d23 d24 v25 v26 h
            unfold f11_r3 at h
            refine Ops.done (by kernel_rfl) ?_
            refine seqQ.n ?_
            refine Wp.cnd h [0, 1, 6, 7] 1 (by kernel_rfl) (fun h => ?_) (fun h => ?_)
            · refine Wp.seq' (by kernel_rfl) ?_
              refine Wp.region (by kernel_rfl) ?_
              refine Ops.seg' 1 1 (by kernel_rfl) ?_
              refine Ops.done (by kernel_rfl) ?_
              refine seqQ.n ?_
              refine Wp.ret (by kernel_rfl) ?_
              refine sqQ.r ?_
              refine seqQ.r ?_
              exact fnQ.r' (X11 n) (fun z => (eB z)) h (RetOk.mk' (dB true) (by kernel_rfl) (by kernel_rfl))
            · refine Wp.skip (by kernel_rfl) ?_
              refine sqQ.n' ?_
              refine seqQ.n ?_
              refine Wp.seq' (by kernel_rfl) ?_
              refine Wp.region (by kernel_rfl) ?_
              refine Ops.seg' 2 2 (by kernel_rfl) ?_
              obtain ⟨v28, ev28, h⟩ := bnd_some h
              refine Ops.one' 3 (fun h0 e0 => (call_ok (E' := E) (h := h0) (by kernel_rfl) (Args.v (vP e23 a0) ((eL e23) a0) (by kernel_rfl) (Args.v (vP e41 v19.1) ((eL e41) v19.1) (by kernel_rfl) Args.nil)) (ok23 m a0 v19.1 v28 ev28 n (by omega)))) (by kernel_rfl) (by kernel_rfl) ?_
              refine Ops.seg' 6 9 (by kernel_rfl) ?_
              refine Ops.done (by kernel_rfl) ?_
              refine seqQ.n ?_
              refine Wp.seq' (by kernel_rfl) ?_
              refine Wp.seq' (by kernel_rfl) ?_
              refine Wp.region (by kernel_rfl) ?_
              refine Ops.seg' 3 3 (by kernel_rfl) ?_
              refine Ops.done (by kernel_rfl) ?_
              refine seqQ.n ?_
              refine Wp.cnd h [1, 6, 9] 2 (by kernel_rfl) (fun h => ?_) (fun h => ?_)
              · refine Wp.seq' (by kernel_rfl) ?_
                refine Wp.seq' (by kernel_rfl) ?_
                refine Wp.region (by kernel_rfl) ?_
                refine Ops.seg' 4 4 (by kernel_rfl) ?_
                have J11j38 : ∀ (d31 d32 d33 d34 d35 : D) (v36 : Bool) (v37 : Bool), f11_r1 m a0 v28 v37 = some o → Ops (X11 n) (opl (cL (cL (cL (cR (cL (cR (cR (cR (cR (cR (cR C11)))))))))))) 10 ⟨(dP e23 a0) :: (dI a1) :: (.v (.str a2)) :: u3 ((dB false) :: (dP e41 v19.1) :: (.ptr 0 0) :: (dP eI v28.1) :: (.ptr 1 0) :: u2 ((dB v1) :: (dB v6) :: (dB v6) :: d4 :: d5 :: (dB v7) :: (dI a1) :: (dB v15) :: (dB v15) :: d11 :: d12 :: d13 :: d14 :: (dB v16) :: (.v (.tuple [(vP e41 v19.1), (.agg [(vI v19.2.fCode), (vI v19.2.fIndex)])])) :: (dP e23 a0) :: (dI a1) :: (.vptr [(.str v18.fName), (vP e67 v18.fCells)]) :: (.v (.agg [(.str v18.fName), (vP e67 v18.fCells)])) :: (.v (.str a2)) :: (.v (.tuple [(vP e41 v19.1), (.agg [(vI v19.2.fCode), (vI v19.2.fIndex)])])) :: (dP e41 v19.1) :: (.v (.agg [(vI v19.2.fCode), (vI v19.2.fIndex)])) :: (.v (.agg [(vI v19.2.fCode), (vI v19.2.fIndex)])) :: (.v (.agg [(vI 0), (vI 0)])) :: (dB v25) :: (dB v25) :: d22 :: d23 :: d24 :: (dB v26) :: (.v (.tuple [(vP eI v28.1), (.agg [(vI v28.2.fCode), (vI v28.2.fIndex)])])) :: (dP e23 a0) :: (dP e41 v19.1) :: (.v (.tuple [(vP eI v28.1), (.agg [(vI v28.2.fCode), (vI v28.2.fIndex)])])) :: (dP eI v28.1) :: (.v (.agg [(vI v28.2.fCode), (vI v28.2.fIndex)])) :: (.v (.agg [(vI v28.2.fCode), (vI v28.2.fIndex)])) :: (.v (.agg [(vI 0), (vI 0)])) :: (dB (!((v28.2.fCode == 0) && ((v28.2.fIndex == 0) && true)))) :: (.ptr 1 1) :: (dI v28.2.fIndex) :: (dB v36) :: (dB v36) :: d31 :: d32 :: d33 :: d34 :: d35 :: (dB v37) :: u21 [])), [(.cells [(dI v19.2.fCode), (dI v19.2.fIndex)]), (.cells [(dI v28.2.fCode), (dI v28.2.fIndex)])]⟩ ((seqQ (X11 n) (cR (cL (cL (cR (cL (cR (cR (cR (cR (cR (cR C11))))))))))) (seqQ (X11 n) (cR (cL (cR (cL (cR (cR (cR (cR (cR (cR C11)))))))))) (sqQ (X11 n) [1, 6, 9] 2 (seqQ (X11 n) (cR (cR (cR (cR (cR (cR (cR C11))))))) (fnQ (X11 n).E.T (resOf Proofs.Tryd.prog 11) (eB o)))))) .normal) := by
                  intro d31 d32 d33 d34 d35 v36 v37 h
                  unfold f11_r1 at h
                  refine Ops.done (by kernel_rfl) ?_
                  refine seqQ.n ?_
                  refine Wp.cnd h [0, 6, 10] 2 (by kernel_rfl) (fun h => ?_) (fun h => ?_)
                  · refine Wp.seq' (by kernel_rfl) ?_
                    refine Wp.region (by kernel_rfl) ?_
                    refine Ops.seg' 1 1 (by kernel_rfl) ?_
                    refine Ops.one' 2 (fun h0 e0 => (len_r (T := T) h0 43 24 .plain e23 a0 (by kernel_rfl))) (by kernel_rfl) (by kernel_rfl) ?_
                    refine Ops.seg' 2 4 (by kernel_rfl) ?_
                    refine Ops.done (by kernel_rfl) ?_
                    refine seqQ.n ?_
                    refine Wp.ret (by kernel_rfl) ?_
                    refine sqQ.r ?_
                    refine seqQ.r ?_
                    refine sqQ.r ?_
                    refine seqQ.r ?_
                    exact fnQ.r' (X11 n) (fun z => (eB z)) h (RetOk.mk' (dB (decide ((a0.length : Int) > 40))) (by kernel_rfl) (by kernel_rfl))
                  · refine Wp.skip (by kernel_rfl) ?_
                    refine sqQ.n' ?_
                    refine seqQ.n ?_
                    refine Wp.seq' (by kernel_rfl) ?_
                    refine Wp.region (by kernel_rfl) ?_
                    refine Ops.seg' 3 3 (by kernel_rfl) ?_
                    obtain ⟨v39, ev39, h⟩ := bnd_some h
                    refine Ops.one' 4 (fun h0 e0 => (ix_r (T := T) h0 43 24 2 .plain e23 a0 v28.2.fIndex v39 ev39 (by kernel_rfl) (by kernel_rfl) (fun _ => rfl))) (by kernel_rfl) (by kernel_rfl) ?_
                    refine Ops.seg' 1 5 (by kernel_rfl) ?_
                    obtain ⟨v40, ev40, h⟩ := bnd_some h
                    refine Ops.one' 6 (fun h0 e0 => (call_ok (E' := E) (h := h0) (by kernel_rfl) (Args.v (.agg [(.str v39.fName), (vP e67 v39.fCells)]) (e23 v39) (by kernel_rfl) Args.nil) (ok14 m v39 v40 ev40 n (by omega)))) (by kernel_rfl) (by kernel_rfl) ?_
                    refine Ops.seg' 3 9 (by kernel_rfl) ?_
                    refine Ops.done (by kernel_rfl) ?_
                    refine seqQ.n ?_
                    refine Wp.ret (by kernel_rfl) ?_
                    refine sqQ.r ?_
                    refine seqQ.r ?_
                    exact fnQ.r' (X11 n) (fun z => (eB z)) h (RetOk.mk' (dB (!((v40.fCode == 0) && ((v40.fIndex == 0) && true)))) (by kernel_rfl) (by kernel_rfl))
                have G11g30 : ∀ v29 : Bool, f11_r1 m a0 v28 ((v29 || (decide (v28.2.fIndex ≥ (a0.length : Int))))) = some o → Ops (X11 n) (opl (cL (cL (cL (cR (cL (cR (cR (cR (cR (cR (cR C11)))))))))))) 4 ⟨(dP e23 a0) :: (dI a1) :: (.v (.str a2)) :: u3 ((dB false) :: (dP e41 v19.1) :: (.ptr 0 0) :: (dP eI v28.1) :: (.ptr 1 0) :: u2 ((dB v1) :: (dB v6) :: (dB v6) :: d4 :: d5 :: (dB v7) :: (dI a1) :: (dB v15) :: (dB v15) :: d11 :: d12 :: d13 :: d14 :: (dB v16) :: (.v (.tuple [(vP e41 v19.1), (.agg [(vI v19.2.fCode), (vI v19.2.fIndex)])])) :: (dP e23 a0) :: (dI a1) :: (.vptr [(.str v18.fName), (vP e67 v18.fCells)]) :: (.v (.agg [(.str v18.fName), (vP e67 v18.fCells)])) :: (.v (.str a2)) :: (.v (.tuple [(vP e41 v19.1), (.agg [(vI v19.2.fCode), (vI v19.2.fIndex)])])) :: (dP e41 v19.1) :: (.v (.agg [(vI v19.2.fCode), (vI v19.2.fIndex)])) :: (.v (.agg [(vI v19.2.fCode), (vI v19.2.fIndex)])) :: (.v (.agg [(vI 0), (vI 0)])) :: (dB v25) :: (dB v25) :: d22 :: d23 :: d24 :: (dB v26) :: (.v (.tuple [(vP eI v28.1), (.agg [(vI v28.2.fCode), (vI v28.2.fIndex)])])) :: (dP e23 a0) :: (dP e41 v19.1) :: (.v (.tuple [(vP eI v28.1), (.agg [(vI v28.2.fCode), (vI v28.2.fIndex)])])) :: (dP eI v28.1) :: (.v (.agg [(vI v28.2.fCode), (vI v28.2.fIndex)])) :: (.v (.agg [(vI v28.2.fCode), (vI v28.2.fIndex)])) :: (.v (.agg [(vI 0), (vI 0)])) :: (dB (!((v28.2.fCode == 0) && ((v28.2.fIndex == 0) && true)))) :: (.ptr 1 1) :: (dI v28.2.fIndex) :: (dB v29) :: (dB v29) :: u27 [])), [(.cells [(dI v19.2.fCode), (dI v19.2.fIndex)]), (.cells [(dI v28.2.fCode), (dI v28.2.fIndex)])]⟩ ((seqQ (X11 n) (cR (cL (cL (cR (cL (cR (cR (cR (cR (cR (cR C11))))))))))) (seqQ (X11 n) (cR (cL (cR (cL (cR (cR (cR (cR (cR (cR C11)))))))))) (sqQ (X11 n) [1, 6, 9] 2 (seqQ (X11 n) (cR (cR (cR (cR (cR (cR (cR C11))))))) (fnQ (X11 n).E.T (resOf Proofs.Tryd.prog 11) (eB o)))))) .normal) := by
                  intro v29 h
                  cases v29
                  · refine Ops.seg' 3 7 (by kernel_rfl) ?_
                    refine Ops.one' 8 (fun h0 e0 => (len_r (T := T) h0 43 24 .plain e23 a0 (by kernel_rfl))) (by kernel_rfl) (by kernel_rfl) ?_
                    refine Ops.seg' 2 10 (by kernel_rfl) ?_
                    refine Ops.st ⟨(dP e23 a0) :: (dI a1) :: (.v (.str a2)) :: u3 ((dB false) :: (dP e41 v19.1) :: (.ptr 0 0) :: (dP eI v28.1) :: (.ptr 1 0) :: u2 ((dB v1) :: (dB v6) :: (dB v6) :: d4 :: d5 :: (dB v7) :: (dI a1) :: (dB v15) :: (dB v15) :: d11 :: d12 :: d13 :: d14 :: (dB v16) :: (.v (.tuple [(vP e41 v19.1), (.agg [(vI v19.2.fCode), (vI v19.2.fIndex)])])) :: (dP e23 a0) :: (dI a1) :: (.vptr [(.str v18.fName), (vP e67 v18.fCells)]) :: (.v (.agg [(.str v18.fName), (vP e67 v18.fCells)])) :: (.v (.str a2)) :: (.v (.tuple [(vP e41 v19.1), (.agg [(vI v19.2.fCode), (vI v19.2.fIndex)])])) :: (dP e41 v19.1) :: (.v (.agg [(vI v19.2.fCode), (vI v19.2.fIndex)])) :: (.v (.agg [(vI v19.2.fCode), (vI v19.2.fIndex)])) :: (.v (.agg [(vI 0), (vI 0)])) :: (dB v25) :: (dB v25) :: d22 :: d23 :: d24 :: (dB v26) :: (.v (.tuple [(vP eI v28.1), (.agg [(vI v28.2.fCode), (vI v28.2.fIndex)])])) :: (dP e23 a0) :: (dP e41 v19.1) :: (.v (.tuple [(vP eI v28.1), (.agg [(vI v28.2.fCode), (vI v28.2.fIndex)])])) :: (dP eI v28.1) :: (.v (.agg [(vI v28.2.fCode), (vI v28.2.fIndex)])) :: (.v (.agg [(vI v28.2.fCode), (vI v28.2.fIndex)])) :: (.v (.agg [(vI 0), (vI 0)])) :: (dB (!((v28.2.fCode == 0) && ((v28.2.fIndex == 0) && true)))) :: (.ptr 1 1) :: (dI v28.2.fIndex) :: (dB false) :: (dB false) :: (.ptr 1 1) :: (dI v28.2.fIndex) :: (dP e23 a0) :: (dI ((a0.length : Int))) :: (dB (decide (v28.2.fIndex ≥ (a0.length : Int)))) :: (dB (decide (v28.2.fIndex ≥ (a0.length : Int)))) :: u21 [])), [(.cells [(dI v19.2.fCode), (dI v19.2.fIndex)]), (.cells [(dI v28.2.fCode), (dI v28.2.fIndex)])]⟩ (by kernel_rfl) ?_
                    exact J11j38 _ _ _ _ _ _ _ h
                  · refine Ops.seg' 6 10 (by kernel_rfl) ?_
                    refine Ops.st ⟨(dP e23 a0) :: (dI a1) :: (.v (.str a2)) :: u3 ((dB false) :: (dP e41 v19.1) :: (.ptr 0 0) :: (dP eI v28.1) :: (.ptr 1 0) :: u2 ((dB v1) :: (dB v6) :: (dB v6) :: d4 :: d5 :: (dB v7) :: (dI a1) :: (dB v15) :: (dB v15) :: d11 :: d12 :: d13 :: d14 :: (dB v16) :: (.v (.tuple [(vP e41 v19.1), (.agg [(vI v19.2.fCode), (vI v19.2.fIndex)])])) :: (dP e23 a0) :: (dI a1) :: (.vptr [(.str v18.fName), (vP e67 v18.fCells)]) :: (.v (.agg [(.str v18.fName), (vP e67 v18.fCells)])) :: (.v (.str a2)) :: (.v (.tuple [(vP e41 v19.1), (.agg [(vI v19.2.fCode), (vI v19.2.fIndex)])])) :: (dP e41 v19.1) :: (.v (.agg [(vI v19.2.fCode), (vI v19.2.fIndex)])) :: (.v (.agg [(vI v19.2.fCode), (vI v19.2.fIndex)])) :: (.v (.agg [(vI 0), (vI 0)])) :: (dB v25) :: (dB v25) :: d22 :: d23 :: d24 :: (dB v26) :: (.v (.tuple [(vP eI v28.1), (.agg [(vI v28.2.fCode), (vI v28.2.fIndex)])])) :: (dP e23 a0) :: (dP e41 v19.1) :: (.v (.tuple [(vP eI v28.1), (.agg [(vI v28.2.fCode), (vI v28.2.fIndex)])])) :: (dP eI v28.1) :: (.v (.agg [(vI v28.2.fCode), (vI v28.2.fIndex)])) :: (.v (.agg [(vI v28.2.fCode), (vI v28.2.fIndex)])) :: (.v (.agg [(vI 0), (vI 0)])) :: (dB (!((v28.2.fCode == 0) && ((v28.2.fIndex == 0) && true)))) :: (.ptr 1 1) :: (dI v28.2.fIndex) :: (dB true) :: (dB true) :: u5 ((dB true) :: u21 []))), [(.cells [(dI v19.2.fCode), (dI v19.2.fIndex)]), (.cells [(dI v28.2.fCode), (dI v28.2.fIndex)])]⟩ (by kernel_rfl) ?_
                    exact J11j38 _ _ _ _ _ _ _ h
                exact Ops.st ⟨(dP e23 a0) :: (dI a1) :: (.v (.str a2)) :: u3 ((dB false) :: (dP e41 v19.1) :: (.ptr 0 0) :: (dP eI v28.1) :: (.ptr 1 0) :: u2 ((dB v1) :: (dB v6) :: (dB v6) :: d4 :: d5 :: (dB v7) :: (dI a1) :: (dB v15) :: (dB v15) :: d11 :: d12 :: d13 :: d14 :: (dB v16) :: (.v (.tuple [(vP e41 v19.1), (.agg [(vI v19.2.fCode), (vI v19.2.fIndex)])])) :: (dP e23 a0) :: (dI a1) :: (.vptr [(.str v18.fName), (vP e67 v18.fCells)]) :: (.v (.agg [(.str v18.fName), (vP e67 v18.fCells)])) :: (.v (.str a2)) :: (.v (.tuple [(vP e41 v19.1), (.agg [(vI v19.2.fCode), (vI v19.2.fIndex)])])) :: (dP e41 v19.1) :: (.v (.agg [(vI v19.2.fCode), (vI v19.2.fIndex)])) :: (.v (.agg [(vI v19.2.fCode), (vI v19.2.fIndex)])) :: (.v (.agg [(vI 0), (vI 0)])) :: (dB v25) :: (dB v25) :: d22 :: d23 :: d24 :: (dB v26) :: (.v (.tuple [(vP eI v28.1), (.agg [(vI v28.2.fCode), (vI v28.2.fIndex)])])) :: (dP e23 a0) :: (dP e41 v19.1) :: (.v (.tuple [(vP eI v28.1), (.agg [(vI v28.2.fCode), (vI v28.2.fIndex)])])) :: (dP eI v28.1) :: (.v (.agg [(vI v28.2.fCode), (vI v28.2.fIndex)])) :: (.v (.agg [(vI v28.2.fCode), (vI v28.2.fIndex)])) :: (.v (.agg [(vI 0), (vI 0)])) :: (dB (!((v28.2.fCode == 0) && ((v28.2.fIndex == 0) && true)))) :: (.ptr 1 1) :: (dI v28.2.fIndex) :: (dB ((decide (v28.2.fIndex < 0)))) :: (dB ((decide (v28.2.fIndex < 0)))) :: u27 [])), [(.cells [(dI v19.2.fCode), (dI v19.2.fIndex)]), (.cells [(dI v28.2.fCode), (dI v28.2.fIndex)])]⟩ (by kernel_rfl) (G11g30 (decide (v28.2.fIndex < 0)) h)
              · refine Wp.skip (by kernel_rfl) ?_
                refine sqQ.n' ?_
                refine seqQ.n ?_
                refine Wp.seq' (by kernel_rfl) ?_
                refine Wp.seq' (by kernel_rfl) ?_
                refine Wp.region (by kernel_rfl) ?_
                refine Ops.seg' 1 1 (by kernel_rfl) ?_
                refine Ops.one' 2 (fun h0 e0 => (len_r (T := T) h0 44 3 .plain eI v28.1 (by kernel_rfl))) (by kernel_rfl) (by kernel_rfl) ?_
                refine Ops.seg' 1 3 (by kernel_rfl) ?_
                refine Ops.done (by kernel_rfl) ?_
                refine seqQ.n ?_
                refine Wp.block' 0 [6] 2 (by kernel_rfl) ?_
                have hLx55 : ∀ (kx46 : Nat) (v44 : Int)  (ox45 : Bool ⊕ (Int)), iter (fun (y : Int) => f11_B2 m a1 v28 y) kx46 v44 = some ox45 → ∀ nx47, kx46 ≤ nx47 → (∀ r, ox45 = .inl r → ∀ σ, RetOk (X11 n) (resOf Proofs.Tryd.prog 11) (eB r) σ → (seqQ (X11 n) (cR (cR (cR (cR (cR (cR (cR (cR C11)))))))) (fnQ (X11 n).E.T (resOf Proofs.Tryd.prog 11) (eB o))) .ret σ) → (∀ (y : Int) , ox45 = .inr y → (seqQ (X11 n) (cR (cR (cR (cR (cR (cR (cR (cR C11)))))))) (fnQ (X11 n).E.T (resOf Proofs.Tryd.prog 11) (eB o))) .normal ⟨q1 ((dI a1) :: q4 ((dB false) :: q40 (q27 ((dP eI v28.1) :: (dI ((v28.1.length : Int))) :: (dI y) :: q7 [])))), [(.cells [(dI v19.2.fCode), (dI v19.2.fIndex)]), (.cells [(dI v28.2.fCode), (dI v28.2.fIndex)])]⟩) → Lp (X11 n) [1, 6, 74, 75, 76] 2 (cL (cL (cR (cL (cR (cR (cR (cR (cR (cR (cR C11))))))))))) nx47 ⟨q1 ((dI a1) :: q4 ((dB false) :: q40 (q27 ((dP eI v28.1) :: (dI ((v28.1.length : Int))) :: (dI v44) :: q7 [])))), [(.cells [(dI v19.2.fCode), (dI v19.2.fIndex)]), (.cells [(dI v28.2.fCode), (dI v28.2.fIndex)])]⟩ (blkQ (X11 n) 0 [6] 2 (seqQ (X11 n) (cR (cR (cR (cR (cR (cR (cR (cR C11)))))))) (fnQ (X11 n).E.T (resOf Proofs.Tryd.prog 11) (eB o)))) := by
                  intro kx46
                  induction kx46 with
                  | zero => intro v44  ox45 h; exact (iter_zero h).elim
                  | succ kx46 ihx48 =>
                    intro v44  ox45 h nx47 hnx51 hrx49 hxx50
                    obtain ⟨nx47, rfl⟩ : ∃ q, nx47 = q + 1 := ⟨nx47 - 1, by omega⟩
                    obtain ⟨sx52, h, hsx53⟩ := iter_some h
                    have h : f11_B2 m a1 v28 v44 = some sx52 := h
                    unfold f11_B2 at h
                    refine Lp.succ ?_
                    refine Wp.seq' (by kernel_rfl) ?_
                    refine Wp.region (by kernel_rfl) ?_
                    refine Ops.seg' 1 1 (by kernel_rfl) ?_
                    refine Ops.done (by kernel_rfl) ?_
                    refine seqQ.n ?_
                    refine Wp.seq' (by kernel_rfl) ?_
                    refine Wp.cnd h [1, 6, 74, 75, 76] 2 (by kernel_rfl) (fun h => ?_) (fun h => ?_)
                    · refine Wp.skip (by kernel_rfl) ?_
                      refine sqQ.n' ?_
                      refine seqQ.n ?_
                      refine Wp.seq' (by kernel_rfl) ?_
                      refine Wp.block' 1 [1, 6, 74, 75, 76] 2 (by kernel_rfl) ?_
                      refine Wp.seq' (by kernel_rfl) ?_
                      refine Wp.region (by kernel_rfl) ?_
                      obtain ⟨v54, ev54, h⟩ := bnd_some h
                      refine Ops.one' 1 (fun h0 e0 => (ix_r (T := T) h0 44 3 1 .plain eI v28.1 v44 v54 ev54 (by kernel_rfl) (by kernel_rfl) (fun _ => rfl))) (by kernel_rfl) (by kernel_rfl) ?_
                      refine Ops.seg' 2 3 (by kernel_rfl) ?_
                      refine Ops.done (by kernel_rfl) ?_
                      refine seqQ.n ?_
                      refine Wp.seq' (by kernel_rfl) ?_
                      refine Wp.region (by kernel_rfl) ?_
                      refine Ops.seg' 3 3 (by kernel_rfl) ?_
                      refine Ops.done (by kernel_rfl) ?_
                      refine seqQ.n ?_
                      refine Wp.cnd h [1, 6, 74, 75, 76] 2 (by kernel_rfl) (fun h => ?_) (fun h => ?_)
                      · refine Wp.seq' (by kernel_rfl) ?_
                        refine Wp.region (by kernel_rfl) ?_
                        refine Ops.seg' 1 1 (by kernel_rfl) ?_
                        refine Ops.done (by kernel_rfl) ?_
                        refine seqQ.n ?_
                        refine Wp.ret (by kernel_rfl) ?_
                        refine sqQ.r ?_
                        refine blkQ.r ?_
                        refine seqQ.r ?_
                        cases h
                        refine lpQ.r ?_
                        refine blkQ.r ?_
                        exact hrx49 _ hsx53 _ (RetOk.forget [1, 6, 74, 75, 76] (by kernel_rfl) (RetOk.mk' (dB true) (by kernel_rfl) (by kernel_rfl)))
                      · refine Wp.skip (by kernel_rfl) ?_
                        refine sqQ.n' ?_
                        refine blkQ.n' ?_
                        refine seqQ.n ?_
                        refine Wp.region (by kernel_rfl) ?_
                        refine Ops.seg' 2 2 (by kernel_rfl) ?_
                        refine Ops.done (by kernel_rfl) ?_
                        refine lpQ.n ⟨q1 ((dI a1) :: q4 ((dB false) :: q40 (q27 ((dP eI v28.1) :: (dI ((v28.1.length : Int))) :: (dI (w64 (v44 + 1))) :: q7 [])))), [(.cells [(dI v19.2.fCode), (dI v19.2.fIndex)]), (.cells [(dI v28.2.fCode), (dI v28.2.fIndex)])]⟩ (by kernel_rfl) ?_
                        cases h
                        exact ihx48 (w64 (v44 + 1))  _ hsx53 _ (by omega) hrx49 hxx50
                    · refine Wp.exit (id := 0) (by kernel_rfl) ?_
                      refine sqQ.x ?_
                      refine seqQ.x ?_
                      cases h
                      refine lpQ.x ?_
                      refine blkQ.x ⟨q1 ((dI a1) :: q4 ((dB false) :: q40 (q27 ((dP eI v28.1) :: (dI ((v28.1.length : Int))) :: (dI v44) :: q7 [])))), [(.cells [(dI v19.2.fCode), (dI v19.2.fIndex)]), (.cells [(dI v28.2.fCode), (dI v28.2.fIndex)])]⟩ (by kernel_rfl) ?_
                      exact hxx50 v44  hsx53
                refine Wp.loop' [1, 6, 74, 75, 76] 2 (by kernel_rfl) ⟨q1 ((dI a1) :: q4 ((dB false) :: q40 (q27 ((dP eI v28.1) :: (dI ((v28.1.length : Int))) :: (dI 0) :: q7 [])))), [(.cells [(dI v19.2.fCode), (dI v19.2.fIndex)]), (.cells [(dI v28.2.fCode), (dI v28.2.fIndex)])]⟩ (by kernel_rfl) ?_
                rcases brk_some h with ⟨r57, er57, h⟩ | ⟨y56, ey56, h⟩
                · refine hLx55 _ 0  _ er57 n (by omega) (fun r er σ hσ => ?_) (fun y  ey => by cases ey)
                  cases er
                  refine seqQ.r ?_
                  exact fnQ.r' (X11 n) (fun z => (eB z)) h hσ
                · refine hLx55 _ 0  _ ey56 n (by omega) (fun r er => by cases er) (fun y  ey => ?_)
                  cases ey
                  refine seqQ.n ?_
                  refine Wp.seq' (by kernel_rfl) ?_
                  refine Wp.region (by kernel_rfl) ?_
                  refine Ops.seg' 1 1 (by kernel_rfl) ?_
                  refine Ops.done (by kernel_rfl) ?_
                  refine seqQ.n ?_
                  refine Wp.ret (by kernel_rfl) ?_
                  exact fnQ.r' (X11 n) (fun z => (eB z)) h (RetOk.mk' (dB false) (by kernel_rfl) (by kernel_rfl))
          have G11g21 : ∀ v20 : Bool, f11_r3 m a0 a1 v19 ((v20 || (((v19.1.length : Int)) == 0))) = some o → Ops (X11 n) (opl (cL (cL (cR (cR (cR (cR C11))))))) 4 ⟨(dP e23 a0) :: (dI a1) :: (.v (.str a2)) :: u3 ((dB false) :: (dP e41 v19.1) :: (.ptr 0 0) :: u4 ((dB v1) :: (dB v6) :: (dB v6) :: d4 :: d5 :: (dB v7) :: (dI a1) :: (dB v15) :: (dB v15) :: d11 :: d12 :: d13 :: d14 :: (dB v16) :: (.v (.tuple [(vP e41 v19.1), (.agg [(vI v19.2.fCode), (vI v19.2.fIndex)])])) :: (dP e23 a0) :: (dI a1) :: (.vptr [(.str v18.fName), (vP e67 v18.fCells)]) :: (.v (.agg [(.str v18.fName), (vP e67 v18.fCells)])) :: (.v (.str a2)) :: (.v (.tuple [(vP e41 v19.1), (.agg [(vI v19.2.fCode), (vI v19.2.fIndex)])])) :: (dP e41 v19.1) :: (.v (.agg [(vI v19.2.fCode), (vI v19.2.fIndex)])) :: (.v (.agg [(vI v19.2.fCode), (vI v19.2.fIndex)])) :: (.v (.agg [(vI 0), (vI 0)])) :: (dB v20) :: (dB v20) :: u40 (u4 []))), [(.cells [(dI v19.2.fCode), (dI v19.2.fIndex)])]⟩ ((seqQ (X11 n) (cR (cL (cR (cR (cR (cR C11)))))) (seqQ (X11 n) (cR (cR (cR (cR (cR C11))))) (fnQ (X11 n).E.T (resOf Proofs.Tryd.prog 11) (eB o)))) .normal) := by
            intro v20 h
            cases v20
            · refine Ops.seg' 1 5 (by kernel_rfl) ?_
              refine Ops.one' 6 (fun h0 e0 => (len_r (T := T) h0 26 42 .plain e41 v19.1 (by kernel_rfl))) (by kernel_rfl) (by kernel_rfl) ?_
              refine Ops.seg' 2 8 (by kernel_rfl) ?_
              refine Ops.st ⟨(dP e23 a0) :: (dI a1) :: (.v (.str a2)) :: u3 ((dB false) :: (dP e41 v19.1) :: (.ptr 0 0) :: u4 ((dB v1) :: (dB v6) :: (dB v6) :: d4 :: d5 :: (dB v7) :: (dI a1) :: (dB v15) :: (dB v15) :: d11 :: d12 :: d13 :: d14 :: (dB v16) :: (.v (.tuple [(vP e41 v19.1), (.agg [(vI v19.2.fCode), (vI v19.2.fIndex)])])) :: (dP e23 a0) :: (dI a1) :: (.vptr [(.str v18.fName), (vP e67 v18.fCells)]) :: (.v (.agg [(.str v18.fName), (vP e67 v18.fCells)])) :: (.v (.str a2)) :: (.v (.tuple [(vP e41 v19.1), (.agg [(vI v19.2.fCode), (vI v19.2.fIndex)])])) :: (dP e41 v19.1) :: (.v (.agg [(vI v19.2.fCode), (vI v19.2.fIndex)])) :: (.v (.agg [(vI v19.2.fCode), (vI v19.2.fIndex)])) :: (.v (.agg [(vI 0), (vI 0)])) :: (dB false) :: (dB false) :: (dP e41 v19.1) :: (dI ((v19.1.length : Int))) :: (dB (((v19.1.length : Int)) == 0)) :: (dB (((v19.1.length : Int)) == 0)) :: u40 [])), [(.cells [(dI v19.2.fCode), (dI v19.2.fIndex)])]⟩ (by kernel_rfl) ?_
              exact J11j27 _ _ _ _ _ h
            · refine Ops.seg' 4 8 (by kernel_rfl) ?_
              refine Ops.st ⟨(dP e23 a0) :: (dI a1) :: (.v (.str a2)) :: u3 ((dB false) :: (dP e41 v19.1) :: (.ptr 0 0) :: u4 ((dB v1) :: (dB v6) :: (dB v6) :: d4 :: d5 :: (dB v7) :: (dI a1) :: (dB v15) :: (dB v15) :: d11 :: d12 :: d13 :: d14 :: (dB v16) :: (.v (.tuple [(vP e41 v19.1), (.agg [(vI v19.2.fCode), (vI v19.2.fIndex)])])) :: (dP e23 a0) :: (dI a1) :: (.vptr [(.str v18.fName), (vP e67 v18.fCells)]) :: (.v (.agg [(.str v18.fName), (vP e67 v18.fCells)])) :: (.v (.str a2)) :: (.v (.tuple [(vP e41 v19.1), (.agg [(vI v19.2.fCode), (vI v19.2.fIndex)])])) :: (dP e41 v19.1) :: (.v (.agg [(vI v19.2.fCode), (vI v19.2.fIndex)])) :: (.v (.agg [(vI v19.2.fCode), (vI v19.2.fIndex)])) :: (.v (.agg [(vI 0), (vI 0)])) :: (dB true) :: (dB true) :: u3 ((dB true) :: u40 []))), [(.cells [(dI v19.2.fCode), (dI v19.2.fIndex)])]⟩ (by kernel_rfl) ?_
              exact J11j27 _ _ _ _ _ h
          exact Ops.st ⟨(dP e23 a0) :: (dI a1) :: (.v (.str a2)) :: u3 ((dB false) :: (dP e41 v19.1) :: (.ptr 0 0) :: u4 ((dB v1) :: (dB v6) :: (dB v6) :: d4 :: d5 :: (dB v7) :: (dI a1) :: (dB v15) :: (dB v15) :: d11 :: d12 :: d13 :: d14 :: (dB v16) :: (.v (.tuple [(vP e41 v19.1), (.agg [(vI v19.2.fCode), (vI v19.2.fIndex)])])) :: (dP e23 a0) :: (dI a1) :: (.vptr [(.str v18.fName), (vP e67 v18.fCells)]) :: (.v (.agg [(.str v18.fName), (vP e67 v18.fCells)])) :: (.v (.str a2)) :: (.v (.tuple [(vP e41 v19.1), (.agg [(vI v19.2.fCode), (vI v19.2.fIndex)])])) :: (dP e41 v19.1) :: (.v (.agg [(vI v19.2.fCode), (vI v19.2.fIndex)])) :: (.v (.agg [(vI v19.2.fCode), (vI v19.2.fIndex)])) :: (.v (.agg [(vI 0), (vI 0)])) :: (dB ((!((v19.2.fCode == 0) && ((v19.2.fIndex == 0) && true))))) :: (dB ((!((v19.2.fCode == 0) && ((v19.2.fIndex == 0) && true))))) :: u40 (u4 []))), [(.cells [(dI v19.2.fCode), (dI v19.2.fIndex)])]⟩ (by kernel_rfl) (G11g21 (!((v19.2.fCode == 0) && ((v19.2.fIndex == 0) && true))) h)
      have G11g10 : ∀ v9 : Bool, f11_r4 m a0 a1 a2 ((v9 || (decide (a1 ≥ (a0.length : Int))))) = some o → Ops (X11 n) (opl (cL (cL (cR (cR C11))))) 3 ⟨(dP e23 a0) :: (dI a1) :: (.v (.str a2)) :: u3 ((dB false) :: u6 ((dB v1) :: (dB v6) :: (dB v6) :: d4 :: d5 :: (dB v7) :: (dI a1) :: (dB v9) :: (dB v9) :: u40 (u22 []))), []⟩ ((seqQ (X11 n) (cR (cL (cR (cR C11)))) (seqQ (X11 n) (cR (cR (cR C11))) (fnQ (X11 n).E.T (resOf Proofs.Tryd.prog 11) (eB o)))) .normal) := by
        intro v9 h
        cases v9
        · refine Ops.seg' 2 5 (by kernel_rfl) ?_
          refine Ops.one' 6 (fun h0 e0 => (len_r (T := T) h0 43 24 .plain e23 a0 (by kernel_rfl))) (by kernel_rfl) (by kernel_rfl) ?_
          refine Ops.seg' 2 8 (by kernel_rfl) ?_
          refine Ops.st ⟨(dP e23 a0) :: (dI a1) :: (.v (.str a2)) :: u3 ((dB false) :: u6 ((dB v1) :: (dB v6) :: (dB v6) :: d4 :: d5 :: (dB v7) :: (dI a1) :: (dB false) :: (dB false) :: (dI a1) :: (dP e23 a0) :: (dI ((a0.length : Int))) :: (dB (decide (a1 ≥ (a0.length : Int)))) :: (dB (decide (a1 ≥ (a0.length : Int)))) :: u40 (u17 []))), []⟩ (by kernel_rfl) ?_
          exact J11j17 _ _ _ _ _ _ h
        · refine Ops.seg' 5 8 (by kernel_rfl) ?_
          refine Ops.st ⟨(dP e23 a0) :: (dI a1) :: (.v (.str a2)) :: u3 ((dB false) :: u6 ((dB v1) :: (dB v6) :: (dB v6) :: d4 :: d5 :: (dB v7) :: (dI a1) :: (dB true) :: (dB true) :: u4 ((dB true) :: u40 (u17 [])))), []⟩ (by kernel_rfl) ?_
          exact J11j17 _ _ _ _ _ _ h
      exact Ops.st ⟨(dP e23 a0) :: (dI a1) :: (.v (.str a2)) :: u3 ((dB false) :: u6 ((dB v1) :: (dB v6) :: (dB v6) :: d4 :: d5 :: (dB v7) :: (dI a1) :: (dB ((decide (a1 < 0)))) :: (dB ((decide (a1 < 0)))) :: u40 (u22 []))), []⟩ (by kernel_rfl) (G11g10 (decide (a1 < 0)) h)
  obtain ⟨v7, ev7, h⟩ := bnd_some h
  have G11g3 : ∀ v2 : Bool, (cnd v2 (some true) (bnd (f22 m ) fun v58 => some (!v58))) = some v7 → Ops (X11 n) (opl (cL (cL (cR C11)))) 3 ⟨(dP e23 a0) :: (dI a1) :: (.v (.str a2)) :: u3 ((dB false) :: u6 ((dB v1) :: (dB v2) :: (dB v2) :: u40 (u28 []))), []⟩ ((seqQ (X11 n) (cR (cL (cR C11))) (seqQ (X11 n) (cR (cR C11)) (fnQ (X11 n).E.T (resOf Proofs.Tryd.prog 11) (eB o)))) .normal) := by
    intro v2 ev7
    cases v2
    · have ev7 := cnd_f ev7
      obtain ⟨v58, ev58, ev7⟩ := bnd_some ev7
      refine Ops.one' 4 (fun h0 e0 => (call_ok (E' := E) (h := h0) (by kernel_rfl) Args.nil (ok22 m  v58 ev58 n (by omega)))) (by kernel_rfl) (by kernel_rfl) ?_
      refine Ops.seg' 2 6 (by kernel_rfl) ?_
      refine Ops.st ⟨(dP e23 a0) :: (dI a1) :: (.v (.str a2)) :: u3 ((dB false) :: u6 ((dB v1) :: (dB false) :: (dB false) :: (dB v58) :: (dB (!v58)) :: (dB (!v58)) :: u40 (u25 []))), []⟩ (by kernel_rfl) ?_
      exact J11j8 _ _ _ _ (some_sub (fun v7 => f11_r5 m a0 a1 a2 v7 = some o) ev7 h)
    · have ev7 := cnd_t ev7
      refine Ops.seg' 3 6 (by kernel_rfl) ?_
      refine Ops.st ⟨(dP e23 a0) :: (dI a1) :: (.v (.str a2)) :: u3 ((dB false) :: u6 ((dB v1) :: (dB true) :: (dB true) :: u2 ((dB true) :: u40 (u25 [])))), []⟩ (by kernel_rfl) ?_
      exact J11j8 _ _ _ _ (some_sub (fun v7 => f11_r5 m a0 a1 a2 v7 = some o) ev7 h)
  exact Ops.st ⟨(dP e23 a0) :: (dI a1) :: (.v (.str a2)) :: u3 ((dB false) :: u6 ((dB v1) :: (dB ((!v1))) :: (dB ((!v1))) :: u40 (u28 []))), []⟩ (by kernel_rfl) (G11g3 (!v1) ev7)

end Go.Abs
