import Derived.Test.YtppipllchjpfmaaWF1
namespace Go.Abs
set_option linter.unusedVariables false
set_option maxRecDepth 100000

/-! ### 30 glosswright/glosswrightref6.rewriteFault -/
def f30_B1 (m : Nat) (a0 : S28) (v4 : Int) : Option (Stp Int (Int)) :=
  cnd (decide (v4 < (([a0.fFrom, a0.fTo, a0.fLeft, a0.fRight]).length : Int)))
  (bnd (idx ([a0.fFrom, a0.fTo, a0.fLeft, a0.fRight]) v4) fun v14 =>
  cnd (decide ((v14.length : Int) > 3))
  (some (.ret 9))
  (some (.nxt (w64 (v4 + 1)))))
  (some (.brk v4))
def f30_r2 (m : Nat) (v125 : Int) (v141 : Bool) : Option (Stp Int (Int)) :=
  cnd v141
  (some (.ret 3))
  (some (.nxt (w64 (v125 + 1))))
def f30_B3 (m : Nat) (v107 : (List Int)) (v125 : Int) : Option (Stp Int (Int)) :=
  cnd (decide (v125 < (v107.length : Int)))
  (bnd (idx v107 v125) fun v135 =>
  f30_r2 m v125 (((decide (v135 < 1)) || (decide (v135 > 1114111)))))
  (some (.brk v125))
def f30_B4 (m : Nat) (a0 : S28) (v97 : Int) : Option (Stp Int (Int)) :=
  cnd (decide (v97 < (([a0.fFrom, a0.fTo, a0.fLeft, a0.fRight]).length : Int)))
  (bnd (idx ([a0.fFrom, a0.fTo, a0.fLeft, a0.fRight]) v97) fun v107 =>
  brk (iter (fun (y : Int) => f30_B3 m v107 y) m 0) (fun r => some (.ret r)) fun y144 =>
  some (.nxt (w64 (v97 + 1))))
  (some (.brk v97))
def f30 (m : Nat) (a0 : S28) : Option Int :=
  cnd (((a0.fFrom.length : Int)) == 0)
  (some 9)
  (brk (iter (fun (y : Int) => f30_B1 m a0 y) m 0) some fun y16 =>
  brk (iter (fun (y : Int) => f30_B4 m a0 y) m 0) some fun y147 =>
  some 0)
noncomputable abbrev X30 (n : Nat) : Cx := cxOf Proofs.Try.prog E 30 n
noncomputable def C30 : Code := bodyOf Proofs.Try.prog 30
theorem ok30 (m : Nat) (a0 : S28) (o : Int) (h : f30 m a0 = some o) (n : Nat) (hn : m + 1 ≤ n) : Fn Proofs.Try.prog E n 30 [e28 a0] (eI o) := by
  obtain ⟨n, rfl⟩ : ∃ q, n = q + 1 := ⟨n - 1, by omega⟩
  unfold f30 at h
  refine Fn.of (by kernel_rfl) (by kernel_rfl) ⟨(.v (.agg [(vP eI a0.fFrom), (vP eI a0.fTo), (vP eI a0.fLeft), (vP eI a0.fRight)])) :: u40 (u18 []), []⟩ (by kernel_rfl) ?_
  refine Wp.seq (subc [0] C30) (subc [1] C30) (by kernel_rfl) ?_
  refine Wp.region (by kernel_rfl) ?_
  refine Ops.seg 2 2 (by kernel_rfl) ⟨(.v (.agg [(vP eI a0.fFrom), (vP eI a0.fTo), (vP eI a0.fLeft), (vP eI a0.fRight)])) :: (.ptr 0 0) :: (dI 0) :: u40 (u16 []), [(.cells [(dP eI a0.fFrom), (dP eI a0.fTo), (dP eI a0.fLeft), (dP eI a0.fRight)])]⟩ (by kernel_rfl) ?_
  refine Ops.done (by kernel_rfl) ?_
  refine seqQ.n ?_
  refine Wp.seq (subc [1, 0] C30) (subc [1, 1] C30) (by kernel_rfl) ?_
  refine Wp.seq (subc [1, 0, 0] C30) (subc [1, 0, 1] C30) (by kernel_rfl) ?_
  refine Wp.region (by kernel_rfl) ?_
  refine Ops.seg 2 2 (by kernel_rfl) ⟨(.v (.agg [(vP eI a0.fFrom), (vP eI a0.fTo), (vP eI a0.fLeft), (vP eI a0.fRight)])) :: (.ptr 0 0) :: (dI 0) :: u6 ((.ptr 0 0) :: (dP eI a0.fFrom) :: u40 (u8 [])), [(.cells [(dP eI a0.fFrom), (dP eI a0.fTo), (dP eI a0.fLeft), (dP eI a0.fRight)])]⟩ (by kernel_rfl) ?_
  refine Ops.one 3 (by kernel_rfl) ((lenD (X30 n).E.T 23 (D.unt (dP eI a0.fFrom))).map (·, [(.cells [(dP eI a0.fFrom), (dP eI a0.fTo), (dP eI a0.fLeft), (dP eI a0.fRight)])])) (dI ((a0.fFrom.length : Int))) [(.cells [(dP eI a0.fFrom), (dP eI a0.fTo), (dP eI a0.fLeft), (dP eI a0.fRight)])] ⟨(.v (.agg [(vP eI a0.fFrom), (vP eI a0.fTo), (vP eI a0.fLeft), (vP eI a0.fRight)])) :: (.ptr 0 0) :: (dI 0) :: u6 ((.ptr 0 0) :: (dP eI a0.fFrom) :: (dI ((a0.fFrom.length : Int))) :: u40 (u7 [])), [(.cells [(dP eI a0.fFrom), (dP eI a0.fTo), (dP eI a0.fLeft), (dP eI a0.fRight)])]⟩ (by kernel_rfl) (len_r _ 23 3 .plain eI a0.fFrom (by kernel_rfl)) (by kernel_rfl) ?_
  refine Ops.seg 1 4 (by kernel_rfl) ⟨(.v (.agg [(vP eI a0.fFrom), (vP eI a0.fTo), (vP eI a0.fLeft), (vP eI a0.fRight)])) :: (.ptr 0 0) :: (dI 0) :: u6 ((.ptr 0 0) :: (dP eI a0.fFrom) :: (dI ((a0.fFrom.length : Int))) :: (dB (((a0.fFrom.length : Int)) == 0)) :: u40 (u6 [])), [(.cells [(dP eI a0.fFrom), (dP eI a0.fTo), (dP eI a0.fLeft), (dP eI a0.fRight)])]⟩ (by kernel_rfl) ?_
  refine Ops.done (by kernel_rfl) ?_
  refine seqQ.n ?_
  rcases cnd_some h with ⟨hb, h⟩ | ⟨hb, h⟩
  · refine Wp.cond (((a0.fFrom.length : Int)) == 0) [1, 2] (by kernel_rfl) 1 (by kernel_rfl) (subc [1, 0, 1, 0] C30) (subc [1, 0, 1, 1] C30) (by kernel_rfl) (by kernel_rfl) (fun _ => ?_) (fun e => nomatch (hb.symm.trans e))
    refine Wp.seq (subc [1, 0, 1, 0, 0] C30) (subc [1, 0, 1, 0, 1] C30) (by kernel_rfl) ?_
    refine Wp.region (by kernel_rfl) ?_
    refine Ops.seg 1 1 (by kernel_rfl) ⟨(.v (.agg [(vP eI a0.fFrom), (vP eI a0.fTo), (vP eI a0.fLeft), (vP eI a0.fRight)])) :: (.ptr 0 0) :: (dI 9) :: u6 ((.ptr 0 0) :: (dP eI a0.fFrom) :: (dI ((a0.fFrom.length : Int))) :: (dB (((a0.fFrom.length : Int)) == 0)) :: u40 (u6 [])), [(.cells [(dP eI a0.fFrom), (dP eI a0.fTo), (dP eI a0.fLeft), (dP eI a0.fRight)])]⟩ (by kernel_rfl) ?_
    refine Ops.done (by kernel_rfl) ?_
    refine seqQ.n ?_
    refine Wp.ret (by kernel_rfl) ?_
    refine sqQ.r ?_
    refine seqQ.r ?_
    exact fnQ.r' (X30 n) (fun z => (eI z)) h (RetOk.mk' (dI 9) (by kernel_rfl) (by kernel_rfl))
  · refine Wp.cond (((a0.fFrom.length : Int)) == 0) [1, 2] (by kernel_rfl) 1 (by kernel_rfl) (subc [1, 0, 1, 0] C30) (subc [1, 0, 1, 1] C30) (by kernel_rfl) (by kernel_rfl) (fun e => nomatch (hb.symm.trans e)) (fun _ => ?_)
    refine Wp.skip (by kernel_rfl) ?_
    refine sqQ.n ⟨(.v (.agg [(vP eI a0.fFrom), (vP eI a0.fTo), (vP eI a0.fLeft), (vP eI a0.fRight)])) :: (.ptr 0 0) :: (dI 0) :: u6 ((.ptr 0 0) :: (dP eI a0.fFrom) :: (dI ((a0.fFrom.length : Int))) :: (dB (((a0.fFrom.length : Int)) == 0)) :: u40 (u6 [])), [(.cells [(dP eI a0.fFrom), (dP eI a0.fTo), (dP eI a0.fLeft), (dP eI a0.fRight)])]⟩ (by kernel_rfl) ?_
    refine seqQ.n ?_
    refine Wp.seq (subc [1, 1, 0] C30) (subc [1, 1, 1] C30) (by kernel_rfl) ?_
    refine Wp.seq (subc [1, 1, 0, 0] C30) (subc [1, 1, 0, 1] C30) (by kernel_rfl) ?_
    refine Wp.region (by kernel_rfl) ?_
    refine Ops.seg 9 9 (by kernel_rfl) ⟨(.v (.agg [(vP eI a0.fFrom), (vP eI a0.fTo), (vP eI a0.fLeft), (vP eI a0.fRight)])) :: (.ptr 0 0) :: (dI 0) :: u6 ((.ptr 0 0) :: (dP eI a0.fFrom) :: (dI ((a0.fFrom.length : Int))) :: (dB (((a0.fFrom.length : Int)) == 0)) :: (.ptr 0 0) :: (dP eI a0.fFrom) :: (.ptr 0 1) :: (dP eI a0.fTo) :: (.ptr 0 2) :: (dP eI a0.fLeft) :: (.ptr 0 3) :: (dP eI a0.fRight) :: (.v (.sl .nonfull (List.map (eL eI) ([a0.fFrom, a0.fTo, a0.fLeft, a0.fRight])))) :: u37 []), [(.cells [(dP eI a0.fFrom), (dP eI a0.fTo), (dP eI a0.fLeft), (dP eI a0.fRight)])]⟩ (by kernel_rfl) ?_
    refine Ops.one 10 (by kernel_rfl) ((lenD (X30 n).E.T 63 (D.unt (.v (.sl .nonfull (List.map (eL eI) ([a0.fFrom, a0.fTo, a0.fLeft, a0.fRight])))))).map (·, [(.cells [(dP eI a0.fFrom), (dP eI a0.fTo), (dP eI a0.fLeft), (dP eI a0.fRight)])])) (dI ((([a0.fFrom, a0.fTo, a0.fLeft, a0.fRight]).length : Int))) [(.cells [(dP eI a0.fFrom), (dP eI a0.fTo), (dP eI a0.fLeft), (dP eI a0.fRight)])] ⟨(.v (.agg [(vP eI a0.fFrom), (vP eI a0.fTo), (vP eI a0.fLeft), (vP eI a0.fRight)])) :: (.ptr 0 0) :: (dI 0) :: u6 ((.ptr 0 0) :: (dP eI a0.fFrom) :: (dI ((a0.fFrom.length : Int))) :: (dB (((a0.fFrom.length : Int)) == 0)) :: (.ptr 0 0) :: (dP eI a0.fFrom) :: (.ptr 0 1) :: (dP eI a0.fTo) :: (.ptr 0 2) :: (dP eI a0.fLeft) :: (.ptr 0 3) :: (dP eI a0.fRight) :: (.v (.sl .nonfull (List.map (eL eI) ([a0.fFrom, a0.fTo, a0.fLeft, a0.fRight])))) :: (dI ((([a0.fFrom, a0.fTo, a0.fLeft, a0.fRight]).length : Int))) :: u36 []), [(.cells [(dP eI a0.fFrom), (dP eI a0.fTo), (dP eI a0.fLeft), (dP eI a0.fRight)])]⟩ (by kernel_rfl) (len_r _ 63 23 .nonfull (eL eI) ([a0.fFrom, a0.fTo, a0.fLeft, a0.fRight]) (by kernel_rfl)) (by kernel_rfl) ?_
    refine Ops.seg 1 11 (by kernel_rfl) ⟨(.v (.agg [(vP eI a0.fFrom), (vP eI a0.fTo), (vP eI a0.fLeft), (vP eI a0.fRight)])) :: (.ptr 0 0) :: (dI 0) :: u6 ((.ptr 0 0) :: (dP eI a0.fFrom) :: (dI ((a0.fFrom.length : Int))) :: (dB (((a0.fFrom.length : Int)) == 0)) :: (.ptr 0 0) :: (dP eI a0.fFrom) :: (.ptr 0 1) :: (dP eI a0.fTo) :: (.ptr 0 2) :: (dP eI a0.fLeft) :: (.ptr 0 3) :: (dP eI a0.fRight) :: (.v (.sl .nonfull (List.map (eL eI) ([a0.fFrom, a0.fTo, a0.fLeft, a0.fRight])))) :: (dI ((([a0.fFrom, a0.fTo, a0.fLeft, a0.fRight]).length : Int))) :: (dI 0) :: u35 []), [(.cells [(dP eI a0.fFrom), (dP eI a0.fTo), (dP eI a0.fLeft), (dP eI a0.fRight)])]⟩ (by kernel_rfl) ?_
    refine Ops.done (by kernel_rfl) ?_
    refine seqQ.n ?_
    refine Wp.block (id := 0) [1, 2] (by kernel_rfl) 1 (by kernel_rfl) (subc [1, 1, 0, 1, 0] C30) (by kernel_rfl) ?_
    have hLx15 : ∀ (kx6 : Nat) (v4 : Int)  (ox5 : Int ⊕ (Int)), iter (fun (y : Int) => f30_B1 m a0 y) kx6 v4 = some ox5 → ∀ nx7, kx6 ≤ nx7 → (∀ r, ox5 = .inl r → ∀ σ, RetOk (X30 n) (resOf Proofs.Try.prog 30) (eI r) σ → (seqQ (X30 n) (subc [1, 1, 1] C30) (fnQ (X30 n).E.T (resOf Proofs.Try.prog 30) (eI o))) .ret σ) → (∀ (y : Int) , ox5 = .inr y → (seqQ (X30 n) (subc [1, 1, 1] C30) (fnQ (X30 n).E.T (resOf Proofs.Try.prog 30) (eI o))) .normal ⟨q1 ((.ptr 0 0) :: (dI 0) :: q18 ((.v (.sl .nonfull (List.map (eL eI) ([a0.fFrom, a0.fTo, a0.fLeft, a0.fRight])))) :: (dI ((([a0.fFrom, a0.fTo, a0.fLeft, a0.fRight]).length : Int))) :: (dI y) :: q35 [])), [(.cells [(dP eI a0.fFrom), (dP eI a0.fTo), (dP eI a0.fLeft), (dP eI a0.fRight)])]⟩) → Lp (X30 n) [1, 2, 21, 22, 23] 1 (subc [1, 1, 0, 1, 0, 0] C30) nx7 ⟨q1 ((.ptr 0 0) :: (dI 0) :: q18 ((.v (.sl .nonfull (List.map (eL eI) ([a0.fFrom, a0.fTo, a0.fLeft, a0.fRight])))) :: (dI ((([a0.fFrom, a0.fTo, a0.fLeft, a0.fRight]).length : Int))) :: (dI v4) :: q35 [])), [(.cells [(dP eI a0.fFrom), (dP eI a0.fTo), (dP eI a0.fLeft), (dP eI a0.fRight)])]⟩ (blkQ (X30 n) 0 [1, 2] 1 (seqQ (X30 n) (subc [1, 1, 1] C30) (fnQ (X30 n).E.T (resOf Proofs.Try.prog 30) (eI o)))) := by
      intro kx6
      induction kx6 with
      | zero => intro v4  ox5 h; exact (iter_zero h).elim
      | succ kx6 ihx8 =>
        intro v4  ox5 h nx7 hnx11 hrx9 hxx10
        obtain ⟨nx7, rfl⟩ : ∃ q, nx7 = q + 1 := ⟨nx7 - 1, by omega⟩
        obtain ⟨sx12, h, hsx13⟩ := iter_some h
        have h : f30_B1 m a0 v4 = some sx12 := h
        unfold f30_B1 at h
        refine Lp.succ ?_
        refine Wp.seq (subc [1, 1, 0, 1, 0, 0, 0] C30) (subc [1, 1, 0, 1, 0, 0, 1] C30) (by kernel_rfl) ?_
        refine Wp.region (by kernel_rfl) ?_
        refine Ops.seg 1 1 (by kernel_rfl) ⟨q1 ((.ptr 0 0) :: (dI 0) :: q18 ((.v (.sl .nonfull (List.map (eL eI) ([a0.fFrom, a0.fTo, a0.fLeft, a0.fRight])))) :: (dI ((([a0.fFrom, a0.fTo, a0.fLeft, a0.fRight]).length : Int))) :: (dI v4) :: (dB (decide (v4 < (([a0.fFrom, a0.fTo, a0.fLeft, a0.fRight]).length : Int)))) :: q34 [])), [(.cells [(dP eI a0.fFrom), (dP eI a0.fTo), (dP eI a0.fLeft), (dP eI a0.fRight)])]⟩ (by kernel_rfl) ?_
        refine Ops.done (by kernel_rfl) ?_
        refine seqQ.n ?_
        refine Wp.seq (subc [1, 1, 0, 1, 0, 0, 1, 0] C30) (subc [1, 1, 0, 1, 0, 0, 1, 1] C30) (by kernel_rfl) ?_
        rcases cnd_some h with ⟨hb, h⟩ | ⟨hb, h⟩
        · refine Wp.cond (decide (v4 < (([a0.fFrom, a0.fTo, a0.fLeft, a0.fRight]).length : Int))) [1, 2, 21, 22, 23] (by kernel_rfl) 1 (by kernel_rfl) (subc [1, 1, 0, 1, 0, 0, 1, 0, 0] C30) (subc [1, 1, 0, 1, 0, 0, 1, 0, 1] C30) (by kernel_rfl) (by kernel_rfl) (fun _ => ?_) (fun e => nomatch (hb.symm.trans e))
          refine Wp.skip (by kernel_rfl) ?_
          refine sqQ.n ⟨q1 ((.ptr 0 0) :: (dI 0) :: q18 ((.v (.sl .nonfull (List.map (eL eI) ([a0.fFrom, a0.fTo, a0.fLeft, a0.fRight])))) :: (dI ((([a0.fFrom, a0.fTo, a0.fLeft, a0.fRight]).length : Int))) :: (dI v4) :: (dB (decide (v4 < (([a0.fFrom, a0.fTo, a0.fLeft, a0.fRight]).length : Int)))) :: q34 [])), [(.cells [(dP eI a0.fFrom), (dP eI a0.fTo), (dP eI a0.fLeft), (dP eI a0.fRight)])]⟩ (by kernel_rfl) ?_
          refine seqQ.n ?_
          refine Wp.seq (subc [1, 1, 0, 1, 0, 0, 1, 1, 0] C30) (subc [1, 1, 0, 1, 0, 0, 1, 1, 1] C30) (by kernel_rfl) ?_
          refine Wp.block (id := 1) [1, 2, 21, 22, 23] (by kernel_rfl) 1 (by kernel_rfl) (subc [1, 1, 0, 1, 0, 0, 1, 1, 0, 0] C30) (by kernel_rfl) ?_
          refine Wp.seq (subc [1, 1, 0, 1, 0, 0, 1, 1, 0, 0, 0] C30) (subc [1, 1, 0, 1, 0, 0, 1, 1, 0, 0, 1] C30) (by kernel_rfl) ?_
          refine Wp.region (by kernel_rfl) ?_
          obtain ⟨v14, ev14, h⟩ := bnd_some h
          refine Ops.one 1 (by kernel_rfl) ((indexAddrH (X30 n).E.T [(.cells [(dP eI a0.fFrom), (dP eI a0.fTo), (dP eI a0.fLeft), (dP eI a0.fRight)])] 63 (D.unt (.v (.sl .nonfull (List.map (eL eI) ([a0.fFrom, a0.fTo, a0.fLeft, a0.fRight]))))) (dI v4)).map (·, [(.cells [(dP eI a0.fFrom), (dP eI a0.fTo), (dP eI a0.fLeft), (dP eI a0.fRight)])])) (.vptr [(vP eI v14)]) [(.cells [(dP eI a0.fFrom), (dP eI a0.fTo), (dP eI a0.fLeft), (dP eI a0.fRight)])] ⟨q1 ((.ptr 0 0) :: (dI 0) :: q18 ((.v (.sl .nonfull (List.map (eL eI) ([a0.fFrom, a0.fTo, a0.fLeft, a0.fRight])))) :: (dI ((([a0.fFrom, a0.fTo, a0.fLeft, a0.fRight]).length : Int))) :: (dI v4) :: (dB (decide (v4 < (([a0.fFrom, a0.fTo, a0.fLeft, a0.fRight]).length : Int)))) :: (.vptr [(vP eI v14)]) :: q33 [])), [(.cells [(dP eI a0.fFrom), (dP eI a0.fTo), (dP eI a0.fLeft), (dP eI a0.fRight)])]⟩ (by kernel_rfl) (ix_r _ 63 23 1 .nonfull (eL eI) ([a0.fFrom, a0.fTo, a0.fLeft, a0.fRight]) v4 v14 ev14 (by kernel_rfl) (by kernel_rfl) (fun _ => rfl)) (by kernel_rfl) ?_
          refine Ops.seg 2 3 (by kernel_rfl) ⟨q1 ((.ptr 0 0) :: (dI 0) :: q1 ((dP eI v14) :: q16 ((.v (.sl .nonfull (List.map (eL eI) ([a0.fFrom, a0.fTo, a0.fLeft, a0.fRight])))) :: (dI ((([a0.fFrom, a0.fTo, a0.fLeft, a0.fRight]).length : Int))) :: (dI v4) :: (dB (decide (v4 < (([a0.fFrom, a0.fTo, a0.fLeft, a0.fRight]).length : Int)))) :: (.vptr [(vP eI v14)]) :: (dP eI v14) :: q32 []))), [(.cells [(dP eI a0.fFrom), (dP eI a0.fTo), (dP eI a0.fLeft), (dP eI a0.fRight)])]⟩ (by kernel_rfl) ?_
          refine Ops.done (by kernel_rfl) ?_
          refine seqQ.n ?_
          refine Wp.seq (subc [1, 1, 0, 1, 0, 0, 1, 1, 0, 0, 1, 0] C30) (subc [1, 1, 0, 1, 0, 0, 1, 1, 0, 0, 1, 1] C30) (by kernel_rfl) ?_
          refine Wp.region (by kernel_rfl) ?_
          refine Ops.seg 1 1 (by kernel_rfl) ⟨q1 ((.ptr 0 0) :: (dI 0) :: q1 ((dP eI v14) :: q16 ((.v (.sl .nonfull (List.map (eL eI) ([a0.fFrom, a0.fTo, a0.fLeft, a0.fRight])))) :: (dI ((([a0.fFrom, a0.fTo, a0.fLeft, a0.fRight]).length : Int))) :: (dI v4) :: (dB (decide (v4 < (([a0.fFrom, a0.fTo, a0.fLeft, a0.fRight]).length : Int)))) :: (.vptr [(vP eI v14)]) :: (dP eI v14) :: (dP eI v14) :: q31 []))), [(.cells [(dP eI a0.fFrom), (dP eI a0.fTo), (dP eI a0.fLeft), (dP eI a0.fRight)])]⟩ (by kernel_rfl) ?_
          refine Ops.one 2 (by kernel_rfl) ((lenD (X30 n).E.T 23 (D.unt (dP eI v14))).map (·, [(.cells [(dP eI a0.fFrom), (dP eI a0.fTo), (dP eI a0.fLeft), (dP eI a0.fRight)])])) (dI ((v14.length : Int))) [(.cells [(dP eI a0.fFrom), (dP eI a0.fTo), (dP eI a0.fLeft), (dP eI a0.fRight)])] ⟨q1 ((.ptr 0 0) :: (dI 0) :: q1 ((dP eI v14) :: q16 ((.v (.sl .nonfull (List.map (eL eI) ([a0.fFrom, a0.fTo, a0.fLeft, a0.fRight])))) :: (dI ((([a0.fFrom, a0.fTo, a0.fLeft, a0.fRight]).length : Int))) :: (dI v4) :: (dB (decide (v4 < (([a0.fFrom, a0.fTo, a0.fLeft, a0.fRight]).length : Int)))) :: (.vptr [(vP eI v14)]) :: (dP eI v14) :: (dP eI v14) :: (dI ((v14.length : Int))) :: q30 []))), [(.cells [(dP eI a0.fFrom), (dP eI a0.fTo), (dP eI a0.fLeft), (dP eI a0.fRight)])]⟩ (by kernel_rfl) (len_r _ 23 3 .plain eI v14 (by kernel_rfl)) (by kernel_rfl) ?_
          refine Ops.seg 1 3 (by kernel_rfl) ⟨q1 ((.ptr 0 0) :: (dI 0) :: q1 ((dP eI v14) :: q16 ((.v (.sl .nonfull (List.map (eL eI) ([a0.fFrom, a0.fTo, a0.fLeft, a0.fRight])))) :: (dI ((([a0.fFrom, a0.fTo, a0.fLeft, a0.fRight]).length : Int))) :: (dI v4) :: (dB (decide (v4 < (([a0.fFrom, a0.fTo, a0.fLeft, a0.fRight]).length : Int)))) :: (.vptr [(vP eI v14)]) :: (dP eI v14) :: (dP eI v14) :: (dI ((v14.length : Int))) :: (dB (decide ((v14.length : Int) > 3))) :: q29 []))), [(.cells [(dP eI a0.fFrom), (dP eI a0.fTo), (dP eI a0.fLeft), (dP eI a0.fRight)])]⟩ (by kernel_rfl) ?_
          refine Ops.done (by kernel_rfl) ?_
          refine seqQ.n ?_
          rcases cnd_some h with ⟨hb, h⟩ | ⟨hb, h⟩
          · refine Wp.cond (decide ((v14.length : Int) > 3)) [1, 2, 21, 22, 23] (by kernel_rfl) 1 (by kernel_rfl) (subc [1, 1, 0, 1, 0, 0, 1, 1, 0, 0, 1, 1, 0] C30) (subc [1, 1, 0, 1, 0, 0, 1, 1, 0, 0, 1, 1, 1] C30) (by kernel_rfl) (by kernel_rfl) (fun _ => ?_) (fun e => nomatch (hb.symm.trans e))
            refine Wp.seq (subc [1, 1, 0, 1, 0, 0, 1, 1, 0, 0, 1, 1, 0, 0] C30) (subc [1, 1, 0, 1, 0, 0, 1, 1, 0, 0, 1, 1, 0, 1] C30) (by kernel_rfl) ?_
            refine Wp.region (by kernel_rfl) ?_
            refine Ops.seg 1 1 (by kernel_rfl) ⟨q1 ((.ptr 0 0) :: (dI 9) :: q1 ((dP eI v14) :: q16 ((.v (.sl .nonfull (List.map (eL eI) ([a0.fFrom, a0.fTo, a0.fLeft, a0.fRight])))) :: (dI ((([a0.fFrom, a0.fTo, a0.fLeft, a0.fRight]).length : Int))) :: (dI v4) :: (dB (decide (v4 < (([a0.fFrom, a0.fTo, a0.fLeft, a0.fRight]).length : Int)))) :: (.vptr [(vP eI v14)]) :: (dP eI v14) :: (dP eI v14) :: (dI ((v14.length : Int))) :: (dB (decide ((v14.length : Int) > 3))) :: q29 []))), [(.cells [(dP eI a0.fFrom), (dP eI a0.fTo), (dP eI a0.fLeft), (dP eI a0.fRight)])]⟩ (by kernel_rfl) ?_
            refine Ops.done (by kernel_rfl) ?_
            refine seqQ.n ?_
            refine Wp.ret (by kernel_rfl) ?_
            refine sqQ.r ?_
            refine blkQ.r ?_
            refine seqQ.r ?_
            cases h
            refine lpQ.r ?_
            refine blkQ.r ?_
            exact hrx9 _ hsx13 _ (RetOk.forget [1, 2, 21, 22, 23] (by kernel_rfl) (RetOk.mk' (dI 9) (by kernel_rfl) (by kernel_rfl)))
          · refine Wp.cond (decide ((v14.length : Int) > 3)) [1, 2, 21, 22, 23] (by kernel_rfl) 1 (by kernel_rfl) (subc [1, 1, 0, 1, 0, 0, 1, 1, 0, 0, 1, 1, 0] C30) (subc [1, 1, 0, 1, 0, 0, 1, 1, 0, 0, 1, 1, 1] C30) (by kernel_rfl) (by kernel_rfl) (fun e => nomatch (hb.symm.trans e)) (fun _ => ?_)
            refine Wp.skip (by kernel_rfl) ?_
            refine sqQ.n ⟨q1 ((.ptr 0 0) :: (dI 0) :: q1 ((dP eI v14) :: q16 ((.v (.sl .nonfull (List.map (eL eI) ([a0.fFrom, a0.fTo, a0.fLeft, a0.fRight])))) :: (dI ((([a0.fFrom, a0.fTo, a0.fLeft, a0.fRight]).length : Int))) :: (dI v4) :: (dB (decide (v4 < (([a0.fFrom, a0.fTo, a0.fLeft, a0.fRight]).length : Int)))) :: (.vptr [(vP eI v14)]) :: (dP eI v14) :: (dP eI v14) :: (dI ((v14.length : Int))) :: (dB (decide ((v14.length : Int) > 3))) :: q29 []))), [(.cells [(dP eI a0.fFrom), (dP eI a0.fTo), (dP eI a0.fLeft), (dP eI a0.fRight)])]⟩ (by kernel_rfl) ?_
            refine blkQ.n ⟨q1 ((.ptr 0 0) :: (dI 0) :: q1 ((dP eI v14) :: q16 ((.v (.sl .nonfull (List.map (eL eI) ([a0.fFrom, a0.fTo, a0.fLeft, a0.fRight])))) :: (dI ((([a0.fFrom, a0.fTo, a0.fLeft, a0.fRight]).length : Int))) :: (dI v4) :: (dB (decide (v4 < (([a0.fFrom, a0.fTo, a0.fLeft, a0.fRight]).length : Int)))) :: (.vptr [(vP eI v14)]) :: (dP eI v14) :: (dP eI v14) :: (dI ((v14.length : Int))) :: (dB (decide ((v14.length : Int) > 3))) :: q29 []))), [(.cells [(dP eI a0.fFrom), (dP eI a0.fTo), (dP eI a0.fLeft), (dP eI a0.fRight)])]⟩ (by kernel_rfl) ?_
            refine seqQ.n ?_
            refine Wp.region (by kernel_rfl) ?_
            refine Ops.seg 2 2 (by kernel_rfl) ⟨q1 ((.ptr 0 0) :: (dI 0) :: q1 ((dP eI v14) :: q16 ((.v (.sl .nonfull (List.map (eL eI) ([a0.fFrom, a0.fTo, a0.fLeft, a0.fRight])))) :: (dI ((([a0.fFrom, a0.fTo, a0.fLeft, a0.fRight]).length : Int))) :: (dI (w64 (v4 + 1))) :: (dB (decide (v4 < (([a0.fFrom, a0.fTo, a0.fLeft, a0.fRight]).length : Int)))) :: (.vptr [(vP eI v14)]) :: (dP eI v14) :: (dP eI v14) :: (dI ((v14.length : Int))) :: (dB (decide ((v14.length : Int) > 3))) :: (dI (w64 (v4 + 1))) :: q28 []))), [(.cells [(dP eI a0.fFrom), (dP eI a0.fTo), (dP eI a0.fLeft), (dP eI a0.fRight)])]⟩ (by kernel_rfl) ?_
            refine Ops.done (by kernel_rfl) ?_
            refine lpQ.n ⟨q1 ((.ptr 0 0) :: (dI 0) :: q18 ((.v (.sl .nonfull (List.map (eL eI) ([a0.fFrom, a0.fTo, a0.fLeft, a0.fRight])))) :: (dI ((([a0.fFrom, a0.fTo, a0.fLeft, a0.fRight]).length : Int))) :: (dI (w64 (v4 + 1))) :: q35 [])), [(.cells [(dP eI a0.fFrom), (dP eI a0.fTo), (dP eI a0.fLeft), (dP eI a0.fRight)])]⟩ (by kernel_rfl) ?_
            cases h
            exact ihx8 (w64 (v4 + 1))  _ hsx13 _ (by omega) hrx9 hxx10
        · refine Wp.cond (decide (v4 < (([a0.fFrom, a0.fTo, a0.fLeft, a0.fRight]).length : Int))) [1, 2, 21, 22, 23] (by kernel_rfl) 1 (by kernel_rfl) (subc [1, 1, 0, 1, 0, 0, 1, 0, 0] C30) (subc [1, 1, 0, 1, 0, 0, 1, 0, 1] C30) (by kernel_rfl) (by kernel_rfl) (fun e => nomatch (hb.symm.trans e)) (fun _ => ?_)
          refine Wp.exit (id := 0) (by kernel_rfl) ?_
          refine sqQ.x ?_
          refine seqQ.x ?_
          cases h
          refine lpQ.x ?_
          refine blkQ.x ⟨q1 ((.ptr 0 0) :: (dI 0) :: q18 ((.v (.sl .nonfull (List.map (eL eI) ([a0.fFrom, a0.fTo, a0.fLeft, a0.fRight])))) :: (dI ((([a0.fFrom, a0.fTo, a0.fLeft, a0.fRight]).length : Int))) :: (dI v4) :: q35 [])), [(.cells [(dP eI a0.fFrom), (dP eI a0.fTo), (dP eI a0.fLeft), (dP eI a0.fRight)])]⟩ (by kernel_rfl) ?_
          exact hxx10 v4  hsx13
    refine Wp.loop [1, 2, 21, 22, 23] 1 (by kernel_rfl) (subc [1, 1, 0, 1, 0, 0] C30) (by kernel_rfl) (by kernel_rfl) ⟨q1 ((.ptr 0 0) :: (dI 0) :: q18 ((.v (.sl .nonfull (List.map (eL eI) ([a0.fFrom, a0.fTo, a0.fLeft, a0.fRight])))) :: (dI ((([a0.fFrom, a0.fTo, a0.fLeft, a0.fRight]).length : Int))) :: (dI 0) :: q35 [])), [(.cells [(dP eI a0.fFrom), (dP eI a0.fTo), (dP eI a0.fLeft), (dP eI a0.fRight)])]⟩ (by kernel_rfl) ?_
    rcases brk_some h with ⟨r17, er17, h⟩ | ⟨y16, ey16, h⟩
    · refine hLx15 _ 0  _ er17 n (by omega) (fun r er σ hσ => ?_) (fun y  ey => by cases ey)
      cases er
      refine seqQ.r ?_
      exact fnQ.r' (X30 n) (fun z => (eI z)) h hσ
    · refine hLx15 _ 0  _ ey16 n (by omega) (fun r er => by cases er) (fun y  ey => ?_)
      cases ey
      refine seqQ.n ?_
      refine Wp.seq (subc [1, 1, 1, 0] C30) (subc [1, 1, 1, 1] C30) (by kernel_rfl) ?_
      refine Wp.seq (subc [1, 1, 1, 0, 0] C30) (subc [1, 1, 1, 0, 1] C30) (by kernel_rfl) ?_
      refine Wp.region (by kernel_rfl) ?_
      refine Ops.seg 9 9 (by kernel_rfl) ⟨q1 ((.ptr 0 0) :: (dI 0) :: q18 ((.v (.sl .nonfull (List.map (eL eI) ([a0.fFrom, a0.fTo, a0.fLeft, a0.fRight])))) :: (dI ((([a0.fFrom, a0.fTo, a0.fLeft, a0.fRight]).length : Int))) :: (dI y16) :: q7 ((.ptr 0 0) :: (dP eI a0.fFrom) :: (.ptr 0 1) :: (dP eI a0.fTo) :: (.ptr 0 2) :: (dP eI a0.fLeft) :: (.ptr 0 3) :: (dP eI a0.fRight) :: (.v (.sl .nonfull (List.map (eL eI) ([a0.fFrom, a0.fTo, a0.fLeft, a0.fRight])))) :: q19 []))), [(.cells [(dP eI a0.fFrom), (dP eI a0.fTo), (dP eI a0.fLeft), (dP eI a0.fRight)])]⟩ (by kernel_rfl) ?_
      refine Ops.one 10 (by kernel_rfl) ((lenD (X30 n).E.T 63 (D.unt (.v (.sl .nonfull (List.map (eL eI) ([a0.fFrom, a0.fTo, a0.fLeft, a0.fRight])))))).map (·, [(.cells [(dP eI a0.fFrom), (dP eI a0.fTo), (dP eI a0.fLeft), (dP eI a0.fRight)])])) (dI ((([a0.fFrom, a0.fTo, a0.fLeft, a0.fRight]).length : Int))) [(.cells [(dP eI a0.fFrom), (dP eI a0.fTo), (dP eI a0.fLeft), (dP eI a0.fRight)])] ⟨q1 ((.ptr 0 0) :: (dI 0) :: q18 ((.v (.sl .nonfull (List.map (eL eI) ([a0.fFrom, a0.fTo, a0.fLeft, a0.fRight])))) :: (dI ((([a0.fFrom, a0.fTo, a0.fLeft, a0.fRight]).length : Int))) :: (dI y16) :: q7 ((.ptr 0 0) :: (dP eI a0.fFrom) :: (.ptr 0 1) :: (dP eI a0.fTo) :: (.ptr 0 2) :: (dP eI a0.fLeft) :: (.ptr 0 3) :: (dP eI a0.fRight) :: (.v (.sl .nonfull (List.map (eL eI) ([a0.fFrom, a0.fTo, a0.fLeft, a0.fRight])))) :: (dI ((([a0.fFrom, a0.fTo, a0.fLeft, a0.fRight]).length : Int))) :: q18 []))), [(.cells [(dP eI a0.fFrom), (dP eI a0.fTo), (dP eI a0.fLeft), (dP eI a0.fRight)])]⟩ (by kernel_rfl) (len_r _ 63 23 .nonfull (eL eI) ([a0.fFrom, a0.fTo, a0.fLeft, a0.fRight]) (by kernel_rfl)) (by kernel_rfl) ?_
      refine Ops.seg 1 11 (by kernel_rfl) ⟨q1 ((.ptr 0 0) :: (dI 0) :: q18 ((.v (.sl .nonfull (List.map (eL eI) ([a0.fFrom, a0.fTo, a0.fLeft, a0.fRight])))) :: (dI ((([a0.fFrom, a0.fTo, a0.fLeft, a0.fRight]).length : Int))) :: (dI y16) :: q7 ((.ptr 0 0) :: (dP eI a0.fFrom) :: (.ptr 0 1) :: (dP eI a0.fTo) :: (.ptr 0 2) :: (dP eI a0.fLeft) :: (.ptr 0 3) :: (dP eI a0.fRight) :: (.v (.sl .nonfull (List.map (eL eI) ([a0.fFrom, a0.fTo, a0.fLeft, a0.fRight])))) :: (dI ((([a0.fFrom, a0.fTo, a0.fLeft, a0.fRight]).length : Int))) :: (dI 0) :: q17 []))), [(.cells [(dP eI a0.fFrom), (dP eI a0.fTo), (dP eI a0.fLeft), (dP eI a0.fRight)])]⟩ (by kernel_rfl) ?_
      refine Ops.done (by kernel_rfl) ?_
      refine seqQ.n ?_
      refine Wp.block (id := 2) [2] (by kernel_rfl) 1 (by kernel_rfl) (subc [1, 1, 1, 0, 1, 0] C30) (by kernel_rfl) ?_
      have hLx146 : ∀ (kx99 : Nat) (v97 : Int)  (ox98 : Int ⊕ (Int)), iter (fun (y : Int) => f30_B4 m a0 y) kx99 v97 = some ox98 → ∀ nx100, kx99 ≤ nx100 → (∀ r, ox98 = .inl r → ∀ σ, RetOk (X30 n) (resOf Proofs.Try.prog 30) (eI r) σ → (seqQ (X30 n) (subc [1, 1, 1, 1] C30) (fnQ (X30 n).E.T (resOf Proofs.Try.prog 30) (eI o))) .ret σ) → (∀ (y : Int) , ox98 = .inr y → (seqQ (X30 n) (subc [1, 1, 1, 1] C30) (fnQ (X30 n).E.T (resOf Proofs.Try.prog 30) (eI o))) .normal ⟨q2 ((dI 0) :: q36 ((.v (.sl .nonfull (List.map (eL eI) ([a0.fFrom, a0.fTo, a0.fLeft, a0.fRight])))) :: (dI ((([a0.fFrom, a0.fTo, a0.fLeft, a0.fRight]).length : Int))) :: (dI y) :: q17 [])), [(.cells [(dP eI a0.fFrom), (dP eI a0.fTo), (dP eI a0.fLeft), (dP eI a0.fRight)])]⟩) → Lp (X30 n) [2, 39, 40, 41] 1 (subc [1, 1, 1, 0, 1, 0, 0] C30) nx100 ⟨q2 ((dI 0) :: q36 ((.v (.sl .nonfull (List.map (eL eI) ([a0.fFrom, a0.fTo, a0.fLeft, a0.fRight])))) :: (dI ((([a0.fFrom, a0.fTo, a0.fLeft, a0.fRight]).length : Int))) :: (dI v97) :: q17 [])), [(.cells [(dP eI a0.fFrom), (dP eI a0.fTo), (dP eI a0.fLeft), (dP eI a0.fRight)])]⟩ (blkQ (X30 n) 2 [2] 1 (seqQ (X30 n) (subc [1, 1, 1, 1] C30) (fnQ (X30 n).E.T (resOf Proofs.Try.prog 30) (eI o)))) := by
        intro kx99
        induction kx99 with
        | zero => intro v97  ox98 h; exact (iter_zero h).elim
        | succ kx99 ihx101 =>
          intro v97  ox98 h nx100 hnx104 hrx102 hxx103
          obtain ⟨nx100, rfl⟩ : ∃ q, nx100 = q + 1 := ⟨nx100 - 1, by omega⟩
          obtain ⟨sx105, h, hsx106⟩ := iter_some h
          have h : f30_B4 m a0 v97 = some sx105 := h
          unfold f30_B4 at h
          refine Lp.succ ?_
          refine Wp.seq (subc [1, 1, 1, 0, 1, 0, 0, 0] C30) (subc [1, 1, 1, 0, 1, 0, 0, 1] C30) (by kernel_rfl) ?_
          refine Wp.region (by kernel_rfl) ?_
          refine Ops.seg 1 1 (by kernel_rfl) ⟨q2 ((dI 0) :: q36 ((.v (.sl .nonfull (List.map (eL eI) ([a0.fFrom, a0.fTo, a0.fLeft, a0.fRight])))) :: (dI ((([a0.fFrom, a0.fTo, a0.fLeft, a0.fRight]).length : Int))) :: (dI v97) :: (dB (decide (v97 < (([a0.fFrom, a0.fTo, a0.fLeft, a0.fRight]).length : Int)))) :: q16 [])), [(.cells [(dP eI a0.fFrom), (dP eI a0.fTo), (dP eI a0.fLeft), (dP eI a0.fRight)])]⟩ (by kernel_rfl) ?_
          refine Ops.done (by kernel_rfl) ?_
          refine seqQ.n ?_
          refine Wp.seq (subc [1, 1, 1, 0, 1, 0, 0, 1, 0] C30) (subc [1, 1, 1, 0, 1, 0, 0, 1, 1] C30) (by kernel_rfl) ?_
          rcases cnd_some h with ⟨hb, h⟩ | ⟨hb, h⟩
          · refine Wp.cond (decide (v97 < (([a0.fFrom, a0.fTo, a0.fLeft, a0.fRight]).length : Int))) [2, 39, 40, 41] (by kernel_rfl) 1 (by kernel_rfl) (subc [1, 1, 1, 0, 1, 0, 0, 1, 0, 0] C30) (subc [1, 1, 1, 0, 1, 0, 0, 1, 0, 1] C30) (by kernel_rfl) (by kernel_rfl) (fun _ => ?_) (fun e => nomatch (hb.symm.trans e))
            refine Wp.skip (by kernel_rfl) ?_
            refine sqQ.n ⟨q2 ((dI 0) :: q36 ((.v (.sl .nonfull (List.map (eL eI) ([a0.fFrom, a0.fTo, a0.fLeft, a0.fRight])))) :: (dI ((([a0.fFrom, a0.fTo, a0.fLeft, a0.fRight]).length : Int))) :: (dI v97) :: (dB (decide (v97 < (([a0.fFrom, a0.fTo, a0.fLeft, a0.fRight]).length : Int)))) :: q16 [])), [(.cells [(dP eI a0.fFrom), (dP eI a0.fTo), (dP eI a0.fLeft), (dP eI a0.fRight)])]⟩ (by kernel_rfl) ?_
            refine seqQ.n ?_
            refine Wp.seq (subc [1, 1, 1, 0, 1, 0, 0, 1, 1, 0] C30) (subc [1, 1, 1, 0, 1, 0, 0, 1, 1, 1] C30) (by kernel_rfl) ?_
            refine Wp.block (id := 3) [2, 39, 40, 41] (by kernel_rfl) 1 (by kernel_rfl) (subc [1, 1, 1, 0, 1, 0, 0, 1, 1, 0, 0] C30) (by kernel_rfl) ?_
            refine Wp.seq (subc [1, 1, 1, 0, 1, 0, 0, 1, 1, 0, 0, 0] C30) (subc [1, 1, 1, 0, 1, 0, 0, 1, 1, 0, 0, 1] C30) (by kernel_rfl) ?_
            refine Wp.region (by kernel_rfl) ?_
            obtain ⟨v107, ev107, h⟩ := bnd_some h
            refine Ops.one 1 (by kernel_rfl) ((indexAddrH (X30 n).E.T [(.cells [(dP eI a0.fFrom), (dP eI a0.fTo), (dP eI a0.fLeft), (dP eI a0.fRight)])] 63 (D.unt (.v (.sl .nonfull (List.map (eL eI) ([a0.fFrom, a0.fTo, a0.fLeft, a0.fRight]))))) (dI v97)).map (·, [(.cells [(dP eI a0.fFrom), (dP eI a0.fTo), (dP eI a0.fLeft), (dP eI a0.fRight)])])) (.vptr [(vP eI v107)]) [(.cells [(dP eI a0.fFrom), (dP eI a0.fTo), (dP eI a0.fLeft), (dP eI a0.fRight)])] ⟨q2 ((dI 0) :: q36 ((.v (.sl .nonfull (List.map (eL eI) ([a0.fFrom, a0.fTo, a0.fLeft, a0.fRight])))) :: (dI ((([a0.fFrom, a0.fTo, a0.fLeft, a0.fRight]).length : Int))) :: (dI v97) :: (dB (decide (v97 < (([a0.fFrom, a0.fTo, a0.fLeft, a0.fRight]).length : Int)))) :: (.vptr [(vP eI v107)]) :: q15 [])), [(.cells [(dP eI a0.fFrom), (dP eI a0.fTo), (dP eI a0.fLeft), (dP eI a0.fRight)])]⟩ (by kernel_rfl) (ix_r _ 63 23 1 .nonfull (eL eI) ([a0.fFrom, a0.fTo, a0.fLeft, a0.fRight]) v97 v107 ev107 (by kernel_rfl) (by kernel_rfl) (fun _ => rfl)) (by kernel_rfl) ?_
            refine Ops.seg 2 3 (by kernel_rfl) ⟨q2 ((dI 0) :: q3 ((dP eI v107) :: q32 ((.v (.sl .nonfull (List.map (eL eI) ([a0.fFrom, a0.fTo, a0.fLeft, a0.fRight])))) :: (dI ((([a0.fFrom, a0.fTo, a0.fLeft, a0.fRight]).length : Int))) :: (dI v97) :: (dB (decide (v97 < (([a0.fFrom, a0.fTo, a0.fLeft, a0.fRight]).length : Int)))) :: (.vptr [(vP eI v107)]) :: (dP eI v107) :: q14 []))), [(.cells [(dP eI a0.fFrom), (dP eI a0.fTo), (dP eI a0.fLeft), (dP eI a0.fRight)])]⟩ (by kernel_rfl) ?_
            refine Ops.done (by kernel_rfl) ?_
            refine seqQ.n ?_
            refine Wp.seq (subc [1, 1, 1, 0, 1, 0, 0, 1, 1, 0, 0, 1, 0] C30) (subc [1, 1, 1, 0, 1, 0, 0, 1, 1, 0, 0, 1, 1] C30) (by kernel_rfl) ?_
            refine Wp.region (by kernel_rfl) ?_
            refine Ops.seg 1 1 (by kernel_rfl) ⟨q2 ((dI 0) :: q3 ((dP eI v107) :: q32 ((.v (.sl .nonfull (List.map (eL eI) ([a0.fFrom, a0.fTo, a0.fLeft, a0.fRight])))) :: (dI ((([a0.fFrom, a0.fTo, a0.fLeft, a0.fRight]).length : Int))) :: (dI v97) :: (dB (decide (v97 < (([a0.fFrom, a0.fTo, a0.fLeft, a0.fRight]).length : Int)))) :: (.vptr [(vP eI v107)]) :: (dP eI v107) :: (dP eI v107) :: q13 []))), [(.cells [(dP eI a0.fFrom), (dP eI a0.fTo), (dP eI a0.fLeft), (dP eI a0.fRight)])]⟩ (by kernel_rfl) ?_
            refine Ops.one 2 (by kernel_rfl) ((lenD (X30 n).E.T 23 (D.unt (dP eI v107))).map (·, [(.cells [(dP eI a0.fFrom), (dP eI a0.fTo), (dP eI a0.fLeft), (dP eI a0.fRight)])])) (dI ((v107.length : Int))) [(.cells [(dP eI a0.fFrom), (dP eI a0.fTo), (dP eI a0.fLeft), (dP eI a0.fRight)])] ⟨q2 ((dI 0) :: q3 ((dP eI v107) :: q32 ((.v (.sl .nonfull (List.map (eL eI) ([a0.fFrom, a0.fTo, a0.fLeft, a0.fRight])))) :: (dI ((([a0.fFrom, a0.fTo, a0.fLeft, a0.fRight]).length : Int))) :: (dI v97) :: (dB (decide (v97 < (([a0.fFrom, a0.fTo, a0.fLeft, a0.fRight]).length : Int)))) :: (.vptr [(vP eI v107)]) :: (dP eI v107) :: (dP eI v107) :: (dI ((v107.length : Int))) :: q12 []))), [(.cells [(dP eI a0.fFrom), (dP eI a0.fTo), (dP eI a0.fLeft), (dP eI a0.fRight)])]⟩ (by kernel_rfl) (len_r _ 23 3 .plain eI v107 (by kernel_rfl)) (by kernel_rfl) ?_
            refine Ops.seg 1 3 (by kernel_rfl) ⟨q2 ((dI 0) :: q3 ((dP eI v107) :: q32 ((.v (.sl .nonfull (List.map (eL eI) ([a0.fFrom, a0.fTo, a0.fLeft, a0.fRight])))) :: (dI ((([a0.fFrom, a0.fTo, a0.fLeft, a0.fRight]).length : Int))) :: (dI v97) :: (dB (decide (v97 < (([a0.fFrom, a0.fTo, a0.fLeft, a0.fRight]).length : Int)))) :: (.vptr [(vP eI v107)]) :: (dP eI v107) :: (dP eI v107) :: (dI ((v107.length : Int))) :: (dI 0) :: q11 []))), [(.cells [(dP eI a0.fFrom), (dP eI a0.fTo), (dP eI a0.fLeft), (dP eI a0.fRight)])]⟩ (by kernel_rfl) ?_
            refine Ops.done (by kernel_rfl) ?_
            refine seqQ.n ?_
            refine Wp.block (id := 4) [2, 39, 40, 41] (by kernel_rfl) 1 (by kernel_rfl) (subc [1, 1, 1, 0, 1, 0, 0, 1, 1, 0, 0, 1, 1, 0] C30) (by kernel_rfl) ?_
            have hLx143 : ∀ (kx127 : Nat) (v125 : Int)  (ox126 : Int ⊕ (Int)), iter (fun (y : Int) => f30_B3 m v107 y) kx127 v125 = some ox126 → ∀ nx128, kx127 ≤ nx128 → (∀ r, ox126 = .inl r → ∀ σ, RetOk (X30 n) (resOf Proofs.Try.prog 30) (eI r) σ → (blkQ (X30 n) 3 [2, 39, 40, 41] 1 (seqQ (X30 n) (subc [1, 1, 1, 0, 1, 0, 0, 1, 1, 1] C30) (lpQ (X30 n) [2, 39, 40, 41] 1 (subc [1, 1, 1, 0, 1, 0, 0] C30) nx100 (blkQ (X30 n) 2 [2] 1 (seqQ (X30 n) (subc [1, 1, 1, 1] C30) (fnQ (X30 n).E.T (resOf Proofs.Try.prog 30) (eI o))))))) .ret σ) → (∀ (y : Int) , ox126 = .inr y → (blkQ (X30 n) 3 [2, 39, 40, 41] 1 (seqQ (X30 n) (subc [1, 1, 1, 0, 1, 0, 0, 1, 1, 1] C30) (lpQ (X30 n) [2, 39, 40, 41] 1 (subc [1, 1, 1, 0, 1, 0, 0] C30) nx100 (blkQ (X30 n) 2 [2] 1 (seqQ (X30 n) (subc [1, 1, 1, 1] C30) (fnQ (X30 n).E.T (resOf Proofs.Try.prog 30) (eI o))))))) .normal ⟨q2 ((dI 0) :: q36 ((.v (.sl .nonfull (List.map (eL eI) ([a0.fFrom, a0.fTo, a0.fLeft, a0.fRight])))) :: (dI ((([a0.fFrom, a0.fTo, a0.fLeft, a0.fRight]).length : Int))) :: (dI v97) :: q3 ((dP eI v107) :: (dI ((v107.length : Int))) :: (dI y) :: q11 []))), [(.cells [(dP eI a0.fFrom), (dP eI a0.fTo), (dP eI a0.fLeft), (dP eI a0.fRight)])]⟩) → Lp (X30 n) [2, 39, 40, 41, 45, 46, 47] 1 (subc [1, 1, 1, 0, 1, 0, 0, 1, 1, 0, 0, 1, 1, 0, 0] C30) nx128 ⟨q2 ((dI 0) :: q36 ((.v (.sl .nonfull (List.map (eL eI) ([a0.fFrom, a0.fTo, a0.fLeft, a0.fRight])))) :: (dI ((([a0.fFrom, a0.fTo, a0.fLeft, a0.fRight]).length : Int))) :: (dI v97) :: q3 ((dP eI v107) :: (dI ((v107.length : Int))) :: (dI v125) :: q11 []))), [(.cells [(dP eI a0.fFrom), (dP eI a0.fTo), (dP eI a0.fLeft), (dP eI a0.fRight)])]⟩ (blkQ (X30 n) 4 [2, 39, 40, 41] 1 (blkQ (X30 n) 3 [2, 39, 40, 41] 1 (seqQ (X30 n) (subc [1, 1, 1, 0, 1, 0, 0, 1, 1, 1] C30) (lpQ (X30 n) [2, 39, 40, 41] 1 (subc [1, 1, 1, 0, 1, 0, 0] C30) nx100 (blkQ (X30 n) 2 [2] 1 (seqQ (X30 n) (subc [1, 1, 1, 1] C30) (fnQ (X30 n).E.T (resOf Proofs.Try.prog 30) (eI o)))))))) := by
              intro kx127
              induction kx127 with
              | zero => intro v125  ox126 h; exact (iter_zero h).elim
              | succ kx127 ihx129 =>
                intro v125  ox126 h nx128 hnx132 hrx130 hxx131
                obtain ⟨nx128, rfl⟩ : ∃ q, nx128 = q + 1 := ⟨nx128 - 1, by omega⟩
                obtain ⟨sx133, h, hsx134⟩ := iter_some h
                have h : f30_B3 m v107 v125 = some sx133 := h
                unfold f30_B3 at h
                refine Lp.succ ?_
                refine Wp.seq (subc [1, 1, 1, 0, 1, 0, 0, 1, 1, 0, 0, 1, 1, 0, 0, 0] C30) (subc [1, 1, 1, 0, 1, 0, 0, 1, 1, 0, 0, 1, 1, 0, 0, 1] C30) (by kernel_rfl) ?_
                refine Wp.region (by kernel_rfl) ?_
                refine Ops.seg 1 1 (by kernel_rfl) ⟨q2 ((dI 0) :: q36 ((.v (.sl .nonfull (List.map (eL eI) ([a0.fFrom, a0.fTo, a0.fLeft, a0.fRight])))) :: (dI ((([a0.fFrom, a0.fTo, a0.fLeft, a0.fRight]).length : Int))) :: (dI v97) :: q3 ((dP eI v107) :: (dI ((v107.length : Int))) :: (dI v125) :: (dB (decide (v125 < (v107.length : Int)))) :: q10 []))), [(.cells [(dP eI a0.fFrom), (dP eI a0.fTo), (dP eI a0.fLeft), (dP eI a0.fRight)])]⟩ (by kernel_rfl) ?_
                refine Ops.done (by kernel_rfl) ?_
                refine seqQ.n ?_
                refine Wp.seq (subc [1, 1, 1, 0, 1, 0, 0, 1, 1, 0, 0, 1, 1, 0, 0, 1, 0] C30) (subc [1, 1, 1, 0, 1, 0, 0, 1, 1, 0, 0, 1, 1, 0, 0, 1, 1] C30) (by kernel_rfl) ?_
                rcases cnd_some h with ⟨hb, h⟩ | ⟨hb, h⟩
                · refine Wp.cond (decide (v125 < (v107.length : Int))) [2, 39, 40, 41, 45, 46, 47] (by kernel_rfl) 1 (by kernel_rfl) (subc [1, 1, 1, 0, 1, 0, 0, 1, 1, 0, 0, 1, 1, 0, 0, 1, 0, 0] C30) (subc [1, 1, 1, 0, 1, 0, 0, 1, 1, 0, 0, 1, 1, 0, 0, 1, 0, 1] C30) (by kernel_rfl) (by kernel_rfl) (fun _ => ?_) (fun e => nomatch (hb.symm.trans e))
                  refine Wp.skip (by kernel_rfl) ?_
                  refine sqQ.n ⟨q2 ((dI 0) :: q36 ((.v (.sl .nonfull (List.map (eL eI) ([a0.fFrom, a0.fTo, a0.fLeft, a0.fRight])))) :: (dI ((([a0.fFrom, a0.fTo, a0.fLeft, a0.fRight]).length : Int))) :: (dI v97) :: q3 ((dP eI v107) :: (dI ((v107.length : Int))) :: (dI v125) :: (dB (decide (v125 < (v107.length : Int)))) :: q10 []))), [(.cells [(dP eI a0.fFrom), (dP eI a0.fTo), (dP eI a0.fLeft), (dP eI a0.fRight)])]⟩ (by kernel_rfl) ?_
                  refine seqQ.n ?_
                  refine Wp.seq (subc [1, 1, 1, 0, 1, 0, 0, 1, 1, 0, 0, 1, 1, 0, 0, 1, 1, 0] C30) (subc [1, 1, 1, 0, 1, 0, 0, 1, 1, 0, 0, 1, 1, 0, 0, 1, 1, 1] C30) (by kernel_rfl) ?_
                  refine Wp.block (id := 5) [2, 39, 40, 41, 45, 46, 47] (by kernel_rfl) 1 (by kernel_rfl) (subc [1, 1, 1, 0, 1, 0, 0, 1, 1, 0, 0, 1, 1, 0, 0, 1, 1, 0, 0] C30) (by kernel_rfl) ?_
                  refine Wp.seq (subc [1, 1, 1, 0, 1, 0, 0, 1, 1, 0, 0, 1, 1, 0, 0, 1, 1, 0, 0, 0] C30) (subc [1, 1, 1, 0, 1, 0, 0, 1, 1, 0, 0, 1, 1, 0, 0, 1, 1, 0, 0, 1] C30) (by kernel_rfl) ?_
                  refine Wp.region (by kernel_rfl) ?_
                  obtain ⟨v135, ev135, h⟩ := bnd_some h
                  refine Ops.one 1 (by kernel_rfl) ((indexAddrH (X30 n).E.T [(.cells [(dP eI a0.fFrom), (dP eI a0.fTo), (dP eI a0.fLeft), (dP eI a0.fRight)])] 23 (D.unt (dP eI v107)) (dI v125)).map (·, [(.cells [(dP eI a0.fFrom), (dP eI a0.fTo), (dP eI a0.fLeft), (dP eI a0.fRight)])])) (.vptr [(vI v135)]) [(.cells [(dP eI a0.fFrom), (dP eI a0.fTo), (dP eI a0.fLeft), (dP eI a0.fRight)])] ⟨q2 ((dI 0) :: q36 ((.v (.sl .nonfull (List.map (eL eI) ([a0.fFrom, a0.fTo, a0.fLeft, a0.fRight])))) :: (dI ((([a0.fFrom, a0.fTo, a0.fLeft, a0.fRight]).length : Int))) :: (dI v97) :: q3 ((dP eI v107) :: (dI ((v107.length : Int))) :: (dI v125) :: (dB (decide (v125 < (v107.length : Int)))) :: (.vptr [(vI v135)]) :: q9 []))), [(.cells [(dP eI a0.fFrom), (dP eI a0.fTo), (dP eI a0.fLeft), (dP eI a0.fRight)])]⟩ (by kernel_rfl) (ix_r _ 23 3 1 .plain eI v107 v125 v135 ev135 (by kernel_rfl) (by kernel_rfl) (fun _ => rfl)) (by kernel_rfl) ?_
                  refine Ops.seg 2 3 (by kernel_rfl) ⟨q2 ((dI 0) :: q5 ((dI v135) :: q30 ((.v (.sl .nonfull (List.map (eL eI) ([a0.fFrom, a0.fTo, a0.fLeft, a0.fRight])))) :: (dI ((([a0.fFrom, a0.fTo, a0.fLeft, a0.fRight]).length : Int))) :: (dI v97) :: q3 ((dP eI v107) :: (dI ((v107.length : Int))) :: (dI v125) :: (dB (decide (v125 < (v107.length : Int)))) :: (.vptr [(vI v135)]) :: (dI v135) :: q8 [])))), [(.cells [(dP eI a0.fFrom), (dP eI a0.fTo), (dP eI a0.fLeft), (dP eI a0.fRight)])]⟩ (by kernel_rfl) ?_
                  refine Ops.done (by kernel_rfl) ?_
                  refine seqQ.n ?_
                  refine Wp.seq (subc [1, 1, 1, 0, 1, 0, 0, 1, 1, 0, 0, 1, 1, 0, 0, 1, 1, 0, 0, 1, 0] C30) (subc [1, 1, 1, 0, 1, 0, 0, 1, 1, 0, 0, 1, 1, 0, 0, 1, 1, 0, 0, 1, 1] C30) (by kernel_rfl) ?_
                  refine Wp.region (by kernel_rfl) ?_
                  refine Ops.seg 3 3 (by kernel_rfl) ⟨q2 ((dI 0) :: q5 ((dI v135) :: q30 ((.v (.sl .nonfull (List.map (eL eI) ([a0.fFrom, a0.fTo, a0.fLeft, a0.fRight])))) :: (dI ((([a0.fFrom, a0.fTo, a0.fLeft, a0.fRight]).length : Int))) :: (dI v97) :: q3 ((dP eI v107) :: (dI ((v107.length : Int))) :: (dI v125) :: (dB (decide (v125 < (v107.length : Int)))) :: (.vptr [(vI v135)]) :: (dI v135) :: (dI v135) :: (dB (decide (v135 < 1))) :: (dB (decide (v135 < 1))) :: q5 [])))), [(.cells [(dP eI a0.fFrom), (dP eI a0.fTo), (dP eI a0.fLeft), (dP eI a0.fRight)])]⟩ (by kernel_rfl) ?_
                  have J30j142 : ∀ (d138 d139 : D) (v140 : Bool) (v141 : Bool), f30_r2 m v125 v141 = some sx133 → Ops (X30 n) (opl (subc [1, 1, 1, 0, 1, 0, 0, 1, 1, 0, 0, 1, 1, 0, 0, 1, 1, 0, 0, 1, 0] C30)) 6 ⟨q2 ((dI 0) :: q5 ((dI v135) :: q30 ((.v (.sl .nonfull (List.map (eL eI) ([a0.fFrom, a0.fTo, a0.fLeft, a0.fRight])))) :: (dI ((([a0.fFrom, a0.fTo, a0.fLeft, a0.fRight]).length : Int))) :: (dI v97) :: q3 ((dP eI v107) :: (dI ((v107.length : Int))) :: (dI v125) :: (dB (decide (v125 < (v107.length : Int)))) :: (.vptr [(vI v135)]) :: (dI v135) :: (dI v135) :: (dB v140) :: (dB v140) :: d138 :: d139 :: (dB v141) :: q2 [])))), [(.cells [(dP eI a0.fFrom), (dP eI a0.fTo), (dP eI a0.fLeft), (dP eI a0.fRight)])]⟩ ((seqQ (X30 n) (subc [1, 1, 1, 0, 1, 0, 0, 1, 1, 0, 0, 1, 1, 0, 0, 1, 1, 0, 0, 1, 1] C30) (blkQ (X30 n) 5 [2, 39, 40, 41, 45, 46, 47] 1 (seqQ (X30 n) (subc [1, 1, 1, 0, 1, 0, 0, 1, 1, 0, 0, 1, 1, 0, 0, 1, 1, 1] C30) (lpQ (X30 n) [2, 39, 40, 41, 45, 46, 47] 1 (subc [1, 1, 1, 0, 1, 0, 0, 1, 1, 0, 0, 1, 1, 0, 0] C30) nx128 (blkQ (X30 n) 4 [2, 39, 40, 41] 1 (blkQ (X30 n) 3 [2, 39, 40, 41] 1 (seqQ (X30 n) (subc [1, 1, 1, 0, 1, 0, 0, 1, 1, 1] C30) (lpQ (X30 n) [2, 39, 40, 41] 1 (subc [1, 1, 1, 0, 1, 0, 0] C30) nx100 (blkQ (X30 n) 2 [2] 1 (seqQ (X30 n) (subc [1, 1, 1, 1] C30) (fnQ (X30 n).E.T (resOf Proofs.Try.prog 30) (eI o)))))))))))) .normal) := by
                    intro d138 d139 v140 v141 h
                    unfold f30_r2 at h
                    refine Ops.done (by kernel_rfl) ?_
                    refine seqQ.n ?_
                    rcases cnd_some h with ⟨hb, h⟩ | ⟨hb, h⟩
                    · refine Wp.cond v141 [2, 39, 40, 41, 45, 46, 47] (by kernel_rfl) 1 (by kernel_rfl) (subc [1, 1, 1, 0, 1, 0, 0, 1, 1, 0, 0, 1, 1, 0, 0, 1, 1, 0, 0, 1, 1, 0] C30) (subc [1, 1, 1, 0, 1, 0, 0, 1, 1, 0, 0, 1, 1, 0, 0, 1, 1, 0, 0, 1, 1, 1] C30) (by kernel_rfl) (by kernel_rfl) (fun _ => ?_) (fun e => nomatch (hb.symm.trans e))
                      refine Wp.seq (subc [1, 1, 1, 0, 1, 0, 0, 1, 1, 0, 0, 1, 1, 0, 0, 1, 1, 0, 0, 1, 1, 0, 0] C30) (subc [1, 1, 1, 0, 1, 0, 0, 1, 1, 0, 0, 1, 1, 0, 0, 1, 1, 0, 0, 1, 1, 0, 1] C30) (by kernel_rfl) ?_
                      refine Wp.region (by kernel_rfl) ?_
                      refine Ops.seg 1 1 (by kernel_rfl) ⟨q2 ((dI 3) :: q5 ((dI v135) :: q30 ((.v (.sl .nonfull (List.map (eL eI) ([a0.fFrom, a0.fTo, a0.fLeft, a0.fRight])))) :: (dI ((([a0.fFrom, a0.fTo, a0.fLeft, a0.fRight]).length : Int))) :: (dI v97) :: q3 ((dP eI v107) :: (dI ((v107.length : Int))) :: (dI v125) :: (dB (decide (v125 < (v107.length : Int)))) :: (.vptr [(vI v135)]) :: (dI v135) :: (dI v135) :: (dB v140) :: (dB v140) :: d138 :: d139 :: (dB v141) :: q2 [])))), [(.cells [(dP eI a0.fFrom), (dP eI a0.fTo), (dP eI a0.fLeft), (dP eI a0.fRight)])]⟩ (by kernel_rfl) ?_
                      refine Ops.done (by kernel_rfl) ?_
                      refine seqQ.n ?_
                      refine Wp.ret (by kernel_rfl) ?_
                      refine sqQ.r ?_
                      refine blkQ.r ?_
                      refine seqQ.r ?_
                      cases h
                      refine lpQ.r ?_
                      refine blkQ.r ?_
                      exact hrx130 _ hsx134 _ (RetOk.forget [2, 39, 40, 41, 45, 46, 47] (by kernel_rfl) (RetOk.mk' (dI 3) (by kernel_rfl) (by kernel_rfl)))
                    · refine Wp.cond v141 [2, 39, 40, 41, 45, 46, 47] (by kernel_rfl) 1 (by kernel_rfl) (subc [1, 1, 1, 0, 1, 0, 0, 1, 1, 0, 0, 1, 1, 0, 0, 1, 1, 0, 0, 1, 1, 0] C30) (subc [1, 1, 1, 0, 1, 0, 0, 1, 1, 0, 0, 1, 1, 0, 0, 1, 1, 0, 0, 1, 1, 1] C30) (by kernel_rfl) (by kernel_rfl) (fun e => nomatch (hb.symm.trans e)) (fun _ => ?_)
                      refine Wp.skip (by kernel_rfl) ?_
                      refine sqQ.n ⟨q2 ((dI 0) :: q5 ((dI v135) :: q30 ((.v (.sl .nonfull (List.map (eL eI) ([a0.fFrom, a0.fTo, a0.fLeft, a0.fRight])))) :: (dI ((([a0.fFrom, a0.fTo, a0.fLeft, a0.fRight]).length : Int))) :: (dI v97) :: q3 ((dP eI v107) :: (dI ((v107.length : Int))) :: (dI v125) :: (dB (decide (v125 < (v107.length : Int)))) :: (.vptr [(vI v135)]) :: (dI v135) :: (dI v135) :: (dB v140) :: (dB v140) :: d138 :: d139 :: (dB v141) :: q2 [])))), [(.cells [(dP eI a0.fFrom), (dP eI a0.fTo), (dP eI a0.fLeft), (dP eI a0.fRight)])]⟩ (by kernel_rfl) ?_
                      refine blkQ.n ⟨q2 ((dI 0) :: q5 ((dI v135) :: q30 ((.v (.sl .nonfull (List.map (eL eI) ([a0.fFrom, a0.fTo, a0.fLeft, a0.fRight])))) :: (dI ((([a0.fFrom, a0.fTo, a0.fLeft, a0.fRight]).length : Int))) :: (dI v97) :: q3 ((dP eI v107) :: (dI ((v107.length : Int))) :: (dI v125) :: (dB (decide (v125 < (v107.length : Int)))) :: (.vptr [(vI v135)]) :: (dI v135) :: (dI v135) :: (dB v140) :: (dB v140) :: d138 :: d139 :: (dB v141) :: q2 [])))), [(.cells [(dP eI a0.fFrom), (dP eI a0.fTo), (dP eI a0.fLeft), (dP eI a0.fRight)])]⟩ (by kernel_rfl) ?_
                      refine seqQ.n ?_
                      refine Wp.region (by kernel_rfl) ?_
                      refine Ops.seg 2 2 (by kernel_rfl) ⟨q2 ((dI 0) :: q5 ((dI v135) :: q30 ((.v (.sl .nonfull (List.map (eL eI) ([a0.fFrom, a0.fTo, a0.fLeft, a0.fRight])))) :: (dI ((([a0.fFrom, a0.fTo, a0.fLeft, a0.fRight]).length : Int))) :: (dI v97) :: q3 ((dP eI v107) :: (dI ((v107.length : Int))) :: (dI (w64 (v125 + 1))) :: (dB (decide (v125 < (v107.length : Int)))) :: (.vptr [(vI v135)]) :: (dI v135) :: (dI v135) :: (dB v140) :: (dB v140) :: d138 :: d139 :: (dB v141) :: (dI (w64 (v125 + 1))) :: q1 [])))), [(.cells [(dP eI a0.fFrom), (dP eI a0.fTo), (dP eI a0.fLeft), (dP eI a0.fRight)])]⟩ (by kernel_rfl) ?_
                      refine Ops.done (by kernel_rfl) ?_
                      refine lpQ.n ⟨q2 ((dI 0) :: q36 ((.v (.sl .nonfull (List.map (eL eI) ([a0.fFrom, a0.fTo, a0.fLeft, a0.fRight])))) :: (dI ((([a0.fFrom, a0.fTo, a0.fLeft, a0.fRight]).length : Int))) :: (dI v97) :: q3 ((dP eI v107) :: (dI ((v107.length : Int))) :: (dI (w64 (v125 + 1))) :: q11 []))), [(.cells [(dP eI a0.fFrom), (dP eI a0.fTo), (dP eI a0.fLeft), (dP eI a0.fRight)])]⟩ (by kernel_rfl) ?_
                      cases h
                      exact ihx129 (w64 (v125 + 1))  _ hsx134 _ (by omega) hrx130 hxx131
                  have G30g137 : ∀ v136 : Bool, f30_r2 m v125 ((v136 || (decide (v135 > 1114111)))) = some sx133 → Ops (X30 n) (opl (subc [1, 1, 1, 0, 1, 0, 0, 1, 1, 0, 0, 1, 1, 0, 0, 1, 1, 0, 0, 1, 0] C30)) 3 ⟨q2 ((dI 0) :: q5 ((dI v135) :: q30 ((.v (.sl .nonfull (List.map (eL eI) ([a0.fFrom, a0.fTo, a0.fLeft, a0.fRight])))) :: (dI ((([a0.fFrom, a0.fTo, a0.fLeft, a0.fRight]).length : Int))) :: (dI v97) :: q3 ((dP eI v107) :: (dI ((v107.length : Int))) :: (dI v125) :: (dB (decide (v125 < (v107.length : Int)))) :: (.vptr [(vI v135)]) :: (dI v135) :: (dI v135) :: (dB v136) :: (dB v136) :: q5 [])))), [(.cells [(dP eI a0.fFrom), (dP eI a0.fTo), (dP eI a0.fLeft), (dP eI a0.fRight)])]⟩ ((seqQ (X30 n) (subc [1, 1, 1, 0, 1, 0, 0, 1, 1, 0, 0, 1, 1, 0, 0, 1, 1, 0, 0, 1, 1] C30) (blkQ (X30 n) 5 [2, 39, 40, 41, 45, 46, 47] 1 (seqQ (X30 n) (subc [1, 1, 1, 0, 1, 0, 0, 1, 1, 0, 0, 1, 1, 0, 0, 1, 1, 1] C30) (lpQ (X30 n) [2, 39, 40, 41, 45, 46, 47] 1 (subc [1, 1, 1, 0, 1, 0, 0, 1, 1, 0, 0, 1, 1, 0, 0] C30) nx128 (blkQ (X30 n) 4 [2, 39, 40, 41] 1 (blkQ (X30 n) 3 [2, 39, 40, 41] 1 (seqQ (X30 n) (subc [1, 1, 1, 0, 1, 0, 0, 1, 1, 1] C30) (lpQ (X30 n) [2, 39, 40, 41] 1 (subc [1, 1, 1, 0, 1, 0, 0] C30) nx100 (blkQ (X30 n) 2 [2] 1 (seqQ (X30 n) (subc [1, 1, 1, 1] C30) (fnQ (X30 n).E.T (resOf Proofs.Try.prog 30) (eI o)))))))))))) .normal) := by
                    intro v136 h
                    cases v136
                    · refine Ops.seg 3 6 (by kernel_rfl) ⟨q2 ((dI 0) :: q5 ((dI v135) :: q30 ((.v (.sl .nonfull (List.map (eL eI) ([a0.fFrom, a0.fTo, a0.fLeft, a0.fRight])))) :: (dI ((([a0.fFrom, a0.fTo, a0.fLeft, a0.fRight]).length : Int))) :: (dI v97) :: q3 ((dP eI v107) :: (dI ((v107.length : Int))) :: (dI v125) :: (dB (decide (v125 < (v107.length : Int)))) :: (.vptr [(vI v135)]) :: (dI v135) :: (dI v135) :: (dB false) :: (dB false) :: (dI v135) :: (dB (decide (v135 > 1114111))) :: (dB (decide (v135 > 1114111))) :: q2 [])))), [(.cells [(dP eI a0.fFrom), (dP eI a0.fTo), (dP eI a0.fLeft), (dP eI a0.fRight)])]⟩ (by kernel_rfl) ?_
                      exact J30j142 _ _ _ _ h
                    · refine Ops.seg 3 6 (by kernel_rfl) ⟨q2 ((dI 0) :: q5 ((dI v135) :: q30 ((.v (.sl .nonfull (List.map (eL eI) ([a0.fFrom, a0.fTo, a0.fLeft, a0.fRight])))) :: (dI ((([a0.fFrom, a0.fTo, a0.fLeft, a0.fRight]).length : Int))) :: (dI v97) :: q3 ((dP eI v107) :: (dI ((v107.length : Int))) :: (dI v125) :: (dB (decide (v125 < (v107.length : Int)))) :: (.vptr [(vI v135)]) :: (dI v135) :: (dI v135) :: (dB true) :: (dB true) :: u2 ((dB true) :: q2 []))))), [(.cells [(dP eI a0.fFrom), (dP eI a0.fTo), (dP eI a0.fLeft), (dP eI a0.fRight)])]⟩ (by kernel_rfl) ?_
                      exact J30j142 _ _ _ _ h
                  exact G30g137 (decide (v135 < 1)) h
                · refine Wp.cond (decide (v125 < (v107.length : Int))) [2, 39, 40, 41, 45, 46, 47] (by kernel_rfl) 1 (by kernel_rfl) (subc [1, 1, 1, 0, 1, 0, 0, 1, 1, 0, 0, 1, 1, 0, 0, 1, 0, 0] C30) (subc [1, 1, 1, 0, 1, 0, 0, 1, 1, 0, 0, 1, 1, 0, 0, 1, 0, 1] C30) (by kernel_rfl) (by kernel_rfl) (fun e => nomatch (hb.symm.trans e)) (fun _ => ?_)
                  refine Wp.exit (id := 4) (by kernel_rfl) ?_
                  refine sqQ.x ?_
                  refine seqQ.x ?_
                  cases h
                  refine lpQ.x ?_
                  refine blkQ.x ⟨q2 ((dI 0) :: q36 ((.v (.sl .nonfull (List.map (eL eI) ([a0.fFrom, a0.fTo, a0.fLeft, a0.fRight])))) :: (dI ((([a0.fFrom, a0.fTo, a0.fLeft, a0.fRight]).length : Int))) :: (dI v97) :: q3 ((dP eI v107) :: (dI ((v107.length : Int))) :: (dI v125) :: q11 []))), [(.cells [(dP eI a0.fFrom), (dP eI a0.fTo), (dP eI a0.fLeft), (dP eI a0.fRight)])]⟩ (by kernel_rfl) ?_
                  exact hxx131 v125  hsx134
            refine Wp.loop [2, 39, 40, 41, 45, 46, 47] 1 (by kernel_rfl) (subc [1, 1, 1, 0, 1, 0, 0, 1, 1, 0, 0, 1, 1, 0, 0] C30) (by kernel_rfl) (by kernel_rfl) ⟨q2 ((dI 0) :: q36 ((.v (.sl .nonfull (List.map (eL eI) ([a0.fFrom, a0.fTo, a0.fLeft, a0.fRight])))) :: (dI ((([a0.fFrom, a0.fTo, a0.fLeft, a0.fRight]).length : Int))) :: (dI v97) :: q3 ((dP eI v107) :: (dI ((v107.length : Int))) :: (dI 0) :: q11 []))), [(.cells [(dP eI a0.fFrom), (dP eI a0.fTo), (dP eI a0.fLeft), (dP eI a0.fRight)])]⟩ (by kernel_rfl) ?_
            rcases brk_some h with ⟨r145, er145, h⟩ | ⟨y144, ey144, h⟩
            · refine hLx143 _ 0  _ er145 n (by omega) (fun r er σ hσ => ?_) (fun y  ey => by cases ey)
              cases er
              refine blkQ.r ?_
              refine seqQ.r ?_
              refine lpQ.r ?_
              cases h
              refine blkQ.r ?_
              exact hrx102 _ hsx106 _ (RetOk.forget [2, 39, 40, 41] (by kernel_rfl) hσ)
            · refine hLx143 _ 0  _ ey144 n (by omega) (fun r er => by cases er) (fun y  ey => ?_)
              cases ey
              refine blkQ.n ⟨q2 ((dI 0) :: q36 ((.v (.sl .nonfull (List.map (eL eI) ([a0.fFrom, a0.fTo, a0.fLeft, a0.fRight])))) :: (dI ((([a0.fFrom, a0.fTo, a0.fLeft, a0.fRight]).length : Int))) :: (dI v97) :: q3 ((dP eI v107) :: (dI ((v107.length : Int))) :: (dI y144) :: q11 []))), [(.cells [(dP eI a0.fFrom), (dP eI a0.fTo), (dP eI a0.fLeft), (dP eI a0.fRight)])]⟩ (by kernel_rfl) ?_
              refine seqQ.n ?_
              refine Wp.region (by kernel_rfl) ?_
              refine Ops.seg 2 2 (by kernel_rfl) ⟨q2 ((dI 0) :: q36 ((.v (.sl .nonfull (List.map (eL eI) ([a0.fFrom, a0.fTo, a0.fLeft, a0.fRight])))) :: (dI ((([a0.fFrom, a0.fTo, a0.fLeft, a0.fRight]).length : Int))) :: (dI (w64 (v97 + 1))) :: q3 ((dP eI v107) :: (dI ((v107.length : Int))) :: (dI y144) :: q10 ((dI (w64 (v97 + 1))) :: [])))), [(.cells [(dP eI a0.fFrom), (dP eI a0.fTo), (dP eI a0.fLeft), (dP eI a0.fRight)])]⟩ (by kernel_rfl) ?_
              refine Ops.done (by kernel_rfl) ?_
              refine lpQ.n ⟨q2 ((dI 0) :: q36 ((.v (.sl .nonfull (List.map (eL eI) ([a0.fFrom, a0.fTo, a0.fLeft, a0.fRight])))) :: (dI ((([a0.fFrom, a0.fTo, a0.fLeft, a0.fRight]).length : Int))) :: (dI (w64 (v97 + 1))) :: q17 [])), [(.cells [(dP eI a0.fFrom), (dP eI a0.fTo), (dP eI a0.fLeft), (dP eI a0.fRight)])]⟩ (by kernel_rfl) ?_
              cases h
              exact ihx101 (w64 (v97 + 1))  _ hsx106 _ (by omega) hrx102 hxx103
          · refine Wp.cond (decide (v97 < (([a0.fFrom, a0.fTo, a0.fLeft, a0.fRight]).length : Int))) [2, 39, 40, 41] (by kernel_rfl) 1 (by kernel_rfl) (subc [1, 1, 1, 0, 1, 0, 0, 1, 0, 0] C30) (subc [1, 1, 1, 0, 1, 0, 0, 1, 0, 1] C30) (by kernel_rfl) (by kernel_rfl) (fun e => nomatch (hb.symm.trans e)) (fun _ => ?_)
            refine Wp.exit (id := 2) (by kernel_rfl) ?_
            refine sqQ.x ?_
            refine seqQ.x ?_
            cases h
            refine lpQ.x ?_
            refine blkQ.x ⟨q2 ((dI 0) :: q36 ((.v (.sl .nonfull (List.map (eL eI) ([a0.fFrom, a0.fTo, a0.fLeft, a0.fRight])))) :: (dI ((([a0.fFrom, a0.fTo, a0.fLeft, a0.fRight]).length : Int))) :: (dI v97) :: q17 [])), [(.cells [(dP eI a0.fFrom), (dP eI a0.fTo), (dP eI a0.fLeft), (dP eI a0.fRight)])]⟩ (by kernel_rfl) ?_
            exact hxx103 v97  hsx106
      refine Wp.loop [2, 39, 40, 41] 1 (by kernel_rfl) (subc [1, 1, 1, 0, 1, 0, 0] C30) (by kernel_rfl) (by kernel_rfl) ⟨q2 ((dI 0) :: q36 ((.v (.sl .nonfull (List.map (eL eI) ([a0.fFrom, a0.fTo, a0.fLeft, a0.fRight])))) :: (dI ((([a0.fFrom, a0.fTo, a0.fLeft, a0.fRight]).length : Int))) :: (dI 0) :: q17 [])), [(.cells [(dP eI a0.fFrom), (dP eI a0.fTo), (dP eI a0.fLeft), (dP eI a0.fRight)])]⟩ (by kernel_rfl) ?_
      rcases brk_some h with ⟨r148, er148, h⟩ | ⟨y147, ey147, h⟩
      · refine hLx146 _ 0  _ er148 n (by omega) (fun r er σ hσ => ?_) (fun y  ey => by cases ey)
        cases er
        refine seqQ.r ?_
        exact fnQ.r' (X30 n) (fun z => (eI z)) h hσ
      · refine hLx146 _ 0  _ ey147 n (by omega) (fun r er => by cases er) (fun y  ey => ?_)
        cases ey
        refine seqQ.n ?_
        refine Wp.seq (subc [1, 1, 1, 1, 0] C30) (subc [1, 1, 1, 1, 1] C30) (by kernel_rfl) ?_
        refine Wp.region (by kernel_rfl) ?_
        refine Ops.seg 1 1 (by kernel_rfl) ⟨q2 ((dI 0) :: q36 ((.v (.sl .nonfull (List.map (eL eI) ([a0.fFrom, a0.fTo, a0.fLeft, a0.fRight])))) :: (dI ((([a0.fFrom, a0.fTo, a0.fLeft, a0.fRight]).length : Int))) :: (dI y147) :: q17 [])), [(.cells [(dP eI a0.fFrom), (dP eI a0.fTo), (dP eI a0.fLeft), (dP eI a0.fRight)])]⟩ (by kernel_rfl) ?_
        refine Ops.done (by kernel_rfl) ?_
        refine seqQ.n ?_
        refine Wp.ret (by kernel_rfl) ?_
        exact fnQ.r' (X30 n) (fun z => (eI z)) h (RetOk.mk' (dI 0) (by kernel_rfl) (by kernel_rfl))

/-! ### 15 glosswright/glosswrightref6.RewritesFault -/
def f15_B1 (m : Nat) (a0 : (List S28)) (v9 : Int) : Option (Stp S25 (Int)) :=
  cnd (decide (v9 < (a0.length : Int)))
  (bnd (idx a0 v9) fun v19 =>
  bnd (f30 m v19) fun v20 =>
  cnd (v20 != 0)
  (bnd (f29 m v20 v9) fun v21 =>
  some (.ret v21))
  (some (.nxt (w64 (v9 + 1)))))
  (some (.brk v9))
def f15 (m : Nat) (a0 : (List S28)) : Option S25 :=
  cnd (decide ((a0.length : Int) > 40))
  (bnd (f29 m 2 ((-1))) fun v1 =>
  some v1)
  (brk (iter (fun (y : Int) => f15_B1 m a0 y) m 0) some fun y23 =>
  some ((⟨0, 0⟩ : S25)))
noncomputable abbrev X15 (n : Nat) : Cx := cxOf Proofs.Try.prog E 15 n
noncomputable def C15 : Code := bodyOf Proofs.Try.prog 15
theorem ok15 (m : Nat) (a0 : (List S28)) (o : S25) (h : f15 m a0 = some o) (n : Nat) (hn : m + 2 ≤ n) : Fn Proofs.Try.prog E n 15 [(eL e28) a0] (e25 o) := by
  obtain ⟨n, rfl⟩ : ∃ q, n = q + 1 := ⟨n - 1, by omega⟩
  unfold f15 at h
  refine Fn.of (by kernel_rfl) (by kernel_rfl) ⟨(dP e28 a0) :: u25 [], []⟩ (by kernel_rfl) ?_
  refine Wp.seq (subc [0] C15) (subc [1] C15) (by kernel_rfl) ?_
  refine Wp.region (by kernel_rfl) ?_
  refine Ops.seg 1 1 (by kernel_rfl) ⟨(dP e28 a0) :: u1 ((.ptr 0 0) :: u23 []), [(.cells [(dI 0), (dI 0)])]⟩ (by kernel_rfl) ?_
  refine Ops.done (by kernel_rfl) ?_
  refine seqQ.n ?_
  refine Wp.seq (subc [1, 0] C15) (subc [1, 1] C15) (by kernel_rfl) ?_
  refine Wp.seq (subc [1, 0, 0] C15) (subc [1, 0, 1] C15) (by kernel_rfl) ?_
  refine Wp.region (by kernel_rfl) ?_
  refine Ops.seg 1 1 (by kernel_rfl) ⟨(dP e28 a0) :: u1 ((.ptr 0 0) :: u3 ((dP e28 a0) :: u19 [])), [(.cells [(dI 0), (dI 0)])]⟩ (by kernel_rfl) ?_
  refine Ops.one 2 (by kernel_rfl) ((lenD (X15 n).E.T 22 (D.unt (dP e28 a0))).map (·, [(.cells [(dI 0), (dI 0)])])) (dI ((a0.length : Int))) [(.cells [(dI 0), (dI 0)])] ⟨(dP e28 a0) :: u1 ((.ptr 0 0) :: u3 ((dP e28 a0) :: (dI ((a0.length : Int))) :: u18 [])), [(.cells [(dI 0), (dI 0)])]⟩ (by kernel_rfl) (len_r _ 22 29 .plain e28 a0 (by kernel_rfl)) (by kernel_rfl) ?_
  refine Ops.seg 1 3 (by kernel_rfl) ⟨(dP e28 a0) :: u1 ((.ptr 0 0) :: u3 ((dP e28 a0) :: (dI ((a0.length : Int))) :: (dB (decide ((a0.length : Int) > 40))) :: u17 [])), [(.cells [(dI 0), (dI 0)])]⟩ (by kernel_rfl) ?_
  refine Ops.done (by kernel_rfl) ?_
  refine seqQ.n ?_
  rcases cnd_some h with ⟨hb, h⟩ | ⟨hb, h⟩
  · refine Wp.cond (decide ((a0.length : Int) > 40)) [0, 2] (by kernel_rfl) 1 (by kernel_rfl) (subc [1, 0, 1, 0] C15) (subc [1, 0, 1, 1] C15) (by kernel_rfl) (by kernel_rfl) (fun _ => ?_) (fun e => nomatch (hb.symm.trans e))
    refine Wp.seq (subc [1, 0, 1, 0, 0] C15) (subc [1, 0, 1, 0, 1] C15) (by kernel_rfl) ?_
    refine Wp.region (by kernel_rfl) ?_
    obtain ⟨v1, ev1, h⟩ := bnd_some h
    refine Ops.one 1 (by kernel_rfl) (callD (X15 n).E (run Proofs.Try.prog E n) 29 [(dI 2), (dI ((-1)))] [(.cells [(dI 0), (dI 0)])]) (.v (.agg [(vI v1.fCode), (vI v1.fIndex)])) [(.cells [(dI 0), (dI 0)])] ⟨(dP e28 a0) :: u1 ((.ptr 0 0) :: u3 ((dP e28 a0) :: (dI ((a0.length : Int))) :: (dB (decide ((a0.length : Int) > 40))) :: (.v (.agg [(vI v1.fCode), (vI v1.fIndex)])) :: u16 [])), [(.cells [(dI 0), (dI 0)])]⟩ (by kernel_rfl) (call_ok (by kernel_rfl) (Args.v (vI 2) (eI 2) (by kernel_rfl) (Args.v (vI ((-1))) (eI ((-1))) (by kernel_rfl) Args.nil)) (ok29 m 2 ((-1)) v1 ev1 n (by omega))) (by kernel_rfl) ?_
    refine Ops.seg 1 2 (by kernel_rfl) ⟨(dP e28 a0) :: u1 ((.ptr 0 0) :: u3 ((dP e28 a0) :: (dI ((a0.length : Int))) :: (dB (decide ((a0.length : Int) > 40))) :: (.v (.agg [(vI v1.fCode), (vI v1.fIndex)])) :: u16 [])), [(.cells [(dI v1.fCode), (dI v1.fIndex)])]⟩ (by kernel_rfl) ?_
    refine Ops.done (by kernel_rfl) ?_
    refine seqQ.n ?_
    refine Wp.ret (by kernel_rfl) ?_
    refine sqQ.r ?_
    refine seqQ.r ?_
    exact fnQ.r' (X15 n) (fun z => (e25 z)) h (RetOk.mk' (.v (.agg [(vI v1.fCode), (vI v1.fIndex)])) (by kernel_rfl) (by kernel_rfl))
  · refine Wp.cond (decide ((a0.length : Int) > 40)) [0, 2] (by kernel_rfl) 1 (by kernel_rfl) (subc [1, 0, 1, 0] C15) (subc [1, 0, 1, 1] C15) (by kernel_rfl) (by kernel_rfl) (fun e => nomatch (hb.symm.trans e)) (fun _ => ?_)
    refine Wp.skip (by kernel_rfl) ?_
    refine sqQ.n ⟨(dP e28 a0) :: u1 ((.ptr 0 0) :: u3 ((dP e28 a0) :: (dI ((a0.length : Int))) :: (dB (decide ((a0.length : Int) > 40))) :: u17 [])), [(.cells [(dI 0), (dI 0)])]⟩ (by kernel_rfl) ?_
    refine seqQ.n ?_
    refine Wp.seq (subc [1, 1, 0] C15) (subc [1, 1, 1] C15) (by kernel_rfl) ?_
    refine Wp.seq (subc [1, 1, 0, 0] C15) (subc [1, 1, 0, 1] C15) (by kernel_rfl) ?_
    refine Wp.region (by kernel_rfl) ?_
    refine Ops.seg 1 1 (by kernel_rfl) ⟨(dP e28 a0) :: u1 ((.ptr 0 0) :: u3 ((dP e28 a0) :: (dI ((a0.length : Int))) :: (dB (decide ((a0.length : Int) > 40))) :: u1 ((dP e28 a0) :: u15 []))), [(.cells [(dI 0), (dI 0)])]⟩ (by kernel_rfl) ?_
    refine Ops.one 2 (by kernel_rfl) ((lenD (X15 n).E.T 22 (D.unt (dP e28 a0))).map (·, [(.cells [(dI 0), (dI 0)])])) (dI ((a0.length : Int))) [(.cells [(dI 0), (dI 0)])] ⟨(dP e28 a0) :: u1 ((.ptr 0 0) :: u3 ((dP e28 a0) :: (dI ((a0.length : Int))) :: (dB (decide ((a0.length : Int) > 40))) :: u1 ((dP e28 a0) :: (dI ((a0.length : Int))) :: u14 []))), [(.cells [(dI 0), (dI 0)])]⟩ (by kernel_rfl) (len_r _ 22 29 .plain e28 a0 (by kernel_rfl)) (by kernel_rfl) ?_
    refine Ops.seg 1 3 (by kernel_rfl) ⟨(dP e28 a0) :: u1 ((.ptr 0 0) :: u3 ((dP e28 a0) :: (dI ((a0.length : Int))) :: (dB (decide ((a0.length : Int) > 40))) :: u1 ((dP e28 a0) :: (dI ((a0.length : Int))) :: (dI 0) :: u13 []))), [(.cells [(dI 0), (dI 0)])]⟩ (by kernel_rfl) ?_
    refine Ops.done (by kernel_rfl) ?_
    refine seqQ.n ?_
    refine Wp.block (id := 0) [2] (by kernel_rfl) 1 (by kernel_rfl) (subc [1, 1, 0, 1, 0] C15) (by kernel_rfl) ?_
    have hLx22 : ∀ (kx11 : Nat) (v9 : Int)  (ox10 : S25 ⊕ (Int)), iter (fun (y : Int) => f15_B1 m a0 y) kx11 v9 = some ox10 → ∀ nx12, kx11 ≤ nx12 → (∀ r, ox10 = .inl r → ∀ σ, RetOk (X15 n) (resOf Proofs.Try.prog 15) (e25 r) σ → (seqQ (X15 n) (subc [1, 1, 1] C15) (fnQ (X15 n).E.T (resOf Proofs.Try.prog 15) (e25 o))) .ret σ) → (∀ (y : Int) , ox10 = .inr y → (seqQ (X15 n) (subc [1, 1, 1] C15) (fnQ (X15 n).E.T (resOf Proofs.Try.prog 15) (e25 o))) .normal ⟨q2 ((.ptr 0 0) :: q7 ((dP e28 a0) :: (dI ((a0.length : Int))) :: (dI y) :: q13 [])), [(.cells [(dI 0), (dI 0)])]⟩) → Lp (X15 n) [2, 10, 11, 12] 1 (subc [1, 1, 0, 1, 0, 0] C15) nx12 ⟨q2 ((.ptr 0 0) :: q7 ((dP e28 a0) :: (dI ((a0.length : Int))) :: (dI v9) :: q13 [])), [(.cells [(dI 0), (dI 0)])]⟩ (blkQ (X15 n) 0 [2] 1 (seqQ (X15 n) (subc [1, 1, 1] C15) (fnQ (X15 n).E.T (resOf Proofs.Try.prog 15) (e25 o)))) := by
      intro kx11
      induction kx11 with
      | zero => intro v9  ox10 h; exact (iter_zero h).elim
      | succ kx11 ihx13 =>
        intro v9  ox10 h nx12 hnx16 hrx14 hxx15
        obtain ⟨nx12, rfl⟩ : ∃ q, nx12 = q + 1 := ⟨nx12 - 1, by omega⟩
        obtain ⟨sx17, h, hsx18⟩ := iter_some h
        have h : f15_B1 m a0 v9 = some sx17 := h
        unfold f15_B1 at h
        refine Lp.succ ?_
        refine Wp.seq (subc [1, 1, 0, 1, 0, 0, 0] C15) (subc [1, 1, 0, 1, 0, 0, 1] C15) (by kernel_rfl) ?_
        refine Wp.region (by kernel_rfl) ?_
        refine Ops.seg 1 1 (by kernel_rfl) ⟨q2 ((.ptr 0 0) :: q7 ((dP e28 a0) :: (dI ((a0.length : Int))) :: (dI v9) :: (dB (decide (v9 < (a0.length : Int)))) :: q12 [])), [(.cells [(dI 0), (dI 0)])]⟩ (by kernel_rfl) ?_
        refine Ops.done (by kernel_rfl) ?_
        refine seqQ.n ?_
        refine Wp.seq (subc [1, 1, 0, 1, 0, 0, 1, 0] C15) (subc [1, 1, 0, 1, 0, 0, 1, 1] C15) (by kernel_rfl) ?_
        rcases cnd_some h with ⟨hb, h⟩ | ⟨hb, h⟩
        · refine Wp.cond (decide (v9 < (a0.length : Int))) [2, 10, 11, 12] (by kernel_rfl) 1 (by kernel_rfl) (subc [1, 1, 0, 1, 0, 0, 1, 0, 0] C15) (subc [1, 1, 0, 1, 0, 0, 1, 0, 1] C15) (by kernel_rfl) (by kernel_rfl) (fun _ => ?_) (fun e => nomatch (hb.symm.trans e))
          refine Wp.skip (by kernel_rfl) ?_
          refine sqQ.n ⟨q2 ((.ptr 0 0) :: q7 ((dP e28 a0) :: (dI ((a0.length : Int))) :: (dI v9) :: (dB (decide (v9 < (a0.length : Int)))) :: q12 [])), [(.cells [(dI 0), (dI 0)])]⟩ (by kernel_rfl) ?_
          refine seqQ.n ?_
          refine Wp.seq (subc [1, 1, 0, 1, 0, 0, 1, 1, 0] C15) (subc [1, 1, 0, 1, 0, 0, 1, 1, 1] C15) (by kernel_rfl) ?_
          refine Wp.block (id := 1) [2, 10, 11, 12] (by kernel_rfl) 1 (by kernel_rfl) (subc [1, 1, 0, 1, 0, 0, 1, 1, 0, 0] C15) (by kernel_rfl) ?_
          refine Wp.seq (subc [1, 1, 0, 1, 0, 0, 1, 1, 0, 0, 0] C15) (subc [1, 1, 0, 1, 0, 0, 1, 1, 0, 0, 1] C15) (by kernel_rfl) ?_
          refine Wp.region (by kernel_rfl) ?_
          refine Ops.seg 1 1 (by kernel_rfl) ⟨q2 ((.ptr 0 0) :: q7 ((dP e28 a0) :: (dI ((a0.length : Int))) :: (dI v9) :: (dB (decide (v9 < (a0.length : Int)))) :: (dI v9) :: q11 [])), [(.cells [(dI 0), (dI 0)])]⟩ (by kernel_rfl) ?_
          obtain ⟨v19, ev19, h⟩ := bnd_some h
          refine Ops.one 2 (by kernel_rfl) ((indexAddrH (X15 n).E.T [(.cells [(dI 0), (dI 0)])] 22 (D.unt (dP e28 a0)) (dI v9)).map (·, [(.cells [(dI 0), (dI 0)])])) (.vptr [(vP eI v19.fFrom), (vP eI v19.fTo), (vP eI v19.fLeft), (vP eI v19.fRight)]) [(.cells [(dI 0), (dI 0)])] ⟨q2 ((.ptr 0 0) :: q7 ((dP e28 a0) :: (dI ((a0.length : Int))) :: (dI v9) :: (dB (decide (v9 < (a0.length : Int)))) :: (dI v9) :: (.vptr [(vP eI v19.fFrom), (vP eI v19.fTo), (vP eI v19.fLeft), (vP eI v19.fRight)]) :: q10 [])), [(.cells [(dI 0), (dI 0)])]⟩ (by kernel_rfl) (ix_r _ 22 29 4 .plain e28 a0 v9 v19 ev19 (by kernel_rfl) (by kernel_rfl) (fun _ => rfl)) (by kernel_rfl) ?_
          refine Ops.seg 4 6 (by kernel_rfl) ⟨q2 ((.ptr 0 0) :: (dI v9) :: (.ptr 1 0) :: q5 ((dP e28 a0) :: (dI ((a0.length : Int))) :: (dI v9) :: (dB (decide (v9 < (a0.length : Int)))) :: (dI v9) :: (.vptr [(vP eI v19.fFrom), (vP eI v19.fTo), (vP eI v19.fLeft), (vP eI v19.fRight)]) :: (.v (.agg [(vP eI v19.fFrom), (vP eI v19.fTo), (vP eI v19.fLeft), (vP eI v19.fRight)])) :: q9 [])), [(.cells [(dI 0), (dI 0)]), (.cells [(dP eI v19.fFrom), (dP eI v19.fTo), (dP eI v19.fLeft), (dP eI v19.fRight)])]⟩ (by kernel_rfl) ?_
          refine Ops.done (by kernel_rfl) ?_
          refine seqQ.n ?_
          refine Wp.seq (subc [1, 1, 0, 1, 0, 0, 1, 1, 0, 0, 1, 0] C15) (subc [1, 1, 0, 1, 0, 0, 1, 1, 0, 0, 1, 1] C15) (by kernel_rfl) ?_
          refine Wp.region (by kernel_rfl) ?_
          refine Ops.seg 1 1 (by kernel_rfl) ⟨q2 ((.ptr 0 0) :: (dI v9) :: (.ptr 1 0) :: q5 ((dP e28 a0) :: (dI ((a0.length : Int))) :: (dI v9) :: (dB (decide (v9 < (a0.length : Int)))) :: (dI v9) :: (.vptr [(vP eI v19.fFrom), (vP eI v19.fTo), (vP eI v19.fLeft), (vP eI v19.fRight)]) :: (.v (.agg [(vP eI v19.fFrom), (vP eI v19.fTo), (vP eI v19.fLeft), (vP eI v19.fRight)])) :: (.v (.agg [(vP eI v19.fFrom), (vP eI v19.fTo), (vP eI v19.fLeft), (vP eI v19.fRight)])) :: q8 [])), [(.cells [(dI 0), (dI 0)]), (.cells [(dP eI v19.fFrom), (dP eI v19.fTo), (dP eI v19.fLeft), (dP eI v19.fRight)])]⟩ (by kernel_rfl) ?_
          obtain ⟨v20, ev20, h⟩ := bnd_some h
          refine Ops.one 2 (by kernel_rfl) (callD (X15 n).E (run Proofs.Try.prog E n) 30 [(.v (.agg [(vP eI v19.fFrom), (vP eI v19.fTo), (vP eI v19.fLeft), (vP eI v19.fRight)]))] [(.cells [(dI 0), (dI 0)]), (.cells [(dP eI v19.fFrom), (dP eI v19.fTo), (dP eI v19.fLeft), (dP eI v19.fRight)])]) (dI v20) [(.cells [(dI 0), (dI 0)]), (.cells [(dP eI v19.fFrom), (dP eI v19.fTo), (dP eI v19.fLeft), (dP eI v19.fRight)])] ⟨q2 ((.ptr 0 0) :: (dI v9) :: (.ptr 1 0) :: q5 ((dP e28 a0) :: (dI ((a0.length : Int))) :: (dI v9) :: (dB (decide (v9 < (a0.length : Int)))) :: (dI v9) :: (.vptr [(vP eI v19.fFrom), (vP eI v19.fTo), (vP eI v19.fLeft), (vP eI v19.fRight)]) :: (.v (.agg [(vP eI v19.fFrom), (vP eI v19.fTo), (vP eI v19.fLeft), (vP eI v19.fRight)])) :: (.v (.agg [(vP eI v19.fFrom), (vP eI v19.fTo), (vP eI v19.fLeft), (vP eI v19.fRight)])) :: (dI v20) :: q7 [])), [(.cells [(dI 0), (dI 0)]), (.cells [(dP eI v19.fFrom), (dP eI v19.fTo), (dP eI v19.fLeft), (dP eI v19.fRight)])]⟩ (by kernel_rfl) (call_ok (by kernel_rfl) (Args.v (.agg [(vP eI v19.fFrom), (vP eI v19.fTo), (vP eI v19.fLeft), (vP eI v19.fRight)]) (e28 v19) (by kernel_rfl) Args.nil) (ok30 m v19 v20 ev20 n (by omega))) (by kernel_rfl) ?_
          refine Ops.seg 1 3 (by kernel_rfl) ⟨q2 ((.ptr 0 0) :: (dI v9) :: (.ptr 1 0) :: (dI v20) :: q4 ((dP e28 a0) :: (dI ((a0.length : Int))) :: (dI v9) :: (dB (decide (v9 < (a0.length : Int)))) :: (dI v9) :: (.vptr [(vP eI v19.fFrom), (vP eI v19.fTo), (vP eI v19.fLeft), (vP eI v19.fRight)]) :: (.v (.agg [(vP eI v19.fFrom), (vP eI v19.fTo), (vP eI v19.fLeft), (vP eI v19.fRight)])) :: (.v (.agg [(vP eI v19.fFrom), (vP eI v19.fTo), (vP eI v19.fLeft), (vP eI v19.fRight)])) :: (dI v20) :: q7 [])), [(.cells [(dI 0), (dI 0)]), (.cells [(dP eI v19.fFrom), (dP eI v19.fTo), (dP eI v19.fLeft), (dP eI v19.fRight)])]⟩ (by kernel_rfl) ?_
          refine Ops.done (by kernel_rfl) ?_
          refine seqQ.n ?_
          refine Wp.seq (subc [1, 1, 0, 1, 0, 0, 1, 1, 0, 0, 1, 1, 0] C15) (subc [1, 1, 0, 1, 0, 0, 1, 1, 0, 0, 1, 1, 1] C15) (by kernel_rfl) ?_
          refine Wp.region (by kernel_rfl) ?_
          refine Ops.seg 2 2 (by kernel_rfl) ⟨q2 ((.ptr 0 0) :: (dI v9) :: (.ptr 1 0) :: (dI v20) :: q4 ((dP e28 a0) :: (dI ((a0.length : Int))) :: (dI v9) :: (dB (decide (v9 < (a0.length : Int)))) :: (dI v9) :: (.vptr [(vP eI v19.fFrom), (vP eI v19.fTo), (vP eI v19.fLeft), (vP eI v19.fRight)]) :: (.v (.agg [(vP eI v19.fFrom), (vP eI v19.fTo), (vP eI v19.fLeft), (vP eI v19.fRight)])) :: (.v (.agg [(vP eI v19.fFrom), (vP eI v19.fTo), (vP eI v19.fLeft), (vP eI v19.fRight)])) :: (dI v20) :: (dI v20) :: (dB (v20 != 0)) :: q5 [])), [(.cells [(dI 0), (dI 0)]), (.cells [(dP eI v19.fFrom), (dP eI v19.fTo), (dP eI v19.fLeft), (dP eI v19.fRight)])]⟩ (by kernel_rfl) ?_
          refine Ops.done (by kernel_rfl) ?_
          refine seqQ.n ?_
          rcases cnd_some h with ⟨hb, h⟩ | ⟨hb, h⟩
          · refine Wp.cond (v20 != 0) [2, 10, 11, 12] (by kernel_rfl) 2 (by kernel_rfl) (subc [1, 1, 0, 1, 0, 0, 1, 1, 0, 0, 1, 1, 1, 0] C15) (subc [1, 1, 0, 1, 0, 0, 1, 1, 0, 0, 1, 1, 1, 1] C15) (by kernel_rfl) (by kernel_rfl) (fun _ => ?_) (fun e => nomatch (hb.symm.trans e))
            refine Wp.seq (subc [1, 1, 0, 1, 0, 0, 1, 1, 0, 0, 1, 1, 1, 0, 0] C15) (subc [1, 1, 0, 1, 0, 0, 1, 1, 0, 0, 1, 1, 1, 0, 1] C15) (by kernel_rfl) ?_
            refine Wp.region (by kernel_rfl) ?_
            refine Ops.seg 2 2 (by kernel_rfl) ⟨q2 ((.ptr 0 0) :: (dI v9) :: (.ptr 1 0) :: (dI v20) :: q4 ((dP e28 a0) :: (dI ((a0.length : Int))) :: (dI v9) :: (dB (decide (v9 < (a0.length : Int)))) :: (dI v9) :: (.vptr [(vP eI v19.fFrom), (vP eI v19.fTo), (vP eI v19.fLeft), (vP eI v19.fRight)]) :: (.v (.agg [(vP eI v19.fFrom), (vP eI v19.fTo), (vP eI v19.fLeft), (vP eI v19.fRight)])) :: (.v (.agg [(vP eI v19.fFrom), (vP eI v19.fTo), (vP eI v19.fLeft), (vP eI v19.fRight)])) :: (dI v20) :: (dI v20) :: (dB (v20 != 0)) :: (dI v20) :: (dI v9) :: q3 [])), [(.cells [(dI 0), (dI 0)]), (.cells [(dP eI v19.fFrom), (dP eI v19.fTo), (dP eI v19.fLeft), (dP eI v19.fRight)])]⟩ (by kernel_rfl) ?_
            obtain ⟨v21, ev21, h⟩ := bnd_some h
            refine Ops.one 3 (by kernel_rfl) (callD (X15 n).E (run Proofs.Try.prog E n) 29 [(dI v20), (dI v9)] [(.cells [(dI 0), (dI 0)]), (.cells [(dP eI v19.fFrom), (dP eI v19.fTo), (dP eI v19.fLeft), (dP eI v19.fRight)])]) (.v (.agg [(vI v21.fCode), (vI v21.fIndex)])) [(.cells [(dI 0), (dI 0)]), (.cells [(dP eI v19.fFrom), (dP eI v19.fTo), (dP eI v19.fLeft), (dP eI v19.fRight)])] ⟨q2 ((.ptr 0 0) :: (dI v9) :: (.ptr 1 0) :: (dI v20) :: q4 ((dP e28 a0) :: (dI ((a0.length : Int))) :: (dI v9) :: (dB (decide (v9 < (a0.length : Int)))) :: (dI v9) :: (.vptr [(vP eI v19.fFrom), (vP eI v19.fTo), (vP eI v19.fLeft), (vP eI v19.fRight)]) :: (.v (.agg [(vP eI v19.fFrom), (vP eI v19.fTo), (vP eI v19.fLeft), (vP eI v19.fRight)])) :: (.v (.agg [(vP eI v19.fFrom), (vP eI v19.fTo), (vP eI v19.fLeft), (vP eI v19.fRight)])) :: (dI v20) :: (dI v20) :: (dB (v20 != 0)) :: (dI v20) :: (dI v9) :: (.v (.agg [(vI v21.fCode), (vI v21.fIndex)])) :: q2 [])), [(.cells [(dI 0), (dI 0)]), (.cells [(dP eI v19.fFrom), (dP eI v19.fTo), (dP eI v19.fLeft), (dP eI v19.fRight)])]⟩ (by kernel_rfl) (call_ok (by kernel_rfl) (Args.v (vI v20) (eI v20) (by kernel_rfl) (Args.v (vI v9) (eI v9) (by kernel_rfl) Args.nil)) (ok29 m v20 v9 v21 ev21 n (by omega))) (by kernel_rfl) ?_
            refine Ops.seg 1 4 (by kernel_rfl) ⟨q2 ((.ptr 0 0) :: (dI v9) :: (.ptr 1 0) :: (dI v20) :: q4 ((dP e28 a0) :: (dI ((a0.length : Int))) :: (dI v9) :: (dB (decide (v9 < (a0.length : Int)))) :: (dI v9) :: (.vptr [(vP eI v19.fFrom), (vP eI v19.fTo), (vP eI v19.fLeft), (vP eI v19.fRight)]) :: (.v (.agg [(vP eI v19.fFrom), (vP eI v19.fTo), (vP eI v19.fLeft), (vP eI v19.fRight)])) :: (.v (.agg [(vP eI v19.fFrom), (vP eI v19.fTo), (vP eI v19.fLeft), (vP eI v19.fRight)])) :: (dI v20) :: (dI v20) :: (dB (v20 != 0)) :: (dI v20) :: (dI v9) :: (.v (.agg [(vI v21.fCode), (vI v21.fIndex)])) :: q2 [])), [(.cells [(dI v21.fCode), (dI v21.fIndex)]), (.cells [(dP eI v19.fFrom), (dP eI v19.fTo), (dP eI v19.fLeft), (dP eI v19.fRight)])]⟩ (by kernel_rfl) ?_
            refine Ops.done (by kernel_rfl) ?_
            refine seqQ.n ?_
            refine Wp.ret (by kernel_rfl) ?_
            refine sqQ.r ?_
            refine blkQ.r ?_
            refine seqQ.r ?_
            cases h
            refine lpQ.r ?_
            refine blkQ.r ?_
            exact hrx14 _ hsx18 _ (RetOk.forget [2, 10, 11, 12] (by kernel_rfl) (RetOk.mk' (.v (.agg [(vI v21.fCode), (vI v21.fIndex)])) (by kernel_rfl) (by kernel_rfl)))
          · refine Wp.cond (v20 != 0) [2, 10, 11, 12] (by kernel_rfl) 2 (by kernel_rfl) (subc [1, 1, 0, 1, 0, 0, 1, 1, 0, 0, 1, 1, 1, 0] C15) (subc [1, 1, 0, 1, 0, 0, 1, 1, 0, 0, 1, 1, 1, 1] C15) (by kernel_rfl) (by kernel_rfl) (fun e => nomatch (hb.symm.trans e)) (fun _ => ?_)
            refine Wp.skip (by kernel_rfl) ?_
            refine sqQ.n ⟨q2 ((.ptr 0 0) :: (dI v9) :: (.ptr 1 0) :: (dI v20) :: q4 ((dP e28 a0) :: (dI ((a0.length : Int))) :: (dI v9) :: (dB (decide (v9 < (a0.length : Int)))) :: (dI v9) :: (.vptr [(vP eI v19.fFrom), (vP eI v19.fTo), (vP eI v19.fLeft), (vP eI v19.fRight)]) :: (.v (.agg [(vP eI v19.fFrom), (vP eI v19.fTo), (vP eI v19.fLeft), (vP eI v19.fRight)])) :: (.v (.agg [(vP eI v19.fFrom), (vP eI v19.fTo), (vP eI v19.fLeft), (vP eI v19.fRight)])) :: (dI v20) :: (dI v20) :: (dB (v20 != 0)) :: q5 [])), [(.cells [(dI 0), (dI 0)]), (.cells [(dP eI v19.fFrom), (dP eI v19.fTo), (dP eI v19.fLeft), (dP eI v19.fRight)])]⟩ (by kernel_rfl) ?_
            refine blkQ.n ⟨q2 ((.ptr 0 0) :: q7 ((dP e28 a0) :: (dI ((a0.length : Int))) :: (dI v9) :: q13 [])), [(.cells [(dI 0), (dI 0)])]⟩ (by kernel_rfl) ?_
            refine seqQ.n ?_
            refine Wp.region (by kernel_rfl) ?_
            refine Ops.seg 2 2 (by kernel_rfl) ⟨q2 ((.ptr 0 0) :: q7 ((dP e28 a0) :: (dI ((a0.length : Int))) :: (dI (w64 (v9 + 1))) :: q11 ((dI (w64 (v9 + 1))) :: q1 []))), [(.cells [(dI 0), (dI 0)])]⟩ (by kernel_rfl) ?_
            refine Ops.done (by kernel_rfl) ?_
            refine lpQ.n ⟨q2 ((.ptr 0 0) :: q7 ((dP e28 a0) :: (dI ((a0.length : Int))) :: (dI (w64 (v9 + 1))) :: q13 [])), [(.cells [(dI 0), (dI 0)])]⟩ (by kernel_rfl) ?_
            cases h
            exact ihx13 (w64 (v9 + 1))  _ hsx18 _ (by omega) hrx14 hxx15
        · refine Wp.cond (decide (v9 < (a0.length : Int))) [2, 10, 11, 12] (by kernel_rfl) 1 (by kernel_rfl) (subc [1, 1, 0, 1, 0, 0, 1, 0, 0] C15) (subc [1, 1, 0, 1, 0, 0, 1, 0, 1] C15) (by kernel_rfl) (by kernel_rfl) (fun e => nomatch (hb.symm.trans e)) (fun _ => ?_)
          refine Wp.exit (id := 0) (by kernel_rfl) ?_
          refine sqQ.x ?_
          refine seqQ.x ?_
          cases h
          refine lpQ.x ?_
          refine blkQ.x ⟨q2 ((.ptr 0 0) :: q7 ((dP e28 a0) :: (dI ((a0.length : Int))) :: (dI v9) :: q13 [])), [(.cells [(dI 0), (dI 0)])]⟩ (by kernel_rfl) ?_
          exact hxx15 v9  hsx18
    refine Wp.loop [2, 10, 11, 12] 1 (by kernel_rfl) (subc [1, 1, 0, 1, 0, 0] C15) (by kernel_rfl) (by kernel_rfl) ⟨q2 ((.ptr 0 0) :: q7 ((dP e28 a0) :: (dI ((a0.length : Int))) :: (dI 0) :: q13 [])), [(.cells [(dI 0), (dI 0)])]⟩ (by kernel_rfl) ?_
    rcases brk_some h with ⟨r24, er24, h⟩ | ⟨y23, ey23, h⟩
    · refine hLx22 _ 0  _ er24 n (by omega) (fun r er σ hσ => ?_) (fun y  ey => by cases ey)
      cases er
      refine seqQ.r ?_
      exact fnQ.r' (X15 n) (fun z => (e25 z)) h hσ
    · refine hLx22 _ 0  _ ey23 n (by omega) (fun r er => by cases er) (fun y  ey => ?_)
      cases ey
      refine seqQ.n ?_
      refine Wp.seq (subc [1, 1, 1, 0] C15) (subc [1, 1, 1, 1] C15) (by kernel_rfl) ?_
      refine Wp.region (by kernel_rfl) ?_
      refine Ops.seg 2 2 (by kernel_rfl) ⟨q2 ((.ptr 0 0) :: q7 ((dP e28 a0) :: (dI ((a0.length : Int))) :: (dI y23) :: q12 ((.v (.agg [(vI 0), (vI 0)])) :: []))), [(.cells [(dI 0), (dI 0)])]⟩ (by kernel_rfl) ?_
      refine Ops.done (by kernel_rfl) ?_
      refine seqQ.n ?_
      refine Wp.ret (by kernel_rfl) ?_
      exact fnQ.r' (X15 n) (fun z => (e25 z)) h (RetOk.mk' (.v (.agg [(vI 0), (vI 0)])) (by kernel_rfl) (by kernel_rfl))

/-! ### 40 glosswright/glosswrightref5.fault -/
def f40 (m : Nat) (a0 : Int) (a1 : Int) : Option S25 :=
  some ((⟨a0, a1⟩ : S25))
noncomputable abbrev X40 (n : Nat) : Cx := cxOf Proofs.Try.prog E 40 n
noncomputable def C40 : Code := bodyOf Proofs.Try.prog 40
theorem ok40 (m : Nat) (a0 : Int) (a1 : Int) (o : S25) (h : f40 m a0 a1 = some o) (n : Nat) (hn : m + 1 ≤ n) : Fn Proofs.Try.prog E n 40 [eI a0, eI a1] (e25 o) := by
  obtain ⟨n, rfl⟩ : ∃ q, n = q + 1 := ⟨n - 1, by omega⟩
  unfold f40 at h
  refine Fn.of (by kernel_rfl) (by kernel_rfl) ⟨(dI a0) :: (dI a1) :: u6 [], []⟩ (by kernel_rfl) ?_
  refine Wp.seq (subc [0] C40) (subc [1] C40) (by kernel_rfl) ?_
  refine Wp.region (by kernel_rfl) ?_
  refine Ops.seg 1 1 (by kernel_rfl) ⟨(dI a0) :: (dI a1) :: u2 ((.ptr 0 0) :: u3 []), [(.cells [(dI 0), (dI 0)])]⟩ (by kernel_rfl) ?_
  refine Ops.done (by kernel_rfl) ?_
  refine seqQ.n ?_
  refine Wp.seq (subc [1, 0] C40) (subc [1, 1] C40) (by kernel_rfl) ?_
  refine Wp.region (by kernel_rfl) ?_
  refine Ops.seg 4 4 (by kernel_rfl) ⟨(dI a0) :: (dI a1) :: u2 ((.ptr 0 0) :: (dI a0) :: (dI a1) :: (.v (.agg [(vI a0), (vI a1)])) :: []), [(.cells [(dI a0), (dI a1)])]⟩ (by kernel_rfl) ?_
  refine Ops.done (by kernel_rfl) ?_
  refine seqQ.n ?_
  refine Wp.ret (by kernel_rfl) ?_
  exact fnQ.r' (X40 n) (fun z => (e25 z)) h (RetOk.mk' (.v (.agg [(vI a0), (vI a1)])) (by kernel_rfl) (by kernel_rfl))

/-! ### 27 glosswright/glosswrightref5.WordFault -/
def f27_r1 (m : Nat) (a1 : Int) (v21 : Int) (v37 : Bool) : Option (Stp S25 (Int)) :=
  cnd v37
  (bnd (f40 m 3 a1) fun v39 =>
  some (.ret v39))
  (some (.nxt (w64 (v21 + 1))))
def f27_B2 (m : Nat) (a0 : (List Int)) (a1 : Int) (v21 : Int) : Option (Stp S25 (Int)) :=
  cnd (decide (v21 < (a0.length : Int)))
  (bnd (idx a0 v21) fun v31 =>
  f27_r1 m a1 v21 (((decide (v31 < 1)) || (decide (v31 > 1114111)))))
  (some (.brk v21))
def f27 (m : Nat) (a0 : (List Int)) (a1 : Int) : Option S25 :=
  cnd (decide ((a0.length : Int) > 30))
  (bnd (f40 m 2 a1) fun v1 =>
  some v1)
  (brk (iter (fun (y : Int) => f27_B2 m a0 a1 y) m 0) some fun y41 =>
  some ((⟨0, 0⟩ : S25)))
noncomputable abbrev X27 (n : Nat) : Cx := cxOf Proofs.Try.prog E 27 n
noncomputable def C27 : Code := bodyOf Proofs.Try.prog 27
theorem ok27 (m : Nat) (a0 : (List Int)) (a1 : Int) (o : S25) (h : f27 m a0 a1 = some o) (n : Nat) (hn : m + 2 ≤ n) : Fn Proofs.Try.prog E n 27 [(eL eI) a0, eI a1] (e25 o) := by
  obtain ⟨n, rfl⟩ : ∃ q, n = q + 1 := ⟨n - 1, by omega⟩
  unfold f27 at h
  refine Fn.of (by kernel_rfl) (by kernel_rfl) ⟨(dP eI a0) :: (dI a1) :: u26 [], []⟩ (by kernel_rfl) ?_
  refine Wp.seq (subc [0] C27) (subc [1] C27) (by kernel_rfl) ?_
  refine Wp.region (by kernel_rfl) ?_
  refine Ops.seg 1 1 (by kernel_rfl) ⟨(dP eI a0) :: (dI a1) :: u2 ((.ptr 0 0) :: u23 []), [(.cells [(dI 0), (dI 0)])]⟩ (by kernel_rfl) ?_
  refine Ops.done (by kernel_rfl) ?_
  refine seqQ.n ?_
  refine Wp.seq (subc [1, 0] C27) (subc [1, 1] C27) (by kernel_rfl) ?_
  refine Wp.seq (subc [1, 0, 0] C27) (subc [1, 0, 1] C27) (by kernel_rfl) ?_
  refine Wp.region (by kernel_rfl) ?_
  refine Ops.seg 1 1 (by kernel_rfl) ⟨(dP eI a0) :: (dI a1) :: u2 ((.ptr 0 0) :: u2 ((dP eI a0) :: u20 [])), [(.cells [(dI 0), (dI 0)])]⟩ (by kernel_rfl) ?_
  refine Ops.one 2 (by kernel_rfl) ((lenD (X27 n).E.T 23 (D.unt (dP eI a0))).map (·, [(.cells [(dI 0), (dI 0)])])) (dI ((a0.length : Int))) [(.cells [(dI 0), (dI 0)])] ⟨(dP eI a0) :: (dI a1) :: u2 ((.ptr 0 0) :: u2 ((dP eI a0) :: (dI ((a0.length : Int))) :: u19 [])), [(.cells [(dI 0), (dI 0)])]⟩ (by kernel_rfl) (len_r _ 23 3 .plain eI a0 (by kernel_rfl)) (by kernel_rfl) ?_
  refine Ops.seg 1 3 (by kernel_rfl) ⟨(dP eI a0) :: (dI a1) :: u2 ((.ptr 0 0) :: u2 ((dP eI a0) :: (dI ((a0.length : Int))) :: (dB (decide ((a0.length : Int) > 30))) :: u18 [])), [(.cells [(dI 0), (dI 0)])]⟩ (by kernel_rfl) ?_
  refine Ops.done (by kernel_rfl) ?_
  refine seqQ.n ?_
  rcases cnd_some h with ⟨hb, h⟩ | ⟨hb, h⟩
  · refine Wp.cond (decide ((a0.length : Int) > 30)) [0, 1, 4] (by kernel_rfl) 1 (by kernel_rfl) (subc [1, 0, 1, 0] C27) (subc [1, 0, 1, 1] C27) (by kernel_rfl) (by kernel_rfl) (fun _ => ?_) (fun e => nomatch (hb.symm.trans e))
    refine Wp.seq (subc [1, 0, 1, 0, 0] C27) (subc [1, 0, 1, 0, 1] C27) (by kernel_rfl) ?_
    refine Wp.region (by kernel_rfl) ?_
    refine Ops.seg 1 1 (by kernel_rfl) ⟨(dP eI a0) :: (dI a1) :: u2 ((.ptr 0 0) :: u2 ((dP eI a0) :: (dI ((a0.length : Int))) :: (dB (decide ((a0.length : Int) > 30))) :: (dI a1) :: u17 [])), [(.cells [(dI 0), (dI 0)])]⟩ (by kernel_rfl) ?_
    obtain ⟨v1, ev1, h⟩ := bnd_some h
    refine Ops.one 2 (by kernel_rfl) (callD (X27 n).E (run Proofs.Try.prog E n) 40 [(dI 2), (dI a1)] [(.cells [(dI 0), (dI 0)])]) (.v (.agg [(vI v1.fCode), (vI v1.fIndex)])) [(.cells [(dI 0), (dI 0)])] ⟨(dP eI a0) :: (dI a1) :: u2 ((.ptr 0 0) :: u2 ((dP eI a0) :: (dI ((a0.length : Int))) :: (dB (decide ((a0.length : Int) > 30))) :: (dI a1) :: (.v (.agg [(vI v1.fCode), (vI v1.fIndex)])) :: u16 [])), [(.cells [(dI 0), (dI 0)])]⟩ (by kernel_rfl) (call_ok (by kernel_rfl) (Args.v (vI 2) (eI 2) (by kernel_rfl) (Args.v (vI a1) (eI a1) (by kernel_rfl) Args.nil)) (ok40 m 2 a1 v1 ev1 n (by omega))) (by kernel_rfl) ?_
    refine Ops.seg 1 3 (by kernel_rfl) ⟨(dP eI a0) :: (dI a1) :: u2 ((.ptr 0 0) :: u2 ((dP eI a0) :: (dI ((a0.length : Int))) :: (dB (decide ((a0.length : Int) > 30))) :: (dI a1) :: (.v (.agg [(vI v1.fCode), (vI v1.fIndex)])) :: u16 [])), [(.cells [(dI v1.fCode), (dI v1.fIndex)])]⟩ (by kernel_rfl) ?_
    refine Ops.done (by kernel_rfl) ?_
    refine seqQ.n ?_
    refine Wp.ret (by kernel_rfl) ?_
    refine sqQ.r ?_
    refine seqQ.r ?_
    exact fnQ.r' (X27 n) (fun z => (e25 z)) h (RetOk.mk' (.v (.agg [(vI v1.fCode), (vI v1.fIndex)])) (by kernel_rfl) (by kernel_rfl))
  · refine Wp.cond (decide ((a0.length : Int) > 30)) [0, 1, 4] (by kernel_rfl) 1 (by kernel_rfl) (subc [1, 0, 1, 0] C27) (subc [1, 0, 1, 1] C27) (by kernel_rfl) (by kernel_rfl) (fun e => nomatch (hb.symm.trans e)) (fun _ => ?_)
    refine Wp.skip (by kernel_rfl) ?_
    refine sqQ.n ⟨(dP eI a0) :: (dI a1) :: u2 ((.ptr 0 0) :: u2 ((dP eI a0) :: (dI ((a0.length : Int))) :: (dB (decide ((a0.length : Int) > 30))) :: u18 [])), [(.cells [(dI 0), (dI 0)])]⟩ (by kernel_rfl) ?_
    refine seqQ.n ?_
    refine Wp.seq (subc [1, 1, 0] C27) (subc [1, 1, 1] C27) (by kernel_rfl) ?_
    refine Wp.seq (subc [1, 1, 0, 0] C27) (subc [1, 1, 0, 1] C27) (by kernel_rfl) ?_
    refine Wp.region (by kernel_rfl) ?_
    refine Ops.seg 1 1 (by kernel_rfl) ⟨(dP eI a0) :: (dI a1) :: u2 ((.ptr 0 0) :: u2 ((dP eI a0) :: (dI ((a0.length : Int))) :: (dB (decide ((a0.length : Int) > 30))) :: u2 ((dP eI a0) :: u15 []))), [(.cells [(dI 0), (dI 0)])]⟩ (by kernel_rfl) ?_
    refine Ops.one 2 (by kernel_rfl) ((lenD (X27 n).E.T 23 (D.unt (dP eI a0))).map (·, [(.cells [(dI 0), (dI 0)])])) (dI ((a0.length : Int))) [(.cells [(dI 0), (dI 0)])] ⟨(dP eI a0) :: (dI a1) :: u2 ((.ptr 0 0) :: u2 ((dP eI a0) :: (dI ((a0.length : Int))) :: (dB (decide ((a0.length : Int) > 30))) :: u2 ((dP eI a0) :: (dI ((a0.length : Int))) :: u14 []))), [(.cells [(dI 0), (dI 0)])]⟩ (by kernel_rfl) (len_r _ 23 3 .plain eI a0 (by kernel_rfl)) (by kernel_rfl) ?_
    refine Ops.seg 1 3 (by kernel_rfl) ⟨(dP eI a0) :: (dI a1) :: u2 ((.ptr 0 0) :: u2 ((dP eI a0) :: (dI ((a0.length : Int))) :: (dB (decide ((a0.length : Int) > 30))) :: u2 ((dP eI a0) :: (dI ((a0.length : Int))) :: (dI 0) :: u13 []))), [(.cells [(dI 0), (dI 0)])]⟩ (by kernel_rfl) ?_
    refine Ops.done (by kernel_rfl) ?_
    refine seqQ.n ?_
    refine Wp.block (id := 0) [4] (by kernel_rfl) 1 (by kernel_rfl) (subc [1, 1, 0, 1, 0] C27) (by kernel_rfl) ?_
    have hLx40 : ∀ (kx23 : Nat) (v21 : Int)  (ox22 : S25 ⊕ (Int)), iter (fun (y : Int) => f27_B2 m a0 a1 y) kx23 v21 = some ox22 → ∀ nx24, kx23 ≤ nx24 → (∀ r, ox22 = .inl r → ∀ σ, RetOk (X27 n) (resOf Proofs.Try.prog 27) (e25 r) σ → (seqQ (X27 n) (subc [1, 1, 1] C27) (fnQ (X27 n).E.T (resOf Proofs.Try.prog 27) (e25 o))) .ret σ) → (∀ (y : Int) , ox22 = .inr y → (seqQ (X27 n) (subc [1, 1, 1] C27) (fnQ (X27 n).E.T (resOf Proofs.Try.prog 27) (e25 o))) .normal ⟨q1 ((dI a1) :: q2 ((.ptr 0 0) :: q7 ((dP eI a0) :: (dI ((a0.length : Int))) :: (dI y) :: q13 []))), [(.cells [(dI 0), (dI 0)])]⟩) → Lp (X27 n) [1, 4, 12, 13, 14] 1 (subc [1, 1, 0, 1, 0, 0] C27) nx24 ⟨q1 ((dI a1) :: q2 ((.ptr 0 0) :: q7 ((dP eI a0) :: (dI ((a0.length : Int))) :: (dI v21) :: q13 []))), [(.cells [(dI 0), (dI 0)])]⟩ (blkQ (X27 n) 0 [4] 1 (seqQ (X27 n) (subc [1, 1, 1] C27) (fnQ (X27 n).E.T (resOf Proofs.Try.prog 27) (e25 o)))) := by
      intro kx23
      induction kx23 with
      | zero => intro v21  ox22 h; exact (iter_zero h).elim
      | succ kx23 ihx25 =>
        intro v21  ox22 h nx24 hnx28 hrx26 hxx27
        obtain ⟨nx24, rfl⟩ : ∃ q, nx24 = q + 1 := ⟨nx24 - 1, by omega⟩
        obtain ⟨sx29, h, hsx30⟩ := iter_some h
        have h : f27_B2 m a0 a1 v21 = some sx29 := h
        unfold f27_B2 at h
        refine Lp.succ ?_
        refine Wp.seq (subc [1, 1, 0, 1, 0, 0, 0] C27) (subc [1, 1, 0, 1, 0, 0, 1] C27) (by kernel_rfl) ?_
        refine Wp.region (by kernel_rfl) ?_
        refine Ops.seg 1 1 (by kernel_rfl) ⟨q1 ((dI a1) :: q2 ((.ptr 0 0) :: q7 ((dP eI a0) :: (dI ((a0.length : Int))) :: (dI v21) :: (dB (decide (v21 < (a0.length : Int)))) :: q12 []))), [(.cells [(dI 0), (dI 0)])]⟩ (by kernel_rfl) ?_
        refine Ops.done (by kernel_rfl) ?_
        refine seqQ.n ?_
        refine Wp.seq (subc [1, 1, 0, 1, 0, 0, 1, 0] C27) (subc [1, 1, 0, 1, 0, 0, 1, 1] C27) (by kernel_rfl) ?_
        rcases cnd_some h with ⟨hb, h⟩ | ⟨hb, h⟩
        · refine Wp.cond (decide (v21 < (a0.length : Int))) [1, 4, 12, 13, 14] (by kernel_rfl) 1 (by kernel_rfl) (subc [1, 1, 0, 1, 0, 0, 1, 0, 0] C27) (subc [1, 1, 0, 1, 0, 0, 1, 0, 1] C27) (by kernel_rfl) (by kernel_rfl) (fun _ => ?_) (fun e => nomatch (hb.symm.trans e))
          refine Wp.skip (by kernel_rfl) ?_
          refine sqQ.n ⟨q1 ((dI a1) :: q2 ((.ptr 0 0) :: q7 ((dP eI a0) :: (dI ((a0.length : Int))) :: (dI v21) :: (dB (decide (v21 < (a0.length : Int)))) :: q12 []))), [(.cells [(dI 0), (dI 0)])]⟩ (by kernel_rfl) ?_
          refine seqQ.n ?_
          refine Wp.seq (subc [1, 1, 0, 1, 0, 0, 1, 1, 0] C27) (subc [1, 1, 0, 1, 0, 0, 1, 1, 1] C27) (by kernel_rfl) ?_
          refine Wp.block (id := 1) [1, 4, 12, 13, 14] (by kernel_rfl) 1 (by kernel_rfl) (subc [1, 1, 0, 1, 0, 0, 1, 1, 0, 0] C27) (by kernel_rfl) ?_
          refine Wp.seq (subc [1, 1, 0, 1, 0, 0, 1, 1, 0, 0, 0] C27) (subc [1, 1, 0, 1, 0, 0, 1, 1, 0, 0, 1] C27) (by kernel_rfl) ?_
          refine Wp.region (by kernel_rfl) ?_
          obtain ⟨v31, ev31, h⟩ := bnd_some h
          refine Ops.one 1 (by kernel_rfl) ((indexAddrH (X27 n).E.T [(.cells [(dI 0), (dI 0)])] 23 (D.unt (dP eI a0)) (dI v21)).map (·, [(.cells [(dI 0), (dI 0)])])) (.vptr [(vI v31)]) [(.cells [(dI 0), (dI 0)])] ⟨q1 ((dI a1) :: q2 ((.ptr 0 0) :: q7 ((dP eI a0) :: (dI ((a0.length : Int))) :: (dI v21) :: (dB (decide (v21 < (a0.length : Int)))) :: (.vptr [(vI v31)]) :: q11 []))), [(.cells [(dI 0), (dI 0)])]⟩ (by kernel_rfl) (ix_r _ 23 3 1 .plain eI a0 v21 v31 ev31 (by kernel_rfl) (by kernel_rfl) (fun _ => rfl)) (by kernel_rfl) ?_
          refine Ops.seg 2 3 (by kernel_rfl) ⟨q1 ((dI a1) :: q2 ((.ptr 0 0) :: q1 ((dI v31) :: q5 ((dP eI a0) :: (dI ((a0.length : Int))) :: (dI v21) :: (dB (decide (v21 < (a0.length : Int)))) :: (.vptr [(vI v31)]) :: (dI v31) :: q10 [])))), [(.cells [(dI 0), (dI 0)])]⟩ (by kernel_rfl) ?_
          refine Ops.done (by kernel_rfl) ?_
          refine seqQ.n ?_
          refine Wp.seq (subc [1, 1, 0, 1, 0, 0, 1, 1, 0, 0, 1, 0] C27) (subc [1, 1, 0, 1, 0, 0, 1, 1, 0, 0, 1, 1] C27) (by kernel_rfl) ?_
          refine Wp.region (by kernel_rfl) ?_
          refine Ops.seg 3 3 (by kernel_rfl) ⟨q1 ((dI a1) :: q2 ((.ptr 0 0) :: q1 ((dI v31) :: q5 ((dP eI a0) :: (dI ((a0.length : Int))) :: (dI v21) :: (dB (decide (v21 < (a0.length : Int)))) :: (.vptr [(vI v31)]) :: (dI v31) :: (dI v31) :: (dB (decide (v31 < 1))) :: (dB (decide (v31 < 1))) :: q7 [])))), [(.cells [(dI 0), (dI 0)])]⟩ (by kernel_rfl) ?_
          have J27j38 : ∀ (d34 d35 : D) (v36 : Bool) (v37 : Bool), f27_r1 m a1 v21 v37 = some sx29 → Ops (X27 n) (opl (subc [1, 1, 0, 1, 0, 0, 1, 1, 0, 0, 1, 0] C27)) 6 ⟨q1 ((dI a1) :: q2 ((.ptr 0 0) :: q1 ((dI v31) :: q5 ((dP eI a0) :: (dI ((a0.length : Int))) :: (dI v21) :: (dB (decide (v21 < (a0.length : Int)))) :: (.vptr [(vI v31)]) :: (dI v31) :: (dI v31) :: (dB v36) :: (dB v36) :: d34 :: d35 :: (dB v37) :: q4 [])))), [(.cells [(dI 0), (dI 0)])]⟩ ((seqQ (X27 n) (subc [1, 1, 0, 1, 0, 0, 1, 1, 0, 0, 1, 1] C27) (blkQ (X27 n) 1 [1, 4, 12, 13, 14] 1 (seqQ (X27 n) (subc [1, 1, 0, 1, 0, 0, 1, 1, 1] C27) (lpQ (X27 n) [1, 4, 12, 13, 14] 1 (subc [1, 1, 0, 1, 0, 0] C27) nx24 (blkQ (X27 n) 0 [4] 1 (seqQ (X27 n) (subc [1, 1, 1] C27) (fnQ (X27 n).E.T (resOf Proofs.Try.prog 27) (e25 o)))))))) .normal) := by
            intro d34 d35 v36 v37 h
            unfold f27_r1 at h
            refine Ops.done (by kernel_rfl) ?_
            refine seqQ.n ?_
            rcases cnd_some h with ⟨hb, h⟩ | ⟨hb, h⟩
            · refine Wp.cond v37 [1, 4, 12, 13, 14] (by kernel_rfl) 1 (by kernel_rfl) (subc [1, 1, 0, 1, 0, 0, 1, 1, 0, 0, 1, 1, 0] C27) (subc [1, 1, 0, 1, 0, 0, 1, 1, 0, 0, 1, 1, 1] C27) (by kernel_rfl) (by kernel_rfl) (fun _ => ?_) (fun e => nomatch (hb.symm.trans e))
              refine Wp.seq (subc [1, 1, 0, 1, 0, 0, 1, 1, 0, 0, 1, 1, 0, 0] C27) (subc [1, 1, 0, 1, 0, 0, 1, 1, 0, 0, 1, 1, 0, 1] C27) (by kernel_rfl) ?_
              refine Wp.region (by kernel_rfl) ?_
              refine Ops.seg 1 1 (by kernel_rfl) ⟨q1 ((dI a1) :: q2 ((.ptr 0 0) :: q1 ((dI v31) :: q5 ((dP eI a0) :: (dI ((a0.length : Int))) :: (dI v21) :: (dB (decide (v21 < (a0.length : Int)))) :: (.vptr [(vI v31)]) :: (dI v31) :: (dI v31) :: (dB v36) :: (dB v36) :: d34 :: d35 :: (dB v37) :: (dI a1) :: q3 [])))), [(.cells [(dI 0), (dI 0)])]⟩ (by kernel_rfl) ?_
              obtain ⟨v39, ev39, h⟩ := bnd_some h
              refine Ops.one 2 (by kernel_rfl) (callD (X27 n).E (run Proofs.Try.prog E n) 40 [(dI 3), (dI a1)] [(.cells [(dI 0), (dI 0)])]) (.v (.agg [(vI v39.fCode), (vI v39.fIndex)])) [(.cells [(dI 0), (dI 0)])] ⟨q1 ((dI a1) :: q2 ((.ptr 0 0) :: q1 ((dI v31) :: q5 ((dP eI a0) :: (dI ((a0.length : Int))) :: (dI v21) :: (dB (decide (v21 < (a0.length : Int)))) :: (.vptr [(vI v31)]) :: (dI v31) :: (dI v31) :: (dB v36) :: (dB v36) :: d34 :: d35 :: (dB v37) :: (dI a1) :: (.v (.agg [(vI v39.fCode), (vI v39.fIndex)])) :: q2 [])))), [(.cells [(dI 0), (dI 0)])]⟩ (by kernel_rfl) (call_ok (by kernel_rfl) (Args.v (vI 3) (eI 3) (by kernel_rfl) (Args.v (vI a1) (eI a1) (by kernel_rfl) Args.nil)) (ok40 m 3 a1 v39 ev39 n (by omega))) (by kernel_rfl) ?_
              refine Ops.seg 1 3 (by kernel_rfl) ⟨q1 ((dI a1) :: q2 ((.ptr 0 0) :: q1 ((dI v31) :: q5 ((dP eI a0) :: (dI ((a0.length : Int))) :: (dI v21) :: (dB (decide (v21 < (a0.length : Int)))) :: (.vptr [(vI v31)]) :: (dI v31) :: (dI v31) :: (dB v36) :: (dB v36) :: d34 :: d35 :: (dB v37) :: (dI a1) :: (.v (.agg [(vI v39.fCode), (vI v39.fIndex)])) :: q2 [])))), [(.cells [(dI v39.fCode), (dI v39.fIndex)])]⟩ (by kernel_rfl) ?_
              refine Ops.done (by kernel_rfl) ?_
              refine seqQ.n ?_
              refine Wp.ret (by kernel_rfl) ?_
              refine sqQ.r ?_
              refine blkQ.r ?_
              refine seqQ.r ?_
              cases h
              refine lpQ.r ?_
              refine blkQ.r ?_
              exact hrx26 _ hsx30 _ (RetOk.forget [1, 4, 12, 13, 14] (by kernel_rfl) (RetOk.mk' (.v (.agg [(vI v39.fCode), (vI v39.fIndex)])) (by kernel_rfl) (by kernel_rfl)))
            · refine Wp.cond v37 [1, 4, 12, 13, 14] (by kernel_rfl) 1 (by kernel_rfl) (subc [1, 1, 0, 1, 0, 0, 1, 1, 0, 0, 1, 1, 0] C27) (subc [1, 1, 0, 1, 0, 0, 1, 1, 0, 0, 1, 1, 1] C27) (by kernel_rfl) (by kernel_rfl) (fun e => nomatch (hb.symm.trans e)) (fun _ => ?_)
              refine Wp.skip (by kernel_rfl) ?_
              refine sqQ.n ⟨q1 ((dI a1) :: q2 ((.ptr 0 0) :: q1 ((dI v31) :: q5 ((dP eI a0) :: (dI ((a0.length : Int))) :: (dI v21) :: (dB (decide (v21 < (a0.length : Int)))) :: (.vptr [(vI v31)]) :: (dI v31) :: (dI v31) :: (dB v36) :: (dB v36) :: d34 :: d35 :: (dB v37) :: q4 [])))), [(.cells [(dI 0), (dI 0)])]⟩ (by kernel_rfl) ?_
              refine blkQ.n ⟨q1 ((dI a1) :: q2 ((.ptr 0 0) :: q1 ((dI v31) :: q5 ((dP eI a0) :: (dI ((a0.length : Int))) :: (dI v21) :: (dB (decide (v21 < (a0.length : Int)))) :: (.vptr [(vI v31)]) :: (dI v31) :: (dI v31) :: (dB v36) :: (dB v36) :: d34 :: d35 :: (dB v37) :: q4 [])))), [(.cells [(dI 0), (dI 0)])]⟩ (by kernel_rfl) ?_
              refine seqQ.n ?_
              refine Wp.region (by kernel_rfl) ?_
              refine Ops.seg 2 2 (by kernel_rfl) ⟨q1 ((dI a1) :: q2 ((.ptr 0 0) :: q1 ((dI v31) :: q5 ((dP eI a0) :: (dI ((a0.length : Int))) :: (dI (w64 (v21 + 1))) :: (dB (decide (v21 < (a0.length : Int)))) :: (.vptr [(vI v31)]) :: (dI v31) :: (dI v31) :: (dB v36) :: (dB v36) :: d34 :: d35 :: (dB v37) :: q2 ((dI (w64 (v21 + 1))) :: q1 []))))), [(.cells [(dI 0), (dI 0)])]⟩ (by kernel_rfl) ?_
              refine Ops.done (by kernel_rfl) ?_
              refine lpQ.n ⟨q1 ((dI a1) :: q2 ((.ptr 0 0) :: q7 ((dP eI a0) :: (dI ((a0.length : Int))) :: (dI (w64 (v21 + 1))) :: q13 []))), [(.cells [(dI 0), (dI 0)])]⟩ (by kernel_rfl) ?_
              cases h
              exact ihx25 (w64 (v21 + 1))  _ hsx30 _ (by omega) hrx26 hxx27
          have G27g33 : ∀ v32 : Bool, f27_r1 m a1 v21 ((v32 || (decide (v31 > 1114111)))) = some sx29 → Ops (X27 n) (opl (subc [1, 1, 0, 1, 0, 0, 1, 1, 0, 0, 1, 0] C27)) 3 ⟨q1 ((dI a1) :: q2 ((.ptr 0 0) :: q1 ((dI v31) :: q5 ((dP eI a0) :: (dI ((a0.length : Int))) :: (dI v21) :: (dB (decide (v21 < (a0.length : Int)))) :: (.vptr [(vI v31)]) :: (dI v31) :: (dI v31) :: (dB v32) :: (dB v32) :: q7 [])))), [(.cells [(dI 0), (dI 0)])]⟩ ((seqQ (X27 n) (subc [1, 1, 0, 1, 0, 0, 1, 1, 0, 0, 1, 1] C27) (blkQ (X27 n) 1 [1, 4, 12, 13, 14] 1 (seqQ (X27 n) (subc [1, 1, 0, 1, 0, 0, 1, 1, 1] C27) (lpQ (X27 n) [1, 4, 12, 13, 14] 1 (subc [1, 1, 0, 1, 0, 0] C27) nx24 (blkQ (X27 n) 0 [4] 1 (seqQ (X27 n) (subc [1, 1, 1] C27) (fnQ (X27 n).E.T (resOf Proofs.Try.prog 27) (e25 o)))))))) .normal) := by
            intro v32 h
            cases v32
            · refine Ops.seg 3 6 (by kernel_rfl) ⟨q1 ((dI a1) :: q2 ((.ptr 0 0) :: q1 ((dI v31) :: q5 ((dP eI a0) :: (dI ((a0.length : Int))) :: (dI v21) :: (dB (decide (v21 < (a0.length : Int)))) :: (.vptr [(vI v31)]) :: (dI v31) :: (dI v31) :: (dB false) :: (dB false) :: (dI v31) :: (dB (decide (v31 > 1114111))) :: (dB (decide (v31 > 1114111))) :: q4 [])))), [(.cells [(dI 0), (dI 0)])]⟩ (by kernel_rfl) ?_
              exact J27j38 _ _ _ _ h
            · refine Ops.seg 3 6 (by kernel_rfl) ⟨q1 ((dI a1) :: q2 ((.ptr 0 0) :: q1 ((dI v31) :: q5 ((dP eI a0) :: (dI ((a0.length : Int))) :: (dI v21) :: (dB (decide (v21 < (a0.length : Int)))) :: (.vptr [(vI v31)]) :: (dI v31) :: (dI v31) :: (dB true) :: (dB true) :: u2 ((dB true) :: q4 []))))), [(.cells [(dI 0), (dI 0)])]⟩ (by kernel_rfl) ?_
              exact J27j38 _ _ _ _ h
          exact G27g33 (decide (v31 < 1)) h
        · refine Wp.cond (decide (v21 < (a0.length : Int))) [1, 4, 12, 13, 14] (by kernel_rfl) 1 (by kernel_rfl) (subc [1, 1, 0, 1, 0, 0, 1, 0, 0] C27) (subc [1, 1, 0, 1, 0, 0, 1, 0, 1] C27) (by kernel_rfl) (by kernel_rfl) (fun e => nomatch (hb.symm.trans e)) (fun _ => ?_)
          refine Wp.exit (id := 0) (by kernel_rfl) ?_
          refine sqQ.x ?_
          refine seqQ.x ?_
          cases h
          refine lpQ.x ?_
          refine blkQ.x ⟨q1 ((dI a1) :: q2 ((.ptr 0 0) :: q7 ((dP eI a0) :: (dI ((a0.length : Int))) :: (dI v21) :: q13 []))), [(.cells [(dI 0), (dI 0)])]⟩ (by kernel_rfl) ?_
          exact hxx27 v21  hsx30
    refine Wp.loop [1, 4, 12, 13, 14] 1 (by kernel_rfl) (subc [1, 1, 0, 1, 0, 0] C27) (by kernel_rfl) (by kernel_rfl) ⟨q1 ((dI a1) :: q2 ((.ptr 0 0) :: q7 ((dP eI a0) :: (dI ((a0.length : Int))) :: (dI 0) :: q13 []))), [(.cells [(dI 0), (dI 0)])]⟩ (by kernel_rfl) ?_
    rcases brk_some h with ⟨r42, er42, h⟩ | ⟨y41, ey41, h⟩
    · refine hLx40 _ 0  _ er42 n (by omega) (fun r er σ hσ => ?_) (fun y  ey => by cases ey)
      cases er
      refine seqQ.r ?_
      exact fnQ.r' (X27 n) (fun z => (e25 z)) h hσ
    · refine hLx40 _ 0  _ ey41 n (by omega) (fun r er => by cases er) (fun y  ey => ?_)
      cases ey
      refine seqQ.n ?_
      refine Wp.seq (subc [1, 1, 1, 0] C27) (subc [1, 1, 1, 1] C27) (by kernel_rfl) ?_
      refine Wp.region (by kernel_rfl) ?_
      refine Ops.seg 2 2 (by kernel_rfl) ⟨q1 ((dI a1) :: q2 ((.ptr 0 0) :: q7 ((dP eI a0) :: (dI ((a0.length : Int))) :: (dI y41) :: q12 ((.v (.agg [(vI 0), (vI 0)])) :: [])))), [(.cells [(dI 0), (dI 0)])]⟩ (by kernel_rfl) ?_
      refine Ops.done (by kernel_rfl) ?_
      refine seqQ.n ?_
      refine Wp.ret (by kernel_rfl) ?_
      exact fnQ.r' (X27 n) (fun z => (e25 z)) h (RetOk.mk' (.v (.agg [(vI 0), (vI 0)])) (by kernel_rfl) (by kernel_rfl))

/-! ### 41 glosswright/glosswrightref6.has -/
def f41_B1 (m : Nat) (a0 : (List Int)) (a1 : Int) (a2 : (List Int)) (v18 : Int) : Option (Stp Bool (Int)) :=
  cnd (decide (v18 < (a2.length : Int)))
  (bnd (idx a2 v18) fun v28 =>
  bnd (idx a0 (w64 (a1 + v18))) fun v29 =>
  cnd (v29 != v28)
  (some (.ret false))
  (some (.nxt (w64 (v18 + 1)))))
  (some (.brk v18))
def f41_r2 (m : Nat) (a0 : (List Int)) (a1 : Int) (a2 : (List Int)) (v11 : Bool) : Option Bool :=
  cnd v11
  (some false)
  (brk (iter (fun (y : Int) => f41_B1 m a0 a1 a2 y) m 0) some fun y31 =>
  some true)
def f41 (m : Nat) (a0 : (List Int)) (a1 : Int) (a2 : (List Int)) : Option Bool :=
  f41_r2 m a0 a1 a2 (((decide (a1 < 0)) || (decide (w64 (a1 + (a2.length : Int)) > (a0.length : Int)))))
noncomputable abbrev X41 (n : Nat) : Cx := cxOf Proofs.Try.prog E 41 n
noncomputable def C41 : Code := bodyOf Proofs.Try.prog 41
theorem ok41 (m : Nat) (a0 : (List Int)) (a1 : Int) (a2 : (List Int)) (o : Bool) (h : f41 m a0 a1 a2 = some o) (n : Nat) (hn : m + 1 ≤ n) : Fn Proofs.Try.prog E n 41 [(eL eI) a0, eI a1, (eL eI) a2] (eB o) := by
  obtain ⟨n, rfl⟩ : ∃ q, n = q + 1 := ⟨n - 1, by omega⟩
  unfold f41 at h
  refine Fn.of (by kernel_rfl) (by kernel_rfl) ⟨(dP eI a0) :: (dI a1) :: (dP eI a2) :: u33 [], []⟩ (by kernel_rfl) ?_
  refine Wp.seq (subc [0] C41) (subc [1] C41) (by kernel_rfl) ?_
  refine Wp.region (by kernel_rfl) ?_
  refine Ops.seg 1 1 (by kernel_rfl) ⟨(dP eI a0) :: (dI a1) :: (dP eI a2) :: u3 ((dB false) :: u29 []), []⟩ (by kernel_rfl) ?_
  refine Ops.done (by kernel_rfl) ?_
  refine seqQ.n ?_
  refine Wp.seq (subc [1, 0] C41) (subc [1, 1] C41) (by kernel_rfl) ?_
  refine Wp.seq (subc [1, 0, 0] C41) (subc [1, 0, 1] C41) (by kernel_rfl) ?_
  refine Wp.region (by kernel_rfl) ?_
  refine Ops.seg 3 3 (by kernel_rfl) ⟨(dP eI a0) :: (dI a1) :: (dP eI a2) :: u3 ((dB false) :: u2 ((dI a1) :: (dB (decide (a1 < 0))) :: (dB (decide (a1 < 0))) :: u24 [])), []⟩ (by kernel_rfl) ?_
  have J41j12 : ∀ (d3 d4 d5 d6 d7 d8 d9 : D) (v10 : Bool) (v11 : Bool), f41_r2 m a0 a1 a2 v11 = some o → Ops (X41 n) (opl (subc [1, 0, 0] C41)) 11 ⟨(dP eI a0) :: (dI a1) :: (dP eI a2) :: u3 ((dB false) :: u2 ((dI a1) :: (dB v10) :: (dB v10) :: d3 :: d4 :: d5 :: d6 :: d7 :: d8 :: d9 :: (dB v11) :: u16 [])), []⟩ ((seqQ (X41 n) (subc [1, 0, 1] C41) (seqQ (X41 n) (subc [1, 1] C41) (fnQ (X41 n).E.T (resOf Proofs.Try.prog 41) (eB o)))) .normal) := by
    intro d3 d4 d5 d6 d7 d8 d9 v10 v11 h
    unfold f41_r2 at h
    refine Ops.done (by kernel_rfl) ?_
    refine seqQ.n ?_
    rcases cnd_some h with ⟨hb, h⟩ | ⟨hb, h⟩
    · refine Wp.cond v11 [0, 1, 2, 6] (by kernel_rfl) 0 (by kernel_rfl) (subc [1, 0, 1, 0] C41) (subc [1, 0, 1, 1] C41) (by kernel_rfl) (by kernel_rfl) (fun _ => ?_) (fun e => nomatch (hb.symm.trans e))
      refine Wp.seq (subc [1, 0, 1, 0, 0] C41) (subc [1, 0, 1, 0, 1] C41) (by kernel_rfl) ?_
      refine Wp.region (by kernel_rfl) ?_
      refine Ops.seg 1 1 (by kernel_rfl) ⟨(dP eI a0) :: (dI a1) :: (dP eI a2) :: u3 ((dB false) :: u2 ((dI a1) :: (dB v10) :: (dB v10) :: d3 :: d4 :: d5 :: d6 :: d7 :: d8 :: d9 :: (dB v11) :: u16 [])), []⟩ (by kernel_rfl) ?_
      refine Ops.done (by kernel_rfl) ?_
      refine seqQ.n ?_
      refine Wp.ret (by kernel_rfl) ?_
      refine sqQ.r ?_
      refine seqQ.r ?_
      exact fnQ.r' (X41 n) (fun z => (eB z)) h (RetOk.mk' (dB false) (by kernel_rfl) (by kernel_rfl))
    · refine Wp.cond v11 [0, 1, 2, 6] (by kernel_rfl) 0 (by kernel_rfl) (subc [1, 0, 1, 0] C41) (subc [1, 0, 1, 1] C41) (by kernel_rfl) (by kernel_rfl) (fun e => nomatch (hb.symm.trans e)) (fun _ => ?_)
      refine Wp.skip (by kernel_rfl) ?_
      refine sqQ.n ⟨(dP eI a0) :: (dI a1) :: (dP eI a2) :: u3 ((dB false) :: u2 ((dI a1) :: (dB v10) :: (dB v10) :: d3 :: d4 :: d5 :: d6 :: d7 :: d8 :: d9 :: (dB v11) :: u16 [])), []⟩ (by kernel_rfl) ?_
      refine seqQ.n ?_
      refine Wp.seq (subc [1, 1, 0] C41) (subc [1, 1, 1] C41) (by kernel_rfl) ?_
      refine Wp.seq (subc [1, 1, 0, 0] C41) (subc [1, 1, 0, 1] C41) (by kernel_rfl) ?_
      refine Wp.region (by kernel_rfl) ?_
      refine Ops.seg 1 1 (by kernel_rfl) ⟨(dP eI a0) :: (dI a1) :: (dP eI a2) :: u3 ((dB false) :: u2 ((dI a1) :: (dB v10) :: (dB v10) :: d3 :: d4 :: d5 :: d6 :: d7 :: d8 :: d9 :: (dB v11) :: (dP eI a2) :: u15 [])), []⟩ (by kernel_rfl) ?_
      refine Ops.one 2 (by kernel_rfl) ((lenD (X41 n).E.T 23 (D.unt (dP eI a2))).map (·, [])) (dI ((a2.length : Int))) [] ⟨(dP eI a0) :: (dI a1) :: (dP eI a2) :: u3 ((dB false) :: u2 ((dI a1) :: (dB v10) :: (dB v10) :: d3 :: d4 :: d5 :: d6 :: d7 :: d8 :: d9 :: (dB v11) :: (dP eI a2) :: (dI ((a2.length : Int))) :: u14 [])), []⟩ (by kernel_rfl) (len_r _ 23 3 .plain eI a2 (by kernel_rfl)) (by kernel_rfl) ?_
      refine Ops.seg 1 3 (by kernel_rfl) ⟨(dP eI a0) :: (dI a1) :: (dP eI a2) :: u3 ((dB false) :: u2 ((dI a1) :: (dB v10) :: (dB v10) :: d3 :: d4 :: d5 :: d6 :: d7 :: d8 :: d9 :: (dB v11) :: (dP eI a2) :: (dI ((a2.length : Int))) :: (dI 0) :: u13 [])), []⟩ (by kernel_rfl) ?_
      refine Ops.done (by kernel_rfl) ?_
      refine seqQ.n ?_
      refine Wp.block (id := 0) [6] (by kernel_rfl) 0 (by kernel_rfl) (subc [1, 1, 0, 1, 0] C41) (by kernel_rfl) ?_
      have hLx30 : ∀ (kx20 : Nat) (v18 : Int)  (ox19 : Bool ⊕ (Int)), iter (fun (y : Int) => f41_B1 m a0 a1 a2 y) kx20 v18 = some ox19 → ∀ nx21, kx20 ≤ nx21 → (∀ r, ox19 = .inl r → ∀ σ, RetOk (X41 n) (resOf Proofs.Try.prog 41) (eB r) σ → (seqQ (X41 n) (subc [1, 1, 1] C41) (fnQ (X41 n).E.T (resOf Proofs.Try.prog 41) (eB o))) .ret σ) → (∀ (y : Int) , ox19 = .inr y → (seqQ (X41 n) (subc [1, 1, 1] C41) (fnQ (X41 n).E.T (resOf Proofs.Try.prog 41) (eB o))) .normal ⟨(dP eI a0) :: (dI a1) :: q4 ((dB false) :: q13 ((dP eI a2) :: (dI ((a2.length : Int))) :: (dI y) :: q13 [])), []⟩) → Lp (X41 n) [0, 1, 6, 20, 21, 22] 0 (subc [1, 1, 0, 1, 0, 0] C41) nx21 ⟨(dP eI a0) :: (dI a1) :: q4 ((dB false) :: q13 ((dP eI a2) :: (dI ((a2.length : Int))) :: (dI v18) :: q13 [])), []⟩ (blkQ (X41 n) 0 [6] 0 (seqQ (X41 n) (subc [1, 1, 1] C41) (fnQ (X41 n).E.T (resOf Proofs.Try.prog 41) (eB o)))) := by
        intro kx20
        induction kx20 with
        | zero => intro v18  ox19 h; exact (iter_zero h).elim
        | succ kx20 ihx22 =>
          intro v18  ox19 h nx21 hnx25 hrx23 hxx24
          obtain ⟨nx21, rfl⟩ : ∃ q, nx21 = q + 1 := ⟨nx21 - 1, by omega⟩
          obtain ⟨sx26, h, hsx27⟩ := iter_some h
          have h : f41_B1 m a0 a1 a2 v18 = some sx26 := h
          unfold f41_B1 at h
          refine Lp.succ ?_
          refine Wp.seq (subc [1, 1, 0, 1, 0, 0, 0] C41) (subc [1, 1, 0, 1, 0, 0, 1] C41) (by kernel_rfl) ?_
          refine Wp.region (by kernel_rfl) ?_
          refine Ops.seg 1 1 (by kernel_rfl) ⟨(dP eI a0) :: (dI a1) :: q4 ((dB false) :: q13 ((dP eI a2) :: (dI ((a2.length : Int))) :: (dI v18) :: (dB (decide (v18 < (a2.length : Int)))) :: q12 [])), []⟩ (by kernel_rfl) ?_
          refine Ops.done (by kernel_rfl) ?_
          refine seqQ.n ?_
          refine Wp.seq (subc [1, 1, 0, 1, 0, 0, 1, 0] C41) (subc [1, 1, 0, 1, 0, 0, 1, 1] C41) (by kernel_rfl) ?_
          rcases cnd_some h with ⟨hb, h⟩ | ⟨hb, h⟩
          · refine Wp.cond (decide (v18 < (a2.length : Int))) [0, 1, 6, 20, 21, 22] (by kernel_rfl) 0 (by kernel_rfl) (subc [1, 1, 0, 1, 0, 0, 1, 0, 0] C41) (subc [1, 1, 0, 1, 0, 0, 1, 0, 1] C41) (by kernel_rfl) (by kernel_rfl) (fun _ => ?_) (fun e => nomatch (hb.symm.trans e))
            refine Wp.skip (by kernel_rfl) ?_
            refine sqQ.n ⟨(dP eI a0) :: (dI a1) :: q4 ((dB false) :: q13 ((dP eI a2) :: (dI ((a2.length : Int))) :: (dI v18) :: (dB (decide (v18 < (a2.length : Int)))) :: q12 [])), []⟩ (by kernel_rfl) ?_
            refine seqQ.n ?_
            refine Wp.seq (subc [1, 1, 0, 1, 0, 0, 1, 1, 0] C41) (subc [1, 1, 0, 1, 0, 0, 1, 1, 1] C41) (by kernel_rfl) ?_
            refine Wp.block (id := 1) [0, 1, 6, 20, 21, 22] (by kernel_rfl) 0 (by kernel_rfl) (subc [1, 1, 0, 1, 0, 0, 1, 1, 0, 0] C41) (by kernel_rfl) ?_
            refine Wp.seq (subc [1, 1, 0, 1, 0, 0, 1, 1, 0, 0, 0] C41) (subc [1, 1, 0, 1, 0, 0, 1, 1, 0, 0, 1] C41) (by kernel_rfl) ?_
            refine Wp.region (by kernel_rfl) ?_
            refine Ops.seg 1 1 (by kernel_rfl) ⟨(dP eI a0) :: (dI a1) :: q4 ((dB false) :: q13 ((dP eI a2) :: (dI ((a2.length : Int))) :: (dI v18) :: (dB (decide (v18 < (a2.length : Int)))) :: (dI v18) :: q11 [])), []⟩ (by kernel_rfl) ?_
            obtain ⟨v28, ev28, h⟩ := bnd_some h
            refine Ops.one 2 (by kernel_rfl) ((indexAddrH (X41 n).E.T [] 23 (D.unt (dP eI a2)) (dI v18)).map (·, [])) (.vptr [(vI v28)]) [] ⟨(dP eI a0) :: (dI a1) :: q4 ((dB false) :: q13 ((dP eI a2) :: (dI ((a2.length : Int))) :: (dI v18) :: (dB (decide (v18 < (a2.length : Int)))) :: (dI v18) :: (.vptr [(vI v28)]) :: q10 [])), []⟩ (by kernel_rfl) (ix_r _ 23 3 1 .plain eI a2 v18 v28 ev28 (by kernel_rfl) (by kernel_rfl) (fun _ => rfl)) (by kernel_rfl) ?_
            refine Ops.seg 3 5 (by kernel_rfl) ⟨(dP eI a0) :: (dI a1) :: q4 ((dB false) :: (dI v18) :: (dI v28) :: q11 ((dP eI a2) :: (dI ((a2.length : Int))) :: (dI v18) :: (dB (decide (v18 < (a2.length : Int)))) :: (dI v18) :: (.vptr [(vI v28)]) :: (dI v28) :: q9 [])), []⟩ (by kernel_rfl) ?_
            refine Ops.done (by kernel_rfl) ?_
            refine seqQ.n ?_
            refine Wp.seq (subc [1, 1, 0, 1, 0, 0, 1, 1, 0, 0, 1, 0] C41) (subc [1, 1, 0, 1, 0, 0, 1, 1, 0, 0, 1, 1] C41) (by kernel_rfl) ?_
            refine Wp.region (by kernel_rfl) ?_
            refine Ops.seg 4 4 (by kernel_rfl) ⟨(dP eI a0) :: (dI a1) :: q4 ((dB false) :: (dI v18) :: (dI v28) :: q11 ((dP eI a2) :: (dI ((a2.length : Int))) :: (dI v18) :: (dB (decide (v18 < (a2.length : Int)))) :: (dI v18) :: (.vptr [(vI v28)]) :: (dI v28) :: (dP eI a0) :: (dI a1) :: (dI v18) :: (dI (w64 (a1 + v18))) :: q5 [])), []⟩ (by kernel_rfl) ?_
            obtain ⟨v29, ev29, h⟩ := bnd_some h
            refine Ops.one 5 (by kernel_rfl) ((indexAddrH (X41 n).E.T [] 23 (D.unt (dP eI a0)) (dI (w64 (a1 + v18)))).map (·, [])) (.vptr [(vI v29)]) [] ⟨(dP eI a0) :: (dI a1) :: q4 ((dB false) :: (dI v18) :: (dI v28) :: q11 ((dP eI a2) :: (dI ((a2.length : Int))) :: (dI v18) :: (dB (decide (v18 < (a2.length : Int)))) :: (dI v18) :: (.vptr [(vI v28)]) :: (dI v28) :: (dP eI a0) :: (dI a1) :: (dI v18) :: (dI (w64 (a1 + v18))) :: (.vptr [(vI v29)]) :: q4 [])), []⟩ (by kernel_rfl) (ix_r _ 23 3 1 .plain eI a0 (w64 (a1 + v18)) v29 ev29 (by kernel_rfl) (by kernel_rfl) (fun _ => rfl)) (by kernel_rfl) ?_
            refine Ops.seg 3 8 (by kernel_rfl) ⟨(dP eI a0) :: (dI a1) :: q4 ((dB false) :: (dI v18) :: (dI v28) :: q11 ((dP eI a2) :: (dI ((a2.length : Int))) :: (dI v18) :: (dB (decide (v18 < (a2.length : Int)))) :: (dI v18) :: (.vptr [(vI v28)]) :: (dI v28) :: (dP eI a0) :: (dI a1) :: (dI v18) :: (dI (w64 (a1 + v18))) :: (.vptr [(vI v29)]) :: (dI v29) :: (dI v28) :: (dB (v29 != v28)) :: q1 [])), []⟩ (by kernel_rfl) ?_
            refine Ops.done (by kernel_rfl) ?_
            refine seqQ.n ?_
            rcases cnd_some h with ⟨hb, h⟩ | ⟨hb, h⟩
            · refine Wp.cond (v29 != v28) [0, 1, 6, 20, 21, 22] (by kernel_rfl) 0 (by kernel_rfl) (subc [1, 1, 0, 1, 0, 0, 1, 1, 0, 0, 1, 1, 0] C41) (subc [1, 1, 0, 1, 0, 0, 1, 1, 0, 0, 1, 1, 1] C41) (by kernel_rfl) (by kernel_rfl) (fun _ => ?_) (fun e => nomatch (hb.symm.trans e))
              refine Wp.seq (subc [1, 1, 0, 1, 0, 0, 1, 1, 0, 0, 1, 1, 0, 0] C41) (subc [1, 1, 0, 1, 0, 0, 1, 1, 0, 0, 1, 1, 0, 1] C41) (by kernel_rfl) ?_
              refine Wp.region (by kernel_rfl) ?_
              refine Ops.seg 1 1 (by kernel_rfl) ⟨(dP eI a0) :: (dI a1) :: q4 ((dB false) :: (dI v18) :: (dI v28) :: q11 ((dP eI a2) :: (dI ((a2.length : Int))) :: (dI v18) :: (dB (decide (v18 < (a2.length : Int)))) :: (dI v18) :: (.vptr [(vI v28)]) :: (dI v28) :: (dP eI a0) :: (dI a1) :: (dI v18) :: (dI (w64 (a1 + v18))) :: (.vptr [(vI v29)]) :: (dI v29) :: (dI v28) :: (dB (v29 != v28)) :: q1 [])), []⟩ (by kernel_rfl) ?_
              refine Ops.done (by kernel_rfl) ?_
              refine seqQ.n ?_
              refine Wp.ret (by kernel_rfl) ?_
              refine sqQ.r ?_
              refine blkQ.r ?_
              refine seqQ.r ?_
              cases h
              refine lpQ.r ?_
              refine blkQ.r ?_
              exact hrx23 _ hsx27 _ (RetOk.forget [0, 1, 6, 20, 21, 22] (by kernel_rfl) (RetOk.mk' (dB false) (by kernel_rfl) (by kernel_rfl)))
            · refine Wp.cond (v29 != v28) [0, 1, 6, 20, 21, 22] (by kernel_rfl) 0 (by kernel_rfl) (subc [1, 1, 0, 1, 0, 0, 1, 1, 0, 0, 1, 1, 0] C41) (subc [1, 1, 0, 1, 0, 0, 1, 1, 0, 0, 1, 1, 1] C41) (by kernel_rfl) (by kernel_rfl) (fun e => nomatch (hb.symm.trans e)) (fun _ => ?_)
              refine Wp.skip (by kernel_rfl) ?_
              refine sqQ.n ⟨(dP eI a0) :: (dI a1) :: q4 ((dB false) :: (dI v18) :: (dI v28) :: q11 ((dP eI a2) :: (dI ((a2.length : Int))) :: (dI v18) :: (dB (decide (v18 < (a2.length : Int)))) :: (dI v18) :: (.vptr [(vI v28)]) :: (dI v28) :: (dP eI a0) :: (dI a1) :: (dI v18) :: (dI (w64 (a1 + v18))) :: (.vptr [(vI v29)]) :: (dI v29) :: (dI v28) :: (dB (v29 != v28)) :: q1 [])), []⟩ (by kernel_rfl) ?_
              refine blkQ.n ⟨(dP eI a0) :: (dI a1) :: q4 ((dB false) :: (dI v18) :: (dI v28) :: q11 ((dP eI a2) :: (dI ((a2.length : Int))) :: (dI v18) :: (dB (decide (v18 < (a2.length : Int)))) :: (dI v18) :: (.vptr [(vI v28)]) :: (dI v28) :: (dP eI a0) :: (dI a1) :: (dI v18) :: (dI (w64 (a1 + v18))) :: (.vptr [(vI v29)]) :: (dI v29) :: (dI v28) :: (dB (v29 != v28)) :: q1 [])), []⟩ (by kernel_rfl) ?_
              refine seqQ.n ?_
              refine Wp.region (by kernel_rfl) ?_
              refine Ops.seg 2 2 (by kernel_rfl) ⟨(dP eI a0) :: (dI a1) :: q4 ((dB false) :: (dI v18) :: (dI v28) :: q11 ((dP eI a2) :: (dI ((a2.length : Int))) :: (dI (w64 (v18 + 1))) :: (dB (decide (v18 < (a2.length : Int)))) :: (dI v18) :: (.vptr [(vI v28)]) :: (dI v28) :: (dP eI a0) :: (dI a1) :: (dI v18) :: (dI (w64 (a1 + v18))) :: (.vptr [(vI v29)]) :: (dI v29) :: (dI v28) :: (dB (v29 != v28)) :: (dI (w64 (v18 + 1))) :: [])), []⟩ (by kernel_rfl) ?_
              refine Ops.done (by kernel_rfl) ?_
              refine lpQ.n ⟨(dP eI a0) :: (dI a1) :: q4 ((dB false) :: q13 ((dP eI a2) :: (dI ((a2.length : Int))) :: (dI (w64 (v18 + 1))) :: q13 [])), []⟩ (by kernel_rfl) ?_
              cases h
              exact ihx22 (w64 (v18 + 1))  _ hsx27 _ (by omega) hrx23 hxx24
          · refine Wp.cond (decide (v18 < (a2.length : Int))) [0, 1, 6, 20, 21, 22] (by kernel_rfl) 0 (by kernel_rfl) (subc [1, 1, 0, 1, 0, 0, 1, 0, 0] C41) (subc [1, 1, 0, 1, 0, 0, 1, 0, 1] C41) (by kernel_rfl) (by kernel_rfl) (fun e => nomatch (hb.symm.trans e)) (fun _ => ?_)
            refine Wp.exit (id := 0) (by kernel_rfl) ?_
            refine sqQ.x ?_
            refine seqQ.x ?_
            cases h
            refine lpQ.x ?_
            refine blkQ.x ⟨(dP eI a0) :: (dI a1) :: q4 ((dB false) :: q13 ((dP eI a2) :: (dI ((a2.length : Int))) :: (dI v18) :: q13 [])), []⟩ (by kernel_rfl) ?_
            exact hxx24 v18  hsx27
      refine Wp.loop [0, 1, 6, 20, 21, 22] 0 (by kernel_rfl) (subc [1, 1, 0, 1, 0, 0] C41) (by kernel_rfl) (by kernel_rfl) ⟨(dP eI a0) :: (dI a1) :: q4 ((dB false) :: q13 ((dP eI a2) :: (dI ((a2.length : Int))) :: (dI 0) :: q13 [])), []⟩ (by kernel_rfl) ?_
      rcases brk_some h with ⟨r32, er32, h⟩ | ⟨y31, ey31, h⟩
      · refine hLx30 _ 0  _ er32 n (by omega) (fun r er σ hσ => ?_) (fun y  ey => by cases ey)
        cases er
        refine seqQ.r ?_
        exact fnQ.r' (X41 n) (fun z => (eB z)) h hσ
      · refine hLx30 _ 0  _ ey31 n (by omega) (fun r er => by cases er) (fun y  ey => ?_)
        cases ey
        refine seqQ.n ?_
        refine Wp.seq (subc [1, 1, 1, 0] C41) (subc [1, 1, 1, 1] C41) (by kernel_rfl) ?_
        refine Wp.region (by kernel_rfl) ?_
        refine Ops.seg 1 1 (by kernel_rfl) ⟨(dP eI a0) :: (dI a1) :: q4 ((dB true) :: q13 ((dP eI a2) :: (dI ((a2.length : Int))) :: (dI y31) :: q13 [])), []⟩ (by kernel_rfl) ?_
        refine Ops.done (by kernel_rfl) ?_
        refine seqQ.n ?_
        refine Wp.ret (by kernel_rfl) ?_
        exact fnQ.r' (X41 n) (fun z => (eB z)) h (RetOk.mk' (dB true) (by kernel_rfl) (by kernel_rfl))
  have G41g2 : ∀ v1 : Bool, f41_r2 m a0 a1 a2 ((v1 || (decide (w64 (a1 + (a2.length : Int)) > (a0.length : Int))))) = some o → Ops (X41 n) (opl (subc [1, 0, 0] C41)) 3 ⟨(dP eI a0) :: (dI a1) :: (dP eI a2) :: u3 ((dB false) :: u2 ((dI a1) :: (dB v1) :: (dB v1) :: u24 [])), []⟩ ((seqQ (X41 n) (subc [1, 0, 1] C41) (seqQ (X41 n) (subc [1, 1] C41) (fnQ (X41 n).E.T (resOf Proofs.Try.prog 41) (eB o)))) .normal) := by
    intro v1 h
    cases v1
    · refine Ops.seg 2 5 (by kernel_rfl) ⟨(dP eI a0) :: (dI a1) :: (dP eI a2) :: u3 ((dB false) :: u2 ((dI a1) :: (dB false) :: (dB false) :: (dI a1) :: (dP eI a2) :: u22 [])), []⟩ (by kernel_rfl) ?_
      refine Ops.one 6 (by kernel_rfl) ((lenD (X41 n).E.T 23 (D.unt (dP eI a2))).map (·, [])) (dI ((a2.length : Int))) [] ⟨(dP eI a0) :: (dI a1) :: (dP eI a2) :: u3 ((dB false) :: u2 ((dI a1) :: (dB false) :: (dB false) :: (dI a1) :: (dP eI a2) :: (dI ((a2.length : Int))) :: u21 [])), []⟩ (by kernel_rfl) (len_r _ 23 3 .plain eI a2 (by kernel_rfl)) (by kernel_rfl) ?_
      refine Ops.seg 2 8 (by kernel_rfl) ⟨(dP eI a0) :: (dI a1) :: (dP eI a2) :: u3 ((dB false) :: u2 ((dI a1) :: (dB false) :: (dB false) :: (dI a1) :: (dP eI a2) :: (dI ((a2.length : Int))) :: (dI (w64 (a1 + (a2.length : Int)))) :: (dP eI a0) :: u19 [])), []⟩ (by kernel_rfl) ?_
      refine Ops.one 9 (by kernel_rfl) ((lenD (X41 n).E.T 23 (D.unt (dP eI a0))).map (·, [])) (dI ((a0.length : Int))) [] ⟨(dP eI a0) :: (dI a1) :: (dP eI a2) :: u3 ((dB false) :: u2 ((dI a1) :: (dB false) :: (dB false) :: (dI a1) :: (dP eI a2) :: (dI ((a2.length : Int))) :: (dI (w64 (a1 + (a2.length : Int)))) :: (dP eI a0) :: (dI ((a0.length : Int))) :: u18 [])), []⟩ (by kernel_rfl) (len_r _ 23 3 .plain eI a0 (by kernel_rfl)) (by kernel_rfl) ?_
      refine Ops.seg 2 11 (by kernel_rfl) ⟨(dP eI a0) :: (dI a1) :: (dP eI a2) :: u3 ((dB false) :: u2 ((dI a1) :: (dB false) :: (dB false) :: (dI a1) :: (dP eI a2) :: (dI ((a2.length : Int))) :: (dI (w64 (a1 + (a2.length : Int)))) :: (dP eI a0) :: (dI ((a0.length : Int))) :: (dB (decide (w64 (a1 + (a2.length : Int)) > (a0.length : Int)))) :: (dB (decide (w64 (a1 + (a2.length : Int)) > (a0.length : Int)))) :: u16 [])), []⟩ (by kernel_rfl) ?_
      exact J41j12 _ _ _ _ _ _ _ _ _ h
    · refine Ops.seg 8 11 (by kernel_rfl) ⟨(dP eI a0) :: (dI a1) :: (dP eI a2) :: u3 ((dB false) :: u2 ((dI a1) :: (dB true) :: (dB true) :: u7 ((dB true) :: u16 []))), []⟩ (by kernel_rfl) ?_
      exact J41j12 _ _ _ _ _ _ _ _ _ h
  exact G41g2 (decide (a1 < 0)) h

/-! ### 28 glosswright/glosswrightref6.Once -/
def f28_j1 (m : Nat) (v110 : Int) (v120 : (List Int)) : Option (Stp ((List Int)) ((List Int) × Int)) :=
  some (.nxt (v120, w64 (v110 + 1)))
def f28_j2 (m : Nat) (v110 : Int) (v167 : (List Int)) : Option (Stp ((List Int)) ((List Int) × Int)) :=
  f28_j1 m v110 v167
def f28_r3 (m : Nat) (v109 : (List Int)) (v110 : Int) (v165 : Bool) : Option (Stp ((List Int)) ((List Int) × Int)) :=
  cnd v165
  (bnd (app 8 v109 [v110]) fun v169 =>
  f28_j2 m v110 v169)
  (f28_j2 m v110 v109)
def f28_r4 (m : Nat) (a0 : S28) (a1 : (List Int)) (v109 : (List Int)) (v110 : Int) (v151 : Bool) : Option (Stp ((List Int)) ((List Int) × Int)) :=
  bnd (cnd v151
  (bnd (f41 m a1 (w64 (v110 + (a0.fFrom.length : Int))) a0.fRight) fun v170 =>
  some v170)
  (some false)) fun v165 =>
  f28_r3 m v109 v110 v165
def f28_r5 (m : Nat) (a0 : S28) (a1 : (List Int)) (v109 : (List Int)) (v110 : Int) (v136 : Bool) : Option (Stp ((List Int)) ((List Int) × Int)) :=
  cnd v136
  (f28_j1 m v110 v109)
  (bnd (f41 m a1 v110 a0.fFrom) fun v138 =>
  bnd (cnd v138
  (bnd (f41 m a1 (w64 (v110 - (a0.fLeft.length : Int))) a0.fLeft) fun v171 =>
  some v171)
  (some false)) fun v151 =>
  f28_r4 m a0 a1 v109 v110 v151)
def f28_B6 (m : Nat) (a0 : S28) (a1 : (List Int)) (v109 : (List Int)) (v110 : Int) : Option (Stp ((List Int)) ((List Int) × Int)) :=
  cnd (decide (v110 < (a1.length : Int)))
  (bnd (cnd (decide ((v109.length : Int) > 0))
  (bnd (idx v109 (w64 ((v109.length : Int) - 1))) fun v172 =>
  some (decide (v110 < w64 (v172 + (a0.fFrom.length : Int)))))
  (some false)) fun v136 =>
  f28_r5 m a0 a1 v109 v110 v136)
  (some (.brk (v109, v110)))
def f28_B7 (m : Nat) (a0 : S28) (y174 : (List Int) × Int) (v192 : (List Int)) (v194 : Int) : Option (Stp ((List Int)) ((List Int) × Int)) :=
  cnd (decide (v194 ≥ 0))
  (bnd (idx y174.1 v194) fun v204 =>
  bnd (sub v192 (w64 (v204 + (a0.fFrom.length : Int))) (v192.length : Int)) fun v205 =>
  bnd (app 8 [] v205) fun v206 =>
  bnd (sub v192 0 v204) fun v207 =>
  bnd (app 8 v207 a0.fTo) fun v208 =>
  bnd (app 8 v208 v206) fun v209 =>
  some (.nxt (v209, w64 (v194 - 1))))
  (some (.brk (v192, v194)))
def f28 (m : Nat) (a0 : S28) (a1 : (List Int)) : Option (List Int) :=
  brk (iter (fun (y : (List Int) × Int) => f28_B6 m a0 a1 y.1 y.2) m ([], 0)) some fun y174 =>
  bnd (app 8 [] a1) fun v176 =>
  brk (iter (fun (y : (List Int) × Int) => f28_B7 m a0 y174 y.1 y.2) m (v176, w64 ((y174.1.length : Int) - 1))) some fun y211 =>
  some y211.1
noncomputable abbrev X28 (n : Nat) : Cx := cxOf Proofs.Try.prog E 28 n
noncomputable def C28 : Code := bodyOf Proofs.Try.prog 28
theorem ok28 (m : Nat) (a0 : S28) (a1 : (List Int)) (o : (List Int)) (h : f28 m a0 a1 = some o) (n : Nat) (hn : m + 2 ≤ n) : Fn Proofs.Try.prog E n 28 [e28 a0, (eL eI) a1] ((eL eI) o) := by
  obtain ⟨n, rfl⟩ : ∃ q, n = q + 1 := ⟨n - 1, by omega⟩
  unfold f28 at h
  refine Fn.of (by kernel_rfl) (by kernel_rfl) ⟨(.v (.agg [(vP eI a0.fFrom), (vP eI a0.fTo), (vP eI a0.fLeft), (vP eI a0.fRight)])) :: (dP eI a1) :: u40 (u40 (u17 [])), []⟩ (by kernel_rfl) ?_
  refine Wp.seq (subc [0] C28) (subc [1] C28) (by kernel_rfl) ?_
  refine Wp.region (by kernel_rfl) ?_
  refine Ops.seg 2 2 (by kernel_rfl) ⟨(.v (.agg [(vP eI a0.fFrom), (vP eI a0.fTo), (vP eI a0.fLeft), (vP eI a0.fRight)])) :: (dP eI a1) :: (.ptr 0 0) :: u1 ((.v (.sl .nil (List.map eI []))) :: u40 (u40 (u14 []))), [(.cells [(dP eI a0.fFrom), (dP eI a0.fTo), (dP eI a0.fLeft), (dP eI a0.fRight)])]⟩ (by kernel_rfl) ?_
  refine Ops.done (by kernel_rfl) ?_
  refine seqQ.n ?_
  refine Wp.seq (subc [1, 0] C28) (subc [1, 1] C28) (by kernel_rfl) ?_
  refine Wp.region (by kernel_rfl) ?_
  refine Ops.seg 1 1 (by kernel_rfl) ⟨(.v (.agg [(vP eI a0.fFrom), (vP eI a0.fTo), (vP eI a0.fLeft), (vP eI a0.fRight)])) :: (dP eI a1) :: (.ptr 0 0) :: u1 ((.v (.sl .nil (List.map eI []))) :: (.v (.sl .nil (List.map eI []))) :: u40 (u40 (u13 []))), [(.cells [(dP eI a0.fFrom), (dP eI a0.fTo), (dP eI a0.fLeft), (dP eI a0.fRight)])]⟩ (by kernel_rfl) ?_
  refine Ops.done (by kernel_rfl) ?_
  refine seqQ.n ?_
  refine Wp.seq (subc [1, 1, 0] C28) (subc [1, 1, 1] C28) (by kernel_rfl) ?_
  refine Wp.seq (subc [1, 1, 0, 0] C28) (subc [1, 1, 0, 1] C28) (by kernel_rfl) ?_
  refine Wp.region (by kernel_rfl) ?_
  refine Ops.seg 1 1 (by kernel_rfl) ⟨(.v (.agg [(vP eI a0.fFrom), (vP eI a0.fTo), (vP eI a0.fLeft), (vP eI a0.fRight)])) :: (dP eI a1) :: (.ptr 0 0) :: u1 ((.v (.sl .nil (List.map eI []))) :: (.v (.sl .nil (List.map eI []))) :: u6 ((dP eI a1) :: u40 (u40 (u6 [])))), [(.cells [(dP eI a0.fFrom), (dP eI a0.fTo), (dP eI a0.fLeft), (dP eI a0.fRight)])]⟩ (by kernel_rfl) ?_
  refine Ops.one 2 (by kernel_rfl) ((lenD (X28 n).E.T 23 (D.unt (dP eI a1))).map (·, [(.cells [(dP eI a0.fFrom), (dP eI a0.fTo), (dP eI a0.fLeft), (dP eI a0.fRight)])])) (dI ((a1.length : Int))) [(.cells [(dP eI a0.fFrom), (dP eI a0.fTo), (dP eI a0.fLeft), (dP eI a0.fRight)])] ⟨(.v (.agg [(vP eI a0.fFrom), (vP eI a0.fTo), (vP eI a0.fLeft), (vP eI a0.fRight)])) :: (dP eI a1) :: (.ptr 0 0) :: u1 ((.v (.sl .nil (List.map eI []))) :: (.v (.sl .nil (List.map eI []))) :: u6 ((dP eI a1) :: (dI ((a1.length : Int))) :: u40 (u40 (u5 [])))), [(.cells [(dP eI a0.fFrom), (dP eI a0.fTo), (dP eI a0.fLeft), (dP eI a0.fRight)])]⟩ (by kernel_rfl) (len_r _ 23 3 .plain eI a1 (by kernel_rfl)) (by kernel_rfl) ?_
  refine Ops.seg 1 3 (by kernel_rfl) ⟨(.v (.agg [(vP eI a0.fFrom), (vP eI a0.fTo), (vP eI a0.fLeft), (vP eI a0.fRight)])) :: (dP eI a1) :: (.ptr 0 0) :: u1 ((.v (.sl .nil (List.map eI []))) :: (.v (.sl .nil (List.map eI []))) :: u6 ((dP eI a1) :: (dI ((a1.length : Int))) :: (dI 0) :: u40 (u40 (u4 [])))), [(.cells [(dP eI a0.fFrom), (dP eI a0.fTo), (dP eI a0.fLeft), (dP eI a0.fRight)])]⟩ (by kernel_rfl) ?_
  refine Ops.done (by kernel_rfl) ?_
  refine seqQ.n ?_
  refine Wp.block (id := 0) [1, 2, 4, 5] (by kernel_rfl) 1 (by kernel_rfl) (subc [1, 1, 0, 1, 0] C28) (by kernel_rfl) ?_
  have hLx173 : ∀ (kx112 : Nat) (v109 : (List Int)) (v110 : Int)  (ox111 : (List Int) ⊕ ((List Int) × Int)), iter (fun (y : (List Int) × Int) => f28_B6 m a0 a1 y.1 y.2) kx112 (v109, v110) = some ox111 → ∀ nx113, kx112 ≤ nx113 → (∀ r, ox111 = .inl r → ∀ σ, RetOk (X28 n) (resOf Proofs.Try.prog 28) ((eL eI) r) σ → (seqQ (X28 n) (subc [1, 1, 1] C28) (fnQ (X28 n).E.T (resOf Proofs.Try.prog 28) ((eL eI) o))) .ret σ) → (∀ (y : (List Int) × Int) , ox111 = .inr y → (seqQ (X28 n) (subc [1, 1, 1] C28) (fnQ (X28 n).E.T (resOf Proofs.Try.prog 28) ((eL eI) o))) .normal ⟨q1 ((dP eI a1) :: (.ptr 0 0) :: q1 ((.v (.sl .nil (List.map eI []))) :: (appD 1 (List.map eI y.1)) :: q40 (q40 (q13 [])))), [(.cells [(dP eI a0.fFrom), (dP eI a0.fTo), (dP eI a0.fLeft), (dP eI a0.fRight)]), (appO 1 (List.map eI y.1)), .dead]⟩) → Lp (X28 n) [1, 2, 4, 5, 13, 14] 1 (subc [1, 1, 0, 1, 0, 0] C28) nx113 ⟨q1 ((dP eI a1) :: (.ptr 0 0) :: q1 ((.v (.sl .nil (List.map eI []))) :: (appD 1 (List.map eI v109)) :: q7 ((dI ((a1.length : Int))) :: (dI v110) :: q40 (q40 (q4 []))))), [(.cells [(dP eI a0.fFrom), (dP eI a0.fTo), (dP eI a0.fLeft), (dP eI a0.fRight)]), (appO 1 (List.map eI v109)), .dead]⟩ (blkQ (X28 n) 0 [1, 2, 4, 5] 1 (seqQ (X28 n) (subc [1, 1, 1] C28) (fnQ (X28 n).E.T (resOf Proofs.Try.prog 28) ((eL eI) o)))) := by
    intro kx112
    induction kx112 with
    | zero => intro v109 v110  ox111 h; exact (iter_zero h).elim
    | succ kx112 ihx114 =>
      intro v109 v110  ox111 h nx113 hnx117 hrx115 hxx116
      obtain ⟨nx113, rfl⟩ : ∃ q, nx113 = q + 1 := ⟨nx113 - 1, by omega⟩
      obtain ⟨sx118, h, hsx119⟩ := iter_some h
      have h : f28_B6 m a0 a1 v109 v110 = some sx118 := h
      unfold f28_B6 at h
      refine Lp.succ ?_
      refine Wp.seq (subc [1, 1, 0, 1, 0, 0, 0] C28) (subc [1, 1, 0, 1, 0, 0, 1] C28) (by kernel_rfl) ?_
      refine Wp.region (by kernel_rfl) ?_
      refine Ops.seg 1 1 (by kernel_rfl) ⟨q1 ((dP eI a1) :: (.ptr 0 0) :: q1 ((.v (.sl .nil (List.map eI []))) :: (appD 1 (List.map eI v109)) :: q7 ((dI ((a1.length : Int))) :: (dI v110) :: (dB (decide (v110 < (a1.length : Int)))) :: q40 (q40 (q3 []))))), [(.cells [(dP eI a0.fFrom), (dP eI a0.fTo), (dP eI a0.fLeft), (dP eI a0.fRight)]), (appO 1 (List.map eI v109)), .dead]⟩ (by kernel_rfl) ?_
      refine Ops.done (by kernel_rfl) ?_
      refine seqQ.n ?_
      refine Wp.seq (subc [1, 1, 0, 1, 0, 0, 1, 0] C28) (subc [1, 1, 0, 1, 0, 0, 1, 1] C28) (by kernel_rfl) ?_
      rcases cnd_some h with ⟨hb, h⟩ | ⟨hb, h⟩
      · refine Wp.cond (decide (v110 < (a1.length : Int))) [1, 2, 4, 5, 13, 14] (by kernel_rfl) 3 (by kernel_rfl) (subc [1, 1, 0, 1, 0, 0, 1, 0, 0] C28) (subc [1, 1, 0, 1, 0, 0, 1, 0, 1] C28) (by kernel_rfl) (by kernel_rfl) (fun _ => ?_) (fun e => nomatch (hb.symm.trans e))
        refine Wp.skip (by kernel_rfl) ?_
        refine sqQ.n ⟨q1 ((dP eI a1) :: (.ptr 0 0) :: q1 ((.v (.sl .nil (List.map eI []))) :: (appD 3 (List.map eI v109)) :: q7 ((dI ((a1.length : Int))) :: (dI v110) :: q40 (q40 (q4 []))))), [(.cells [(dP eI a0.fFrom), (dP eI a0.fTo), (dP eI a0.fLeft), (dP eI a0.fRight)]), .dead, .dead, (appO 1 (List.map eI v109)), .dead]⟩ (by generalize v109 = z0; cases z0 <;> kernel_rfl) ?_
        refine seqQ.n ?_
        refine Wp.seq (subc [1, 1, 0, 1, 0, 0, 1, 1, 0] C28) (subc [1, 1, 0, 1, 0, 0, 1, 1, 1] C28) (by kernel_rfl) ?_
        have J28j121 : ∀ (v120 : (List Int)) , f28_j1 m v110 v120 = some sx118 → (seqQ (X28 n) (subc [1, 1, 0, 1, 0, 0, 1, 1, 1] C28) (lpQ (X28 n) [1, 2, 4, 5, 13, 14] 1 (subc [1, 1, 0, 1, 0, 0] C28) nx113 (blkQ (X28 n) 0 [1, 2, 4, 5] 1 (seqQ (X28 n) (subc [1, 1, 1] C28) (fnQ (X28 n).E.T (resOf Proofs.Try.prog 28) ((eL eI) o)))))) .normal ⟨q1 ((dP eI a1) :: (.ptr 0 0) :: q1 ((.v (.sl .nil (List.map eI []))) :: (appD 5 (List.map eI v120)) :: q7 ((dI ((a1.length : Int))) :: (dI v110) :: q40 (q40 (q4 []))))), [(.cells [(dP eI a0.fFrom), (dP eI a0.fTo), (dP eI a0.fLeft), (dP eI a0.fRight)]), .dead, .dead, .dead, .dead, (appO 1 (List.map eI v120)), .dead]⟩ := by
          intro v120  h
          unfold f28_j1 at h
          refine seqQ.n ?_
          refine Wp.region (by kernel_rfl) ?_
          refine Ops.seg 2 2 (by kernel_rfl) ⟨q1 ((dP eI a1) :: (.ptr 0 0) :: q1 ((.v (.sl .nil (List.map eI []))) :: (appD 5 (List.map eI v120)) :: q7 ((dI ((a1.length : Int))) :: (dI (w64 (v110 + 1))) :: q40 (q10 ((dI (w64 (v110 + 1))) :: q33 []))))), [(.cells [(dP eI a0.fFrom), (dP eI a0.fTo), (dP eI a0.fLeft), (dP eI a0.fRight)]), .dead, .dead, .dead, .dead, (appO 1 (List.map eI v120)), .dead]⟩ (by kernel_rfl) ?_
          refine Ops.done (by kernel_rfl) ?_
          refine lpQ.n ⟨q1 ((dP eI a1) :: (.ptr 0 0) :: q1 ((.v (.sl .nil (List.map eI []))) :: (appD 1 (List.map eI v120)) :: q7 ((dI ((a1.length : Int))) :: (dI (w64 (v110 + 1))) :: q40 (q40 (q4 []))))), [(.cells [(dP eI a0.fFrom), (dP eI a0.fTo), (dP eI a0.fLeft), (dP eI a0.fRight)]), (appO 1 (List.map eI v120)), .dead]⟩ (by generalize v120 = z0; cases z0 <;> kernel_rfl) ?_
          cases h
          exact ihx114 v120 (w64 (v110 + 1))  _ hsx119 _ (by omega) hrx115 hxx116
        refine Wp.block (id := 1) [1, 2, 4, 5, 13, 14] (by kernel_rfl) 5 (by kernel_rfl) (subc [1, 1, 0, 1, 0, 0, 1, 1, 0, 0] C28) (by kernel_rfl) ?_
        refine Wp.seq (subc [1, 1, 0, 1, 0, 0, 1, 1, 0, 0, 0] C28) (subc [1, 1, 0, 1, 0, 0, 1, 1, 0, 0, 1] C28) (by kernel_rfl) ?_
        refine Wp.region (by kernel_rfl) ?_
        refine Ops.seg 2 2 (by kernel_rfl) ⟨q1 ((dP eI a1) :: (.ptr 0 0) :: q1 ((.v (.sl .nil (List.map eI []))) :: (appD 3 (List.map eI v109)) :: (dI v110) :: q6 ((dI ((a1.length : Int))) :: (dI v110) :: q1 ((dI v110) :: q40 (q40 (q2 [])))))), [(.cells [(dP eI a0.fFrom), (dP eI a0.fTo), (dP eI a0.fLeft), (dP eI a0.fRight)]), .dead, .dead, (appO 1 (List.map eI v109)), .dead]⟩ (by kernel_rfl) ?_
        refine Ops.done (by kernel_rfl) ?_
        refine seqQ.n ?_
        refine Wp.seq (subc [1, 1, 0, 1, 0, 0, 1, 1, 0, 0, 1, 0] C28) (subc [1, 1, 0, 1, 0, 0, 1, 1, 0, 0, 1, 1] C28) (by kernel_rfl) ?_
        refine Wp.seq (subc [1, 1, 0, 1, 0, 0, 1, 1, 0, 0, 1, 0, 0] C28) (subc [1, 1, 0, 1, 0, 0, 1, 1, 0, 0, 1, 0, 1] C28) (by kernel_rfl) ?_
        refine Wp.region (by kernel_rfl) ?_
        refine Ops.seg 1 1 (by kernel_rfl) ⟨q1 ((dP eI a1) :: (.ptr 0 0) :: q1 ((.v (.sl .nil (List.map eI []))) :: (appD 3 (List.map eI v109)) :: (dI v110) :: q6 ((dI ((a1.length : Int))) :: (dI v110) :: q1 ((dI v110) :: (appD 3 (List.map eI v109)) :: q40 (q40 (q1 [])))))), [(.cells [(dP eI a0.fFrom), (dP eI a0.fTo), (dP eI a0.fLeft), (dP eI a0.fRight)]), .dead, .dead, (appO 1 (List.map eI v109)), .dead]⟩ (by kernel_rfl) ?_
        refine Ops.one 2 (by kernel_rfl) ((lenD (X28 n).E.T 23 (D.unt (appD 3 (List.map eI v109)))).map (·, [(.cells [(dP eI a0.fFrom), (dP eI a0.fTo), (dP eI a0.fLeft), (dP eI a0.fRight)]), .dead, .dead, (appO 1 (List.map eI v109)), .dead])) (dI ((v109.length : Int))) [(.cells [(dP eI a0.fFrom), (dP eI a0.fTo), (dP eI a0.fLeft), (dP eI a0.fRight)]), .dead, .dead, (appO 1 (List.map eI v109)), .dead] ⟨q1 ((dP eI a1) :: (.ptr 0 0) :: q1 ((.v (.sl .nil (List.map eI []))) :: (appD 3 (List.map eI v109)) :: (dI v110) :: q6 ((dI ((a1.length : Int))) :: (dI v110) :: q1 ((dI v110) :: (appD 3 (List.map eI v109)) :: (dI ((v109.length : Int))) :: q40 (q40 []))))), [(.cells [(dP eI a0.fFrom), (dP eI a0.fTo), (dP eI a0.fLeft), (dP eI a0.fRight)]), .dead, .dead, (appO 1 (List.map eI v109)), .dead]⟩ (by kernel_rfl) (len_a _ 23 3 3 eI v109 (by kernel_rfl)) (by kernel_rfl) ?_
        refine Ops.seg 1 3 (by kernel_rfl) ⟨q1 ((dP eI a1) :: (.ptr 0 0) :: q1 ((.v (.sl .nil (List.map eI []))) :: (appD 3 (List.map eI v109)) :: (dI v110) :: (dI ((v109.length : Int))) :: q5 ((dI ((a1.length : Int))) :: (dI v110) :: q1 ((dI v110) :: (appD 3 (List.map eI v109)) :: (dI ((v109.length : Int))) :: q40 (q40 []))))), [(.cells [(dP eI a0.fFrom), (dP eI a0.fTo), (dP eI a0.fLeft), (dP eI a0.fRight)]), .dead, .dead, (appO 1 (List.map eI v109)), .dead]⟩ (by kernel_rfl) ?_
        refine Ops.done (by kernel_rfl) ?_
        refine seqQ.n ?_
        refine Wp.seq (subc [1, 1, 0, 1, 0, 0, 1, 1, 0, 0, 1, 0, 1, 0] C28) (subc [1, 1, 0, 1, 0, 0, 1, 1, 0, 0, 1, 0, 1, 1] C28) (by kernel_rfl) ?_
        refine Wp.region (by kernel_rfl) ?_
        refine Ops.seg 3 3 (by kernel_rfl) ⟨q1 ((dP eI a1) :: (.ptr 0 0) :: q1 ((.v (.sl .nil (List.map eI []))) :: (appD 3 (List.map eI v109)) :: (dI v110) :: (dI ((v109.length : Int))) :: q5 ((dI ((a1.length : Int))) :: (dI v110) :: q1 ((dI v110) :: (appD 3 (List.map eI v109)) :: (dI ((v109.length : Int))) :: (dI ((v109.length : Int))) :: (dB (decide ((v109.length : Int) > 0))) :: (dB (decide ((v109.length : Int) > 0))) :: q40 (q37 []))))), [(.cells [(dP eI a0.fFrom), (dP eI a0.fTo), (dP eI a0.fLeft), (dP eI a0.fRight)]), .dead, .dead, (appO 1 (List.map eI v109)), .dead]⟩ (by kernel_rfl) ?_
        have J28j137 : ∀ (d124 d125 d126 d127 d128 d129 d130 d131 d132 d133 d134 : D) (v135 : Bool) (v136 : Bool), f28_r5 m a0 a1 v109 v110 v136 = some sx118 → Ops (X28 n) (opl (subc [1, 1, 0, 1, 0, 0, 1, 1, 0, 0, 1, 0, 1, 0] C28)) 15 ⟨q1 ((dP eI a1) :: (.ptr 0 0) :: q1 ((.v (.sl .nil (List.map eI []))) :: (appD 3 (List.map eI v109)) :: (dI v110) :: (dI ((v109.length : Int))) :: q5 ((dI ((a1.length : Int))) :: (dI v110) :: q1 ((dI v110) :: (appD 3 (List.map eI v109)) :: (dI ((v109.length : Int))) :: (dI ((v109.length : Int))) :: (dB v135) :: (dB v135) :: d124 :: d125 :: d126 :: d127 :: d128 :: d129 :: d130 :: d131 :: d132 :: d133 :: d134 :: (dB v136) :: q40 (q25 []))))), [(.cells [(dP eI a0.fFrom), (dP eI a0.fTo), (dP eI a0.fLeft), (dP eI a0.fRight)]), .dead, .dead, (appO 1 (List.map eI v109)), .dead]⟩ ((seqQ (X28 n) (subc [1, 1, 0, 1, 0, 0, 1, 1, 0, 0, 1, 0, 1, 1] C28) (seqQ (X28 n) (subc [1, 1, 0, 1, 0, 0, 1, 1, 0, 0, 1, 1] C28) (blkQ (X28 n) 1 [1, 2, 4, 5, 13, 14] 5 (seqQ (X28 n) (subc [1, 1, 0, 1, 0, 0, 1, 1, 1] C28) (lpQ (X28 n) [1, 2, 4, 5, 13, 14] 1 (subc [1, 1, 0, 1, 0, 0] C28) nx113 (blkQ (X28 n) 0 [1, 2, 4, 5] 1 (seqQ (X28 n) (subc [1, 1, 1] C28) (fnQ (X28 n).E.T (resOf Proofs.Try.prog 28) ((eL eI) o))))))))) .normal) := by
          intro d124 d125 d126 d127 d128 d129 d130 d131 d132 d133 d134 v135 v136 h
          unfold f28_r5 at h
          refine Ops.done (by kernel_rfl) ?_
          refine seqQ.n ?_
          rcases cnd_some h with ⟨hb, h⟩ | ⟨hb, h⟩
          · refine Wp.cond v136 [1, 2, 4, 5, 6, 13, 14] (by kernel_rfl) 5 (by kernel_rfl) (subc [1, 1, 0, 1, 0, 0, 1, 1, 0, 0, 1, 0, 1, 1, 0] C28) (subc [1, 1, 0, 1, 0, 0, 1, 1, 0, 0, 1, 0, 1, 1, 1] C28) (by kernel_rfl) (by kernel_rfl) (fun _ => ?_) (fun e => nomatch (hb.symm.trans e))
            refine Wp.exit (id := 1) (by kernel_rfl) ?_
            refine sqQ.x ?_
            refine seqQ.x ?_
            refine blkQ.x ⟨q1 ((dP eI a1) :: (.ptr 0 0) :: q1 ((.v (.sl .nil (List.map eI []))) :: (appD 5 (List.map eI v109)) :: q7 ((dI ((a1.length : Int))) :: (dI v110) :: q40 (q40 (q4 []))))), [(.cells [(dP eI a0.fFrom), (dP eI a0.fTo), (dP eI a0.fLeft), (dP eI a0.fRight)]), .dead, .dead, .dead, .dead, (appO 1 (List.map eI v109)), .dead]⟩ (by generalize v109 = z0; cases z0 <;> kernel_rfl) ?_
            exact J28j121 v109  h
          · refine Wp.cond v136 [1, 2, 4, 5, 6, 13, 14] (by kernel_rfl) 5 (by kernel_rfl) (subc [1, 1, 0, 1, 0, 0, 1, 1, 0, 0, 1, 0, 1, 1, 0] C28) (subc [1, 1, 0, 1, 0, 0, 1, 1, 0, 0, 1, 0, 1, 1, 1] C28) (by kernel_rfl) (by kernel_rfl) (fun e => nomatch (hb.symm.trans e)) (fun _ => ?_)
            refine Wp.skip (by kernel_rfl) ?_
            refine sqQ.n ⟨q1 ((dP eI a1) :: (.ptr 0 0) :: q1 ((.v (.sl .nil (List.map eI []))) :: (appD 5 (List.map eI v109)) :: (dI v110) :: q6 ((dI ((a1.length : Int))) :: (dI v110) :: q40 (q40 (q4 []))))), [(.cells [(dP eI a0.fFrom), (dP eI a0.fTo), (dP eI a0.fLeft), (dP eI a0.fRight)]), .dead, .dead, .dead, .dead, (appO 1 (List.map eI v109)), .dead]⟩ (by generalize v109 = z0; cases z0 <;> kernel_rfl) ?_
            refine seqQ.n ?_
            refine Wp.seq (subc [1, 1, 0, 1, 0, 0, 1, 1, 0, 0, 1, 1, 0] C28) (subc [1, 1, 0, 1, 0, 0, 1, 1, 0, 0, 1, 1, 1] C28) (by kernel_rfl) ?_
            refine Wp.region (by kernel_rfl) ?_
            refine Ops.seg 4 4 (by kernel_rfl) ⟨q1 ((dP eI a1) :: (.ptr 0 0) :: q1 ((.v (.sl .nil (List.map eI []))) :: (appD 5 (List.map eI v109)) :: (dI v110) :: q6 ((dI ((a1.length : Int))) :: (dI v110) :: q19 ((dP eI a1) :: (dI v110) :: (.ptr 0 0) :: (dP eI a0.fFrom) :: q40 (q21 []))))), [(.cells [(dP eI a0.fFrom), (dP eI a0.fTo), (dP eI a0.fLeft), (dP eI a0.fRight)]), .dead, .dead, .dead, .dead, (appO 1 (List.map eI v109)), .dead]⟩ (by kernel_rfl) ?_
            obtain ⟨v138, ev138, h⟩ := bnd_some h
            refine Ops.one 5 (by kernel_rfl) (callD (X28 n).E (run Proofs.Try.prog E n) 41 [(dP eI a1), (dI v110), (dP eI a0.fFrom)] [(.cells [(dP eI a0.fFrom), (dP eI a0.fTo), (dP eI a0.fLeft), (dP eI a0.fRight)]), .dead, .dead, .dead, .dead, (appO 1 (List.map eI v109)), .dead]) (dB v138) [(.cells [(dP eI a0.fFrom), (dP eI a0.fTo), (dP eI a0.fLeft), (dP eI a0.fRight)]), .dead, .dead, .dead, .dead, (appO 1 (List.map eI v109)), .dead] ⟨q1 ((dP eI a1) :: (.ptr 0 0) :: q1 ((.v (.sl .nil (List.map eI []))) :: (appD 5 (List.map eI v109)) :: (dI v110) :: q6 ((dI ((a1.length : Int))) :: (dI v110) :: q19 ((dP eI a1) :: (dI v110) :: (.ptr 0 0) :: (dP eI a0.fFrom) :: (dB v138) :: q40 (q20 []))))), [(.cells [(dP eI a0.fFrom), (dP eI a0.fTo), (dP eI a0.fLeft), (dP eI a0.fRight)]), .dead, .dead, .dead, .dead, (appO 1 (List.map eI v109)), .dead]⟩ (by kernel_rfl) (call_ok (by kernel_rfl) (Args.v (vP eI a1) ((eL eI) a1) (by kernel_rfl) (Args.v (vI v110) (eI v110) (by kernel_rfl) (Args.v (vP eI a0.fFrom) ((eL eI) a0.fFrom) (by kernel_rfl) Args.nil))) (ok41 m a1 v110 a0.fFrom v138 ev138 n (by omega))) (by kernel_rfl) ?_
            refine Ops.seg 1 6 (by kernel_rfl) ⟨q1 ((dP eI a1) :: (.ptr 0 0) :: q1 ((.v (.sl .nil (List.map eI []))) :: (appD 5 (List.map eI v109)) :: (dI v110) :: q6 ((dI ((a1.length : Int))) :: (dI v110) :: q19 ((dP eI a1) :: (dI v110) :: (.ptr 0 0) :: (dP eI a0.fFrom) :: (dB v138) :: (dB v138) :: q40 (q19 []))))), [(.cells [(dP eI a0.fFrom), (dP eI a0.fTo), (dP eI a0.fLeft), (dP eI a0.fRight)]), .dead, .dead, .dead, .dead, (appO 1 (List.map eI v109)), .dead]⟩ (by kernel_rfl) ?_
            have J28j152 : ∀ (d141 d142 d143 d144 d145 d146 d147 d148 d149 : D) (v150 : Bool) (v151 : Bool), f28_r4 m a0 a1 v109 v110 v151 = some sx118 → Ops (X28 n) (opl (subc [1, 1, 0, 1, 0, 0, 1, 1, 0, 0, 1, 1, 0] C28)) 16 ⟨q1 ((dP eI a1) :: (.ptr 0 0) :: q1 ((.v (.sl .nil (List.map eI []))) :: (appD 5 (List.map eI v109)) :: (dI v110) :: q6 ((dI ((a1.length : Int))) :: (dI v110) :: q19 ((dP eI a1) :: (dI v110) :: (.ptr 0 0) :: (dP eI a0.fFrom) :: (dB v150) :: (dB v150) :: d141 :: d142 :: d143 :: d144 :: d145 :: d146 :: d147 :: d148 :: d149 :: (dB v151) :: q40 (q9 []))))), [(.cells [(dP eI a0.fFrom), (dP eI a0.fTo), (dP eI a0.fLeft), (dP eI a0.fRight)]), .dead, .dead, .dead, .dead, (appO 1 (List.map eI v109)), .dead]⟩ ((seqQ (X28 n) (subc [1, 1, 0, 1, 0, 0, 1, 1, 0, 0, 1, 1, 1] C28) (blkQ (X28 n) 1 [1, 2, 4, 5, 13, 14] 5 (seqQ (X28 n) (subc [1, 1, 0, 1, 0, 0, 1, 1, 1] C28) (lpQ (X28 n) [1, 2, 4, 5, 13, 14] 1 (subc [1, 1, 0, 1, 0, 0] C28) nx113 (blkQ (X28 n) 0 [1, 2, 4, 5] 1 (seqQ (X28 n) (subc [1, 1, 1] C28) (fnQ (X28 n).E.T (resOf Proofs.Try.prog 28) ((eL eI) o)))))))) .normal) := by
              intro d141 d142 d143 d144 d145 d146 d147 d148 d149 v150 v151 h
              unfold f28_r4 at h
              refine Ops.seg 1 17 (by kernel_rfl) ⟨q1 ((dP eI a1) :: (.ptr 0 0) :: q1 ((.v (.sl .nil (List.map eI []))) :: (appD 5 (List.map eI v109)) :: (dI v110) :: q6 ((dI ((a1.length : Int))) :: (dI v110) :: q19 ((dP eI a1) :: (dI v110) :: (.ptr 0 0) :: (dP eI a0.fFrom) :: (dB v150) :: (dB v150) :: d141 :: d142 :: d143 :: d144 :: d145 :: d146 :: d147 :: d148 :: d149 :: (dB v151) :: (dB v151) :: q40 (q8 []))))), [(.cells [(dP eI a0.fFrom), (dP eI a0.fTo), (dP eI a0.fLeft), (dP eI a0.fRight)]), .dead, .dead, .dead, .dead, (appO 1 (List.map eI v109)), .dead]⟩ (by kernel_rfl) ?_
              have J28j166 : ∀ (d155 d156 d157 d158 d159 d160 d161 d162 d163 : D) (v164 : Bool) (v165 : Bool), f28_r3 m v109 v110 v165 = some sx118 → Ops (X28 n) (opl (subc [1, 1, 0, 1, 0, 0, 1, 1, 0, 0, 1, 1, 0] C28)) 27 ⟨q1 ((dP eI a1) :: (.ptr 0 0) :: q1 ((.v (.sl .nil (List.map eI []))) :: (appD 5 (List.map eI v109)) :: (dI v110) :: q6 ((dI ((a1.length : Int))) :: (dI v110) :: q19 ((dP eI a1) :: (dI v110) :: (.ptr 0 0) :: (dP eI a0.fFrom) :: (dB v150) :: (dB v150) :: d141 :: d142 :: d143 :: d144 :: d145 :: d146 :: d147 :: d148 :: d149 :: (dB v164) :: (dB v164) :: d155 :: d156 :: d157 :: d158 :: d159 :: d160 :: d161 :: d162 :: d163 :: (dB v165) :: q38 [])))), [(.cells [(dP eI a0.fFrom), (dP eI a0.fTo), (dP eI a0.fLeft), (dP eI a0.fRight)]), .dead, .dead, .dead, .dead, (appO 1 (List.map eI v109)), .dead]⟩ ((seqQ (X28 n) (subc [1, 1, 0, 1, 0, 0, 1, 1, 0, 0, 1, 1, 1] C28) (blkQ (X28 n) 1 [1, 2, 4, 5, 13, 14] 5 (seqQ (X28 n) (subc [1, 1, 0, 1, 0, 0, 1, 1, 1] C28) (lpQ (X28 n) [1, 2, 4, 5, 13, 14] 1 (subc [1, 1, 0, 1, 0, 0] C28) nx113 (blkQ (X28 n) 0 [1, 2, 4, 5] 1 (seqQ (X28 n) (subc [1, 1, 1] C28) (fnQ (X28 n).E.T (resOf Proofs.Try.prog 28) ((eL eI) o)))))))) .normal) := by
                intro d155 d156 d157 d158 d159 d160 d161 d162 d163 v164 v165 h
                unfold f28_r3 at h
                refine Ops.done (by kernel_rfl) ?_
                refine seqQ.n ?_
                have J28j168 : ∀ (v167 : (List Int)) , f28_j2 m v110 v167 = some sx118 → (blkQ (X28 n) 1 [1, 2, 4, 5, 13, 14] 5 (seqQ (X28 n) (subc [1, 1, 0, 1, 0, 0, 1, 1, 1] C28) (lpQ (X28 n) [1, 2, 4, 5, 13, 14] 1 (subc [1, 1, 0, 1, 0, 0] C28) nx113 (blkQ (X28 n) 0 [1, 2, 4, 5] 1 (seqQ (X28 n) (subc [1, 1, 1] C28) (fnQ (X28 n).E.T (resOf Proofs.Try.prog 28) ((eL eI) o))))))) .normal ⟨q1 ((dP eI a1) :: (.ptr 0 0) :: q1 ((.v (.sl .nil (List.map eI []))) :: (appD 7 (List.map eI v167)) :: q7 ((dI ((a1.length : Int))) :: (dI v110) :: q40 (q40 (q4 []))))), [(.cells [(dP eI a0.fFrom), (dP eI a0.fTo), (dP eI a0.fLeft), (dP eI a0.fRight)]), .dead, .dead, .dead, .dead, .dead, .dead, (appO 1 (List.map eI v167)), .dead]⟩ := by
                  intro v167  h
                  unfold f28_j2 at h
                  refine blkQ.n ⟨q1 ((dP eI a1) :: (.ptr 0 0) :: q1 ((.v (.sl .nil (List.map eI []))) :: (appD 5 (List.map eI v167)) :: q7 ((dI ((a1.length : Int))) :: (dI v110) :: q40 (q40 (q4 []))))), [(.cells [(dP eI a0.fFrom), (dP eI a0.fTo), (dP eI a0.fLeft), (dP eI a0.fRight)]), .dead, .dead, .dead, .dead, (appO 1 (List.map eI v167)), .dead]⟩ (by generalize v167 = z0; cases z0 <;> kernel_rfl) ?_
                  exact J28j121 v167  h
                rcases cnd_some h with ⟨hb, h⟩ | ⟨hb, h⟩
                · refine Wp.cond v165 [1, 2, 4, 5, 13, 14] (by kernel_rfl) 7 (by kernel_rfl) (subc [1, 1, 0, 1, 0, 0, 1, 1, 0, 0, 1, 1, 1, 0] C28) (subc [1, 1, 0, 1, 0, 0, 1, 1, 0, 0, 1, 1, 1, 1] C28) (by kernel_rfl) (by kernel_rfl) (fun _ => ?_) (fun e => nomatch (hb.symm.trans e))
                  refine Wp.region (by kernel_rfl) ?_
                  refine Ops.seg 3 3 (by kernel_rfl) ⟨q1 ((dP eI a1) :: (.ptr 0 0) :: q1 ((.v (.sl .nil (List.map eI []))) :: (appD 5 (List.map eI v109)) :: (dI v110) :: q6 ((dI ((a1.length : Int))) :: (dI v110) :: q19 ((dP eI a1) :: (dI v110) :: (.ptr 0 0) :: (dP eI a0.fFrom) :: (dB v150) :: (dB v150) :: d141 :: d142 :: d143 :: d144 :: d145 :: d146 :: d147 :: d148 :: d149 :: (dB v164) :: (dB v164) :: d155 :: d156 :: d157 :: d158 :: d159 :: d160 :: d161 :: d162 :: d163 :: (dB v165) :: (appD 5 (List.map eI v109)) :: (dI v110) :: (.v (.sl .nonfull (List.map eI [v110]))) :: q35 [])))), [(.cells [(dP eI a0.fFrom), (dP eI a0.fTo), (dP eI a0.fLeft), (dP eI a0.fRight)]), .dead, .dead, .dead, .dead, (appO 1 (List.map eI v109)), .dead]⟩ (by kernel_rfl) ?_
                  obtain ⟨v169, ev169, h⟩ := bnd_some h
                  refine Ops.one 4 (by kernel_rfl) (appendD (X28 n).E.T false 23 [(.cells [(dP eI a0.fFrom), (dP eI a0.fTo), (dP eI a0.fLeft), (dP eI a0.fRight)]), .dead, .dead, .dead, .dead, (appO 1 (List.map eI v109)), .dead] (appD 5 (List.map eI v109)) (.v (.sl .nonfull (List.map eI [v110])))) (appD 7 (List.map eI v169)) [(.cells [(dP eI a0.fFrom), (dP eI a0.fTo), (dP eI a0.fLeft), (dP eI a0.fRight)]), .dead, .dead, .dead, .dead, .dead, .dead, (appO 1 (List.map eI v169))] ⟨q1 ((dP eI a1) :: (.ptr 0 0) :: q1 ((.v (.sl .nil (List.map eI []))) :: (appD 5 (List.map eI v109)) :: (dI v110) :: q6 ((dI ((a1.length : Int))) :: (dI v110) :: q19 ((dP eI a1) :: (dI v110) :: (.ptr 0 0) :: (dP eI a0.fFrom) :: (dB v150) :: (dB v150) :: d141 :: d142 :: d143 :: d144 :: d145 :: d146 :: d147 :: d148 :: d149 :: (dB v164) :: (dB v164) :: d155 :: d156 :: d157 :: d158 :: d159 :: d160 :: d161 :: d162 :: d163 :: (dB v165) :: (appD 5 (List.map eI v109)) :: (dI v110) :: (.v (.sl .nonfull (List.map eI [v110]))) :: (appD 7 (List.map eI v169)) :: q34 [])))), [(.cells [(dP eI a0.fFrom), (dP eI a0.fTo), (dP eI a0.fLeft), (dP eI a0.fRight)]), .dead, .dead, .dead, .dead, .dead, .dead, (appO 1 (List.map eI v169))]⟩ (by kernel_rfl) (app_r _ 23 3 5 1 ti3 .nonfull eI v109 [v110] v169 ev169 (by kernel_rfl) (by kernel_rfl) (by kernel_rfl) (by kernel_rfl) (fun _ => rfl) (by kernel_rfl)) (by kernel_rfl) ?_
                  refine Ops.seg 1 5 (by kernel_rfl) ⟨q1 ((dP eI a1) :: (.ptr 0 0) :: q1 ((.v (.sl .nil (List.map eI []))) :: (appD 7 (List.map eI v169)) :: (dI v110) :: q6 ((dI ((a1.length : Int))) :: (dI v110) :: q19 ((dP eI a1) :: (dI v110) :: (.ptr 0 0) :: (dP eI a0.fFrom) :: (dB v150) :: (dB v150) :: d141 :: d142 :: d143 :: d144 :: d145 :: d146 :: d147 :: d148 :: d149 :: (dB v164) :: (dB v164) :: d155 :: d156 :: d157 :: d158 :: d159 :: d160 :: d161 :: d162 :: d163 :: (dB v165) :: (appD 5 (List.map eI v109)) :: (dI v110) :: (.v (.sl .nonfull (List.map eI [v110]))) :: (appD 7 (List.map eI v169)) :: q34 [])))), [(.cells [(dP eI a0.fFrom), (dP eI a0.fTo), (dP eI a0.fLeft), (dP eI a0.fRight)]), .dead, .dead, .dead, .dead, .dead, .dead, (appO 1 (List.map eI v169))]⟩ (by kernel_rfl) ?_
                  refine Ops.done (by kernel_rfl) ?_
                  refine sqQ.n ⟨q1 ((dP eI a1) :: (.ptr 0 0) :: q1 ((.v (.sl .nil (List.map eI []))) :: (appD 7 (List.map eI v169)) :: q7 ((dI ((a1.length : Int))) :: (dI v110) :: q40 (q40 (q4 []))))), [(.cells [(dP eI a0.fFrom), (dP eI a0.fTo), (dP eI a0.fLeft), (dP eI a0.fRight)]), .dead, .dead, .dead, .dead, .dead, .dead, (appO 1 (List.map eI v169)), .dead]⟩ (by generalize v169 = z0; cases z0 <;> kernel_rfl) ?_
                  exact J28j168 v169  h
                · refine Wp.cond v165 [1, 2, 4, 5, 13, 14] (by kernel_rfl) 7 (by kernel_rfl) (subc [1, 1, 0, 1, 0, 0, 1, 1, 0, 0, 1, 1, 1, 0] C28) (subc [1, 1, 0, 1, 0, 0, 1, 1, 0, 0, 1, 1, 1, 1] C28) (by kernel_rfl) (by kernel_rfl) (fun e => nomatch (hb.symm.trans e)) (fun _ => ?_)
                  refine Wp.skip (by kernel_rfl) ?_
                  refine sqQ.n ⟨q1 ((dP eI a1) :: (.ptr 0 0) :: q1 ((.v (.sl .nil (List.map eI []))) :: (appD 7 (List.map eI v109)) :: q7 ((dI ((a1.length : Int))) :: (dI v110) :: q40 (q40 (q4 []))))), [(.cells [(dP eI a0.fFrom), (dP eI a0.fTo), (dP eI a0.fLeft), (dP eI a0.fRight)]), .dead, .dead, .dead, .dead, .dead, .dead, (appO 1 (List.map eI v109)), .dead]⟩ (by generalize v109 = z0; cases z0 <;> kernel_rfl) ?_
                  exact J28j168 v109  h
              obtain ⟨v165, ev165, h⟩ := bnd_some h
              have G28g154 : ∀ v153 : Bool, (cnd v153 (bnd (f41 m a1 (w64 (v110 + (a0.fFrom.length : Int))) a0.fRight) fun v170 => some v170) (some false)) = some v165 → Ops (X28 n) (opl (subc [1, 1, 0, 1, 0, 0, 1, 1, 0, 0, 1, 1, 0] C28)) 17 ⟨q1 ((dP eI a1) :: (.ptr 0 0) :: q1 ((.v (.sl .nil (List.map eI []))) :: (appD 5 (List.map eI v109)) :: (dI v110) :: q6 ((dI ((a1.length : Int))) :: (dI v110) :: q19 ((dP eI a1) :: (dI v110) :: (.ptr 0 0) :: (dP eI a0.fFrom) :: (dB v150) :: (dB v150) :: d141 :: d142 :: d143 :: d144 :: d145 :: d146 :: d147 :: d148 :: d149 :: (dB v153) :: (dB v153) :: q40 (q8 []))))), [(.cells [(dP eI a0.fFrom), (dP eI a0.fTo), (dP eI a0.fLeft), (dP eI a0.fRight)]), .dead, .dead, .dead, .dead, (appO 1 (List.map eI v109)), .dead]⟩ ((seqQ (X28 n) (subc [1, 1, 0, 1, 0, 0, 1, 1, 0, 0, 1, 1, 1] C28) (blkQ (X28 n) 1 [1, 2, 4, 5, 13, 14] 5 (seqQ (X28 n) (subc [1, 1, 0, 1, 0, 0, 1, 1, 1] C28) (lpQ (X28 n) [1, 2, 4, 5, 13, 14] 1 (subc [1, 1, 0, 1, 0, 0] C28) nx113 (blkQ (X28 n) 0 [1, 2, 4, 5] 1 (seqQ (X28 n) (subc [1, 1, 1] C28) (fnQ (X28 n).E.T (resOf Proofs.Try.prog 28) ((eL eI) o)))))))) .normal) := by
                intro v153 ev165
                cases v153
                · have ev165 := cnd_f ev165
                  refine Ops.seg 10 27 (by kernel_rfl) ⟨q1 ((dP eI a1) :: (.ptr 0 0) :: q1 ((.v (.sl .nil (List.map eI []))) :: (appD 5 (List.map eI v109)) :: (dI v110) :: q6 ((dI ((a1.length : Int))) :: (dI v110) :: q19 ((dP eI a1) :: (dI v110) :: (.ptr 0 0) :: (dP eI a0.fFrom) :: (dB v150) :: (dB v150) :: d141 :: d142 :: d143 :: d144 :: d145 :: d146 :: d147 :: d148 :: d149 :: (dB false) :: (dB false) :: u9 ((dB false) :: q38 []))))), [(.cells [(dP eI a0.fFrom), (dP eI a0.fTo), (dP eI a0.fLeft), (dP eI a0.fRight)]), .dead, .dead, .dead, .dead, (appO 1 (List.map eI v109)), .dead]⟩ (by kernel_rfl) ?_
                  exact J28j166 _ _ _ _ _ _ _ _ _ _ _ (some_sub (fun v165 => f28_r3 m v109 v110 v165 = some sx118) ev165 h)
                · have ev165 := cnd_t ev165
                  refine Ops.seg 4 21 (by kernel_rfl) ⟨q1 ((dP eI a1) :: (.ptr 0 0) :: q1 ((.v (.sl .nil (List.map eI []))) :: (appD 5 (List.map eI v109)) :: (dI v110) :: q6 ((dI ((a1.length : Int))) :: (dI v110) :: q19 ((dP eI a1) :: (dI v110) :: (.ptr 0 0) :: (dP eI a0.fFrom) :: (dB v150) :: (dB v150) :: d141 :: d142 :: d143 :: d144 :: d145 :: d146 :: d147 :: d148 :: d149 :: (dB true) :: (dB true) :: (dP eI a1) :: (dI v110) :: (.ptr 0 0) :: (dP eI a0.fFrom) :: q40 (q4 []))))), [(.cells [(dP eI a0.fFrom), (dP eI a0.fTo), (dP eI a0.fLeft), (dP eI a0.fRight)]), .dead, .dead, .dead, .dead, (appO 1 (List.map eI v109)), .dead]⟩ (by kernel_rfl) ?_
                  refine Ops.one 22 (by kernel_rfl) ((lenD (X28 n).E.T 23 (D.unt (dP eI a0.fFrom))).map (·, [(.cells [(dP eI a0.fFrom), (dP eI a0.fTo), (dP eI a0.fLeft), (dP eI a0.fRight)]), .dead, .dead, .dead, .dead, (appO 1 (List.map eI v109)), .dead])) (dI ((a0.fFrom.length : Int))) [(.cells [(dP eI a0.fFrom), (dP eI a0.fTo), (dP eI a0.fLeft), (dP eI a0.fRight)]), .dead, .dead, .dead, .dead, (appO 1 (List.map eI v109)), .dead] ⟨q1 ((dP eI a1) :: (.ptr 0 0) :: q1 ((.v (.sl .nil (List.map eI []))) :: (appD 5 (List.map eI v109)) :: (dI v110) :: q6 ((dI ((a1.length : Int))) :: (dI v110) :: q19 ((dP eI a1) :: (dI v110) :: (.ptr 0 0) :: (dP eI a0.fFrom) :: (dB v150) :: (dB v150) :: d141 :: d142 :: d143 :: d144 :: d145 :: d146 :: d147 :: d148 :: d149 :: (dB true) :: (dB true) :: (dP eI a1) :: (dI v110) :: (.ptr 0 0) :: (dP eI a0.fFrom) :: (dI ((a0.fFrom.length : Int))) :: q40 (q3 []))))), [(.cells [(dP eI a0.fFrom), (dP eI a0.fTo), (dP eI a0.fLeft), (dP eI a0.fRight)]), .dead, .dead, .dead, .dead, (appO 1 (List.map eI v109)), .dead]⟩ (by kernel_rfl) (len_r _ 23 3 .plain eI a0.fFrom (by kernel_rfl)) (by kernel_rfl) ?_
                  refine Ops.seg 3 25 (by kernel_rfl) ⟨q1 ((dP eI a1) :: (.ptr 0 0) :: q1 ((.v (.sl .nil (List.map eI []))) :: (appD 5 (List.map eI v109)) :: (dI v110) :: q6 ((dI ((a1.length : Int))) :: (dI v110) :: q19 ((dP eI a1) :: (dI v110) :: (.ptr 0 0) :: (dP eI a0.fFrom) :: (dB v150) :: (dB v150) :: d141 :: d142 :: d143 :: d144 :: d145 :: d146 :: d147 :: d148 :: d149 :: (dB true) :: (dB true) :: (dP eI a1) :: (dI v110) :: (.ptr 0 0) :: (dP eI a0.fFrom) :: (dI ((a0.fFrom.length : Int))) :: (dI (w64 (v110 + (a0.fFrom.length : Int)))) :: (.ptr 0 3) :: (dP eI a0.fRight) :: q40 [])))), [(.cells [(dP eI a0.fFrom), (dP eI a0.fTo), (dP eI a0.fLeft), (dP eI a0.fRight)]), .dead, .dead, .dead, .dead, (appO 1 (List.map eI v109)), .dead]⟩ (by kernel_rfl) ?_
                  obtain ⟨v170, ev170, ev165⟩ := bnd_some ev165
                  refine Ops.one 26 (by kernel_rfl) (callD (X28 n).E (run Proofs.Try.prog E n) 41 [(dP eI a1), (dI (w64 (v110 + (a0.fFrom.length : Int)))), (dP eI a0.fRight)] [(.cells [(dP eI a0.fFrom), (dP eI a0.fTo), (dP eI a0.fLeft), (dP eI a0.fRight)]), .dead, .dead, .dead, .dead, (appO 1 (List.map eI v109)), .dead]) (dB v170) [(.cells [(dP eI a0.fFrom), (dP eI a0.fTo), (dP eI a0.fLeft), (dP eI a0.fRight)]), .dead, .dead, .dead, .dead, (appO 1 (List.map eI v109)), .dead] ⟨q1 ((dP eI a1) :: (.ptr 0 0) :: q1 ((.v (.sl .nil (List.map eI []))) :: (appD 5 (List.map eI v109)) :: (dI v110) :: q6 ((dI ((a1.length : Int))) :: (dI v110) :: q19 ((dP eI a1) :: (dI v110) :: (.ptr 0 0) :: (dP eI a0.fFrom) :: (dB v150) :: (dB v150) :: d141 :: d142 :: d143 :: d144 :: d145 :: d146 :: d147 :: d148 :: d149 :: (dB true) :: (dB true) :: (dP eI a1) :: (dI v110) :: (.ptr 0 0) :: (dP eI a0.fFrom) :: (dI ((a0.fFrom.length : Int))) :: (dI (w64 (v110 + (a0.fFrom.length : Int)))) :: (.ptr 0 3) :: (dP eI a0.fRight) :: (dB v170) :: q39 [])))), [(.cells [(dP eI a0.fFrom), (dP eI a0.fTo), (dP eI a0.fLeft), (dP eI a0.fRight)]), .dead, .dead, .dead, .dead, (appO 1 (List.map eI v109)), .dead]⟩ (by kernel_rfl) (call_ok (by kernel_rfl) (Args.v (vP eI a1) ((eL eI) a1) (by kernel_rfl) (Args.v (vI (w64 (v110 + (a0.fFrom.length : Int)))) (eI (w64 (v110 + (a0.fFrom.length : Int)))) (by kernel_rfl) (Args.v (vP eI a0.fRight) ((eL eI) a0.fRight) (by kernel_rfl) Args.nil))) (ok41 m a1 (w64 (v110 + (a0.fFrom.length : Int))) a0.fRight v170 ev170 n (by omega))) (by kernel_rfl) ?_
                  refine Ops.seg 1 27 (by kernel_rfl) ⟨q1 ((dP eI a1) :: (.ptr 0 0) :: q1 ((.v (.sl .nil (List.map eI []))) :: (appD 5 (List.map eI v109)) :: (dI v110) :: q6 ((dI ((a1.length : Int))) :: (dI v110) :: q19 ((dP eI a1) :: (dI v110) :: (.ptr 0 0) :: (dP eI a0.fFrom) :: (dB v150) :: (dB v150) :: d141 :: d142 :: d143 :: d144 :: d145 :: d146 :: d147 :: d148 :: d149 :: (dB true) :: (dB true) :: (dP eI a1) :: (dI v110) :: (.ptr 0 0) :: (dP eI a0.fFrom) :: (dI ((a0.fFrom.length : Int))) :: (dI (w64 (v110 + (a0.fFrom.length : Int)))) :: (.ptr 0 3) :: (dP eI a0.fRight) :: (dB v170) :: (dB v170) :: q38 [])))), [(.cells [(dP eI a0.fFrom), (dP eI a0.fTo), (dP eI a0.fLeft), (dP eI a0.fRight)]), .dead, .dead, .dead, .dead, (appO 1 (List.map eI v109)), .dead]⟩ (by kernel_rfl) ?_
                  exact J28j166 _ _ _ _ _ _ _ _ _ _ _ (some_sub (fun v165 => f28_r3 m v109 v110 v165 = some sx118) ev165 h)
              exact G28g154 v151 ev165
            obtain ⟨v151, ev151, h⟩ := bnd_some h
            have G28g140 : ∀ v139 : Bool, (cnd v139 (bnd (f41 m a1 (w64 (v110 - (a0.fLeft.length : Int))) a0.fLeft) fun v171 => some v171) (some false)) = some v151 → Ops (X28 n) (opl (subc [1, 1, 0, 1, 0, 0, 1, 1, 0, 0, 1, 1, 0] C28)) 6 ⟨q1 ((dP eI a1) :: (.ptr 0 0) :: q1 ((.v (.sl .nil (List.map eI []))) :: (appD 5 (List.map eI v109)) :: (dI v110) :: q6 ((dI ((a1.length : Int))) :: (dI v110) :: q19 ((dP eI a1) :: (dI v110) :: (.ptr 0 0) :: (dP eI a0.fFrom) :: (dB v139) :: (dB v139) :: q40 (q19 []))))), [(.cells [(dP eI a0.fFrom), (dP eI a0.fTo), (dP eI a0.fLeft), (dP eI a0.fRight)]), .dead, .dead, .dead, .dead, (appO 1 (List.map eI v109)), .dead]⟩ ((seqQ (X28 n) (subc [1, 1, 0, 1, 0, 0, 1, 1, 0, 0, 1, 1, 1] C28) (blkQ (X28 n) 1 [1, 2, 4, 5, 13, 14] 5 (seqQ (X28 n) (subc [1, 1, 0, 1, 0, 0, 1, 1, 1] C28) (lpQ (X28 n) [1, 2, 4, 5, 13, 14] 1 (subc [1, 1, 0, 1, 0, 0] C28) nx113 (blkQ (X28 n) 0 [1, 2, 4, 5] 1 (seqQ (X28 n) (subc [1, 1, 1] C28) (fnQ (X28 n).E.T (resOf Proofs.Try.prog 28) ((eL eI) o)))))))) .normal) := by
              intro v139 ev151
              cases v139
              · have ev151 := cnd_f ev151
                refine Ops.seg 10 16 (by kernel_rfl) ⟨q1 ((dP eI a1) :: (.ptr 0 0) :: q1 ((.v (.sl .nil (List.map eI []))) :: (appD 5 (List.map eI v109)) :: (dI v110) :: q6 ((dI ((a1.length : Int))) :: (dI v110) :: q19 ((dP eI a1) :: (dI v110) :: (.ptr 0 0) :: (dP eI a0.fFrom) :: (dB false) :: (dB false) :: u9 ((dB false) :: q40 (q9 [])))))), [(.cells [(dP eI a0.fFrom), (dP eI a0.fTo), (dP eI a0.fLeft), (dP eI a0.fRight)]), .dead, .dead, .dead, .dead, (appO 1 (List.map eI v109)), .dead]⟩ (by kernel_rfl) ?_
                exact J28j152 _ _ _ _ _ _ _ _ _ _ _ (some_sub (fun v151 => f28_r4 m a0 a1 v109 v110 v151 = some sx118) ev151 h)
              · have ev151 := cnd_t ev151
                refine Ops.seg 4 10 (by kernel_rfl) ⟨q1 ((dP eI a1) :: (.ptr 0 0) :: q1 ((.v (.sl .nil (List.map eI []))) :: (appD 5 (List.map eI v109)) :: (dI v110) :: q6 ((dI ((a1.length : Int))) :: (dI v110) :: q19 ((dP eI a1) :: (dI v110) :: (.ptr 0 0) :: (dP eI a0.fFrom) :: (dB true) :: (dB true) :: (dP eI a1) :: (dI v110) :: (.ptr 0 2) :: (dP eI a0.fLeft) :: q40 (q15 []))))), [(.cells [(dP eI a0.fFrom), (dP eI a0.fTo), (dP eI a0.fLeft), (dP eI a0.fRight)]), .dead, .dead, .dead, .dead, (appO 1 (List.map eI v109)), .dead]⟩ (by kernel_rfl) ?_
                refine Ops.one 11 (by kernel_rfl) ((lenD (X28 n).E.T 23 (D.unt (dP eI a0.fLeft))).map (·, [(.cells [(dP eI a0.fFrom), (dP eI a0.fTo), (dP eI a0.fLeft), (dP eI a0.fRight)]), .dead, .dead, .dead, .dead, (appO 1 (List.map eI v109)), .dead])) (dI ((a0.fLeft.length : Int))) [(.cells [(dP eI a0.fFrom), (dP eI a0.fTo), (dP eI a0.fLeft), (dP eI a0.fRight)]), .dead, .dead, .dead, .dead, (appO 1 (List.map eI v109)), .dead] ⟨q1 ((dP eI a1) :: (.ptr 0 0) :: q1 ((.v (.sl .nil (List.map eI []))) :: (appD 5 (List.map eI v109)) :: (dI v110) :: q6 ((dI ((a1.length : Int))) :: (dI v110) :: q19 ((dP eI a1) :: (dI v110) :: (.ptr 0 0) :: (dP eI a0.fFrom) :: (dB true) :: (dB true) :: (dP eI a1) :: (dI v110) :: (.ptr 0 2) :: (dP eI a0.fLeft) :: (dI ((a0.fLeft.length : Int))) :: q40 (q14 []))))), [(.cells [(dP eI a0.fFrom), (dP eI a0.fTo), (dP eI a0.fLeft), (dP eI a0.fRight)]), .dead, .dead, .dead, .dead, (appO 1 (List.map eI v109)), .dead]⟩ (by kernel_rfl) (len_r _ 23 3 .plain eI a0.fLeft (by kernel_rfl)) (by kernel_rfl) ?_
                refine Ops.seg 3 14 (by kernel_rfl) ⟨q1 ((dP eI a1) :: (.ptr 0 0) :: q1 ((.v (.sl .nil (List.map eI []))) :: (appD 5 (List.map eI v109)) :: (dI v110) :: q6 ((dI ((a1.length : Int))) :: (dI v110) :: q19 ((dP eI a1) :: (dI v110) :: (.ptr 0 0) :: (dP eI a0.fFrom) :: (dB true) :: (dB true) :: (dP eI a1) :: (dI v110) :: (.ptr 0 2) :: (dP eI a0.fLeft) :: (dI ((a0.fLeft.length : Int))) :: (dI (w64 (v110 - (a0.fLeft.length : Int)))) :: (.ptr 0 2) :: (dP eI a0.fLeft) :: q40 (q11 []))))), [(.cells [(dP eI a0.fFrom), (dP eI a0.fTo), (dP eI a0.fLeft), (dP eI a0.fRight)]), .dead, .dead, .dead, .dead, (appO 1 (List.map eI v109)), .dead]⟩ (by kernel_rfl) ?_
                obtain ⟨v171, ev171, ev151⟩ := bnd_some ev151
                refine Ops.one 15 (by kernel_rfl) (callD (X28 n).E (run Proofs.Try.prog E n) 41 [(dP eI a1), (dI (w64 (v110 - (a0.fLeft.length : Int)))), (dP eI a0.fLeft)] [(.cells [(dP eI a0.fFrom), (dP eI a0.fTo), (dP eI a0.fLeft), (dP eI a0.fRight)]), .dead, .dead, .dead, .dead, (appO 1 (List.map eI v109)), .dead]) (dB v171) [(.cells [(dP eI a0.fFrom), (dP eI a0.fTo), (dP eI a0.fLeft), (dP eI a0.fRight)]), .dead, .dead, .dead, .dead, (appO 1 (List.map eI v109)), .dead] ⟨q1 ((dP eI a1) :: (.ptr 0 0) :: q1 ((.v (.sl .nil (List.map eI []))) :: (appD 5 (List.map eI v109)) :: (dI v110) :: q6 ((dI ((a1.length : Int))) :: (dI v110) :: q19 ((dP eI a1) :: (dI v110) :: (.ptr 0 0) :: (dP eI a0.fFrom) :: (dB true) :: (dB true) :: (dP eI a1) :: (dI v110) :: (.ptr 0 2) :: (dP eI a0.fLeft) :: (dI ((a0.fLeft.length : Int))) :: (dI (w64 (v110 - (a0.fLeft.length : Int)))) :: (.ptr 0 2) :: (dP eI a0.fLeft) :: (dB v171) :: q40 (q10 []))))), [(.cells [(dP eI a0.fFrom), (dP eI a0.fTo), (dP eI a0.fLeft), (dP eI a0.fRight)]), .dead, .dead, .dead, .dead, (appO 1 (List.map eI v109)), .dead]⟩ (by kernel_rfl) (call_ok (by kernel_rfl) (Args.v (vP eI a1) ((eL eI) a1) (by kernel_rfl) (Args.v (vI (w64 (v110 - (a0.fLeft.length : Int)))) (eI (w64 (v110 - (a0.fLeft.length : Int)))) (by kernel_rfl) (Args.v (vP eI a0.fLeft) ((eL eI) a0.fLeft) (by kernel_rfl) Args.nil))) (ok41 m a1 (w64 (v110 - (a0.fLeft.length : Int))) a0.fLeft v171 ev171 n (by omega))) (by kernel_rfl) ?_
                refine Ops.seg 1 16 (by kernel_rfl) ⟨q1 ((dP eI a1) :: (.ptr 0 0) :: q1 ((.v (.sl .nil (List.map eI []))) :: (appD 5 (List.map eI v109)) :: (dI v110) :: q6 ((dI ((a1.length : Int))) :: (dI v110) :: q19 ((dP eI a1) :: (dI v110) :: (.ptr 0 0) :: (dP eI a0.fFrom) :: (dB true) :: (dB true) :: (dP eI a1) :: (dI v110) :: (.ptr 0 2) :: (dP eI a0.fLeft) :: (dI ((a0.fLeft.length : Int))) :: (dI (w64 (v110 - (a0.fLeft.length : Int)))) :: (.ptr 0 2) :: (dP eI a0.fLeft) :: (dB v171) :: (dB v171) :: q40 (q9 []))))), [(.cells [(dP eI a0.fFrom), (dP eI a0.fTo), (dP eI a0.fLeft), (dP eI a0.fRight)]), .dead, .dead, .dead, .dead, (appO 1 (List.map eI v109)), .dead]⟩ (by kernel_rfl) ?_
                exact J28j152 _ _ _ _ _ _ _ _ _ _ _ (some_sub (fun v151 => f28_r4 m a0 a1 v109 v110 v151 = some sx118) ev151 h)
            exact G28g140 v138 ev151
        obtain ⟨v136, ev136, h⟩ := bnd_some h
        have G28g123 : ∀ v122 : Bool, (cnd v122 (bnd (idx v109 (w64 ((v109.length : Int) - 1))) fun v172 => some (decide (v110 < w64 (v172 + (a0.fFrom.length : Int))))) (some false)) = some v136 → Ops (X28 n) (opl (subc [1, 1, 0, 1, 0, 0, 1, 1, 0, 0, 1, 0, 1, 0] C28)) 3 ⟨q1 ((dP eI a1) :: (.ptr 0 0) :: q1 ((.v (.sl .nil (List.map eI []))) :: (appD 3 (List.map eI v109)) :: (dI v110) :: (dI ((v109.length : Int))) :: q5 ((dI ((a1.length : Int))) :: (dI v110) :: q1 ((dI v110) :: (appD 3 (List.map eI v109)) :: (dI ((v109.length : Int))) :: (dI ((v109.length : Int))) :: (dB v122) :: (dB v122) :: q40 (q37 []))))), [(.cells [(dP eI a0.fFrom), (dP eI a0.fTo), (dP eI a0.fLeft), (dP eI a0.fRight)]), .dead, .dead, (appO 1 (List.map eI v109)), .dead]⟩ ((seqQ (X28 n) (subc [1, 1, 0, 1, 0, 0, 1, 1, 0, 0, 1, 0, 1, 1] C28) (seqQ (X28 n) (subc [1, 1, 0, 1, 0, 0, 1, 1, 0, 0, 1, 1] C28) (blkQ (X28 n) 1 [1, 2, 4, 5, 13, 14] 5 (seqQ (X28 n) (subc [1, 1, 0, 1, 0, 0, 1, 1, 1] C28) (lpQ (X28 n) [1, 2, 4, 5, 13, 14] 1 (subc [1, 1, 0, 1, 0, 0] C28) nx113 (blkQ (X28 n) 0 [1, 2, 4, 5] 1 (seqQ (X28 n) (subc [1, 1, 1] C28) (fnQ (X28 n).E.T (resOf Proofs.Try.prog 28) ((eL eI) o))))))))) .normal) := by
          intro v122 ev136
          cases v122
          · have ev136 := cnd_f ev136
            refine Ops.seg 12 15 (by kernel_rfl) ⟨q1 ((dP eI a1) :: (.ptr 0 0) :: q1 ((.v (.sl .nil (List.map eI []))) :: (appD 3 (List.map eI v109)) :: (dI v110) :: (dI ((v109.length : Int))) :: q5 ((dI ((a1.length : Int))) :: (dI v110) :: q1 ((dI v110) :: (appD 3 (List.map eI v109)) :: (dI ((v109.length : Int))) :: (dI ((v109.length : Int))) :: (dB false) :: (dB false) :: u11 ((dB false) :: q40 (q25 [])))))), [(.cells [(dP eI a0.fFrom), (dP eI a0.fTo), (dP eI a0.fLeft), (dP eI a0.fRight)]), .dead, .dead, (appO 1 (List.map eI v109)), .dead]⟩ (by kernel_rfl) ?_
            exact J28j137 _ _ _ _ _ _ _ _ _ _ _ _ _ (some_sub (fun v136 => f28_r5 m a0 a1 v109 v110 v136 = some sx118) ev136 h)
          · have ev136 := cnd_t ev136
            refine Ops.seg 4 7 (by kernel_rfl) ⟨q1 ((dP eI a1) :: (.ptr 0 0) :: q1 ((.v (.sl .nil (List.map eI []))) :: (appD 3 (List.map eI v109)) :: (dI v110) :: (dI ((v109.length : Int))) :: q5 ((dI ((a1.length : Int))) :: (dI v110) :: q1 ((dI v110) :: (appD 3 (List.map eI v109)) :: (dI ((v109.length : Int))) :: (dI ((v109.length : Int))) :: (dB true) :: (dB true) :: (dI v110) :: (appD 3 (List.map eI v109)) :: (dI ((v109.length : Int))) :: (dI (w64 ((v109.length : Int) - 1))) :: q40 (q33 []))))), [(.cells [(dP eI a0.fFrom), (dP eI a0.fTo), (dP eI a0.fLeft), (dP eI a0.fRight)]), .dead, .dead, (appO 1 (List.map eI v109)), .dead]⟩ (by kernel_rfl) ?_
            obtain ⟨v172, ev172, ev136⟩ := bnd_some ev136
            refine Ops.one 8 (by kernel_rfl) ((indexAddrH (X28 n).E.T [(.cells [(dP eI a0.fFrom), (dP eI a0.fTo), (dP eI a0.fLeft), (dP eI a0.fRight)]), .dead, .dead, (appO 1 (List.map eI v109)), .dead] 23 (D.unt (appD 3 (List.map eI v109))) (dI (w64 ((v109.length : Int) - 1)))).map (·, [(.cells [(dP eI a0.fFrom), (dP eI a0.fTo), (dP eI a0.fLeft), (dP eI a0.fRight)]), .dead, .dead, (appO 1 (List.map eI v109)), .dead])) (.vptr [(vI v172)]) [(.cells [(dP eI a0.fFrom), (dP eI a0.fTo), (dP eI a0.fLeft), (dP eI a0.fRight)]), .dead, .dead, (appO 1 (List.map eI v109)), .dead] ⟨q1 ((dP eI a1) :: (.ptr 0 0) :: q1 ((.v (.sl .nil (List.map eI []))) :: (appD 3 (List.map eI v109)) :: (dI v110) :: (dI ((v109.length : Int))) :: q5 ((dI ((a1.length : Int))) :: (dI v110) :: q1 ((dI v110) :: (appD 3 (List.map eI v109)) :: (dI ((v109.length : Int))) :: (dI ((v109.length : Int))) :: (dB true) :: (dB true) :: (dI v110) :: (appD 3 (List.map eI v109)) :: (dI ((v109.length : Int))) :: (dI (w64 ((v109.length : Int) - 1))) :: (.vptr [(vI v172)]) :: q40 (q32 []))))), [(.cells [(dP eI a0.fFrom), (dP eI a0.fTo), (dP eI a0.fLeft), (dP eI a0.fRight)]), .dead, .dead, (appO 1 (List.map eI v109)), .dead]⟩ (by kernel_rfl) (ix_a _ 23 3 1 3 eI v109 (w64 ((v109.length : Int) - 1)) v172 ev172 (by kernel_rfl) (by kernel_rfl) (fun _ => rfl)) (by kernel_rfl) ?_
            refine Ops.seg 3 11 (by kernel_rfl) ⟨q1 ((dP eI a1) :: (.ptr 0 0) :: q1 ((.v (.sl .nil (List.map eI []))) :: (appD 3 (List.map eI v109)) :: (dI v110) :: (dI ((v109.length : Int))) :: q5 ((dI ((a1.length : Int))) :: (dI v110) :: q1 ((dI v110) :: (appD 3 (List.map eI v109)) :: (dI ((v109.length : Int))) :: (dI ((v109.length : Int))) :: (dB true) :: (dB true) :: (dI v110) :: (appD 3 (List.map eI v109)) :: (dI ((v109.length : Int))) :: (dI (w64 ((v109.length : Int) - 1))) :: (.vptr [(vI v172)]) :: (dI v172) :: (.ptr 0 0) :: (dP eI a0.fFrom) :: q40 (q29 []))))), [(.cells [(dP eI a0.fFrom), (dP eI a0.fTo), (dP eI a0.fLeft), (dP eI a0.fRight)]), .dead, .dead, (appO 1 (List.map eI v109)), .dead]⟩ (by kernel_rfl) ?_
            refine Ops.one 12 (by kernel_rfl) ((lenD (X28 n).E.T 23 (D.unt (dP eI a0.fFrom))).map (·, [(.cells [(dP eI a0.fFrom), (dP eI a0.fTo), (dP eI a0.fLeft), (dP eI a0.fRight)]), .dead, .dead, (appO 1 (List.map eI v109)), .dead])) (dI ((a0.fFrom.length : Int))) [(.cells [(dP eI a0.fFrom), (dP eI a0.fTo), (dP eI a0.fLeft), (dP eI a0.fRight)]), .dead, .dead, (appO 1 (List.map eI v109)), .dead] ⟨q1 ((dP eI a1) :: (.ptr 0 0) :: q1 ((.v (.sl .nil (List.map eI []))) :: (appD 3 (List.map eI v109)) :: (dI v110) :: (dI ((v109.length : Int))) :: q5 ((dI ((a1.length : Int))) :: (dI v110) :: q1 ((dI v110) :: (appD 3 (List.map eI v109)) :: (dI ((v109.length : Int))) :: (dI ((v109.length : Int))) :: (dB true) :: (dB true) :: (dI v110) :: (appD 3 (List.map eI v109)) :: (dI ((v109.length : Int))) :: (dI (w64 ((v109.length : Int) - 1))) :: (.vptr [(vI v172)]) :: (dI v172) :: (.ptr 0 0) :: (dP eI a0.fFrom) :: (dI ((a0.fFrom.length : Int))) :: q40 (q28 []))))), [(.cells [(dP eI a0.fFrom), (dP eI a0.fTo), (dP eI a0.fLeft), (dP eI a0.fRight)]), .dead, .dead, (appO 1 (List.map eI v109)), .dead]⟩ (by kernel_rfl) (len_r _ 23 3 .plain eI a0.fFrom (by kernel_rfl)) (by kernel_rfl) ?_
            refine Ops.seg 3 15 (by kernel_rfl) ⟨q1 ((dP eI a1) :: (.ptr 0 0) :: q1 ((.v (.sl .nil (List.map eI []))) :: (appD 3 (List.map eI v109)) :: (dI v110) :: (dI ((v109.length : Int))) :: q5 ((dI ((a1.length : Int))) :: (dI v110) :: q1 ((dI v110) :: (appD 3 (List.map eI v109)) :: (dI ((v109.length : Int))) :: (dI ((v109.length : Int))) :: (dB true) :: (dB true) :: (dI v110) :: (appD 3 (List.map eI v109)) :: (dI ((v109.length : Int))) :: (dI (w64 ((v109.length : Int) - 1))) :: (.vptr [(vI v172)]) :: (dI v172) :: (.ptr 0 0) :: (dP eI a0.fFrom) :: (dI ((a0.fFrom.length : Int))) :: (dI (w64 (v172 + (a0.fFrom.length : Int)))) :: (dB (decide (v110 < w64 (v172 + (a0.fFrom.length : Int))))) :: (dB (decide (v110 < w64 (v172 + (a0.fFrom.length : Int))))) :: q40 (q25 []))))), [(.cells [(dP eI a0.fFrom), (dP eI a0.fTo), (dP eI a0.fLeft), (dP eI a0.fRight)]), .dead, .dead, (appO 1 (List.map eI v109)), .dead]⟩ (by kernel_rfl) ?_
            exact J28j137 _ _ _ _ _ _ _ _ _ _ _ _ _ (some_sub (fun v136 => f28_r5 m a0 a1 v109 v110 v136 = some sx118) ev136 h)
        exact G28g123 (decide ((v109.length : Int) > 0)) ev136
      · refine Wp.cond (decide (v110 < (a1.length : Int))) [1, 2, 4, 5, 13, 14] (by kernel_rfl) 3 (by kernel_rfl) (subc [1, 1, 0, 1, 0, 0, 1, 0, 0] C28) (subc [1, 1, 0, 1, 0, 0, 1, 0, 1] C28) (by kernel_rfl) (by kernel_rfl) (fun e => nomatch (hb.symm.trans e)) (fun _ => ?_)
        refine Wp.exit (id := 0) (by kernel_rfl) ?_
        refine sqQ.x ?_
        refine seqQ.x ?_
        cases h
        refine lpQ.x ?_
        refine blkQ.x ⟨q1 ((dP eI a1) :: (.ptr 0 0) :: q1 ((.v (.sl .nil (List.map eI []))) :: (appD 1 (List.map eI v109)) :: q40 (q40 (q13 [])))), [(.cells [(dP eI a0.fFrom), (dP eI a0.fTo), (dP eI a0.fLeft), (dP eI a0.fRight)]), (appO 1 (List.map eI v109)), .dead]⟩ (by generalize v109 = z0; cases z0 <;> kernel_rfl) ?_
        exact hxx116 (v109, v110)  hsx119
  refine Wp.loop [1, 2, 4, 5, 13, 14] 1 (by kernel_rfl) (subc [1, 1, 0, 1, 0, 0] C28) (by kernel_rfl) (by kernel_rfl) ⟨q1 ((dP eI a1) :: (.ptr 0 0) :: q1 ((.v (.sl .nil (List.map eI []))) :: (appD 1 (List.map eI [])) :: q7 ((dI ((a1.length : Int))) :: (dI 0) :: q40 (q40 (q4 []))))), [(.cells [(dP eI a0.fFrom), (dP eI a0.fTo), (dP eI a0.fLeft), (dP eI a0.fRight)]), (appO 1 (List.map eI [])), .dead]⟩ (by kernel_rfl) ?_
  rcases brk_some h with ⟨r175, er175, h⟩ | ⟨y174, ey174, h⟩
  · refine hLx173 _ [] 0  _ er175 n (by omega) (fun r er σ hσ => ?_) (fun y  ey => by cases ey)
    cases er
    refine seqQ.r ?_
    exact fnQ.r' (X28 n) (fun z => ((eL eI) z)) h hσ
  · refine hLx173 _ [] 0  _ ey174 n (by omega) (fun r er => by cases er) (fun y  ey => ?_)
    cases ey
    refine seqQ.n ?_
    refine Wp.seq (subc [1, 1, 1, 0] C28) (subc [1, 1, 1, 1] C28) (by kernel_rfl) ?_
    refine Wp.region (by kernel_rfl) ?_
    refine Ops.seg 2 2 (by kernel_rfl) ⟨q1 ((dP eI a1) :: (.ptr 0 0) :: q1 ((.v (.sl .nil (List.map eI []))) :: (appD 1 (List.map eI y174.1)) :: q40 (q20 ((.v (.sl .nonfull (List.map eI []))) :: (dP eI a1) :: q31 [])))), [(.cells [(dP eI a0.fFrom), (dP eI a0.fTo), (dP eI a0.fLeft), (dP eI a0.fRight)]), (appO 1 (List.map eI y174.1)), .dead]⟩ (by kernel_rfl) ?_
    obtain ⟨v176, ev176, h⟩ := bnd_some h
    refine Ops.one 3 (by kernel_rfl) (appendD (X28 n).E.T false 23 [(.cells [(dP eI a0.fFrom), (dP eI a0.fTo), (dP eI a0.fLeft), (dP eI a0.fRight)]), (appO 1 (List.map eI y174.1)), .dead] (.v (.sl .nonfull (List.map eI []))) (dP eI a1)) (appF .nonfull 3 (List.map eI v176)) [(.cells [(dP eI a0.fFrom), (dP eI a0.fTo), (dP eI a0.fLeft), (dP eI a0.fRight)]), (appO 1 (List.map eI y174.1)), .dead, (appO 1 (List.map eI v176))] ⟨q1 ((dP eI a1) :: (.ptr 0 0) :: q1 ((.v (.sl .nil (List.map eI []))) :: (appD 1 (List.map eI y174.1)) :: q40 (q20 ((.v (.sl .nonfull (List.map eI []))) :: (dP eI a1) :: (appF .nonfull 3 (List.map eI v176)) :: q30 [])))), [(.cells [(dP eI a0.fFrom), (dP eI a0.fTo), (dP eI a0.fLeft), (dP eI a0.fRight)]), (appO 1 (List.map eI y174.1)), .dead, (appO 1 (List.map eI v176))]⟩ (by kernel_rfl) (app_n _ 23 3 1 ti3 .plain eI a1 v176 ev176 (by kernel_rfl) (by kernel_rfl) (by kernel_rfl) (by kernel_rfl) (fun _ => rfl)) (by kernel_rfl) ?_
    refine Ops.seg 1 4 (by kernel_rfl) ⟨q1 ((dP eI a1) :: (.ptr 0 0) :: q1 ((.v (.sl .nil (List.map eI []))) :: (appD 1 (List.map eI y174.1)) :: q2 ((appF .nonfull 3 (List.map eI v176)) :: q40 (q17 ((.v (.sl .nonfull (List.map eI []))) :: (dP eI a1) :: (appF .nonfull 3 (List.map eI v176)) :: q30 []))))), [(.cells [(dP eI a0.fFrom), (dP eI a0.fTo), (dP eI a0.fLeft), (dP eI a0.fRight)]), (appO 1 (List.map eI y174.1)), .dead, (appO 1 (List.map eI v176))]⟩ (by kernel_rfl) ?_
    refine Ops.done (by kernel_rfl) ?_
    refine seqQ.n ?_
    refine Wp.seq (subc [1, 1, 1, 1, 0] C28) (subc [1, 1, 1, 1, 1] C28) (by kernel_rfl) ?_
    refine Wp.seq (subc [1, 1, 1, 1, 0, 0] C28) (subc [1, 1, 1, 1, 0, 1] C28) (by kernel_rfl) ?_
    refine Wp.region (by kernel_rfl) ?_
    refine Ops.seg 1 1 (by kernel_rfl) ⟨q1 ((dP eI a1) :: (.ptr 0 0) :: q1 ((.v (.sl .nil (List.map eI []))) :: (appD 1 (List.map eI y174.1)) :: q2 ((appF .nonfull 3 (List.map eI v176)) :: q40 (q17 ((.v (.sl .nonfull (List.map eI []))) :: (dP eI a1) :: (appF .nonfull 3 (List.map eI v176)) :: (appD 1 (List.map eI y174.1)) :: q29 []))))), [(.cells [(dP eI a0.fFrom), (dP eI a0.fTo), (dP eI a0.fLeft), (dP eI a0.fRight)]), (appO 1 (List.map eI y174.1)), .dead, (appO 1 (List.map eI v176))]⟩ (by kernel_rfl) ?_
    refine Ops.one 2 (by kernel_rfl) ((lenD (X28 n).E.T 23 (D.unt (appD 1 (List.map eI y174.1)))).map (·, [(.cells [(dP eI a0.fFrom), (dP eI a0.fTo), (dP eI a0.fLeft), (dP eI a0.fRight)]), (appO 1 (List.map eI y174.1)), .dead, (appO 1 (List.map eI v176))])) (dI ((y174.1.length : Int))) [(.cells [(dP eI a0.fFrom), (dP eI a0.fTo), (dP eI a0.fLeft), (dP eI a0.fRight)]), (appO 1 (List.map eI y174.1)), .dead, (appO 1 (List.map eI v176))] ⟨q1 ((dP eI a1) :: (.ptr 0 0) :: q1 ((.v (.sl .nil (List.map eI []))) :: (appD 1 (List.map eI y174.1)) :: q2 ((appF .nonfull 3 (List.map eI v176)) :: q40 (q17 ((.v (.sl .nonfull (List.map eI []))) :: (dP eI a1) :: (appF .nonfull 3 (List.map eI v176)) :: (appD 1 (List.map eI y174.1)) :: (dI ((y174.1.length : Int))) :: q28 []))))), [(.cells [(dP eI a0.fFrom), (dP eI a0.fTo), (dP eI a0.fLeft), (dP eI a0.fRight)]), (appO 1 (List.map eI y174.1)), .dead, (appO 1 (List.map eI v176))]⟩ (by kernel_rfl) (len_a _ 23 3 1 eI y174.1 (by kernel_rfl)) (by kernel_rfl) ?_
    refine Ops.seg 2 4 (by kernel_rfl) ⟨q1 ((dP eI a1) :: (.ptr 0 0) :: q1 ((.v (.sl .nil (List.map eI []))) :: (appD 1 (List.map eI y174.1)) :: q2 ((appF .nonfull 3 (List.map eI v176)) :: (dI (w64 ((y174.1.length : Int) - 1))) :: q40 (q16 ((.v (.sl .nonfull (List.map eI []))) :: (dP eI a1) :: (appF .nonfull 3 (List.map eI v176)) :: (appD 1 (List.map eI y174.1)) :: (dI ((y174.1.length : Int))) :: (dI (w64 ((y174.1.length : Int) - 1))) :: q27 []))))), [(.cells [(dP eI a0.fFrom), (dP eI a0.fTo), (dP eI a0.fLeft), (dP eI a0.fRight)]), (appO 1 (List.map eI y174.1)), .dead, (appO 1 (List.map eI v176))]⟩ (by kernel_rfl) ?_
    refine Ops.done (by kernel_rfl) ?_
    refine seqQ.n ?_
    refine Wp.block (id := 2) [4, 8] (by kernel_rfl) 4 (by kernel_rfl) (subc [1, 1, 1, 1, 0, 1, 0] C28) (by kernel_rfl) ?_
    have hLx210 : ∀ (kx196 : Nat) (v192 : (List Int)) (v194 : Int) (ag193 : AG) (ox195 : (List Int) ⊕ ((List Int) × Int)), iter (fun (y : (List Int) × Int) => f28_B7 m a0 y174 y.1 y.2) kx196 (v192, v194) = some ox195 → ∀ nx197, kx196 ≤ nx197 → (∀ r, ox195 = .inl r → ∀ σ, RetOk (X28 n) (resOf Proofs.Try.prog 28) ((eL eI) r) σ → (seqQ (X28 n) (subc [1, 1, 1, 1, 1] C28) (fnQ (X28 n).E.T (resOf Proofs.Try.prog 28) ((eL eI) o))) .ret σ) → (∀ (y : (List Int) × Int) (ag193 : AG), ox195 = .inr y → (seqQ (X28 n) (subc [1, 1, 1, 1, 1] C28) (fnQ (X28 n).E.T (resOf Proofs.Try.prog 28) ((eL eI) o))) .normal ⟨q4 ((.v (.sl .nil (List.map eI []))) :: q3 ((AG.d ag193 5 (List.map eI y.1)) :: q40 (q40 (q10 [])))), [(.cells [(dP eI a0.fFrom), (dP eI a0.fTo), (dP eI a0.fLeft), (dP eI a0.fRight)]), .dead, .dead, .dead, (appO 1 (List.map eI y174.1)), (AG.o ag193 1 (List.map eI y.1))]⟩) → Lp (X28 n) [2, 4, 5, 8, 9] 4 (subc [1, 1, 1, 1, 0, 1, 0, 0] C28) nx197 ⟨q2 ((.ptr 0 0) :: q1 ((.v (.sl .nil (List.map eI []))) :: (appD 4 (List.map eI y174.1)) :: q2 ((AG.d ag193 5 (List.map eI v192)) :: (dI v194) :: q40 (q40 (q9 []))))), [(.cells [(dP eI a0.fFrom), (dP eI a0.fTo), (dP eI a0.fLeft), (dP eI a0.fRight)]), .dead, .dead, .dead, (appO 1 (List.map eI y174.1)), (AG.o ag193 1 (List.map eI v192))]⟩ (blkQ (X28 n) 2 [4, 8] 4 (seqQ (X28 n) (subc [1, 1, 1, 1, 1] C28) (fnQ (X28 n).E.T (resOf Proofs.Try.prog 28) ((eL eI) o)))) := by
      intro kx196
      induction kx196 with
      | zero => intro v192 v194 ag193 ox195 h; exact (iter_zero h).elim
      | succ kx196 ihx198 =>
        intro v192 v194 ag193 ox195 h nx197 hnx201 hrx199 hxx200
        obtain ⟨nx197, rfl⟩ : ∃ q, nx197 = q + 1 := ⟨nx197 - 1, by omega⟩
        obtain ⟨sx202, h, hsx203⟩ := iter_some h
        have h : f28_B7 m a0 y174 v192 v194 = some sx202 := h
        unfold f28_B7 at h
        refine Lp.succ ?_
        refine Wp.seq (subc [1, 1, 1, 1, 0, 1, 0, 0, 0] C28) (subc [1, 1, 1, 1, 0, 1, 0, 0, 1] C28) (by kernel_rfl) ?_
        refine Wp.seq (subc [1, 1, 1, 1, 0, 1, 0, 0, 0, 0] C28) (subc [1, 1, 1, 1, 0, 1, 0, 0, 0, 1] C28) (by kernel_rfl) ?_
        refine Wp.region (by kernel_rfl) ?_
        refine Ops.seg 2 2 (by kernel_rfl) ⟨q2 ((.ptr 0 0) :: q1 ((.v (.sl .nil (List.map eI []))) :: (appD 4 (List.map eI y174.1)) :: q2 ((AG.d ag193 5 (List.map eI v192)) :: (dI v194) :: q40 (q22 ((dI v194) :: (dB (decide (v194 ≥ 0))) :: q25 []))))), [(.cells [(dP eI a0.fFrom), (dP eI a0.fTo), (dP eI a0.fLeft), (dP eI a0.fRight)]), .dead, .dead, .dead, (appO 1 (List.map eI y174.1)), (AG.o ag193 1 (List.map eI v192))]⟩ (by kernel_rfl) ?_
        refine Ops.done (by kernel_rfl) ?_
        refine seqQ.n ?_
        rcases cnd_some h with ⟨hb, h⟩ | ⟨hb, h⟩
        · refine Wp.cond (decide (v194 ≥ 0)) [2, 4, 5, 8, 9] (by kernel_rfl) 6 (by kernel_rfl) (subc [1, 1, 1, 1, 0, 1, 0, 0, 0, 1, 0] C28) (subc [1, 1, 1, 1, 0, 1, 0, 0, 0, 1, 1] C28) (by kernel_rfl) (by kernel_rfl) (fun _ => ?_) (fun e => nomatch (hb.symm.trans e))
          refine Wp.skip (by kernel_rfl) ?_
          refine sqQ.n ⟨q2 ((.ptr 0 0) :: q1 ((.v (.sl .nil (List.map eI []))) :: (appD 6 (List.map eI y174.1)) :: q2 ((AG.d ag193 7 (List.map eI v192)) :: (dI v194) :: q40 (q40 (q9 []))))), [(.cells [(dP eI a0.fFrom), (dP eI a0.fTo), (dP eI a0.fLeft), (dP eI a0.fRight)]), .dead, .dead, .dead, .dead, .dead, (appO 1 (List.map eI y174.1)), (AG.o ag193 1 (List.map eI v192))]⟩ (by generalize y174.1 = z0; cases ag193 <;> cases z0 <;> kernel_rfl) ?_
          refine seqQ.n ?_
          refine Wp.seq (subc [1, 1, 1, 1, 0, 1, 0, 0, 1, 0] C28) (subc [1, 1, 1, 1, 0, 1, 0, 0, 1, 1] C28) (by kernel_rfl) ?_
          refine Wp.block (id := 3) [2, 4, 5, 8, 9] (by kernel_rfl) 8 (by kernel_rfl) (subc [1, 1, 1, 1, 0, 1, 0, 0, 1, 0, 0] C28) (by kernel_rfl) ?_
          refine Wp.seq (subc [1, 1, 1, 1, 0, 1, 0, 0, 1, 0, 0, 0] C28) (subc [1, 1, 1, 1, 0, 1, 0, 0, 1, 0, 0, 1] C28) (by kernel_rfl) ?_
          refine Wp.region (by kernel_rfl) ?_
          refine Ops.seg 2 2 (by kernel_rfl) ⟨q2 ((.ptr 0 0) :: q1 ((.v (.sl .nil (List.map eI []))) :: (appD 6 (List.map eI y174.1)) :: q2 ((AG.d ag193 7 (List.map eI v192)) :: (dI v194) :: q40 (q26 ((appD 6 (List.map eI y174.1)) :: (dI v194) :: q21 []))))), [(.cells [(dP eI a0.fFrom), (dP eI a0.fTo), (dP eI a0.fLeft), (dP eI a0.fRight)]), .dead, .dead, .dead, .dead, .dead, (appO 1 (List.map eI y174.1)), (AG.o ag193 1 (List.map eI v192))]⟩ (by kernel_rfl) ?_
          obtain ⟨v204, ev204, h⟩ := bnd_some h
          refine Ops.one 3 (by kernel_rfl) ((indexAddrH (X28 n).E.T [(.cells [(dP eI a0.fFrom), (dP eI a0.fTo), (dP eI a0.fLeft), (dP eI a0.fRight)]), .dead, .dead, .dead, .dead, .dead, (appO 1 (List.map eI y174.1)), (AG.o ag193 1 (List.map eI v192))] 23 (D.unt (appD 6 (List.map eI y174.1))) (dI v194)).map (·, [(.cells [(dP eI a0.fFrom), (dP eI a0.fTo), (dP eI a0.fLeft), (dP eI a0.fRight)]), .dead, .dead, .dead, .dead, .dead, (appO 1 (List.map eI y174.1)), (AG.o ag193 1 (List.map eI v192))])) (.vptr [(vI v204)]) [(.cells [(dP eI a0.fFrom), (dP eI a0.fTo), (dP eI a0.fLeft), (dP eI a0.fRight)]), .dead, .dead, .dead, .dead, .dead, (appO 1 (List.map eI y174.1)), (AG.o ag193 1 (List.map eI v192))] ⟨q2 ((.ptr 0 0) :: q1 ((.v (.sl .nil (List.map eI []))) :: (appD 6 (List.map eI y174.1)) :: q2 ((AG.d ag193 7 (List.map eI v192)) :: (dI v194) :: q40 (q26 ((appD 6 (List.map eI y174.1)) :: (dI v194) :: (.vptr [(vI v204)]) :: q20 []))))), [(.cells [(dP eI a0.fFrom), (dP eI a0.fTo), (dP eI a0.fLeft), (dP eI a0.fRight)]), .dead, .dead, .dead, .dead, .dead, (appO 1 (List.map eI y174.1)), (AG.o ag193 1 (List.map eI v192))]⟩ (by kernel_rfl) (ix_a _ 23 3 1 6 eI y174.1 v194 v204 ev204 (by kernel_rfl) (by kernel_rfl) (fun _ => rfl)) (by kernel_rfl) ?_
          refine Ops.seg 2 5 (by kernel_rfl) ⟨q2 ((.ptr 0 0) :: q1 ((.v (.sl .nil (List.map eI []))) :: (appD 6 (List.map eI y174.1)) :: q2 ((AG.d ag193 7 (List.map eI v192)) :: (dI v194) :: (dI v204) :: q40 (q25 ((appD 6 (List.map eI y174.1)) :: (dI v194) :: (.vptr [(vI v204)]) :: (dI v204) :: q19 []))))), [(.cells [(dP eI a0.fFrom), (dP eI a0.fTo), (dP eI a0.fLeft), (dP eI a0.fRight)]), .dead, .dead, .dead, .dead, .dead, (appO 1 (List.map eI y174.1)), (AG.o ag193 1 (List.map eI v192))]⟩ (by kernel_rfl) ?_
          refine Ops.done (by kernel_rfl) ?_
          refine seqQ.n ?_
          refine Wp.seq (subc [1, 1, 1, 1, 0, 1, 0, 0, 1, 0, 0, 1, 0] C28) (subc [1, 1, 1, 1, 0, 1, 0, 0, 1, 0, 0, 1, 1] C28) (by kernel_rfl) ?_
          refine Wp.region (by kernel_rfl) ?_
          refine Ops.seg 5 5 (by kernel_rfl) ⟨q2 ((.ptr 0 0) :: q1 ((.v (.sl .nil (List.map eI []))) :: (appD 6 (List.map eI y174.1)) :: q2 ((AG.d ag193 7 (List.map eI v192)) :: (dI v194) :: (dI v204) :: q40 (q25 ((appD 6 (List.map eI y174.1)) :: (dI v194) :: (.vptr [(vI v204)]) :: (dI v204) :: (.v (.sl .nonfull (List.map eI []))) :: (AG.d ag193 7 (List.map eI v192)) :: (dI v204) :: (.ptr 0 0) :: (dP eI a0.fFrom) :: q14 []))))), [(.cells [(dP eI a0.fFrom), (dP eI a0.fTo), (dP eI a0.fLeft), (dP eI a0.fRight)]), .dead, .dead, .dead, .dead, .dead, (appO 1 (List.map eI y174.1)), (AG.o ag193 1 (List.map eI v192))]⟩ (by kernel_rfl) ?_
          refine Ops.one 6 (by kernel_rfl) ((lenD (X28 n).E.T 23 (D.unt (dP eI a0.fFrom))).map (·, [(.cells [(dP eI a0.fFrom), (dP eI a0.fTo), (dP eI a0.fLeft), (dP eI a0.fRight)]), .dead, .dead, .dead, .dead, .dead, (appO 1 (List.map eI y174.1)), (AG.o ag193 1 (List.map eI v192))])) (dI ((a0.fFrom.length : Int))) [(.cells [(dP eI a0.fFrom), (dP eI a0.fTo), (dP eI a0.fLeft), (dP eI a0.fRight)]), .dead, .dead, .dead, .dead, .dead, (appO 1 (List.map eI y174.1)), (AG.o ag193 1 (List.map eI v192))] ⟨q2 ((.ptr 0 0) :: q1 ((.v (.sl .nil (List.map eI []))) :: (appD 6 (List.map eI y174.1)) :: q2 ((AG.d ag193 7 (List.map eI v192)) :: (dI v194) :: (dI v204) :: q40 (q25 ((appD 6 (List.map eI y174.1)) :: (dI v194) :: (.vptr [(vI v204)]) :: (dI v204) :: (.v (.sl .nonfull (List.map eI []))) :: (AG.d ag193 7 (List.map eI v192)) :: (dI v204) :: (.ptr 0 0) :: (dP eI a0.fFrom) :: (dI ((a0.fFrom.length : Int))) :: q13 []))))), [(.cells [(dP eI a0.fFrom), (dP eI a0.fTo), (dP eI a0.fLeft), (dP eI a0.fRight)]), .dead, .dead, .dead, .dead, .dead, (appO 1 (List.map eI y174.1)), (AG.o ag193 1 (List.map eI v192))]⟩ (by kernel_rfl) (len_r _ 23 3 .plain eI a0.fFrom (by kernel_rfl)) (by kernel_rfl) ?_
          refine Ops.seg 1 7 (by kernel_rfl) ⟨q2 ((.ptr 0 0) :: q1 ((.v (.sl .nil (List.map eI []))) :: (appD 6 (List.map eI y174.1)) :: q2 ((AG.d ag193 7 (List.map eI v192)) :: (dI v194) :: (dI v204) :: q40 (q25 ((appD 6 (List.map eI y174.1)) :: (dI v194) :: (.vptr [(vI v204)]) :: (dI v204) :: (.v (.sl .nonfull (List.map eI []))) :: (AG.d ag193 7 (List.map eI v192)) :: (dI v204) :: (.ptr 0 0) :: (dP eI a0.fFrom) :: (dI ((a0.fFrom.length : Int))) :: (dI (w64 (v204 + (a0.fFrom.length : Int)))) :: q12 []))))), [(.cells [(dP eI a0.fFrom), (dP eI a0.fTo), (dP eI a0.fLeft), (dP eI a0.fRight)]), .dead, .dead, .dead, .dead, .dead, (appO 1 (List.map eI y174.1)), (AG.o ag193 1 (List.map eI v192))]⟩ (by kernel_rfl) ?_
          obtain ⟨v205, ev205, h⟩ := bnd_some h
          refine Ops.one 8 (by kernel_rfl) ((sliceD (X28 n).E.T [(.cells [(dP eI a0.fFrom), (dP eI a0.fTo), (dP eI a0.fLeft), (dP eI a0.fRight)]), .dead, .dead, .dead, .dead, .dead, (appO 1 (List.map eI y174.1)), (AG.o ag193 1 (List.map eI v192))] 23 (D.unt (AG.d ag193 7 (List.map eI v192))) (some ((dI (w64 (v204 + (a0.fFrom.length : Int)))))) none none).map (·, [(.cells [(dP eI a0.fFrom), (dP eI a0.fTo), (dP eI a0.fLeft), (dP eI a0.fRight)]), .dead, .dead, .dead, .dead, .dead, (appO 1 (List.map eI y174.1)), (AG.o ag193 1 (List.map eI v192))])) (.v (.sl (sfl (dfl (AG.d ag193 7 (List.map eI v192))) v192.length none) (List.map eI v205))) [(.cells [(dP eI a0.fFrom), (dP eI a0.fTo), (dP eI a0.fLeft), (dP eI a0.fRight)]), .dead, .dead, .dead, .dead, .dead, (appO 1 (List.map eI y174.1)), (AG.o ag193 1 (List.map eI v192))] ⟨q2 ((.ptr 0 0) :: q1 ((.v (.sl .nil (List.map eI []))) :: (appD 6 (List.map eI y174.1)) :: q2 ((AG.d ag193 7 (List.map eI v192)) :: (dI v194) :: (dI v204) :: q40 (q25 ((appD 6 (List.map eI y174.1)) :: (dI v194) :: (.vptr [(vI v204)]) :: (dI v204) :: (.v (.sl .nonfull (List.map eI []))) :: (AG.d ag193 7 (List.map eI v192)) :: (dI v204) :: (.ptr 0 0) :: (dP eI a0.fFrom) :: (dI ((a0.fFrom.length : Int))) :: (dI (w64 (v204 + (a0.fFrom.length : Int)))) :: (.v (.sl (sfl (dfl (AG.d ag193 7 (List.map eI v192))) v192.length none) (List.map eI v205))) :: q11 []))))), [(.cells [(dP eI a0.fFrom), (dP eI a0.fTo), (dP eI a0.fLeft), (dP eI a0.fRight)]), .dead, .dead, .dead, .dead, .dead, (appO 1 (List.map eI y174.1)), (AG.o ag193 1 (List.map eI v192))]⟩ (by kernel_rfl) (sub_x _ 23 3 1 (AG.d ag193 7 (List.map eI v192)) eI v192 v205 (some (w64 (v204 + (a0.fFrom.length : Int)))) none (AG.hd _ _ _) ev205 (by kernel_rfl) (by kernel_rfl) (fun _ => rfl)) (by kernel_rfl) ?_
          obtain ⟨v206, ev206, h⟩ := bnd_some h
          refine Ops.one 9 (by kernel_rfl) (appendD (X28 n).E.T false 23 [(.cells [(dP eI a0.fFrom), (dP eI a0.fTo), (dP eI a0.fLeft), (dP eI a0.fRight)]), .dead, .dead, .dead, .dead, .dead, (appO 1 (List.map eI y174.1)), (AG.o ag193 1 (List.map eI v192))] (.v (.sl .nonfull (List.map eI []))) (.v (.sl (sfl (dfl (AG.d ag193 7 (List.map eI v192))) v192.length none) (List.map eI v205)))) (appF .nonfull 8 (List.map eI v206)) [(.cells [(dP eI a0.fFrom), (dP eI a0.fTo), (dP eI a0.fLeft), (dP eI a0.fRight)]), .dead, .dead, .dead, .dead, .dead, (appO 1 (List.map eI y174.1)), (AG.o ag193 1 (List.map eI v192)), (appO 1 (List.map eI v206))] ⟨q2 ((.ptr 0 0) :: q1 ((.v (.sl .nil (List.map eI []))) :: (appD 6 (List.map eI y174.1)) :: q2 ((AG.d ag193 7 (List.map eI v192)) :: (dI v194) :: (dI v204) :: q40 (q25 ((appD 6 (List.map eI y174.1)) :: (dI v194) :: (.vptr [(vI v204)]) :: (dI v204) :: (.v (.sl .nonfull (List.map eI []))) :: (AG.d ag193 7 (List.map eI v192)) :: (dI v204) :: (.ptr 0 0) :: (dP eI a0.fFrom) :: (dI ((a0.fFrom.length : Int))) :: (dI (w64 (v204 + (a0.fFrom.length : Int)))) :: (.v (.sl (sfl (dfl (AG.d ag193 7 (List.map eI v192))) v192.length none) (List.map eI v205))) :: (appF .nonfull 8 (List.map eI v206)) :: q10 []))))), [(.cells [(dP eI a0.fFrom), (dP eI a0.fTo), (dP eI a0.fLeft), (dP eI a0.fRight)]), .dead, .dead, .dead, .dead, .dead, (appO 1 (List.map eI y174.1)), (AG.o ag193 1 (List.map eI v192)), (appO 1 (List.map eI v206))]⟩ (by kernel_rfl) (app_n _ 23 3 1 ti3 (sfl (dfl (AG.d ag193 7 (List.map eI v192))) v192.length none) eI v205 v206 ev206 (by kernel_rfl) (by kernel_rfl) (by kernel_rfl) (by kernel_rfl) (fun _ => rfl)) (by kernel_rfl) ?_
          refine Ops.seg 1 10 (by kernel_rfl) ⟨q2 ((.ptr 0 0) :: q1 ((.v (.sl .nil (List.map eI []))) :: (appD 6 (List.map eI y174.1)) :: q2 ((AG.d ag193 7 (List.map eI v192)) :: (dI v194) :: (dI v204) :: (appF .nonfull 8 (List.map eI v206)) :: q40 (q24 ((appD 6 (List.map eI y174.1)) :: (dI v194) :: (.vptr [(vI v204)]) :: (dI v204) :: (.v (.sl .nonfull (List.map eI []))) :: (AG.d ag193 7 (List.map eI v192)) :: (dI v204) :: (.ptr 0 0) :: (dP eI a0.fFrom) :: (dI ((a0.fFrom.length : Int))) :: (dI (w64 (v204 + (a0.fFrom.length : Int)))) :: (.v (.sl (sfl (dfl (AG.d ag193 7 (List.map eI v192))) v192.length none) (List.map eI v205))) :: (appF .nonfull 8 (List.map eI v206)) :: q10 []))))), [(.cells [(dP eI a0.fFrom), (dP eI a0.fTo), (dP eI a0.fLeft), (dP eI a0.fRight)]), .dead, .dead, .dead, .dead, .dead, (appO 1 (List.map eI y174.1)), (AG.o ag193 1 (List.map eI v192)), (appO 1 (List.map eI v206))]⟩ (by kernel_rfl) ?_
          refine Ops.done (by kernel_rfl) ?_
          refine seqQ.n ?_
          refine Wp.region (by kernel_rfl) ?_
          refine Ops.seg 3 3 (by kernel_rfl) ⟨q2 ((.ptr 0 0) :: q1 ((.v (.sl .nil (List.map eI []))) :: (appD 6 (List.map eI y174.1)) :: q2 ((AG.d ag193 7 (List.map eI v192)) :: (dI v194) :: (dI v204) :: (appF .nonfull 8 (List.map eI v206)) :: q40 (q24 ((appD 6 (List.map eI y174.1)) :: (dI v194) :: (.vptr [(vI v204)]) :: (dI v204) :: (.v (.sl .nonfull (List.map eI []))) :: (AG.d ag193 7 (List.map eI v192)) :: (dI v204) :: (.ptr 0 0) :: (dP eI a0.fFrom) :: (dI ((a0.fFrom.length : Int))) :: (dI (w64 (v204 + (a0.fFrom.length : Int)))) :: (.v (.sl (sfl (dfl (AG.d ag193 7 (List.map eI v192))) v192.length none) (List.map eI v205))) :: (appF .nonfull 8 (List.map eI v206)) :: (AG.d ag193 7 (List.map eI v192)) :: (dI v204) :: (dI v204) :: q7 []))))), [(.cells [(dP eI a0.fFrom), (dP eI a0.fTo), (dP eI a0.fLeft), (dP eI a0.fRight)]), .dead, .dead, .dead, .dead, .dead, (appO 1 (List.map eI y174.1)), (AG.o ag193 1 (List.map eI v192)), (appO 1 (List.map eI v206))]⟩ (by kernel_rfl) ?_
          obtain ⟨v207, ev207, h⟩ := bnd_some h
          refine Ops.one 4 (by kernel_rfl) ((sliceD (X28 n).E.T [(.cells [(dP eI a0.fFrom), (dP eI a0.fTo), (dP eI a0.fLeft), (dP eI a0.fRight)]), .dead, .dead, .dead, .dead, .dead, (appO 1 (List.map eI y174.1)), (AG.o ag193 1 (List.map eI v192)), (appO 1 (List.map eI v206))] 23 (D.unt (AG.d ag193 7 (List.map eI v192))) none (some ((dI v204))) (some ((dI v204)))).map (·, [(.cells [(dP eI a0.fFrom), (dP eI a0.fTo), (dP eI a0.fLeft), (dP eI a0.fRight)]), .dead, .dead, .dead, .dead, .dead, (appO 1 (List.map eI y174.1)), (AG.o ag193 1 (List.map eI v192)), (appO 1 (List.map eI v206))])) (.v (.sl .full (List.map eI v207))) [(.cells [(dP eI a0.fFrom), (dP eI a0.fTo), (dP eI a0.fLeft), (dP eI a0.fRight)]), .dead, .dead, .dead, .dead, .dead, (appO 1 (List.map eI y174.1)), (AG.o ag193 1 (List.map eI v192)), (appO 1 (List.map eI v206))] ⟨q2 ((.ptr 0 0) :: q1 ((.v (.sl .nil (List.map eI []))) :: (appD 6 (List.map eI y174.1)) :: q2 ((AG.d ag193 7 (List.map eI v192)) :: (dI v194) :: (dI v204) :: (appF .nonfull 8 (List.map eI v206)) :: q40 (q24 ((appD 6 (List.map eI y174.1)) :: (dI v194) :: (.vptr [(vI v204)]) :: (dI v204) :: (.v (.sl .nonfull (List.map eI []))) :: (AG.d ag193 7 (List.map eI v192)) :: (dI v204) :: (.ptr 0 0) :: (dP eI a0.fFrom) :: (dI ((a0.fFrom.length : Int))) :: (dI (w64 (v204 + (a0.fFrom.length : Int)))) :: (.v (.sl (sfl (dfl (AG.d ag193 7 (List.map eI v192))) v192.length none) (List.map eI v205))) :: (appF .nonfull 8 (List.map eI v206)) :: (AG.d ag193 7 (List.map eI v192)) :: (dI v204) :: (dI v204) :: (.v (.sl .full (List.map eI v207))) :: q6 []))))), [(.cells [(dP eI a0.fFrom), (dP eI a0.fTo), (dP eI a0.fLeft), (dP eI a0.fRight)]), .dead, .dead, .dead, .dead, .dead, (appO 1 (List.map eI y174.1)), (AG.o ag193 1 (List.map eI v192)), (appO 1 (List.map eI v206))]⟩ (by kernel_rfl) (sub_m _ 23 3 1 (AG.d ag193 7 (List.map eI v192)) eI v192 v207 none v204 (AG.hd _ _ _) ev207 (by kernel_rfl) (by kernel_rfl) (fun _ => rfl)) (by kernel_rfl) ?_
          refine Ops.seg 2 6 (by kernel_rfl) ⟨q2 ((.ptr 0 0) :: q1 ((.v (.sl .nil (List.map eI []))) :: (appD 6 (List.map eI y174.1)) :: q2 ((AG.d ag193 7 (List.map eI v192)) :: (dI v194) :: (dI v204) :: (appF .nonfull 8 (List.map eI v206)) :: q40 (q24 ((appD 6 (List.map eI y174.1)) :: (dI v194) :: (.vptr [(vI v204)]) :: (dI v204) :: (.v (.sl .nonfull (List.map eI []))) :: (AG.d ag193 7 (List.map eI v192)) :: (dI v204) :: (.ptr 0 0) :: (dP eI a0.fFrom) :: (dI ((a0.fFrom.length : Int))) :: (dI (w64 (v204 + (a0.fFrom.length : Int)))) :: (.v (.sl (sfl (dfl (AG.d ag193 7 (List.map eI v192))) v192.length none) (List.map eI v205))) :: (appF .nonfull 8 (List.map eI v206)) :: (AG.d ag193 7 (List.map eI v192)) :: (dI v204) :: (dI v204) :: (.v (.sl .full (List.map eI v207))) :: (.ptr 0 1) :: (dP eI a0.fTo) :: q4 []))))), [(.cells [(dP eI a0.fFrom), (dP eI a0.fTo), (dP eI a0.fLeft), (dP eI a0.fRight)]), .dead, .dead, .dead, .dead, .dead, (appO 1 (List.map eI y174.1)), (AG.o ag193 1 (List.map eI v192)), (appO 1 (List.map eI v206))]⟩ (by kernel_rfl) ?_
          obtain ⟨v208, ev208, h⟩ := bnd_some h
          refine Ops.one 7 (by kernel_rfl) (appendD (X28 n).E.T false 23 [(.cells [(dP eI a0.fFrom), (dP eI a0.fTo), (dP eI a0.fLeft), (dP eI a0.fRight)]), .dead, .dead, .dead, .dead, .dead, (appO 1 (List.map eI y174.1)), (AG.o ag193 1 (List.map eI v192)), (appO 1 (List.map eI v206))] (.v (.sl .full (List.map eI v207))) (dP eI a0.fTo)) (AG.d ((AG.app (.fl .full) (List.map eI a0.fTo))) 9 (List.map eI v208)) [(.cells [(dP eI a0.fFrom), (dP eI a0.fTo), (dP eI a0.fLeft), (dP eI a0.fRight)]), .dead, .dead, .dead, .dead, .dead, (appO 1 (List.map eI y174.1)), (AG.o ag193 1 (List.map eI v192)), (appO 1 (List.map eI v206)), (AG.o ((AG.app (.fl .full) (List.map eI a0.fTo))) 1 (List.map eI v208))] ⟨q2 ((.ptr 0 0) :: q1 ((.v (.sl .nil (List.map eI []))) :: (appD 6 (List.map eI y174.1)) :: q2 ((AG.d ag193 7 (List.map eI v192)) :: (dI v194) :: (dI v204) :: (appF .nonfull 8 (List.map eI v206)) :: q40 (q24 ((appD 6 (List.map eI y174.1)) :: (dI v194) :: (.vptr [(vI v204)]) :: (dI v204) :: (.v (.sl .nonfull (List.map eI []))) :: (AG.d ag193 7 (List.map eI v192)) :: (dI v204) :: (.ptr 0 0) :: (dP eI a0.fFrom) :: (dI ((a0.fFrom.length : Int))) :: (dI (w64 (v204 + (a0.fFrom.length : Int)))) :: (.v (.sl (sfl (dfl (AG.d ag193 7 (List.map eI v192))) v192.length none) (List.map eI v205))) :: (appF .nonfull 8 (List.map eI v206)) :: (AG.d ag193 7 (List.map eI v192)) :: (dI v204) :: (dI v204) :: (.v (.sl .full (List.map eI v207))) :: (.ptr 0 1) :: (dP eI a0.fTo) :: (AG.d ((AG.app (.fl .full) (List.map eI a0.fTo))) 9 (List.map eI v208)) :: q3 []))))), [(.cells [(dP eI a0.fFrom), (dP eI a0.fTo), (dP eI a0.fLeft), (dP eI a0.fRight)]), .dead, .dead, .dead, .dead, .dead, (appO 1 (List.map eI y174.1)), (AG.o ag193 1 (List.map eI v192)), (appO 1 (List.map eI v206)), (AG.o ((AG.app (.fl .full) (List.map eI a0.fTo))) 1 (List.map eI v208))]⟩ (by kernel_rfl) (app_f _ 23 3 1 ti3 .plain eI v207 a0.fTo v208 ev208 (by kernel_rfl) (by kernel_rfl) (by kernel_rfl) (by kernel_rfl) (fun _ => rfl)) (by kernel_rfl) ?_
          refine Ops.seg 1 8 (by kernel_rfl) ⟨q2 ((.ptr 0 0) :: q1 ((.v (.sl .nil (List.map eI []))) :: (appD 6 (List.map eI y174.1)) :: q2 ((AG.d ag193 7 (List.map eI v192)) :: (dI v194) :: (dI v204) :: (appF .nonfull 8 (List.map eI v206)) :: q40 (q24 ((appD 6 (List.map eI y174.1)) :: (dI v194) :: (.vptr [(vI v204)]) :: (dI v204) :: (.v (.sl .nonfull (List.map eI []))) :: (AG.d ag193 7 (List.map eI v192)) :: (dI v204) :: (.ptr 0 0) :: (dP eI a0.fFrom) :: (dI ((a0.fFrom.length : Int))) :: (dI (w64 (v204 + (a0.fFrom.length : Int)))) :: (.v (.sl (sfl (dfl (AG.d ag193 7 (List.map eI v192))) v192.length none) (List.map eI v205))) :: (appF .nonfull 8 (List.map eI v206)) :: (AG.d ag193 7 (List.map eI v192)) :: (dI v204) :: (dI v204) :: (.v (.sl .full (List.map eI v207))) :: (.ptr 0 1) :: (dP eI a0.fTo) :: (AG.d ((AG.app (.fl .full) (List.map eI a0.fTo))) 9 (List.map eI v208)) :: (appF .nonfull 8 (List.map eI v206)) :: q2 []))))), [(.cells [(dP eI a0.fFrom), (dP eI a0.fTo), (dP eI a0.fLeft), (dP eI a0.fRight)]), .dead, .dead, .dead, .dead, .dead, (appO 1 (List.map eI y174.1)), (AG.o ag193 1 (List.map eI v192)), (appO 1 (List.map eI v206)), (AG.o ((AG.app (.fl .full) (List.map eI a0.fTo))) 1 (List.map eI v208))]⟩ (by kernel_rfl) ?_
          obtain ⟨v209, ev209, h⟩ := bnd_some h
          refine Ops.one 9 (by kernel_rfl) (appendD (X28 n).E.T false 23 [(.cells [(dP eI a0.fFrom), (dP eI a0.fTo), (dP eI a0.fLeft), (dP eI a0.fRight)]), .dead, .dead, .dead, .dead, .dead, (appO 1 (List.map eI y174.1)), (AG.o ag193 1 (List.map eI v192)), (appO 1 (List.map eI v206)), (AG.o ((AG.app (.fl .full) (List.map eI a0.fTo))) 1 (List.map eI v208))] (AG.d ((AG.app (.fl .full) (List.map eI a0.fTo))) 9 (List.map eI v208)) (appF .nonfull 8 (List.map eI v206))) (AG.d ((AG.app ((AG.app (.fl .full) (List.map eI a0.fTo))) (List.map eI v206))) 10 (List.map eI v209)) [(.cells [(dP eI a0.fFrom), (dP eI a0.fTo), (dP eI a0.fLeft), (dP eI a0.fRight)]), .dead, .dead, .dead, .dead, .dead, (appO 1 (List.map eI y174.1)), (AG.o ag193 1 (List.map eI v192)), (appO 1 (List.map eI v206)), .dead, (AG.o ((AG.app ((AG.app (.fl .full) (List.map eI a0.fTo))) (List.map eI v206))) 1 (List.map eI v209))] ⟨q2 ((.ptr 0 0) :: q1 ((.v (.sl .nil (List.map eI []))) :: (appD 6 (List.map eI y174.1)) :: q2 ((AG.d ag193 7 (List.map eI v192)) :: (dI v194) :: (dI v204) :: (appF .nonfull 8 (List.map eI v206)) :: q40 (q24 ((appD 6 (List.map eI y174.1)) :: (dI v194) :: (.vptr [(vI v204)]) :: (dI v204) :: (.v (.sl .nonfull (List.map eI []))) :: (AG.d ag193 7 (List.map eI v192)) :: (dI v204) :: (.ptr 0 0) :: (dP eI a0.fFrom) :: (dI ((a0.fFrom.length : Int))) :: (dI (w64 (v204 + (a0.fFrom.length : Int)))) :: (.v (.sl (sfl (dfl (AG.d ag193 7 (List.map eI v192))) v192.length none) (List.map eI v205))) :: (appF .nonfull 8 (List.map eI v206)) :: (AG.d ag193 7 (List.map eI v192)) :: (dI v204) :: (dI v204) :: (.v (.sl .full (List.map eI v207))) :: (.ptr 0 1) :: (dP eI a0.fTo) :: (AG.d ((AG.app (.fl .full) (List.map eI a0.fTo))) 9 (List.map eI v208)) :: (appF .nonfull 8 (List.map eI v206)) :: (AG.d ((AG.app ((AG.app (.fl .full) (List.map eI a0.fTo))) (List.map eI v206))) 10 (List.map eI v209)) :: q1 []))))), [(.cells [(dP eI a0.fFrom), (dP eI a0.fTo), (dP eI a0.fLeft), (dP eI a0.fRight)]), .dead, .dead, .dead, .dead, .dead, (appO 1 (List.map eI y174.1)), (AG.o ag193 1 (List.map eI v192)), (appO 1 (List.map eI v206)), .dead, (AG.o ((AG.app ((AG.app (.fl .full) (List.map eI a0.fTo))) (List.map eI v206))) 1 (List.map eI v209))]⟩ (by kernel_rfl) (app_u (appF_hd _ _ _) (app_g _ 23 3 9 1 ti3 ((AG.app (.fl .full) (List.map eI a0.fTo))) (dfl (appF .nonfull 8 (List.map eI v206))) eI v208 v206 v209 ev209 (by kernel_rfl) (by kernel_rfl) (by kernel_rfl) (by kernel_rfl) (fun _ => rfl) (by kernel_rfl))) (by kernel_rfl) ?_
          refine Ops.seg 1 10 (by kernel_rfl) ⟨q2 ((.ptr 0 0) :: q1 ((.v (.sl .nil (List.map eI []))) :: (appD 6 (List.map eI y174.1)) :: q2 ((AG.d ((AG.app ((AG.app (.fl .full) (List.map eI a0.fTo))) (List.map eI v206))) 10 (List.map eI v209)) :: (dI v194) :: (dI v204) :: (appF .nonfull 8 (List.map eI v206)) :: q40 (q24 ((appD 6 (List.map eI y174.1)) :: (dI v194) :: (.vptr [(vI v204)]) :: (dI v204) :: (.v (.sl .nonfull (List.map eI []))) :: (AG.d ag193 7 (List.map eI v192)) :: (dI v204) :: (.ptr 0 0) :: (dP eI a0.fFrom) :: (dI ((a0.fFrom.length : Int))) :: (dI (w64 (v204 + (a0.fFrom.length : Int)))) :: (.v (.sl (sfl (dfl (AG.d ag193 7 (List.map eI v192))) v192.length none) (List.map eI v205))) :: (appF .nonfull 8 (List.map eI v206)) :: (AG.d ag193 7 (List.map eI v192)) :: (dI v204) :: (dI v204) :: (.v (.sl .full (List.map eI v207))) :: (.ptr 0 1) :: (dP eI a0.fTo) :: (AG.d ((AG.app (.fl .full) (List.map eI a0.fTo))) 9 (List.map eI v208)) :: (appF .nonfull 8 (List.map eI v206)) :: (AG.d ((AG.app ((AG.app (.fl .full) (List.map eI a0.fTo))) (List.map eI v206))) 10 (List.map eI v209)) :: q1 []))))), [(.cells [(dP eI a0.fFrom), (dP eI a0.fTo), (dP eI a0.fLeft), (dP eI a0.fRight)]), .dead, .dead, .dead, .dead, .dead, (appO 1 (List.map eI y174.1)), (AG.o ag193 1 (List.map eI v192)), (appO 1 (List.map eI v206)), .dead, (AG.o ((AG.app ((AG.app (.fl .full) (List.map eI a0.fTo))) (List.map eI v206))) 1 (List.map eI v209))]⟩ (by kernel_rfl) ?_
          refine Ops.done (by kernel_rfl) ?_
          refine blkQ.n ⟨q2 ((.ptr 0 0) :: q1 ((.v (.sl .nil (List.map eI []))) :: (appD 8 (List.map eI y174.1)) :: q2 ((AG.d ((AG.app ((AG.app (.fl .full) (List.map eI a0.fTo))) (List.map eI v206))) 9 (List.map eI v209)) :: (dI v194) :: q40 (q40 (q9 []))))), [(.cells [(dP eI a0.fFrom), (dP eI a0.fTo), (dP eI a0.fLeft), (dP eI a0.fRight)]), .dead, .dead, .dead, .dead, .dead, .dead, (AG.o ag193 1 (List.map eI v192)), (appO 1 (List.map eI y174.1)), (AG.o ((AG.app ((AG.app (.fl .full) (List.map eI a0.fTo))) (List.map eI v206))) 1 (List.map eI v209))]⟩ (by generalize (AG.app ((AG.app (.fl .full) (List.map eI a0.fTo))) (List.map eI v206)) = g0; generalize y174.1 = z0; cases g0 <;> cases ag193 <;> cases z0 <;> kernel_rfl) ?_
          refine seqQ.n ?_
          refine Wp.region (by kernel_rfl) ?_
          refine Ops.seg 3 3 (by kernel_rfl) ⟨q2 ((.ptr 0 0) :: q1 ((.v (.sl .nil (List.map eI []))) :: (appD 8 (List.map eI y174.1)) :: q2 ((AG.d ((AG.app ((AG.app (.fl .full) (List.map eI a0.fTo))) (List.map eI v206))) 9 (List.map eI v209)) :: (dI (w64 (v194 - 1))) :: q40 (q24 ((dI v194) :: (dI (w64 (v194 - 1))) :: q23 []))))), [(.cells [(dP eI a0.fFrom), (dP eI a0.fTo), (dP eI a0.fLeft), (dP eI a0.fRight)]), .dead, .dead, .dead, .dead, .dead, .dead, (AG.o ag193 1 (List.map eI v192)), (appO 1 (List.map eI y174.1)), (AG.o ((AG.app ((AG.app (.fl .full) (List.map eI a0.fTo))) (List.map eI v206))) 1 (List.map eI v209))]⟩ (by kernel_rfl) ?_
          refine Ops.done (by kernel_rfl) ?_
          refine lpQ.n ⟨q2 ((.ptr 0 0) :: q1 ((.v (.sl .nil (List.map eI []))) :: (appD 4 (List.map eI y174.1)) :: q2 ((AG.d ((AG.app ((AG.app (.fl .full) (List.map eI a0.fTo))) (List.map eI v206))) 5 (List.map eI v209)) :: (dI (w64 (v194 - 1))) :: q40 (q40 (q9 []))))), [(.cells [(dP eI a0.fFrom), (dP eI a0.fTo), (dP eI a0.fLeft), (dP eI a0.fRight)]), .dead, .dead, .dead, (appO 1 (List.map eI y174.1)), (AG.o ((AG.app ((AG.app (.fl .full) (List.map eI a0.fTo))) (List.map eI v206))) 1 (List.map eI v209))]⟩ (by generalize (AG.app ((AG.app (.fl .full) (List.map eI a0.fTo))) (List.map eI v206)) = g0; generalize y174.1 = z0; cases g0 <;> cases z0 <;> kernel_rfl) ?_
          cases h
          exact ihx198 v209 (w64 (v194 - 1)) _ _ hsx203 _ (by omega) hrx199 hxx200
        · refine Wp.cond (decide (v194 ≥ 0)) [2, 4, 5, 8, 9] (by kernel_rfl) 6 (by kernel_rfl) (subc [1, 1, 1, 1, 0, 1, 0, 0, 0, 1, 0] C28) (subc [1, 1, 1, 1, 0, 1, 0, 0, 0, 1, 1] C28) (by kernel_rfl) (by kernel_rfl) (fun e => nomatch (hb.symm.trans e)) (fun _ => ?_)
          refine Wp.exit (id := 2) (by kernel_rfl) ?_
          refine sqQ.x ?_
          refine seqQ.x ?_
          cases h
          refine lpQ.x ?_
          refine blkQ.x ⟨q4 ((.v (.sl .nil (List.map eI []))) :: q3 ((AG.d ag193 5 (List.map eI v192)) :: q40 (q40 (q10 [])))), [(.cells [(dP eI a0.fFrom), (dP eI a0.fTo), (dP eI a0.fLeft), (dP eI a0.fRight)]), .dead, .dead, .dead, (appO 1 (List.map eI y174.1)), (AG.o ag193 1 (List.map eI v192))]⟩ (by generalize y174.1 = z0; cases ag193 <;> cases z0 <;> kernel_rfl) ?_
          exact hxx200 (v192, v194) _ hsx203
    refine Wp.loop [2, 4, 5, 8, 9] 4 (by kernel_rfl) (subc [1, 1, 1, 1, 0, 1, 0, 0] C28) (by kernel_rfl) (by kernel_rfl) ⟨q2 ((.ptr 0 0) :: q1 ((.v (.sl .nil (List.map eI []))) :: (appD 4 (List.map eI y174.1)) :: q2 ((AG.d ((AG.of .nonfull (List.map eI v176))) 5 (List.map eI v176)) :: (dI (w64 ((y174.1.length : Int) - 1))) :: q40 (q40 (q9 []))))), [(.cells [(dP eI a0.fFrom), (dP eI a0.fTo), (dP eI a0.fLeft), (dP eI a0.fRight)]), .dead, .dead, .dead, (appO 1 (List.map eI y174.1)), (AG.o ((AG.of .nonfull (List.map eI v176))) 1 (List.map eI v176))]⟩ (by generalize y174.1 = z0; generalize v176 = z1; cases z0 <;> cases z1 <;> kernel_rfl) ?_
    rcases brk_some h with ⟨r212, er212, h⟩ | ⟨y211, ey211, h⟩
    · refine hLx210 _ v176 (w64 ((y174.1.length : Int) - 1)) _ _ er212 n (by omega) (fun r er σ hσ => ?_) (fun y ag193 ey => by cases ey)
      cases er
      refine seqQ.r ?_
      exact fnQ.r' (X28 n) (fun z => ((eL eI) z)) h hσ
    · refine hLx210 _ v176 (w64 ((y174.1.length : Int) - 1)) _ _ ey211 n (by omega) (fun r er => by cases er) (fun y ag193 ey => ?_)
      cases ey
      refine seqQ.n ?_
      refine Wp.seq (subc [1, 1, 1, 1, 1, 0] C28) (subc [1, 1, 1, 1, 1, 1] C28) (by kernel_rfl) ?_
      refine Wp.region (by kernel_rfl) ?_
      refine Ops.seg 2 2 (by kernel_rfl) ⟨q4 ((AG.d ag193 5 (List.map eI y211.1)) :: q3 ((AG.d ag193 5 (List.map eI y211.1)) :: q40 (q40 (q9 ((AG.d ag193 5 (List.map eI y211.1)) :: []))))), [(.cells [(dP eI a0.fFrom), (dP eI a0.fTo), (dP eI a0.fLeft), (dP eI a0.fRight)]), .dead, .dead, .dead, (appO 1 (List.map eI y174.1)), (AG.o ag193 1 (List.map eI y211.1))]⟩ (by kernel_rfl) ?_
      refine Ops.done (by kernel_rfl) ?_
      refine seqQ.n ?_
      refine Wp.ret (by kernel_rfl) ?_
      exact fnQ.r' (X28 n) (fun z => ((eL eI) z)) h (RetOk.mk' (AG.d ag193 5 (List.map eI y211.1)) (by kernel_rfl) (AG.frz _ _ _ _ _))

/-! ### 13 glosswright/glosswrightref6.Rewritten -/
def f13_B1 (m : Nat) (a0 : (List S28)) (v13 : (List Int)) (v15 : Int) : Option (Stp (((List Int) × S25)) ((List Int) × Int)) :=
  cnd (decide (v15 < (a0.length : Int)))
  (bnd (idx a0 v15) fun v25 =>
  bnd (f28 m v25 v13) fun v26 =>
  cnd (decide ((v26.length : Int) > 300))
  (bnd (f29 m 17 v15) fun v27 =>
  some (.ret (([], v27))))
  (some (.nxt (v26, w64 (v15 + 1)))))
  (some (.brk (v13, v15)))
def f13 (m : Nat) (a0 : (List S28)) (a1 : (List Int)) : Option ((List Int) × S25) :=
  bnd (f15 m a0) fun v1 =>
  cnd (!((v1.fCode == 0) && ((v1.fIndex == 0) && true)))
  (some (([], v1)))
  (bnd (f27 m a1 ((-2))) fun v2 =>
  cnd (!((v2.fCode == 0) && ((v2.fIndex == 0) && true)))
  (some (([], v2)))
  (bnd (app 8 [] a1) fun v3 =>
  brk (iter (fun (y : (List Int) × Int) => f13_B1 m a0 y.1 y.2) m (v3, 0)) some fun y29 =>
  some ((y29.1, (⟨0, 0⟩ : S25)))))
noncomputable abbrev X13 (n : Nat) : Cx := cxOf Proofs.Try.prog E 13 n
noncomputable def C13 : Code := bodyOf Proofs.Try.prog 13
theorem ok13 (m : Nat) (a0 : (List S28)) (a1 : (List Int)) (o : ((List Int) × S25)) (h : f13 m a0 a1 = some o) (n : Nat) (hn : m + 3 ≤ n) : Fn Proofs.Try.prog E n 13 [(eL e28) a0, (eL eI) a1] (.tuple [(eL eI) o.1, e25 o.2]) := by
  obtain ⟨n, rfl⟩ : ∃ q, n = q + 1 := ⟨n - 1, by omega⟩
  unfold f13 at h
  refine Fn.of (by kernel_rfl) (by kernel_rfl) ⟨(dP e28 a0) :: (dP eI a1) :: u40 (u2 []), []⟩ (by kernel_rfl) ?_
  refine Wp.seq (subc [0] C13) (subc [1] C13) (by kernel_rfl) ?_
  refine Wp.region (by kernel_rfl) ?_
  refine Ops.seg 2 2 (by kernel_rfl) ⟨(dP e28 a0) :: (dP eI a1) :: u2 ((.v (.sl .nil (List.map eI []))) :: (.ptr 0 0) :: u38 []), [(.cells [(dI 0), (dI 0)])]⟩ (by kernel_rfl) ?_
  refine Ops.done (by kernel_rfl) ?_
  refine seqQ.n ?_
  refine Wp.seq (subc [1, 0] C13) (subc [1, 1] C13) (by kernel_rfl) ?_
  refine Wp.seq (subc [1, 0, 0] C13) (subc [1, 0, 1] C13) (by kernel_rfl) ?_
  refine Wp.region (by kernel_rfl) ?_
  refine Ops.seg 1 1 (by kernel_rfl) ⟨(dP e28 a0) :: (dP eI a1) :: u2 ((.v (.sl .nil (List.map eI []))) :: (.ptr 0 0) :: u5 ((dP e28 a0) :: u32 [])), [(.cells [(dI 0), (dI 0)])]⟩ (by kernel_rfl) ?_
  obtain ⟨v1, ev1, h⟩ := bnd_some h
  refine Ops.one 2 (by kernel_rfl) (callD (X13 n).E (run Proofs.Try.prog E n) 15 [(dP e28 a0)] [(.cells [(dI 0), (dI 0)])]) (.v (.agg [(vI v1.fCode), (vI v1.fIndex)])) [(.cells [(dI 0), (dI 0)])] ⟨(dP e28 a0) :: (dP eI a1) :: u2 ((.v (.sl .nil (List.map eI []))) :: (.ptr 0 0) :: u5 ((dP e28 a0) :: (.v (.agg [(vI v1.fCode), (vI v1.fIndex)])) :: u31 [])), [(.cells [(dI 0), (dI 0)])]⟩ (by kernel_rfl) (call_ok (by kernel_rfl) (Args.v (vP e28 a0) ((eL e28) a0) (by kernel_rfl) Args.nil) (ok15 m a0 v1 ev1 n (by omega))) (by kernel_rfl) ?_
  refine Ops.seg 2 4 (by kernel_rfl) ⟨(dP e28 a0) :: (dP eI a1) :: u2 ((.v (.sl .nil (List.map eI []))) :: (.ptr 0 0) :: (.ptr 1 0) :: u4 ((dP e28 a0) :: (.v (.agg [(vI v1.fCode), (vI v1.fIndex)])) :: u31 [])), [(.cells [(dI 0), (dI 0)]), (.cells [(dI v1.fCode), (dI v1.fIndex)])]⟩ (by kernel_rfl) ?_
  refine Ops.done (by kernel_rfl) ?_
  refine seqQ.n ?_
  refine Wp.seq (subc [1, 0, 1, 0] C13) (subc [1, 0, 1, 1] C13) (by kernel_rfl) ?_
  refine Wp.region (by kernel_rfl) ?_
  refine Ops.seg 3 3 (by kernel_rfl) ⟨(dP e28 a0) :: (dP eI a1) :: u2 ((.v (.sl .nil (List.map eI []))) :: (.ptr 0 0) :: (.ptr 1 0) :: u4 ((dP e28 a0) :: (.v (.agg [(vI v1.fCode), (vI v1.fIndex)])) :: (.v (.agg [(vI v1.fCode), (vI v1.fIndex)])) :: (.v (.agg [(vI 0), (vI 0)])) :: (dB (!((v1.fCode == 0) && ((v1.fIndex == 0) && true)))) :: u28 [])), [(.cells [(dI 0), (dI 0)]), (.cells [(dI v1.fCode), (dI v1.fIndex)])]⟩ (by kernel_rfl) ?_
  refine Ops.done (by kernel_rfl) ?_
  refine seqQ.n ?_
  rcases cnd_some h with ⟨hb, h⟩ | ⟨hb, h⟩
  · refine Wp.cond (!((v1.fCode == 0) && ((v1.fIndex == 0) && true))) [0, 1, 4, 5] (by kernel_rfl) 2 (by kernel_rfl) (subc [1, 0, 1, 1, 0] C13) (subc [1, 0, 1, 1, 1] C13) (by kernel_rfl) (by kernel_rfl) (fun _ => ?_) (fun e => nomatch (hb.symm.trans e))
    refine Wp.seq (subc [1, 0, 1, 1, 0, 0] C13) (subc [1, 0, 1, 1, 0, 1] C13) (by kernel_rfl) ?_
    refine Wp.region (by kernel_rfl) ?_
    refine Ops.seg 3 3 (by kernel_rfl) ⟨(dP e28 a0) :: (dP eI a1) :: u2 ((.v (.sl .nil (List.map eI []))) :: (.ptr 0 0) :: (.ptr 1 0) :: u4 ((dP e28 a0) :: (.v (.agg [(vI v1.fCode), (vI v1.fIndex)])) :: (.v (.agg [(vI v1.fCode), (vI v1.fIndex)])) :: (.v (.agg [(vI 0), (vI 0)])) :: (dB (!((v1.fCode == 0) && ((v1.fIndex == 0) && true)))) :: (.v (.agg [(vI v1.fCode), (vI v1.fIndex)])) :: u27 [])), [(.cells [(dI v1.fCode), (dI v1.fIndex)]), (.cells [(dI v1.fCode), (dI v1.fIndex)])]⟩ (by kernel_rfl) ?_
    refine Ops.done (by kernel_rfl) ?_
    refine seqQ.n ?_
    refine Wp.ret (by kernel_rfl) ?_
    refine sqQ.r ?_
    refine seqQ.r ?_
    exact fnQ.r' (X13 n) (fun z => (.tuple [(eL eI) z.1, e25 z.2])) h (RetOk.mk' (.v (.tuple [(.sl .nil (List.map eI [])), (.agg [(vI v1.fCode), (vI v1.fIndex)])])) (by kernel_rfl) (by kernel_rfl))
  · refine Wp.cond (!((v1.fCode == 0) && ((v1.fIndex == 0) && true))) [0, 1, 4, 5] (by kernel_rfl) 2 (by kernel_rfl) (subc [1, 0, 1, 1, 0] C13) (subc [1, 0, 1, 1, 1] C13) (by kernel_rfl) (by kernel_rfl) (fun e => nomatch (hb.symm.trans e)) (fun _ => ?_)
    refine Wp.skip (by kernel_rfl) ?_
    refine sqQ.n ⟨(dP e28 a0) :: (dP eI a1) :: q2 ((.v (.sl .nil (List.map eI []))) :: (.ptr 0 0) :: q38 []), [(.cells [(dI 0), (dI 0)]), (.cells [(dI v1.fCode), (dI v1.fIndex)]), .dead]⟩ (by kernel_rfl) ?_
    refine seqQ.n ?_
    refine Wp.seq (subc [1, 1, 0] C13) (subc [1, 1, 1] C13) (by kernel_rfl) ?_
    refine Wp.seq (subc [1, 1, 0, 0] C13) (subc [1, 1, 0, 1] C13) (by kernel_rfl) ?_
    refine Wp.region (by kernel_rfl) ?_
    refine Ops.seg 1 1 (by kernel_rfl) ⟨(dP e28 a0) :: (dP eI a1) :: q2 ((.v (.sl .nil (List.map eI []))) :: (.ptr 0 0) :: q11 ((dP eI a1) :: q26 [])), [(.cells [(dI 0), (dI 0)]), (.cells [(dI v1.fCode), (dI v1.fIndex)]), .dead]⟩ (by kernel_rfl) ?_
    obtain ⟨v2, ev2, h⟩ := bnd_some h
    refine Ops.one 2 (by kernel_rfl) (callD (X13 n).E (run Proofs.Try.prog E n) 27 [(dP eI a1), (dI ((-2)))] [(.cells [(dI 0), (dI 0)]), (.cells [(dI v1.fCode), (dI v1.fIndex)]), .dead]) (.v (.agg [(vI v2.fCode), (vI v2.fIndex)])) [(.cells [(dI 0), (dI 0)]), (.cells [(dI v1.fCode), (dI v1.fIndex)]), .dead] ⟨(dP e28 a0) :: (dP eI a1) :: q2 ((.v (.sl .nil (List.map eI []))) :: (.ptr 0 0) :: q11 ((dP eI a1) :: (.v (.agg [(vI v2.fCode), (vI v2.fIndex)])) :: q25 [])), [(.cells [(dI 0), (dI 0)]), (.cells [(dI v1.fCode), (dI v1.fIndex)]), .dead]⟩ (by kernel_rfl) (call_ok (by kernel_rfl) (Args.v (vP eI a1) ((eL eI) a1) (by kernel_rfl) (Args.v (vI ((-2))) (eI ((-2))) (by kernel_rfl) Args.nil)) (ok27 m a1 ((-2)) v2 ev2 n (by omega))) (by kernel_rfl) ?_
    refine Ops.seg 2 4 (by kernel_rfl) ⟨(dP e28 a0) :: (dP eI a1) :: q2 ((.v (.sl .nil (List.map eI []))) :: (.ptr 0 0) :: q1 ((.ptr 3 0) :: q9 ((dP eI a1) :: (.v (.agg [(vI v2.fCode), (vI v2.fIndex)])) :: q25 []))), [(.cells [(dI 0), (dI 0)]), (.cells [(dI v1.fCode), (dI v1.fIndex)]), .dead, (.cells [(dI v2.fCode), (dI v2.fIndex)])]⟩ (by kernel_rfl) ?_
    refine Ops.done (by kernel_rfl) ?_
    refine seqQ.n ?_
    refine Wp.seq (subc [1, 1, 0, 1, 0] C13) (subc [1, 1, 0, 1, 1] C13) (by kernel_rfl) ?_
    refine Wp.region (by kernel_rfl) ?_
    refine Ops.seg 3 3 (by kernel_rfl) ⟨(dP e28 a0) :: (dP eI a1) :: q2 ((.v (.sl .nil (List.map eI []))) :: (.ptr 0 0) :: q1 ((.ptr 3 0) :: q9 ((dP eI a1) :: (.v (.agg [(vI v2.fCode), (vI v2.fIndex)])) :: (.v (.agg [(vI v2.fCode), (vI v2.fIndex)])) :: (.v (.agg [(vI 0), (vI 0)])) :: (dB (!((v2.fCode == 0) && ((v2.fIndex == 0) && true)))) :: q22 []))), [(.cells [(dI 0), (dI 0)]), (.cells [(dI v1.fCode), (dI v1.fIndex)]), .dead, (.cells [(dI v2.fCode), (dI v2.fIndex)])]⟩ (by kernel_rfl) ?_
    refine Ops.done (by kernel_rfl) ?_
    refine seqQ.n ?_
    rcases cnd_some h with ⟨hb, h⟩ | ⟨hb, h⟩
    · refine Wp.cond (!((v2.fCode == 0) && ((v2.fIndex == 0) && true))) [0, 1, 4, 5] (by kernel_rfl) 4 (by kernel_rfl) (subc [1, 1, 0, 1, 1, 0] C13) (subc [1, 1, 0, 1, 1, 1] C13) (by kernel_rfl) (by kernel_rfl) (fun _ => ?_) (fun e => nomatch (hb.symm.trans e))
      refine Wp.seq (subc [1, 1, 0, 1, 1, 0, 0] C13) (subc [1, 1, 0, 1, 1, 0, 1] C13) (by kernel_rfl) ?_
      refine Wp.region (by kernel_rfl) ?_
      refine Ops.seg 3 3 (by kernel_rfl) ⟨(dP e28 a0) :: (dP eI a1) :: q2 ((.v (.sl .nil (List.map eI []))) :: (.ptr 0 0) :: q1 ((.ptr 3 0) :: q9 ((dP eI a1) :: (.v (.agg [(vI v2.fCode), (vI v2.fIndex)])) :: (.v (.agg [(vI v2.fCode), (vI v2.fIndex)])) :: (.v (.agg [(vI 0), (vI 0)])) :: (dB (!((v2.fCode == 0) && ((v2.fIndex == 0) && true)))) :: (.v (.agg [(vI v2.fCode), (vI v2.fIndex)])) :: q21 []))), [(.cells [(dI v2.fCode), (dI v2.fIndex)]), (.cells [(dI v1.fCode), (dI v1.fIndex)]), .dead, (.cells [(dI v2.fCode), (dI v2.fIndex)])]⟩ (by kernel_rfl) ?_
      refine Ops.done (by kernel_rfl) ?_
      refine seqQ.n ?_
      refine Wp.ret (by kernel_rfl) ?_
      refine sqQ.r ?_
      refine seqQ.r ?_
      exact fnQ.r' (X13 n) (fun z => (.tuple [(eL eI) z.1, e25 z.2])) h (RetOk.mk' (.v (.tuple [(.sl .nil (List.map eI [])), (.agg [(vI v2.fCode), (vI v2.fIndex)])])) (by kernel_rfl) (by kernel_rfl))
    · refine Wp.cond (!((v2.fCode == 0) && ((v2.fIndex == 0) && true))) [0, 1, 4, 5] (by kernel_rfl) 4 (by kernel_rfl) (subc [1, 1, 0, 1, 1, 0] C13) (subc [1, 1, 0, 1, 1, 1] C13) (by kernel_rfl) (by kernel_rfl) (fun e => nomatch (hb.symm.trans e)) (fun _ => ?_)
      refine Wp.skip (by kernel_rfl) ?_
      refine sqQ.n ⟨(dP e28 a0) :: (dP eI a1) :: q2 ((.v (.sl .nil (List.map eI []))) :: (.ptr 0 0) :: q38 []), [(.cells [(dI 0), (dI 0)]), (.cells [(dI v1.fCode), (dI v1.fIndex)]), .dead, (.cells [(dI v2.fCode), (dI v2.fIndex)]), .dead]⟩ (by kernel_rfl) ?_
      refine seqQ.n ?_
      refine Wp.seq (subc [1, 1, 1, 0] C13) (subc [1, 1, 1, 1] C13) (by kernel_rfl) ?_
      refine Wp.region (by kernel_rfl) ?_
      refine Ops.seg 2 2 (by kernel_rfl) ⟨(dP e28 a0) :: (dP eI a1) :: q2 ((.v (.sl .nil (List.map eI []))) :: (.ptr 0 0) :: q17 ((.v (.sl .nonfull (List.map eI []))) :: (dP eI a1) :: q19 [])), [(.cells [(dI 0), (dI 0)]), (.cells [(dI v1.fCode), (dI v1.fIndex)]), .dead, (.cells [(dI v2.fCode), (dI v2.fIndex)]), .dead]⟩ (by kernel_rfl) ?_
      obtain ⟨v3, ev3, h⟩ := bnd_some h
      refine Ops.one 3 (by kernel_rfl) (appendD (X13 n).E.T false 23 [(.cells [(dI 0), (dI 0)]), (.cells [(dI v1.fCode), (dI v1.fIndex)]), .dead, (.cells [(dI v2.fCode), (dI v2.fIndex)]), .dead] (.v (.sl .nonfull (List.map eI []))) (dP eI a1)) (appF .nonfull 5 (List.map eI v3)) [(.cells [(dI 0), (dI 0)]), (.cells [(dI v1.fCode), (dI v1.fIndex)]), .dead, (.cells [(dI v2.fCode), (dI v2.fIndex)]), .dead, (appO 1 (List.map eI v3))] ⟨(dP e28 a0) :: (dP eI a1) :: q2 ((.v (.sl .nil (List.map eI []))) :: (.ptr 0 0) :: q17 ((.v (.sl .nonfull (List.map eI []))) :: (dP eI a1) :: (appF .nonfull 5 (List.map eI v3)) :: q18 [])), [(.cells [(dI 0), (dI 0)]), (.cells [(dI v1.fCode), (dI v1.fIndex)]), .dead, (.cells [(dI v2.fCode), (dI v2.fIndex)]), .dead, (appO 1 (List.map eI v3))]⟩ (by kernel_rfl) (app_n _ 23 3 1 ti3 .plain eI a1 v3 ev3 (by kernel_rfl) (by kernel_rfl) (by kernel_rfl) (by kernel_rfl) (fun _ => rfl)) (by kernel_rfl) ?_
      refine Ops.seg 1 4 (by kernel_rfl) ⟨(dP e28 a0) :: (dP eI a1) :: q2 ((.v (.sl .nil (List.map eI []))) :: (.ptr 0 0) :: q2 ((appF .nonfull 5 (List.map eI v3)) :: q14 ((.v (.sl .nonfull (List.map eI []))) :: (dP eI a1) :: (appF .nonfull 5 (List.map eI v3)) :: q18 []))), [(.cells [(dI 0), (dI 0)]), (.cells [(dI v1.fCode), (dI v1.fIndex)]), .dead, (.cells [(dI v2.fCode), (dI v2.fIndex)]), .dead, (appO 1 (List.map eI v3))]⟩ (by kernel_rfl) ?_
      refine Ops.done (by kernel_rfl) ?_
      refine seqQ.n ?_
      refine Wp.seq (subc [1, 1, 1, 1, 0] C13) (subc [1, 1, 1, 1, 1] C13) (by kernel_rfl) ?_
      refine Wp.seq (subc [1, 1, 1, 1, 0, 0] C13) (subc [1, 1, 1, 1, 0, 1] C13) (by kernel_rfl) ?_
      refine Wp.region (by kernel_rfl) ?_
      refine Ops.seg 1 1 (by kernel_rfl) ⟨(dP e28 a0) :: (dP eI a1) :: q2 ((.v (.sl .nil (List.map eI []))) :: (.ptr 0 0) :: q2 ((appF .nonfull 5 (List.map eI v3)) :: q14 ((.v (.sl .nonfull (List.map eI []))) :: (dP eI a1) :: (appF .nonfull 5 (List.map eI v3)) :: (dP e28 a0) :: q17 []))), [(.cells [(dI 0), (dI 0)]), (.cells [(dI v1.fCode), (dI v1.fIndex)]), .dead, (.cells [(dI v2.fCode), (dI v2.fIndex)]), .dead, (appO 1 (List.map eI v3))]⟩ (by kernel_rfl) ?_
      refine Ops.one 2 (by kernel_rfl) ((lenD (X13 n).E.T 22 (D.unt (dP e28 a0))).map (·, [(.cells [(dI 0), (dI 0)]), (.cells [(dI v1.fCode), (dI v1.fIndex)]), .dead, (.cells [(dI v2.fCode), (dI v2.fIndex)]), .dead, (appO 1 (List.map eI v3))])) (dI ((a0.length : Int))) [(.cells [(dI 0), (dI 0)]), (.cells [(dI v1.fCode), (dI v1.fIndex)]), .dead, (.cells [(dI v2.fCode), (dI v2.fIndex)]), .dead, (appO 1 (List.map eI v3))] ⟨(dP e28 a0) :: (dP eI a1) :: q2 ((.v (.sl .nil (List.map eI []))) :: (.ptr 0 0) :: q2 ((appF .nonfull 5 (List.map eI v3)) :: q14 ((.v (.sl .nonfull (List.map eI []))) :: (dP eI a1) :: (appF .nonfull 5 (List.map eI v3)) :: (dP e28 a0) :: (dI ((a0.length : Int))) :: q16 []))), [(.cells [(dI 0), (dI 0)]), (.cells [(dI v1.fCode), (dI v1.fIndex)]), .dead, (.cells [(dI v2.fCode), (dI v2.fIndex)]), .dead, (appO 1 (List.map eI v3))]⟩ (by kernel_rfl) (len_r _ 22 29 .plain e28 a0 (by kernel_rfl)) (by kernel_rfl) ?_
      refine Ops.seg 1 3 (by kernel_rfl) ⟨(dP e28 a0) :: (dP eI a1) :: q2 ((.v (.sl .nil (List.map eI []))) :: (.ptr 0 0) :: q2 ((appF .nonfull 5 (List.map eI v3)) :: q14 ((.v (.sl .nonfull (List.map eI []))) :: (dP eI a1) :: (appF .nonfull 5 (List.map eI v3)) :: (dP e28 a0) :: (dI ((a0.length : Int))) :: (dI 0) :: q15 []))), [(.cells [(dI 0), (dI 0)]), (.cells [(dI v1.fCode), (dI v1.fIndex)]), .dead, (.cells [(dI v2.fCode), (dI v2.fIndex)]), .dead, (appO 1 (List.map eI v3))]⟩ (by kernel_rfl) ?_
      refine Ops.done (by kernel_rfl) ?_
      refine seqQ.n ?_
      refine Wp.block (id := 0) [4, 5, 8] (by kernel_rfl) 6 (by kernel_rfl) (subc [1, 1, 1, 1, 0, 1, 0] C13) (by kernel_rfl) ?_
      have hLx28 : ∀ (kx17 : Nat) (v13 : (List Int)) (v15 : Int) (ar14 : AR) (ox16 : ((List Int) × S25) ⊕ ((List Int) × Int)), iter (fun (y : (List Int) × Int) => f13_B1 m a0 y.1 y.2) kx17 (v13, v15) = some ox16 → ∀ nx18, kx17 ≤ nx18 → (∀ r, ox16 = .inl r → ∀ σ, RetOk (X13 n) (resOf Proofs.Try.prog 13) (.tuple [(eL eI) r.1, e25 r.2]) σ → (seqQ (X13 n) (subc [1, 1, 1, 1, 1] C13) (fnQ (X13 n).E.T (resOf Proofs.Try.prog 13) (.tuple [(eL eI) o.1, e25 o.2]))) .ret σ) → (∀ (y : (List Int) × Int) (ar14 : AR), ox16 = .inr y → (seqQ (X13 n) (subc [1, 1, 1, 1, 1] C13) (fnQ (X13 n).E.T (resOf Proofs.Try.prog 13) (.tuple [(eL eI) o.1, e25 o.2]))) .normal ⟨q4 ((.v (.sl .nil (List.map eI []))) :: (.ptr 0 0) :: q2 ((AR.d ar14 6 (List.map eI y.1)) :: q35 [])), [(.cells [(dI 0), (dI 0)]), (.cells [(dI v1.fCode), (dI v1.fIndex)]), .dead, (.cells [(dI v2.fCode), (dI v2.fIndex)]), .dead, .dead, (AR.o ar14 1 (List.map eI y.1))]⟩) → Lp (X13 n) [4, 5, 8, 26, 27, 28] 6 (subc [1, 1, 1, 1, 0, 1, 0, 0] C13) nx18 ⟨q4 ((.v (.sl .nil (List.map eI []))) :: (.ptr 0 0) :: q2 ((AR.d ar14 6 (List.map eI v13)) :: q17 ((dP e28 a0) :: (dI ((a0.length : Int))) :: (dI v15) :: q15 []))), [(.cells [(dI 0), (dI 0)]), (.cells [(dI v1.fCode), (dI v1.fIndex)]), .dead, (.cells [(dI v2.fCode), (dI v2.fIndex)]), .dead, .dead, (AR.o ar14 1 (List.map eI v13))]⟩ (blkQ (X13 n) 0 [4, 5, 8] 6 (seqQ (X13 n) (subc [1, 1, 1, 1, 1] C13) (fnQ (X13 n).E.T (resOf Proofs.Try.prog 13) (.tuple [(eL eI) o.1, e25 o.2])))) := by
        intro kx17
        induction kx17 with
        | zero => intro v13 v15 ar14 ox16 h; exact (iter_zero h).elim
        | succ kx17 ihx19 =>
          intro v13 v15 ar14 ox16 h nx18 hnx22 hrx20 hxx21
          obtain ⟨nx18, rfl⟩ : ∃ q, nx18 = q + 1 := ⟨nx18 - 1, by omega⟩
          obtain ⟨sx23, h, hsx24⟩ := iter_some h
          have h : f13_B1 m a0 v13 v15 = some sx23 := h
          unfold f13_B1 at h
          refine Lp.succ ?_
          refine Wp.seq (subc [1, 1, 1, 1, 0, 1, 0, 0, 0] C13) (subc [1, 1, 1, 1, 0, 1, 0, 0, 1] C13) (by kernel_rfl) ?_
          refine Wp.region (by kernel_rfl) ?_
          refine Ops.seg 1 1 (by kernel_rfl) ⟨q4 ((.v (.sl .nil (List.map eI []))) :: (.ptr 0 0) :: q2 ((AR.d ar14 6 (List.map eI v13)) :: q17 ((dP e28 a0) :: (dI ((a0.length : Int))) :: (dI v15) :: (dB (decide (v15 < (a0.length : Int)))) :: q14 []))), [(.cells [(dI 0), (dI 0)]), (.cells [(dI v1.fCode), (dI v1.fIndex)]), .dead, (.cells [(dI v2.fCode), (dI v2.fIndex)]), .dead, .dead, (AR.o ar14 1 (List.map eI v13))]⟩ (by kernel_rfl) ?_
          refine Ops.done (by kernel_rfl) ?_
          refine seqQ.n ?_
          refine Wp.seq (subc [1, 1, 1, 1, 0, 1, 0, 0, 1, 0] C13) (subc [1, 1, 1, 1, 0, 1, 0, 0, 1, 1] C13) (by kernel_rfl) ?_
          rcases cnd_some h with ⟨hb, h⟩ | ⟨hb, h⟩
          · refine Wp.cond (decide (v15 < (a0.length : Int))) [4, 5, 8, 26, 27, 28] (by kernel_rfl) 7 (by kernel_rfl) (subc [1, 1, 1, 1, 0, 1, 0, 0, 1, 0, 0] C13) (subc [1, 1, 1, 1, 0, 1, 0, 0, 1, 0, 1] C13) (by kernel_rfl) (by kernel_rfl) (fun _ => ?_) (fun e => nomatch (hb.symm.trans e))
            refine Wp.skip (by kernel_rfl) ?_
            refine sqQ.n ⟨q4 ((.v (.sl .nil (List.map eI []))) :: (.ptr 0 0) :: q2 ((AR.d ar14 7 (List.map eI v13)) :: q17 ((dP e28 a0) :: (dI ((a0.length : Int))) :: (dI v15) :: q15 []))), [(.cells [(dI 0), (dI 0)]), (.cells [(dI v1.fCode), (dI v1.fIndex)]), .dead, (.cells [(dI v2.fCode), (dI v2.fIndex)]), .dead, .dead, .dead, (AR.o ar14 1 (List.map eI v13))]⟩ (by rcases ar14 with (_ | _) | _ <;> kernel_rfl) ?_
            refine seqQ.n ?_
            refine Wp.seq (subc [1, 1, 1, 1, 0, 1, 0, 0, 1, 1, 0] C13) (subc [1, 1, 1, 1, 0, 1, 0, 0, 1, 1, 1] C13) (by kernel_rfl) ?_
            refine Wp.block (id := 1) [4, 5, 8, 26, 27, 28] (by kernel_rfl) 8 (by kernel_rfl) (subc [1, 1, 1, 1, 0, 1, 0, 0, 1, 1, 0, 0] C13) (by kernel_rfl) ?_
            refine Wp.seq (subc [1, 1, 1, 1, 0, 1, 0, 0, 1, 1, 0, 0, 0] C13) (subc [1, 1, 1, 1, 0, 1, 0, 0, 1, 1, 0, 0, 1] C13) (by kernel_rfl) ?_
            refine Wp.region (by kernel_rfl) ?_
            refine Ops.seg 1 1 (by kernel_rfl) ⟨q4 ((.v (.sl .nil (List.map eI []))) :: (.ptr 0 0) :: q2 ((AR.d ar14 7 (List.map eI v13)) :: q17 ((dP e28 a0) :: (dI ((a0.length : Int))) :: (dI v15) :: q1 ((dI v15) :: q13 [])))), [(.cells [(dI 0), (dI 0)]), (.cells [(dI v1.fCode), (dI v1.fIndex)]), .dead, (.cells [(dI v2.fCode), (dI v2.fIndex)]), .dead, .dead, .dead, (AR.o ar14 1 (List.map eI v13))]⟩ (by kernel_rfl) ?_
            obtain ⟨v25, ev25, h⟩ := bnd_some h
            refine Ops.one 2 (by kernel_rfl) ((indexAddrH (X13 n).E.T [(.cells [(dI 0), (dI 0)]), (.cells [(dI v1.fCode), (dI v1.fIndex)]), .dead, (.cells [(dI v2.fCode), (dI v2.fIndex)]), .dead, .dead, .dead, (AR.o ar14 1 (List.map eI v13))] 22 (D.unt (dP e28 a0)) (dI v15)).map (·, [(.cells [(dI 0), (dI 0)]), (.cells [(dI v1.fCode), (dI v1.fIndex)]), .dead, (.cells [(dI v2.fCode), (dI v2.fIndex)]), .dead, .dead, .dead, (AR.o ar14 1 (List.map eI v13))])) (.vptr [(vP eI v25.fFrom), (vP eI v25.fTo), (vP eI v25.fLeft), (vP eI v25.fRight)]) [(.cells [(dI 0), (dI 0)]), (.cells [(dI v1.fCode), (dI v1.fIndex)]), .dead, (.cells [(dI v2.fCode), (dI v2.fIndex)]), .dead, .dead, .dead, (AR.o ar14 1 (List.map eI v13))] ⟨q4 ((.v (.sl .nil (List.map eI []))) :: (.ptr 0 0) :: q2 ((AR.d ar14 7 (List.map eI v13)) :: q17 ((dP e28 a0) :: (dI ((a0.length : Int))) :: (dI v15) :: q1 ((dI v15) :: (.vptr [(vP eI v25.fFrom), (vP eI v25.fTo), (vP eI v25.fLeft), (vP eI v25.fRight)]) :: q12 [])))), [(.cells [(dI 0), (dI 0)]), (.cells [(dI v1.fCode), (dI v1.fIndex)]), .dead, (.cells [(dI v2.fCode), (dI v2.fIndex)]), .dead, .dead, .dead, (AR.o ar14 1 (List.map eI v13))]⟩ (by kernel_rfl) (ix_r _ 22 29 4 .plain e28 a0 v15 v25 ev25 (by kernel_rfl) (by kernel_rfl) (fun _ => rfl)) (by kernel_rfl) ?_
            refine Ops.seg 4 6 (by kernel_rfl) ⟨q4 ((.v (.sl .nil (List.map eI []))) :: (.ptr 0 0) :: q2 ((AR.d ar14 7 (List.map eI v13)) :: (dI v15) :: (.ptr 8 0) :: q15 ((dP e28 a0) :: (dI ((a0.length : Int))) :: (dI v15) :: q1 ((dI v15) :: (.vptr [(vP eI v25.fFrom), (vP eI v25.fTo), (vP eI v25.fLeft), (vP eI v25.fRight)]) :: (.v (.agg [(vP eI v25.fFrom), (vP eI v25.fTo), (vP eI v25.fLeft), (vP eI v25.fRight)])) :: q11 [])))), [(.cells [(dI 0), (dI 0)]), (.cells [(dI v1.fCode), (dI v1.fIndex)]), .dead, (.cells [(dI v2.fCode), (dI v2.fIndex)]), .dead, .dead, .dead, (AR.o ar14 1 (List.map eI v13)), (.cells [(dP eI v25.fFrom), (dP eI v25.fTo), (dP eI v25.fLeft), (dP eI v25.fRight)])]⟩ (by kernel_rfl) ?_
            refine Ops.done (by kernel_rfl) ?_
            refine seqQ.n ?_
            refine Wp.seq (subc [1, 1, 1, 1, 0, 1, 0, 0, 1, 1, 0, 0, 1, 0] C13) (subc [1, 1, 1, 1, 0, 1, 0, 0, 1, 1, 0, 0, 1, 1] C13) (by kernel_rfl) ?_
            refine Wp.region (by kernel_rfl) ?_
            refine Ops.seg 2 2 (by kernel_rfl) ⟨q4 ((.v (.sl .nil (List.map eI []))) :: (.ptr 0 0) :: q2 ((AR.d ar14 7 (List.map eI v13)) :: (dI v15) :: (.ptr 8 0) :: q15 ((dP e28 a0) :: (dI ((a0.length : Int))) :: (dI v15) :: q1 ((dI v15) :: (.vptr [(vP eI v25.fFrom), (vP eI v25.fTo), (vP eI v25.fLeft), (vP eI v25.fRight)]) :: (.v (.agg [(vP eI v25.fFrom), (vP eI v25.fTo), (vP eI v25.fLeft), (vP eI v25.fRight)])) :: (.v (.agg [(vP eI v25.fFrom), (vP eI v25.fTo), (vP eI v25.fLeft), (vP eI v25.fRight)])) :: (AR.d ar14 7 (List.map eI v13)) :: q9 [])))), [(.cells [(dI 0), (dI 0)]), (.cells [(dI v1.fCode), (dI v1.fIndex)]), .dead, (.cells [(dI v2.fCode), (dI v2.fIndex)]), .dead, .dead, .dead, (AR.o ar14 1 (List.map eI v13)), (.cells [(dP eI v25.fFrom), (dP eI v25.fTo), (dP eI v25.fLeft), (dP eI v25.fRight)])]⟩ (by kernel_rfl) ?_
            obtain ⟨v26, ev26, h⟩ := bnd_some h
            refine Ops.one 3 (by kernel_rfl) (callD (X13 n).E (run Proofs.Try.prog E n) 28 [(.v (.agg [(vP eI v25.fFrom), (vP eI v25.fTo), (vP eI v25.fLeft), (vP eI v25.fRight)])), (AR.d ar14 7 (List.map eI v13))] [(.cells [(dI 0), (dI 0)]), (.cells [(dI v1.fCode), (dI v1.fIndex)]), .dead, (.cells [(dI v2.fCode), (dI v2.fIndex)]), .dead, .dead, .dead, (AR.o ar14 1 (List.map eI v13)), (.cells [(dP eI v25.fFrom), (dP eI v25.fTo), (dP eI v25.fLeft), (dP eI v25.fRight)])]) (dP eI v26) [(.cells [(dI 0), (dI 0)]), (.cells [(dI v1.fCode), (dI v1.fIndex)]), .dead, (.cells [(dI v2.fCode), (dI v2.fIndex)]), .dead, .dead, .dead, (AR.o ar14 1 (List.map eI v13)), (.cells [(dP eI v25.fFrom), (dP eI v25.fTo), (dP eI v25.fLeft), (dP eI v25.fRight)])] ⟨q4 ((.v (.sl .nil (List.map eI []))) :: (.ptr 0 0) :: q2 ((AR.d ar14 7 (List.map eI v13)) :: (dI v15) :: (.ptr 8 0) :: q15 ((dP e28 a0) :: (dI ((a0.length : Int))) :: (dI v15) :: q1 ((dI v15) :: (.vptr [(vP eI v25.fFrom), (vP eI v25.fTo), (vP eI v25.fLeft), (vP eI v25.fRight)]) :: (.v (.agg [(vP eI v25.fFrom), (vP eI v25.fTo), (vP eI v25.fLeft), (vP eI v25.fRight)])) :: (.v (.agg [(vP eI v25.fFrom), (vP eI v25.fTo), (vP eI v25.fLeft), (vP eI v25.fRight)])) :: (AR.d ar14 7 (List.map eI v13)) :: (dP eI v26) :: q8 [])))), [(.cells [(dI 0), (dI 0)]), (.cells [(dI v1.fCode), (dI v1.fIndex)]), .dead, (.cells [(dI v2.fCode), (dI v2.fIndex)]), .dead, .dead, .dead, (AR.o ar14 1 (List.map eI v13)), (.cells [(dP eI v25.fFrom), (dP eI v25.fTo), (dP eI v25.fLeft), (dP eI v25.fRight)])]⟩ (by kernel_rfl) (call_ok (by kernel_rfl) (Args.v (.agg [(vP eI v25.fFrom), (vP eI v25.fTo), (vP eI v25.fLeft), (vP eI v25.fRight)]) (e28 v25) (by kernel_rfl) (Args.ar ar14 7 (List.map eI v13) Args.nil)) (ok28 m v25 v13 v26 ev26 n (by omega))) (by kernel_rfl) ?_
            refine Ops.seg 1 4 (by kernel_rfl) ⟨q4 ((.v (.sl .nil (List.map eI []))) :: (.ptr 0 0) :: q2 ((dP eI v26) :: (dI v15) :: (.ptr 8 0) :: q15 ((dP e28 a0) :: (dI ((a0.length : Int))) :: (dI v15) :: q1 ((dI v15) :: (.vptr [(vP eI v25.fFrom), (vP eI v25.fTo), (vP eI v25.fLeft), (vP eI v25.fRight)]) :: (.v (.agg [(vP eI v25.fFrom), (vP eI v25.fTo), (vP eI v25.fLeft), (vP eI v25.fRight)])) :: (.v (.agg [(vP eI v25.fFrom), (vP eI v25.fTo), (vP eI v25.fLeft), (vP eI v25.fRight)])) :: (AR.d ar14 7 (List.map eI v13)) :: (dP eI v26) :: q8 [])))), [(.cells [(dI 0), (dI 0)]), (.cells [(dI v1.fCode), (dI v1.fIndex)]), .dead, (.cells [(dI v2.fCode), (dI v2.fIndex)]), .dead, .dead, .dead, (AR.o ar14 1 (List.map eI v13)), (.cells [(dP eI v25.fFrom), (dP eI v25.fTo), (dP eI v25.fLeft), (dP eI v25.fRight)])]⟩ (by kernel_rfl) ?_
            refine Ops.done (by kernel_rfl) ?_
            refine seqQ.n ?_
            refine Wp.seq (subc [1, 1, 1, 1, 0, 1, 0, 0, 1, 1, 0, 0, 1, 1, 0] C13) (subc [1, 1, 1, 1, 0, 1, 0, 0, 1, 1, 0, 0, 1, 1, 1] C13) (by kernel_rfl) ?_
            refine Wp.region (by kernel_rfl) ?_
            refine Ops.seg 1 1 (by kernel_rfl) ⟨q4 ((.v (.sl .nil (List.map eI []))) :: (.ptr 0 0) :: q2 ((dP eI v26) :: (dI v15) :: (.ptr 8 0) :: q15 ((dP e28 a0) :: (dI ((a0.length : Int))) :: (dI v15) :: q1 ((dI v15) :: (.vptr [(vP eI v25.fFrom), (vP eI v25.fTo), (vP eI v25.fLeft), (vP eI v25.fRight)]) :: (.v (.agg [(vP eI v25.fFrom), (vP eI v25.fTo), (vP eI v25.fLeft), (vP eI v25.fRight)])) :: (.v (.agg [(vP eI v25.fFrom), (vP eI v25.fTo), (vP eI v25.fLeft), (vP eI v25.fRight)])) :: (AR.d ar14 7 (List.map eI v13)) :: (dP eI v26) :: (dP eI v26) :: q7 [])))), [(.cells [(dI 0), (dI 0)]), (.cells [(dI v1.fCode), (dI v1.fIndex)]), .dead, (.cells [(dI v2.fCode), (dI v2.fIndex)]), .dead, .dead, .dead, (AR.o ar14 1 (List.map eI v13)), (.cells [(dP eI v25.fFrom), (dP eI v25.fTo), (dP eI v25.fLeft), (dP eI v25.fRight)])]⟩ (by kernel_rfl) ?_
            refine Ops.one 2 (by kernel_rfl) ((lenD (X13 n).E.T 23 (D.unt (dP eI v26))).map (·, [(.cells [(dI 0), (dI 0)]), (.cells [(dI v1.fCode), (dI v1.fIndex)]), .dead, (.cells [(dI v2.fCode), (dI v2.fIndex)]), .dead, .dead, .dead, (AR.o ar14 1 (List.map eI v13)), (.cells [(dP eI v25.fFrom), (dP eI v25.fTo), (dP eI v25.fLeft), (dP eI v25.fRight)])])) (dI ((v26.length : Int))) [(.cells [(dI 0), (dI 0)]), (.cells [(dI v1.fCode), (dI v1.fIndex)]), .dead, (.cells [(dI v2.fCode), (dI v2.fIndex)]), .dead, .dead, .dead, (AR.o ar14 1 (List.map eI v13)), (.cells [(dP eI v25.fFrom), (dP eI v25.fTo), (dP eI v25.fLeft), (dP eI v25.fRight)])] ⟨q4 ((.v (.sl .nil (List.map eI []))) :: (.ptr 0 0) :: q2 ((dP eI v26) :: (dI v15) :: (.ptr 8 0) :: q15 ((dP e28 a0) :: (dI ((a0.length : Int))) :: (dI v15) :: q1 ((dI v15) :: (.vptr [(vP eI v25.fFrom), (vP eI v25.fTo), (vP eI v25.fLeft), (vP eI v25.fRight)]) :: (.v (.agg [(vP eI v25.fFrom), (vP eI v25.fTo), (vP eI v25.fLeft), (vP eI v25.fRight)])) :: (.v (.agg [(vP eI v25.fFrom), (vP eI v25.fTo), (vP eI v25.fLeft), (vP eI v25.fRight)])) :: (AR.d ar14 7 (List.map eI v13)) :: (dP eI v26) :: (dP eI v26) :: (dI ((v26.length : Int))) :: q6 [])))), [(.cells [(dI 0), (dI 0)]), (.cells [(dI v1.fCode), (dI v1.fIndex)]), .dead, (.cells [(dI v2.fCode), (dI v2.fIndex)]), .dead, .dead, .dead, (AR.o ar14 1 (List.map eI v13)), (.cells [(dP eI v25.fFrom), (dP eI v25.fTo), (dP eI v25.fLeft), (dP eI v25.fRight)])]⟩ (by kernel_rfl) (len_r _ 23 3 .plain eI v26 (by kernel_rfl)) (by kernel_rfl) ?_
            refine Ops.seg 1 3 (by kernel_rfl) ⟨q4 ((.v (.sl .nil (List.map eI []))) :: (.ptr 0 0) :: q2 ((dP eI v26) :: (dI v15) :: (.ptr 8 0) :: q15 ((dP e28 a0) :: (dI ((a0.length : Int))) :: (dI v15) :: q1 ((dI v15) :: (.vptr [(vP eI v25.fFrom), (vP eI v25.fTo), (vP eI v25.fLeft), (vP eI v25.fRight)]) :: (.v (.agg [(vP eI v25.fFrom), (vP eI v25.fTo), (vP eI v25.fLeft), (vP eI v25.fRight)])) :: (.v (.agg [(vP eI v25.fFrom), (vP eI v25.fTo), (vP eI v25.fLeft), (vP eI v25.fRight)])) :: (AR.d ar14 7 (List.map eI v13)) :: (dP eI v26) :: (dP eI v26) :: (dI ((v26.length : Int))) :: (dB (decide ((v26.length : Int) > 300))) :: q5 [])))), [(.cells [(dI 0), (dI 0)]), (.cells [(dI v1.fCode), (dI v1.fIndex)]), .dead, (.cells [(dI v2.fCode), (dI v2.fIndex)]), .dead, .dead, .dead, (AR.o ar14 1 (List.map eI v13)), (.cells [(dP eI v25.fFrom), (dP eI v25.fTo), (dP eI v25.fLeft), (dP eI v25.fRight)])]⟩ (by kernel_rfl) ?_
            refine Ops.done (by kernel_rfl) ?_
            refine seqQ.n ?_
            rcases cnd_some h with ⟨hb, h⟩ | ⟨hb, h⟩
            · refine Wp.cond (decide ((v26.length : Int) > 300)) [4, 5, 8, 26, 27, 28] (by kernel_rfl) 9 (by kernel_rfl) (subc [1, 1, 1, 1, 0, 1, 0, 0, 1, 1, 0, 0, 1, 1, 1, 0] C13) (subc [1, 1, 1, 1, 0, 1, 0, 0, 1, 1, 0, 0, 1, 1, 1, 1] C13) (by kernel_rfl) (by kernel_rfl) (fun _ => ?_) (fun e => nomatch (hb.symm.trans e))
              refine Wp.seq (subc [1, 1, 1, 1, 0, 1, 0, 0, 1, 1, 0, 0, 1, 1, 1, 0, 0] C13) (subc [1, 1, 1, 1, 0, 1, 0, 0, 1, 1, 0, 0, 1, 1, 1, 0, 1] C13) (by kernel_rfl) ?_
              refine Wp.region (by kernel_rfl) ?_
              refine Ops.seg 1 1 (by kernel_rfl) ⟨q4 ((.v (.sl .nil (List.map eI []))) :: (.ptr 0 0) :: q2 ((dP eI v26) :: (dI v15) :: (.ptr 8 0) :: q15 ((dP e28 a0) :: (dI ((a0.length : Int))) :: (dI v15) :: q1 ((dI v15) :: (.vptr [(vP eI v25.fFrom), (vP eI v25.fTo), (vP eI v25.fLeft), (vP eI v25.fRight)]) :: (.v (.agg [(vP eI v25.fFrom), (vP eI v25.fTo), (vP eI v25.fLeft), (vP eI v25.fRight)])) :: (.v (.agg [(vP eI v25.fFrom), (vP eI v25.fTo), (vP eI v25.fLeft), (vP eI v25.fRight)])) :: (AR.d ar14 7 (List.map eI v13)) :: (dP eI v26) :: (dP eI v26) :: (dI ((v26.length : Int))) :: (dB (decide ((v26.length : Int) > 300))) :: (dI v15) :: q4 [])))), [(.cells [(dI 0), (dI 0)]), (.cells [(dI v1.fCode), (dI v1.fIndex)]), .dead, (.cells [(dI v2.fCode), (dI v2.fIndex)]), .dead, .dead, .dead, (AR.o ar14 1 (List.map eI v13)), (.cells [(dP eI v25.fFrom), (dP eI v25.fTo), (dP eI v25.fLeft), (dP eI v25.fRight)])]⟩ (by kernel_rfl) ?_
              obtain ⟨v27, ev27, h⟩ := bnd_some h
              refine Ops.one 2 (by kernel_rfl) (callD (X13 n).E (run Proofs.Try.prog E n) 29 [(dI 17), (dI v15)] [(.cells [(dI 0), (dI 0)]), (.cells [(dI v1.fCode), (dI v1.fIndex)]), .dead, (.cells [(dI v2.fCode), (dI v2.fIndex)]), .dead, .dead, .dead, (AR.o ar14 1 (List.map eI v13)), (.cells [(dP eI v25.fFrom), (dP eI v25.fTo), (dP eI v25.fLeft), (dP eI v25.fRight)])]) (.v (.agg [(vI v27.fCode), (vI v27.fIndex)])) [(.cells [(dI 0), (dI 0)]), (.cells [(dI v1.fCode), (dI v1.fIndex)]), .dead, (.cells [(dI v2.fCode), (dI v2.fIndex)]), .dead, .dead, .dead, (AR.o ar14 1 (List.map eI v13)), (.cells [(dP eI v25.fFrom), (dP eI v25.fTo), (dP eI v25.fLeft), (dP eI v25.fRight)])] ⟨q4 ((.v (.sl .nil (List.map eI []))) :: (.ptr 0 0) :: q2 ((dP eI v26) :: (dI v15) :: (.ptr 8 0) :: q15 ((dP e28 a0) :: (dI ((a0.length : Int))) :: (dI v15) :: q1 ((dI v15) :: (.vptr [(vP eI v25.fFrom), (vP eI v25.fTo), (vP eI v25.fLeft), (vP eI v25.fRight)]) :: (.v (.agg [(vP eI v25.fFrom), (vP eI v25.fTo), (vP eI v25.fLeft), (vP eI v25.fRight)])) :: (.v (.agg [(vP eI v25.fFrom), (vP eI v25.fTo), (vP eI v25.fLeft), (vP eI v25.fRight)])) :: (AR.d ar14 7 (List.map eI v13)) :: (dP eI v26) :: (dP eI v26) :: (dI ((v26.length : Int))) :: (dB (decide ((v26.length : Int) > 300))) :: (dI v15) :: (.v (.agg [(vI v27.fCode), (vI v27.fIndex)])) :: q3 [])))), [(.cells [(dI 0), (dI 0)]), (.cells [(dI v1.fCode), (dI v1.fIndex)]), .dead, (.cells [(dI v2.fCode), (dI v2.fIndex)]), .dead, .dead, .dead, (AR.o ar14 1 (List.map eI v13)), (.cells [(dP eI v25.fFrom), (dP eI v25.fTo), (dP eI v25.fLeft), (dP eI v25.fRight)])]⟩ (by kernel_rfl) (call_ok (by kernel_rfl) (Args.v (vI 17) (eI 17) (by kernel_rfl) (Args.v (vI v15) (eI v15) (by kernel_rfl) Args.nil)) (ok29 m 17 v15 v27 ev27 n (by omega))) (by kernel_rfl) ?_
              refine Ops.seg 2 4 (by kernel_rfl) ⟨q4 ((.v (.sl .nil (List.map eI []))) :: (.ptr 0 0) :: q2 ((dP eI v26) :: (dI v15) :: (.ptr 8 0) :: q15 ((dP e28 a0) :: (dI ((a0.length : Int))) :: (dI v15) :: q1 ((dI v15) :: (.vptr [(vP eI v25.fFrom), (vP eI v25.fTo), (vP eI v25.fLeft), (vP eI v25.fRight)]) :: (.v (.agg [(vP eI v25.fFrom), (vP eI v25.fTo), (vP eI v25.fLeft), (vP eI v25.fRight)])) :: (.v (.agg [(vP eI v25.fFrom), (vP eI v25.fTo), (vP eI v25.fLeft), (vP eI v25.fRight)])) :: (AR.d ar14 7 (List.map eI v13)) :: (dP eI v26) :: (dP eI v26) :: (dI ((v26.length : Int))) :: (dB (decide ((v26.length : Int) > 300))) :: (dI v15) :: (.v (.agg [(vI v27.fCode), (vI v27.fIndex)])) :: q3 [])))), [(.cells [(dI v27.fCode), (dI v27.fIndex)]), (.cells [(dI v1.fCode), (dI v1.fIndex)]), .dead, (.cells [(dI v2.fCode), (dI v2.fIndex)]), .dead, .dead, .dead, (AR.o ar14 1 (List.map eI v13)), (.cells [(dP eI v25.fFrom), (dP eI v25.fTo), (dP eI v25.fLeft), (dP eI v25.fRight)])]⟩ (by kernel_rfl) ?_
              refine Ops.done (by kernel_rfl) ?_
              refine seqQ.n ?_
              refine Wp.ret (by kernel_rfl) ?_
              refine sqQ.r ?_
              refine blkQ.r ?_
              refine seqQ.r ?_
              cases h
              refine lpQ.r ?_
              refine blkQ.r ?_
              exact hrx20 _ hsx24 _ (RetOk.forget [4, 5, 8, 26, 27, 28] (by kernel_rfl) (RetOk.mk' (.v (.tuple [(.sl .nil (List.map eI [])), (.agg [(vI v27.fCode), (vI v27.fIndex)])])) (by kernel_rfl) (by kernel_rfl)))
            · refine Wp.cond (decide ((v26.length : Int) > 300)) [4, 5, 8, 26, 27, 28] (by kernel_rfl) 9 (by kernel_rfl) (subc [1, 1, 1, 1, 0, 1, 0, 0, 1, 1, 0, 0, 1, 1, 1, 0] C13) (subc [1, 1, 1, 1, 0, 1, 0, 0, 1, 1, 0, 0, 1, 1, 1, 1] C13) (by kernel_rfl) (by kernel_rfl) (fun e => nomatch (hb.symm.trans e)) (fun _ => ?_)
              refine Wp.skip (by kernel_rfl) ?_
              refine sqQ.n ⟨q4 ((.v (.sl .nil (List.map eI []))) :: (.ptr 0 0) :: q2 ((dP eI v26) :: q17 ((dP e28 a0) :: (dI ((a0.length : Int))) :: (dI v15) :: q15 []))), [(.cells [(dI 0), (dI 0)]), (.cells [(dI v1.fCode), (dI v1.fIndex)]), .dead, (.cells [(dI v2.fCode), (dI v2.fIndex)]), .dead, .dead, .dead, (AR.o ar14 1 (List.map eI v13)), (.cells [(dP eI v25.fFrom), (dP eI v25.fTo), (dP eI v25.fLeft), (dP eI v25.fRight)]), .dead]⟩ (by rcases ar14 with (_ | _) | _ <;> kernel_rfl) ?_
              refine blkQ.n ⟨q4 ((.v (.sl .nil (List.map eI []))) :: (.ptr 0 0) :: q2 ((dP eI v26) :: q17 ((dP e28 a0) :: (dI ((a0.length : Int))) :: (dI v15) :: q15 []))), [(.cells [(dI 0), (dI 0)]), (.cells [(dI v1.fCode), (dI v1.fIndex)]), .dead, (.cells [(dI v2.fCode), (dI v2.fIndex)]), .dead, .dead, .dead, (AR.o ar14 1 (List.map eI v13)), .dead]⟩ (by rcases ar14 with (_ | _) | _ <;> kernel_rfl) ?_
              refine seqQ.n ?_
              refine Wp.region (by kernel_rfl) ?_
              refine Ops.seg 2 2 (by kernel_rfl) ⟨q4 ((.v (.sl .nil (List.map eI []))) :: (.ptr 0 0) :: q2 ((dP eI v26) :: q17 ((dP e28 a0) :: (dI ((a0.length : Int))) :: (dI (w64 (v15 + 1))) :: q12 ((dI (w64 (v15 + 1))) :: q2 [])))), [(.cells [(dI 0), (dI 0)]), (.cells [(dI v1.fCode), (dI v1.fIndex)]), .dead, (.cells [(dI v2.fCode), (dI v2.fIndex)]), .dead, .dead, .dead, (AR.o ar14 1 (List.map eI v13)), .dead]⟩ (by kernel_rfl) ?_
              refine Ops.done (by kernel_rfl) ?_
              refine lpQ.n ⟨q4 ((.v (.sl .nil (List.map eI []))) :: (.ptr 0 0) :: q2 ((AR.d ((AR.fl .plain)) 6 (List.map eI v26)) :: q17 ((dP e28 a0) :: (dI ((a0.length : Int))) :: (dI (w64 (v15 + 1))) :: q15 []))), [(.cells [(dI 0), (dI 0)]), (.cells [(dI v1.fCode), (dI v1.fIndex)]), .dead, (.cells [(dI v2.fCode), (dI v2.fIndex)]), .dead, .dead, (AR.o ((AR.fl .plain)) 1 (List.map eI v26))]⟩ (by kernel_rfl) ?_
              cases h
              exact ihx19 v26 (w64 (v15 + 1)) _ _ hsx24 _ (by omega) hrx20 hxx21
          · refine Wp.cond (decide (v15 < (a0.length : Int))) [4, 5, 8, 26, 27, 28] (by kernel_rfl) 7 (by kernel_rfl) (subc [1, 1, 1, 1, 0, 1, 0, 0, 1, 0, 0] C13) (subc [1, 1, 1, 1, 0, 1, 0, 0, 1, 0, 1] C13) (by kernel_rfl) (by kernel_rfl) (fun e => nomatch (hb.symm.trans e)) (fun _ => ?_)
            refine Wp.exit (id := 0) (by kernel_rfl) ?_
            refine sqQ.x ?_
            refine seqQ.x ?_
            cases h
            refine lpQ.x ?_
            refine blkQ.x ⟨q4 ((.v (.sl .nil (List.map eI []))) :: (.ptr 0 0) :: q2 ((AR.d ar14 6 (List.map eI v13)) :: q35 [])), [(.cells [(dI 0), (dI 0)]), (.cells [(dI v1.fCode), (dI v1.fIndex)]), .dead, (.cells [(dI v2.fCode), (dI v2.fIndex)]), .dead, .dead, (AR.o ar14 1 (List.map eI v13))]⟩ (by rcases ar14 with (_ | _) | _ <;> kernel_rfl) ?_
            exact hxx21 (v13, v15) _ hsx24
      refine Wp.loop [4, 5, 8, 26, 27, 28] 6 (by kernel_rfl) (subc [1, 1, 1, 1, 0, 1, 0, 0] C13) (by kernel_rfl) (by kernel_rfl) ⟨q4 ((.v (.sl .nil (List.map eI []))) :: (.ptr 0 0) :: q2 ((AR.d ((AR.ag (AG.of .nonfull (List.map eI v3)))) 6 (List.map eI v3)) :: q17 ((dP e28 a0) :: (dI ((a0.length : Int))) :: (dI 0) :: q15 []))), [(.cells [(dI 0), (dI 0)]), (.cells [(dI v1.fCode), (dI v1.fIndex)]), .dead, (.cells [(dI v2.fCode), (dI v2.fIndex)]), .dead, .dead, (AR.o ((AR.ag (AG.of .nonfull (List.map eI v3)))) 1 (List.map eI v3))]⟩ (by generalize v3 = z0; cases z0 <;> kernel_rfl) ?_
      rcases brk_some h with ⟨r30, er30, h⟩ | ⟨y29, ey29, h⟩
      · refine hLx28 _ v3 0 _ _ er30 n (by omega) (fun r er σ hσ => ?_) (fun y ar14 ey => by cases ey)
        cases er
        refine seqQ.r ?_
        exact fnQ.r' (X13 n) (fun z => (.tuple [(eL eI) z.1, e25 z.2])) h hσ
      · refine hLx28 _ v3 0 _ _ ey29 n (by omega) (fun r er => by cases er) (fun y ar14 ey => ?_)
        cases ey
        refine seqQ.n ?_
        refine Wp.seq (subc [1, 1, 1, 1, 1, 0] C13) (subc [1, 1, 1, 1, 1, 1] C13) (by kernel_rfl) ?_
        refine Wp.region (by kernel_rfl) ?_
        refine Ops.seg 4 4 (by kernel_rfl) ⟨q4 ((AR.d ar14 6 (List.map eI y29.1)) :: (.ptr 0 0) :: q2 ((AR.d ar14 6 (List.map eI y29.1)) :: q33 ((AR.d ar14 6 (List.map eI y29.1)) :: (.v (.agg [(vI 0), (vI 0)])) :: []))), [(.cells [(dI 0), (dI 0)]), (.cells [(dI v1.fCode), (dI v1.fIndex)]), .dead, (.cells [(dI v2.fCode), (dI v2.fIndex)]), .dead, .dead, (AR.o ar14 1 (List.map eI y29.1))]⟩ (by kernel_rfl) ?_
        refine Ops.done (by kernel_rfl) ?_
        refine seqQ.n ?_
        refine Wp.ret (by kernel_rfl) ?_
        exact fnQ.r' (X13 n) (fun z => (.tuple [(eL eI) z.1, e25 z.2])) h (RetOk.tup [(AR.d ar14 6 (List.map eI y29.1)), (.v (.agg [(vI 0), (vI 0)]))] (by kernel_rfl) (.d (AR.d ar14 6 (List.map eI y29.1)) _ (AR.frz _ _ _ _ _) (AR.nt _ _ _) (.v (.agg [(vI 0), (vI 0)]) _ (by kernel_rfl) (by kernel_rfl) .nil)))

/-! ### 3 glosswright/glosswrightlaw6.RewriteApplyMatchesSpec -/
def f3_r1 (m : Nat) (v30 : Bool) : Option Bool :=
  some v30
def f3_r2 (m : Nat) (a0 : (List S28)) (v20 : Bool) : Option Bool :=
  bnd (cnd v20
  (bnd (f11 m a0) fun v32 =>
  bnd (f15 m a0) fun v33 =>
  some (((v32.fCode == v33.fCode) && ((v32.fIndex == v33.fIndex) && true))))
  (some false)) fun v30 =>
  f3_r1 m v30
def f3_r3 (m : Nat) (a0 : (List S28)) (a1 : (List Int)) (v10 : Bool) : Option Bool :=
  cnd v10
  (some false)
  (bnd (f12 m a0 a1) fun v12 =>
  bnd (f13 m a0 a1) fun v13 =>
  bnd (cnd (((v12.2.fCode == v13.2.fCode) && ((v12.2.fIndex == v13.2.fIndex) && true)))
  (bnd (f14 m v12.1 v13.1) fun v34 =>
  some v34)
  (some false)) fun v20 =>
  f3_r2 m a0 v20)
def f3 (m : Nat) (a0 : (List S28)) (a1 : (List Int)) : Option Bool :=
  bnd (f10 m ) fun v1 =>
  bnd (cnd (!v1)
  (some true)
  (bnd (f11 m ([(⟨[], [], [], []⟩ : S28)])) fun v35 =>
  some (!((v35.fCode == 9) && ((v35.fIndex == 0) && true))))) fun v10 =>
  f3_r3 m a0 a1 v10
noncomputable abbrev X3 (n : Nat) : Cx := cxOf Proofs.Try.prog E 3 n
noncomputable def C3 : Code := bodyOf Proofs.Try.prog 3
theorem ok3 (m : Nat) (a0 : (List S28)) (a1 : (List Int)) (o : Bool) (h : f3 m a0 a1 = some o) (n : Nat) (hn : m + 6 ≤ n) : Fn Proofs.Try.prog E n 3 [(eL e28) a0, (eL eI) a1] (eB o) := by
  obtain ⟨n, rfl⟩ : ∃ q, n = q + 1 := ⟨n - 1, by omega⟩
  unfold f3 at h
  refine Fn.of (by kernel_rfl) (by kernel_rfl) ⟨(dP e28 a0) :: (dP eI a1) :: u40 (u3 []), []⟩ (by kernel_rfl) ?_
  refine Wp.seq (subc [0] C3) (subc [1] C3) (by kernel_rfl) ?_
  refine Wp.region (by kernel_rfl) ?_
  refine Ops.seg 1 1 (by kernel_rfl) ⟨(dP e28 a0) :: (dP eI a1) :: u2 ((dB false) :: u40 []), []⟩ (by kernel_rfl) ?_
  refine Ops.done (by kernel_rfl) ?_
  refine seqQ.n ?_
  refine Wp.seq (subc [1, 0] C3) (subc [1, 1] C3) (by kernel_rfl) ?_
  refine Wp.seq (subc [1, 0, 0] C3) (subc [1, 0, 1] C3) (by kernel_rfl) ?_
  refine Wp.region (by kernel_rfl) ?_
  obtain ⟨v1, ev1, h⟩ := bnd_some h
  refine Ops.one 1 (by kernel_rfl) (callD (X3 n).E (run Proofs.Try.prog E n) 10 [] []) (dB v1) [] ⟨(dP e28 a0) :: (dP eI a1) :: u2 ((dB false) :: u4 ((dB v1) :: u35 [])), []⟩ (by kernel_rfl) (call_ok (by kernel_rfl) Args.nil (ok10 m  v1 ev1 n (by omega))) (by kernel_rfl) ?_
  refine Ops.seg 2 3 (by kernel_rfl) ⟨(dP e28 a0) :: (dP eI a1) :: u2 ((dB false) :: u4 ((dB v1) :: (dB (!v1)) :: (dB (!v1)) :: u33 [])), []⟩ (by kernel_rfl) ?_
  have J3j11 : ∀ (d4 d5 d6 d7 d8 : D) (v9 : Bool) (v10 : Bool), f3_r3 m a0 a1 v10 = some o → Ops (X3 n) (opl (subc [1, 0, 0] C3)) 9 ⟨(dP e28 a0) :: (dP eI a1) :: u2 ((dB false) :: u4 ((dB v1) :: (dB v9) :: (dB v9) :: d4 :: d5 :: d6 :: d7 :: d8 :: (dB v10) :: u27 [])), []⟩ ((seqQ (X3 n) (subc [1, 0, 1] C3) (seqQ (X3 n) (subc [1, 1] C3) (fnQ (X3 n).E.T (resOf Proofs.Try.prog 3) (eB o)))) .normal) := by
    intro d4 d5 d6 d7 d8 v9 v10 h
    unfold f3_r3 at h
    refine Ops.done (by kernel_rfl) ?_
    refine seqQ.n ?_
    rcases cnd_some h with ⟨hb, h⟩ | ⟨hb, h⟩
    · refine Wp.cond v10 [0, 1, 4] (by kernel_rfl) 0 (by kernel_rfl) (subc [1, 0, 1, 0] C3) (subc [1, 0, 1, 1] C3) (by kernel_rfl) (by kernel_rfl) (fun _ => ?_) (fun e => nomatch (hb.symm.trans e))
      refine Wp.seq (subc [1, 0, 1, 0, 0] C3) (subc [1, 0, 1, 0, 1] C3) (by kernel_rfl) ?_
      refine Wp.region (by kernel_rfl) ?_
      refine Ops.seg 1 1 (by kernel_rfl) ⟨(dP e28 a0) :: (dP eI a1) :: u2 ((dB false) :: u4 ((dB v1) :: (dB v9) :: (dB v9) :: d4 :: d5 :: d6 :: d7 :: d8 :: (dB v10) :: u27 [])), []⟩ (by kernel_rfl) ?_
      refine Ops.done (by kernel_rfl) ?_
      refine seqQ.n ?_
      refine Wp.ret (by kernel_rfl) ?_
      refine sqQ.r ?_
      refine seqQ.r ?_
      exact fnQ.r' (X3 n) (fun z => (eB z)) h (RetOk.mk' (dB false) (by kernel_rfl) (by kernel_rfl))
    · refine Wp.cond v10 [0, 1, 4] (by kernel_rfl) 0 (by kernel_rfl) (subc [1, 0, 1, 0] C3) (subc [1, 0, 1, 1] C3) (by kernel_rfl) (by kernel_rfl) (fun e => nomatch (hb.symm.trans e)) (fun _ => ?_)
      refine Wp.skip (by kernel_rfl) ?_
      refine sqQ.n ⟨(dP e28 a0) :: (dP eI a1) :: u2 ((dB false) :: u4 ((dB v1) :: (dB v9) :: (dB v9) :: d4 :: d5 :: d6 :: d7 :: d8 :: (dB v10) :: u27 [])), []⟩ (by kernel_rfl) ?_
      refine seqQ.n ?_
      refine Wp.seq (subc [1, 1, 0] C3) (subc [1, 1, 1] C3) (by kernel_rfl) ?_
      refine Wp.region (by kernel_rfl) ?_
      refine Ops.seg 2 2 (by kernel_rfl) ⟨(dP e28 a0) :: (dP eI a1) :: u2 ((dB false) :: u4 ((dB v1) :: (dB v9) :: (dB v9) :: d4 :: d5 :: d6 :: d7 :: d8 :: (dB v10) :: u1 ((dP e28 a0) :: (dP eI a1) :: u24 []))), []⟩ (by kernel_rfl) ?_
      obtain ⟨v12, ev12, h⟩ := bnd_some h
      refine Ops.one 3 (by kernel_rfl) (callD (X3 n).E (run Proofs.Try.prog E n) 12 [(dP e28 a0), (dP eI a1)] []) (.v (.tuple [(vP eI v12.1), (.agg [(vI v12.2.fCode), (vI v12.2.fIndex)])])) [] ⟨(dP e28 a0) :: (dP eI a1) :: u2 ((dB false) :: u4 ((dB v1) :: (dB v9) :: (dB v9) :: d4 :: d5 :: d6 :: d7 :: d8 :: (dB v10) :: u1 ((dP e28 a0) :: (dP eI a1) :: (.v (.tuple [(vP eI v12.1), (.agg [(vI v12.2.fCode), (vI v12.2.fIndex)])])) :: u23 []))), []⟩ (by kernel_rfl) (call_ok (by kernel_rfl) (Args.v (vP e28 a0) ((eL e28) a0) (by kernel_rfl) (Args.v (vP eI a1) ((eL eI) a1) (by kernel_rfl) Args.nil)) (ok12 m a0 a1 v12 ev12 n (by omega))) (by kernel_rfl) ?_
      refine Ops.seg 6 9 (by kernel_rfl) ⟨(dP e28 a0) :: (dP eI a1) :: u2 ((dB false) :: (dP eI v12.1) :: (.ptr 0 0) :: u2 ((dB v1) :: (dB v9) :: (dB v9) :: d4 :: d5 :: d6 :: d7 :: d8 :: (dB v10) :: (.v (.tuple [(vP eI v12.1), (.agg [(vI v12.2.fCode), (vI v12.2.fIndex)])])) :: (dP e28 a0) :: (dP eI a1) :: (.v (.tuple [(vP eI v12.1), (.agg [(vI v12.2.fCode), (vI v12.2.fIndex)])])) :: (dP eI v12.1) :: (.v (.agg [(vI v12.2.fCode), (vI v12.2.fIndex)])) :: u21 [])), [(.cells [(dI v12.2.fCode), (dI v12.2.fIndex)])]⟩ (by kernel_rfl) ?_
      refine Ops.done (by kernel_rfl) ?_
      refine seqQ.n ?_
      refine Wp.seq (subc [1, 1, 1, 0] C3) (subc [1, 1, 1, 1] C3) (by kernel_rfl) ?_
      refine Wp.region (by kernel_rfl) ?_
      refine Ops.seg 2 2 (by kernel_rfl) ⟨(dP e28 a0) :: (dP eI a1) :: u2 ((dB false) :: (dP eI v12.1) :: (.ptr 0 0) :: u2 ((dB v1) :: (dB v9) :: (dB v9) :: d4 :: d5 :: d6 :: d7 :: d8 :: (dB v10) :: (.v (.tuple [(vP eI v12.1), (.agg [(vI v12.2.fCode), (vI v12.2.fIndex)])])) :: (dP e28 a0) :: (dP eI a1) :: (.v (.tuple [(vP eI v12.1), (.agg [(vI v12.2.fCode), (vI v12.2.fIndex)])])) :: (dP eI v12.1) :: (.v (.agg [(vI v12.2.fCode), (vI v12.2.fIndex)])) :: u1 ((dP e28 a0) :: (dP eI a1) :: u18 []))), [(.cells [(dI v12.2.fCode), (dI v12.2.fIndex)])]⟩ (by kernel_rfl) ?_
      obtain ⟨v13, ev13, h⟩ := bnd_some h
      refine Ops.one 3 (by kernel_rfl) (callD (X3 n).E (run Proofs.Try.prog E n) 13 [(dP e28 a0), (dP eI a1)] [(.cells [(dI v12.2.fCode), (dI v12.2.fIndex)])]) (.v (.tuple [(vP eI v13.1), (.agg [(vI v13.2.fCode), (vI v13.2.fIndex)])])) [(.cells [(dI v12.2.fCode), (dI v12.2.fIndex)])] ⟨(dP e28 a0) :: (dP eI a1) :: u2 ((dB false) :: (dP eI v12.1) :: (.ptr 0 0) :: u2 ((dB v1) :: (dB v9) :: (dB v9) :: d4 :: d5 :: d6 :: d7 :: d8 :: (dB v10) :: (.v (.tuple [(vP eI v12.1), (.agg [(vI v12.2.fCode), (vI v12.2.fIndex)])])) :: (dP e28 a0) :: (dP eI a1) :: (.v (.tuple [(vP eI v12.1), (.agg [(vI v12.2.fCode), (vI v12.2.fIndex)])])) :: (dP eI v12.1) :: (.v (.agg [(vI v12.2.fCode), (vI v12.2.fIndex)])) :: u1 ((dP e28 a0) :: (dP eI a1) :: (.v (.tuple [(vP eI v13.1), (.agg [(vI v13.2.fCode), (vI v13.2.fIndex)])])) :: u17 []))), [(.cells [(dI v12.2.fCode), (dI v12.2.fIndex)])]⟩ (by kernel_rfl) (call_ok (by kernel_rfl) (Args.v (vP e28 a0) ((eL e28) a0) (by kernel_rfl) (Args.v (vP eI a1) ((eL eI) a1) (by kernel_rfl) Args.nil)) (ok13 m a0 a1 v13 ev13 n (by omega))) (by kernel_rfl) ?_
      refine Ops.seg 6 9 (by kernel_rfl) ⟨(dP e28 a0) :: (dP eI a1) :: u2 ((dB false) :: (dP eI v12.1) :: (.ptr 0 0) :: (dP eI v13.1) :: (.ptr 1 0) :: (dB v1) :: (dB v9) :: (dB v9) :: d4 :: d5 :: d6 :: d7 :: d8 :: (dB v10) :: (.v (.tuple [(vP eI v12.1), (.agg [(vI v12.2.fCode), (vI v12.2.fIndex)])])) :: (dP e28 a0) :: (dP eI a1) :: (.v (.tuple [(vP eI v12.1), (.agg [(vI v12.2.fCode), (vI v12.2.fIndex)])])) :: (dP eI v12.1) :: (.v (.agg [(vI v12.2.fCode), (vI v12.2.fIndex)])) :: (.v (.tuple [(vP eI v13.1), (.agg [(vI v13.2.fCode), (vI v13.2.fIndex)])])) :: (dP e28 a0) :: (dP eI a1) :: (.v (.tuple [(vP eI v13.1), (.agg [(vI v13.2.fCode), (vI v13.2.fIndex)])])) :: (dP eI v13.1) :: (.v (.agg [(vI v13.2.fCode), (vI v13.2.fIndex)])) :: u15 []), [(.cells [(dI v12.2.fCode), (dI v12.2.fIndex)]), (.cells [(dI v13.2.fCode), (dI v13.2.fIndex)])]⟩ (by kernel_rfl) ?_
      refine Ops.done (by kernel_rfl) ?_
      refine seqQ.n ?_
      refine Wp.seq (subc [1, 1, 1, 1, 0] C3) (subc [1, 1, 1, 1, 1] C3) (by kernel_rfl) ?_
      refine Wp.region (by kernel_rfl) ?_
      refine Ops.seg 4 4 (by kernel_rfl) ⟨(dP e28 a0) :: (dP eI a1) :: u2 ((dB false) :: (dP eI v12.1) :: (.ptr 0 0) :: (dP eI v13.1) :: (.ptr 1 0) :: (dB v1) :: (dB v9) :: (dB v9) :: d4 :: d5 :: d6 :: d7 :: d8 :: (dB v10) :: (.v (.tuple [(vP eI v12.1), (.agg [(vI v12.2.fCode), (vI v12.2.fIndex)])])) :: (dP e28 a0) :: (dP eI a1) :: (.v (.tuple [(vP eI v12.1), (.agg [(vI v12.2.fCode), (vI v12.2.fIndex)])])) :: (dP eI v12.1) :: (.v (.agg [(vI v12.2.fCode), (vI v12.2.fIndex)])) :: (.v (.tuple [(vP eI v13.1), (.agg [(vI v13.2.fCode), (vI v13.2.fIndex)])])) :: (dP e28 a0) :: (dP eI a1) :: (.v (.tuple [(vP eI v13.1), (.agg [(vI v13.2.fCode), (vI v13.2.fIndex)])])) :: (dP eI v13.1) :: (.v (.agg [(vI v13.2.fCode), (vI v13.2.fIndex)])) :: (.v (.agg [(vI v12.2.fCode), (vI v12.2.fIndex)])) :: (.v (.agg [(vI v13.2.fCode), (vI v13.2.fIndex)])) :: (dB (((v12.2.fCode == v13.2.fCode) && ((v12.2.fIndex == v13.2.fIndex) && true)))) :: (dB (((v12.2.fCode == v13.2.fCode) && ((v12.2.fIndex == v13.2.fIndex) && true)))) :: u11 []), [(.cells [(dI v12.2.fCode), (dI v12.2.fIndex)]), (.cells [(dI v13.2.fCode), (dI v13.2.fIndex)])]⟩ (by kernel_rfl) ?_
      have J3j21 : ∀ (d16 d17 d18 : D) (v19 : Bool) (v20 : Bool), f3_r2 m a0 v20 = some o → Ops (X3 n) (opl (subc [1, 1, 1, 1, 0] C3)) 8 ⟨(dP e28 a0) :: (dP eI a1) :: u2 ((dB false) :: (dP eI v12.1) :: (.ptr 0 0) :: (dP eI v13.1) :: (.ptr 1 0) :: (dB v1) :: (dB v9) :: (dB v9) :: d4 :: d5 :: d6 :: d7 :: d8 :: (dB v10) :: (.v (.tuple [(vP eI v12.1), (.agg [(vI v12.2.fCode), (vI v12.2.fIndex)])])) :: (dP e28 a0) :: (dP eI a1) :: (.v (.tuple [(vP eI v12.1), (.agg [(vI v12.2.fCode), (vI v12.2.fIndex)])])) :: (dP eI v12.1) :: (.v (.agg [(vI v12.2.fCode), (vI v12.2.fIndex)])) :: (.v (.tuple [(vP eI v13.1), (.agg [(vI v13.2.fCode), (vI v13.2.fIndex)])])) :: (dP e28 a0) :: (dP eI a1) :: (.v (.tuple [(vP eI v13.1), (.agg [(vI v13.2.fCode), (vI v13.2.fIndex)])])) :: (dP eI v13.1) :: (.v (.agg [(vI v13.2.fCode), (vI v13.2.fIndex)])) :: (.v (.agg [(vI v12.2.fCode), (vI v12.2.fIndex)])) :: (.v (.agg [(vI v13.2.fCode), (vI v13.2.fIndex)])) :: (dB v19) :: (dB v19) :: d16 :: d17 :: d18 :: (dB v20) :: u7 []), [(.cells [(dI v12.2.fCode), (dI v12.2.fIndex)]), (.cells [(dI v13.2.fCode), (dI v13.2.fIndex)])]⟩ ((seqQ (X3 n) (subc [1, 1, 1, 1, 1] C3) (fnQ (X3 n).E.T (resOf Proofs.Try.prog 3) (eB o))) .normal) := by
        intro d16 d17 d18 v19 v20 h
        unfold f3_r2 at h
        refine Ops.seg 1 9 (by kernel_rfl) ⟨(dP e28 a0) :: (dP eI a1) :: u2 ((dB false) :: (dP eI v12.1) :: (.ptr 0 0) :: (dP eI v13.1) :: (.ptr 1 0) :: (dB v1) :: (dB v9) :: (dB v9) :: d4 :: d5 :: d6 :: d7 :: d8 :: (dB v10) :: (.v (.tuple [(vP eI v12.1), (.agg [(vI v12.2.fCode), (vI v12.2.fIndex)])])) :: (dP e28 a0) :: (dP eI a1) :: (.v (.tuple [(vP eI v12.1), (.agg [(vI v12.2.fCode), (vI v12.2.fIndex)])])) :: (dP eI v12.1) :: (.v (.agg [(vI v12.2.fCode), (vI v12.2.fIndex)])) :: (.v (.tuple [(vP eI v13.1), (.agg [(vI v13.2.fCode), (vI v13.2.fIndex)])])) :: (dP e28 a0) :: (dP eI a1) :: (.v (.tuple [(vP eI v13.1), (.agg [(vI v13.2.fCode), (vI v13.2.fIndex)])])) :: (dP eI v13.1) :: (.v (.agg [(vI v13.2.fCode), (vI v13.2.fIndex)])) :: (.v (.agg [(vI v12.2.fCode), (vI v12.2.fIndex)])) :: (.v (.agg [(vI v13.2.fCode), (vI v13.2.fIndex)])) :: (dB v19) :: (dB v19) :: d16 :: d17 :: d18 :: (dB v20) :: (dB v20) :: u6 []), [(.cells [(dI v12.2.fCode), (dI v12.2.fIndex)]), (.cells [(dI v13.2.fCode), (dI v13.2.fIndex)])]⟩ (by kernel_rfl) ?_
        have J3j31 : ∀ (d24 d25 d26 d27 d28 : D) (v29 : Bool) (v30 : Bool), f3_r1 m v30 = some o → Ops (X3 n) (opl (subc [1, 1, 1, 1, 0] C3)) 15 ⟨(dP e28 a0) :: (dP eI a1) :: u2 ((dB false) :: (dP eI v12.1) :: (.ptr 0 0) :: (dP eI v13.1) :: (.ptr 1 0) :: (dB v1) :: (dB v9) :: (dB v9) :: d4 :: d5 :: d6 :: d7 :: d8 :: (dB v10) :: (.v (.tuple [(vP eI v12.1), (.agg [(vI v12.2.fCode), (vI v12.2.fIndex)])])) :: (dP e28 a0) :: (dP eI a1) :: (.v (.tuple [(vP eI v12.1), (.agg [(vI v12.2.fCode), (vI v12.2.fIndex)])])) :: (dP eI v12.1) :: (.v (.agg [(vI v12.2.fCode), (vI v12.2.fIndex)])) :: (.v (.tuple [(vP eI v13.1), (.agg [(vI v13.2.fCode), (vI v13.2.fIndex)])])) :: (dP e28 a0) :: (dP eI a1) :: (.v (.tuple [(vP eI v13.1), (.agg [(vI v13.2.fCode), (vI v13.2.fIndex)])])) :: (dP eI v13.1) :: (.v (.agg [(vI v13.2.fCode), (vI v13.2.fIndex)])) :: (.v (.agg [(vI v12.2.fCode), (vI v12.2.fIndex)])) :: (.v (.agg [(vI v13.2.fCode), (vI v13.2.fIndex)])) :: (dB v19) :: (dB v19) :: d16 :: d17 :: d18 :: (dB v29) :: (dB v29) :: d24 :: d25 :: d26 :: d27 :: d28 :: (dB v30) :: []), [(.cells [(dI v12.2.fCode), (dI v12.2.fIndex)]), (.cells [(dI v13.2.fCode), (dI v13.2.fIndex)])]⟩ ((seqQ (X3 n) (subc [1, 1, 1, 1, 1] C3) (fnQ (X3 n).E.T (resOf Proofs.Try.prog 3) (eB o))) .normal) := by
          intro d24 d25 d26 d27 d28 v29 v30 h
          unfold f3_r1 at h
          refine Ops.seg 1 16 (by kernel_rfl) ⟨(dP e28 a0) :: (dP eI a1) :: u2 ((dB v30) :: (dP eI v12.1) :: (.ptr 0 0) :: (dP eI v13.1) :: (.ptr 1 0) :: (dB v1) :: (dB v9) :: (dB v9) :: d4 :: d5 :: d6 :: d7 :: d8 :: (dB v10) :: (.v (.tuple [(vP eI v12.1), (.agg [(vI v12.2.fCode), (vI v12.2.fIndex)])])) :: (dP e28 a0) :: (dP eI a1) :: (.v (.tuple [(vP eI v12.1), (.agg [(vI v12.2.fCode), (vI v12.2.fIndex)])])) :: (dP eI v12.1) :: (.v (.agg [(vI v12.2.fCode), (vI v12.2.fIndex)])) :: (.v (.tuple [(vP eI v13.1), (.agg [(vI v13.2.fCode), (vI v13.2.fIndex)])])) :: (dP e28 a0) :: (dP eI a1) :: (.v (.tuple [(vP eI v13.1), (.agg [(vI v13.2.fCode), (vI v13.2.fIndex)])])) :: (dP eI v13.1) :: (.v (.agg [(vI v13.2.fCode), (vI v13.2.fIndex)])) :: (.v (.agg [(vI v12.2.fCode), (vI v12.2.fIndex)])) :: (.v (.agg [(vI v13.2.fCode), (vI v13.2.fIndex)])) :: (dB v19) :: (dB v19) :: d16 :: d17 :: d18 :: (dB v29) :: (dB v29) :: d24 :: d25 :: d26 :: d27 :: d28 :: (dB v30) :: []), [(.cells [(dI v12.2.fCode), (dI v12.2.fIndex)]), (.cells [(dI v13.2.fCode), (dI v13.2.fIndex)])]⟩ (by kernel_rfl) ?_
          refine Ops.done (by kernel_rfl) ?_
          refine seqQ.n ?_
          refine Wp.ret (by kernel_rfl) ?_
          exact fnQ.r' (X3 n) (fun z => (eB z)) h (RetOk.mk' (dB v30) (by kernel_rfl) (by kernel_rfl))
        obtain ⟨v30, ev30, h⟩ := bnd_some h
        have G3g23 : ∀ v22 : Bool, (cnd v22 (bnd (f11 m a0) fun v32 => bnd (f15 m a0) fun v33 => some (((v32.fCode == v33.fCode) && ((v32.fIndex == v33.fIndex) && true)))) (some false)) = some v30 → Ops (X3 n) (opl (subc [1, 1, 1, 1, 0] C3)) 9 ⟨(dP e28 a0) :: (dP eI a1) :: u2 ((dB false) :: (dP eI v12.1) :: (.ptr 0 0) :: (dP eI v13.1) :: (.ptr 1 0) :: (dB v1) :: (dB v9) :: (dB v9) :: d4 :: d5 :: d6 :: d7 :: d8 :: (dB v10) :: (.v (.tuple [(vP eI v12.1), (.agg [(vI v12.2.fCode), (vI v12.2.fIndex)])])) :: (dP e28 a0) :: (dP eI a1) :: (.v (.tuple [(vP eI v12.1), (.agg [(vI v12.2.fCode), (vI v12.2.fIndex)])])) :: (dP eI v12.1) :: (.v (.agg [(vI v12.2.fCode), (vI v12.2.fIndex)])) :: (.v (.tuple [(vP eI v13.1), (.agg [(vI v13.2.fCode), (vI v13.2.fIndex)])])) :: (dP e28 a0) :: (dP eI a1) :: (.v (.tuple [(vP eI v13.1), (.agg [(vI v13.2.fCode), (vI v13.2.fIndex)])])) :: (dP eI v13.1) :: (.v (.agg [(vI v13.2.fCode), (vI v13.2.fIndex)])) :: (.v (.agg [(vI v12.2.fCode), (vI v12.2.fIndex)])) :: (.v (.agg [(vI v13.2.fCode), (vI v13.2.fIndex)])) :: (dB v19) :: (dB v19) :: d16 :: d17 :: d18 :: (dB v22) :: (dB v22) :: u6 []), [(.cells [(dI v12.2.fCode), (dI v12.2.fIndex)]), (.cells [(dI v13.2.fCode), (dI v13.2.fIndex)])]⟩ ((seqQ (X3 n) (subc [1, 1, 1, 1, 1] C3) (fnQ (X3 n).E.T (resOf Proofs.Try.prog 3) (eB o))) .normal) := by
          intro v22 ev30
          cases v22
          · have ev30 := cnd_f ev30
            refine Ops.seg 6 15 (by kernel_rfl) ⟨(dP e28 a0) :: (dP eI a1) :: u2 ((dB false) :: (dP eI v12.1) :: (.ptr 0 0) :: (dP eI v13.1) :: (.ptr 1 0) :: (dB v1) :: (dB v9) :: (dB v9) :: d4 :: d5 :: d6 :: d7 :: d8 :: (dB v10) :: (.v (.tuple [(vP eI v12.1), (.agg [(vI v12.2.fCode), (vI v12.2.fIndex)])])) :: (dP e28 a0) :: (dP eI a1) :: (.v (.tuple [(vP eI v12.1), (.agg [(vI v12.2.fCode), (vI v12.2.fIndex)])])) :: (dP eI v12.1) :: (.v (.agg [(vI v12.2.fCode), (vI v12.2.fIndex)])) :: (.v (.tuple [(vP eI v13.1), (.agg [(vI v13.2.fCode), (vI v13.2.fIndex)])])) :: (dP e28 a0) :: (dP eI a1) :: (.v (.tuple [(vP eI v13.1), (.agg [(vI v13.2.fCode), (vI v13.2.fIndex)])])) :: (dP eI v13.1) :: (.v (.agg [(vI v13.2.fCode), (vI v13.2.fIndex)])) :: (.v (.agg [(vI v12.2.fCode), (vI v12.2.fIndex)])) :: (.v (.agg [(vI v13.2.fCode), (vI v13.2.fIndex)])) :: (dB v19) :: (dB v19) :: d16 :: d17 :: d18 :: (dB false) :: (dB false) :: u5 ((dB false) :: [])), [(.cells [(dI v12.2.fCode), (dI v12.2.fIndex)]), (.cells [(dI v13.2.fCode), (dI v13.2.fIndex)])]⟩ (by kernel_rfl) ?_
            exact J3j31 _ _ _ _ _ _ _ (some_sub (fun v30 => f3_r1 m v30 = some o) ev30 h)
          · have ev30 := cnd_t ev30
            refine Ops.seg 1 10 (by kernel_rfl) ⟨(dP e28 a0) :: (dP eI a1) :: u2 ((dB false) :: (dP eI v12.1) :: (.ptr 0 0) :: (dP eI v13.1) :: (.ptr 1 0) :: (dB v1) :: (dB v9) :: (dB v9) :: d4 :: d5 :: d6 :: d7 :: d8 :: (dB v10) :: (.v (.tuple [(vP eI v12.1), (.agg [(vI v12.2.fCode), (vI v12.2.fIndex)])])) :: (dP e28 a0) :: (dP eI a1) :: (.v (.tuple [(vP eI v12.1), (.agg [(vI v12.2.fCode), (vI v12.2.fIndex)])])) :: (dP eI v12.1) :: (.v (.agg [(vI v12.2.fCode), (vI v12.2.fIndex)])) :: (.v (.tuple [(vP eI v13.1), (.agg [(vI v13.2.fCode), (vI v13.2.fIndex)])])) :: (dP e28 a0) :: (dP eI a1) :: (.v (.tuple [(vP eI v13.1), (.agg [(vI v13.2.fCode), (vI v13.2.fIndex)])])) :: (dP eI v13.1) :: (.v (.agg [(vI v13.2.fCode), (vI v13.2.fIndex)])) :: (.v (.agg [(vI v12.2.fCode), (vI v12.2.fIndex)])) :: (.v (.agg [(vI v13.2.fCode), (vI v13.2.fIndex)])) :: (dB v19) :: (dB v19) :: d16 :: d17 :: d18 :: (dB true) :: (dB true) :: (dP e28 a0) :: u5 []), [(.cells [(dI v12.2.fCode), (dI v12.2.fIndex)]), (.cells [(dI v13.2.fCode), (dI v13.2.fIndex)])]⟩ (by kernel_rfl) ?_
            obtain ⟨v32, ev32, ev30⟩ := bnd_some ev30
            refine Ops.one 11 (by kernel_rfl) (callD (X3 n).E (run Proofs.Try.prog E n) 11 [(dP e28 a0)] [(.cells [(dI v12.2.fCode), (dI v12.2.fIndex)]), (.cells [(dI v13.2.fCode), (dI v13.2.fIndex)])]) (.v (.agg [(vI v32.fCode), (vI v32.fIndex)])) [(.cells [(dI v12.2.fCode), (dI v12.2.fIndex)]), (.cells [(dI v13.2.fCode), (dI v13.2.fIndex)])] ⟨(dP e28 a0) :: (dP eI a1) :: u2 ((dB false) :: (dP eI v12.1) :: (.ptr 0 0) :: (dP eI v13.1) :: (.ptr 1 0) :: (dB v1) :: (dB v9) :: (dB v9) :: d4 :: d5 :: d6 :: d7 :: d8 :: (dB v10) :: (.v (.tuple [(vP eI v12.1), (.agg [(vI v12.2.fCode), (vI v12.2.fIndex)])])) :: (dP e28 a0) :: (dP eI a1) :: (.v (.tuple [(vP eI v12.1), (.agg [(vI v12.2.fCode), (vI v12.2.fIndex)])])) :: (dP eI v12.1) :: (.v (.agg [(vI v12.2.fCode), (vI v12.2.fIndex)])) :: (.v (.tuple [(vP eI v13.1), (.agg [(vI v13.2.fCode), (vI v13.2.fIndex)])])) :: (dP e28 a0) :: (dP eI a1) :: (.v (.tuple [(vP eI v13.1), (.agg [(vI v13.2.fCode), (vI v13.2.fIndex)])])) :: (dP eI v13.1) :: (.v (.agg [(vI v13.2.fCode), (vI v13.2.fIndex)])) :: (.v (.agg [(vI v12.2.fCode), (vI v12.2.fIndex)])) :: (.v (.agg [(vI v13.2.fCode), (vI v13.2.fIndex)])) :: (dB v19) :: (dB v19) :: d16 :: d17 :: d18 :: (dB true) :: (dB true) :: (dP e28 a0) :: (.v (.agg [(vI v32.fCode), (vI v32.fIndex)])) :: u4 []), [(.cells [(dI v12.2.fCode), (dI v12.2.fIndex)]), (.cells [(dI v13.2.fCode), (dI v13.2.fIndex)])]⟩ (by kernel_rfl) (call_ok (by kernel_rfl) (Args.v (vP e28 a0) ((eL e28) a0) (by kernel_rfl) Args.nil) (ok11 m a0 v32 ev32 n (by omega))) (by kernel_rfl) ?_
            refine Ops.seg 1 12 (by kernel_rfl) ⟨(dP e28 a0) :: (dP eI a1) :: u2 ((dB false) :: (dP eI v12.1) :: (.ptr 0 0) :: (dP eI v13.1) :: (.ptr 1 0) :: (dB v1) :: (dB v9) :: (dB v9) :: d4 :: d5 :: d6 :: d7 :: d8 :: (dB v10) :: (.v (.tuple [(vP eI v12.1), (.agg [(vI v12.2.fCode), (vI v12.2.fIndex)])])) :: (dP e28 a0) :: (dP eI a1) :: (.v (.tuple [(vP eI v12.1), (.agg [(vI v12.2.fCode), (vI v12.2.fIndex)])])) :: (dP eI v12.1) :: (.v (.agg [(vI v12.2.fCode), (vI v12.2.fIndex)])) :: (.v (.tuple [(vP eI v13.1), (.agg [(vI v13.2.fCode), (vI v13.2.fIndex)])])) :: (dP e28 a0) :: (dP eI a1) :: (.v (.tuple [(vP eI v13.1), (.agg [(vI v13.2.fCode), (vI v13.2.fIndex)])])) :: (dP eI v13.1) :: (.v (.agg [(vI v13.2.fCode), (vI v13.2.fIndex)])) :: (.v (.agg [(vI v12.2.fCode), (vI v12.2.fIndex)])) :: (.v (.agg [(vI v13.2.fCode), (vI v13.2.fIndex)])) :: (dB v19) :: (dB v19) :: d16 :: d17 :: d18 :: (dB true) :: (dB true) :: (dP e28 a0) :: (.v (.agg [(vI v32.fCode), (vI v32.fIndex)])) :: (dP e28 a0) :: u3 []), [(.cells [(dI v12.2.fCode), (dI v12.2.fIndex)]), (.cells [(dI v13.2.fCode), (dI v13.2.fIndex)])]⟩ (by kernel_rfl) ?_
            obtain ⟨v33, ev33, ev30⟩ := bnd_some ev30
            refine Ops.one 13 (by kernel_rfl) (callD (X3 n).E (run Proofs.Try.prog E n) 15 [(dP e28 a0)] [(.cells [(dI v12.2.fCode), (dI v12.2.fIndex)]), (.cells [(dI v13.2.fCode), (dI v13.2.fIndex)])]) (.v (.agg [(vI v33.fCode), (vI v33.fIndex)])) [(.cells [(dI v12.2.fCode), (dI v12.2.fIndex)]), (.cells [(dI v13.2.fCode), (dI v13.2.fIndex)])] ⟨(dP e28 a0) :: (dP eI a1) :: u2 ((dB false) :: (dP eI v12.1) :: (.ptr 0 0) :: (dP eI v13.1) :: (.ptr 1 0) :: (dB v1) :: (dB v9) :: (dB v9) :: d4 :: d5 :: d6 :: d7 :: d8 :: (dB v10) :: (.v (.tuple [(vP eI v12.1), (.agg [(vI v12.2.fCode), (vI v12.2.fIndex)])])) :: (dP e28 a0) :: (dP eI a1) :: (.v (.tuple [(vP eI v12.1), (.agg [(vI v12.2.fCode), (vI v12.2.fIndex)])])) :: (dP eI v12.1) :: (.v (.agg [(vI v12.2.fCode), (vI v12.2.fIndex)])) :: (.v (.tuple [(vP eI v13.1), (.agg [(vI v13.2.fCode), (vI v13.2.fIndex)])])) :: (dP e28 a0) :: (dP eI a1) :: (.v (.tuple [(vP eI v13.1), (.agg [(vI v13.2.fCode), (vI v13.2.fIndex)])])) :: (dP eI v13.1) :: (.v (.agg [(vI v13.2.fCode), (vI v13.2.fIndex)])) :: (.v (.agg [(vI v12.2.fCode), (vI v12.2.fIndex)])) :: (.v (.agg [(vI v13.2.fCode), (vI v13.2.fIndex)])) :: (dB v19) :: (dB v19) :: d16 :: d17 :: d18 :: (dB true) :: (dB true) :: (dP e28 a0) :: (.v (.agg [(vI v32.fCode), (vI v32.fIndex)])) :: (dP e28 a0) :: (.v (.agg [(vI v33.fCode), (vI v33.fIndex)])) :: u2 []), [(.cells [(dI v12.2.fCode), (dI v12.2.fIndex)]), (.cells [(dI v13.2.fCode), (dI v13.2.fIndex)])]⟩ (by kernel_rfl) (call_ok (by kernel_rfl) (Args.v (vP e28 a0) ((eL e28) a0) (by kernel_rfl) Args.nil) (ok15 m a0 v33 ev33 n (by omega))) (by kernel_rfl) ?_
            refine Ops.seg 2 15 (by kernel_rfl) ⟨(dP e28 a0) :: (dP eI a1) :: u2 ((dB false) :: (dP eI v12.1) :: (.ptr 0 0) :: (dP eI v13.1) :: (.ptr 1 0) :: (dB v1) :: (dB v9) :: (dB v9) :: d4 :: d5 :: d6 :: d7 :: d8 :: (dB v10) :: (.v (.tuple [(vP eI v12.1), (.agg [(vI v12.2.fCode), (vI v12.2.fIndex)])])) :: (dP e28 a0) :: (dP eI a1) :: (.v (.tuple [(vP eI v12.1), (.agg [(vI v12.2.fCode), (vI v12.2.fIndex)])])) :: (dP eI v12.1) :: (.v (.agg [(vI v12.2.fCode), (vI v12.2.fIndex)])) :: (.v (.tuple [(vP eI v13.1), (.agg [(vI v13.2.fCode), (vI v13.2.fIndex)])])) :: (dP e28 a0) :: (dP eI a1) :: (.v (.tuple [(vP eI v13.1), (.agg [(vI v13.2.fCode), (vI v13.2.fIndex)])])) :: (dP eI v13.1) :: (.v (.agg [(vI v13.2.fCode), (vI v13.2.fIndex)])) :: (.v (.agg [(vI v12.2.fCode), (vI v12.2.fIndex)])) :: (.v (.agg [(vI v13.2.fCode), (vI v13.2.fIndex)])) :: (dB v19) :: (dB v19) :: d16 :: d17 :: d18 :: (dB true) :: (dB true) :: (dP e28 a0) :: (.v (.agg [(vI v32.fCode), (vI v32.fIndex)])) :: (dP e28 a0) :: (.v (.agg [(vI v33.fCode), (vI v33.fIndex)])) :: (dB (((v32.fCode == v33.fCode) && ((v32.fIndex == v33.fIndex) && true)))) :: (dB (((v32.fCode == v33.fCode) && ((v32.fIndex == v33.fIndex) && true)))) :: []), [(.cells [(dI v12.2.fCode), (dI v12.2.fIndex)]), (.cells [(dI v13.2.fCode), (dI v13.2.fIndex)])]⟩ (by kernel_rfl) ?_
            exact J3j31 _ _ _ _ _ _ _ (some_sub (fun v30 => f3_r1 m v30 = some o) ev30 h)
        exact G3g23 v20 ev30
      obtain ⟨v20, ev20, h⟩ := bnd_some h
      have G3g15 : ∀ v14 : Bool, (cnd v14 (bnd (f14 m v12.1 v13.1) fun v34 => some v34) (some false)) = some v20 → Ops (X3 n) (opl (subc [1, 1, 1, 1, 0] C3)) 4 ⟨(dP e28 a0) :: (dP eI a1) :: u2 ((dB false) :: (dP eI v12.1) :: (.ptr 0 0) :: (dP eI v13.1) :: (.ptr 1 0) :: (dB v1) :: (dB v9) :: (dB v9) :: d4 :: d5 :: d6 :: d7 :: d8 :: (dB v10) :: (.v (.tuple [(vP eI v12.1), (.agg [(vI v12.2.fCode), (vI v12.2.fIndex)])])) :: (dP e28 a0) :: (dP eI a1) :: (.v (.tuple [(vP eI v12.1), (.agg [(vI v12.2.fCode), (vI v12.2.fIndex)])])) :: (dP eI v12.1) :: (.v (.agg [(vI v12.2.fCode), (vI v12.2.fIndex)])) :: (.v (.tuple [(vP eI v13.1), (.agg [(vI v13.2.fCode), (vI v13.2.fIndex)])])) :: (dP e28 a0) :: (dP eI a1) :: (.v (.tuple [(vP eI v13.1), (.agg [(vI v13.2.fCode), (vI v13.2.fIndex)])])) :: (dP eI v13.1) :: (.v (.agg [(vI v13.2.fCode), (vI v13.2.fIndex)])) :: (.v (.agg [(vI v12.2.fCode), (vI v12.2.fIndex)])) :: (.v (.agg [(vI v13.2.fCode), (vI v13.2.fIndex)])) :: (dB v14) :: (dB v14) :: u11 []), [(.cells [(dI v12.2.fCode), (dI v12.2.fIndex)]), (.cells [(dI v13.2.fCode), (dI v13.2.fIndex)])]⟩ ((seqQ (X3 n) (subc [1, 1, 1, 1, 1] C3) (fnQ (X3 n).E.T (resOf Proofs.Try.prog 3) (eB o))) .normal) := by
        intro v14 ev20
        cases v14
        · have ev20 := cnd_f ev20
          refine Ops.seg 4 8 (by kernel_rfl) ⟨(dP e28 a0) :: (dP eI a1) :: u2 ((dB false) :: (dP eI v12.1) :: (.ptr 0 0) :: (dP eI v13.1) :: (.ptr 1 0) :: (dB v1) :: (dB v9) :: (dB v9) :: d4 :: d5 :: d6 :: d7 :: d8 :: (dB v10) :: (.v (.tuple [(vP eI v12.1), (.agg [(vI v12.2.fCode), (vI v12.2.fIndex)])])) :: (dP e28 a0) :: (dP eI a1) :: (.v (.tuple [(vP eI v12.1), (.agg [(vI v12.2.fCode), (vI v12.2.fIndex)])])) :: (dP eI v12.1) :: (.v (.agg [(vI v12.2.fCode), (vI v12.2.fIndex)])) :: (.v (.tuple [(vP eI v13.1), (.agg [(vI v13.2.fCode), (vI v13.2.fIndex)])])) :: (dP e28 a0) :: (dP eI a1) :: (.v (.tuple [(vP eI v13.1), (.agg [(vI v13.2.fCode), (vI v13.2.fIndex)])])) :: (dP eI v13.1) :: (.v (.agg [(vI v13.2.fCode), (vI v13.2.fIndex)])) :: (.v (.agg [(vI v12.2.fCode), (vI v12.2.fIndex)])) :: (.v (.agg [(vI v13.2.fCode), (vI v13.2.fIndex)])) :: (dB false) :: (dB false) :: u3 ((dB false) :: u7 [])), [(.cells [(dI v12.2.fCode), (dI v12.2.fIndex)]), (.cells [(dI v13.2.fCode), (dI v13.2.fIndex)])]⟩ (by kernel_rfl) ?_
          exact J3j21 _ _ _ _ _ (some_sub (fun v20 => f3_r2 m a0 v20 = some o) ev20 h)
        · have ev20 := cnd_t ev20
          refine Ops.seg 2 6 (by kernel_rfl) ⟨(dP e28 a0) :: (dP eI a1) :: u2 ((dB false) :: (dP eI v12.1) :: (.ptr 0 0) :: (dP eI v13.1) :: (.ptr 1 0) :: (dB v1) :: (dB v9) :: (dB v9) :: d4 :: d5 :: d6 :: d7 :: d8 :: (dB v10) :: (.v (.tuple [(vP eI v12.1), (.agg [(vI v12.2.fCode), (vI v12.2.fIndex)])])) :: (dP e28 a0) :: (dP eI a1) :: (.v (.tuple [(vP eI v12.1), (.agg [(vI v12.2.fCode), (vI v12.2.fIndex)])])) :: (dP eI v12.1) :: (.v (.agg [(vI v12.2.fCode), (vI v12.2.fIndex)])) :: (.v (.tuple [(vP eI v13.1), (.agg [(vI v13.2.fCode), (vI v13.2.fIndex)])])) :: (dP e28 a0) :: (dP eI a1) :: (.v (.tuple [(vP eI v13.1), (.agg [(vI v13.2.fCode), (vI v13.2.fIndex)])])) :: (dP eI v13.1) :: (.v (.agg [(vI v13.2.fCode), (vI v13.2.fIndex)])) :: (.v (.agg [(vI v12.2.fCode), (vI v12.2.fIndex)])) :: (.v (.agg [(vI v13.2.fCode), (vI v13.2.fIndex)])) :: (dB true) :: (dB true) :: (dP eI v12.1) :: (dP eI v13.1) :: u9 []), [(.cells [(dI v12.2.fCode), (dI v12.2.fIndex)]), (.cells [(dI v13.2.fCode), (dI v13.2.fIndex)])]⟩ (by kernel_rfl) ?_
          obtain ⟨v34, ev34, ev20⟩ := bnd_some ev20
          refine Ops.one 7 (by kernel_rfl) (callD (X3 n).E (run Proofs.Try.prog E n) 14 [(dP eI v12.1), (dP eI v13.1)] [(.cells [(dI v12.2.fCode), (dI v12.2.fIndex)]), (.cells [(dI v13.2.fCode), (dI v13.2.fIndex)])]) (dB v34) [(.cells [(dI v12.2.fCode), (dI v12.2.fIndex)]), (.cells [(dI v13.2.fCode), (dI v13.2.fIndex)])] ⟨(dP e28 a0) :: (dP eI a1) :: u2 ((dB false) :: (dP eI v12.1) :: (.ptr 0 0) :: (dP eI v13.1) :: (.ptr 1 0) :: (dB v1) :: (dB v9) :: (dB v9) :: d4 :: d5 :: d6 :: d7 :: d8 :: (dB v10) :: (.v (.tuple [(vP eI v12.1), (.agg [(vI v12.2.fCode), (vI v12.2.fIndex)])])) :: (dP e28 a0) :: (dP eI a1) :: (.v (.tuple [(vP eI v12.1), (.agg [(vI v12.2.fCode), (vI v12.2.fIndex)])])) :: (dP eI v12.1) :: (.v (.agg [(vI v12.2.fCode), (vI v12.2.fIndex)])) :: (.v (.tuple [(vP eI v13.1), (.agg [(vI v13.2.fCode), (vI v13.2.fIndex)])])) :: (dP e28 a0) :: (dP eI a1) :: (.v (.tuple [(vP eI v13.1), (.agg [(vI v13.2.fCode), (vI v13.2.fIndex)])])) :: (dP eI v13.1) :: (.v (.agg [(vI v13.2.fCode), (vI v13.2.fIndex)])) :: (.v (.agg [(vI v12.2.fCode), (vI v12.2.fIndex)])) :: (.v (.agg [(vI v13.2.fCode), (vI v13.2.fIndex)])) :: (dB true) :: (dB true) :: (dP eI v12.1) :: (dP eI v13.1) :: (dB v34) :: u8 []), [(.cells [(dI v12.2.fCode), (dI v12.2.fIndex)]), (.cells [(dI v13.2.fCode), (dI v13.2.fIndex)])]⟩ (by kernel_rfl) (call_ok (by kernel_rfl) (Args.v (vP eI v12.1) ((eL eI) v12.1) (by kernel_rfl) (Args.v (vP eI v13.1) ((eL eI) v13.1) (by kernel_rfl) Args.nil)) (ok14 m v12.1 v13.1 v34 ev34 n (by omega))) (by kernel_rfl) ?_
          refine Ops.seg 1 8 (by kernel_rfl) ⟨(dP e28 a0) :: (dP eI a1) :: u2 ((dB false) :: (dP eI v12.1) :: (.ptr 0 0) :: (dP eI v13.1) :: (.ptr 1 0) :: (dB v1) :: (dB v9) :: (dB v9) :: d4 :: d5 :: d6 :: d7 :: d8 :: (dB v10) :: (.v (.tuple [(vP eI v12.1), (.agg [(vI v12.2.fCode), (vI v12.2.fIndex)])])) :: (dP e28 a0) :: (dP eI a1) :: (.v (.tuple [(vP eI v12.1), (.agg [(vI v12.2.fCode), (vI v12.2.fIndex)])])) :: (dP eI v12.1) :: (.v (.agg [(vI v12.2.fCode), (vI v12.2.fIndex)])) :: (.v (.tuple [(vP eI v13.1), (.agg [(vI v13.2.fCode), (vI v13.2.fIndex)])])) :: (dP e28 a0) :: (dP eI a1) :: (.v (.tuple [(vP eI v13.1), (.agg [(vI v13.2.fCode), (vI v13.2.fIndex)])])) :: (dP eI v13.1) :: (.v (.agg [(vI v13.2.fCode), (vI v13.2.fIndex)])) :: (.v (.agg [(vI v12.2.fCode), (vI v12.2.fIndex)])) :: (.v (.agg [(vI v13.2.fCode), (vI v13.2.fIndex)])) :: (dB true) :: (dB true) :: (dP eI v12.1) :: (dP eI v13.1) :: (dB v34) :: (dB v34) :: u7 []), [(.cells [(dI v12.2.fCode), (dI v12.2.fIndex)]), (.cells [(dI v13.2.fCode), (dI v13.2.fIndex)])]⟩ (by kernel_rfl) ?_
          exact J3j21 _ _ _ _ _ (some_sub (fun v20 => f3_r2 m a0 v20 = some o) ev20 h)
      exact G3g15 (((v12.2.fCode == v13.2.fCode) && ((v12.2.fIndex == v13.2.fIndex) && true))) ev20
  obtain ⟨v10, ev10, h⟩ := bnd_some h
  have G3g3 : ∀ v2 : Bool, (cnd v2 (some true) (bnd (f11 m ([(⟨[], [], [], []⟩ : S28)])) fun v35 => some (!((v35.fCode == 9) && ((v35.fIndex == 0) && true))))) = some v10 → Ops (X3 n) (opl (subc [1, 0, 0] C3)) 3 ⟨(dP e28 a0) :: (dP eI a1) :: u2 ((dB false) :: u4 ((dB v1) :: (dB v2) :: (dB v2) :: u33 [])), []⟩ ((seqQ (X3 n) (subc [1, 0, 1] C3) (seqQ (X3 n) (subc [1, 1] C3) (fnQ (X3 n).E.T (resOf Proofs.Try.prog 3) (eB o)))) .normal) := by
    intro v2 ev10
    cases v2
    · have ev10 := cnd_f ev10
      refine Ops.seg 2 5 (by kernel_rfl) ⟨(dP e28 a0) :: (dP eI a1) :: u2 ((dB false) :: u4 ((dB v1) :: (dB false) :: (dB false) :: (.v (.agg [(.sl .nil (List.map eI [])), (.sl .nil (List.map eI [])), (.sl .nil (List.map eI [])), (.sl .nil (List.map eI []))])) :: (.v (.sl .nonfull (List.map e28 ([(⟨[], [], [], []⟩ : S28)])))) :: u31 [])), []⟩ (by kernel_rfl) ?_
      obtain ⟨v35, ev35, ev10⟩ := bnd_some ev10
      refine Ops.one 6 (by kernel_rfl) (callD (X3 n).E (run Proofs.Try.prog E n) 11 [(.v (.sl .nonfull (List.map e28 ([(⟨[], [], [], []⟩ : S28)]))))] []) (.v (.agg [(vI v35.fCode), (vI v35.fIndex)])) [] ⟨(dP e28 a0) :: (dP eI a1) :: u2 ((dB false) :: u4 ((dB v1) :: (dB false) :: (dB false) :: (.v (.agg [(.sl .nil (List.map eI [])), (.sl .nil (List.map eI [])), (.sl .nil (List.map eI [])), (.sl .nil (List.map eI []))])) :: (.v (.sl .nonfull (List.map e28 ([(⟨[], [], [], []⟩ : S28)])))) :: (.v (.agg [(vI v35.fCode), (vI v35.fIndex)])) :: u30 [])), []⟩ (by kernel_rfl) (call_ok (by kernel_rfl) (Args.v (.sl .nonfull (List.map e28 ([(⟨[], [], [], []⟩ : S28)]))) ((eL e28) ([(⟨[], [], [], []⟩ : S28)])) (by kernel_rfl) Args.nil) (ok11 m ([(⟨[], [], [], []⟩ : S28)]) v35 ev35 n (by omega))) (by kernel_rfl) ?_
      refine Ops.seg 3 9 (by kernel_rfl) ⟨(dP e28 a0) :: (dP eI a1) :: u2 ((dB false) :: u4 ((dB v1) :: (dB false) :: (dB false) :: (.v (.agg [(.sl .nil (List.map eI [])), (.sl .nil (List.map eI [])), (.sl .nil (List.map eI [])), (.sl .nil (List.map eI []))])) :: (.v (.sl .nonfull (List.map e28 ([(⟨[], [], [], []⟩ : S28)])))) :: (.v (.agg [(vI v35.fCode), (vI v35.fIndex)])) :: (.v (.agg [(vI 9), (vI 0)])) :: (dB (!((v35.fCode == 9) && ((v35.fIndex == 0) && true)))) :: (dB (!((v35.fCode == 9) && ((v35.fIndex == 0) && true)))) :: u27 [])), []⟩ (by kernel_rfl) ?_
      exact J3j11 _ _ _ _ _ _ _ (some_sub (fun v10 => f3_r3 m a0 a1 v10 = some o) ev10 h)
    · have ev10 := cnd_t ev10
      refine Ops.seg 6 9 (by kernel_rfl) ⟨(dP e28 a0) :: (dP eI a1) :: u2 ((dB false) :: u4 ((dB v1) :: (dB true) :: (dB true) :: u5 ((dB true) :: u27 []))), []⟩ (by kernel_rfl) ?_
      exact J3j11 _ _ _ _ _ _ _ (some_sub (fun v10 => f3_r3 m a0 a1 v10 = some o) ev10 h)
  exact G3g3 (!v1) ev10

end Go.Abs
