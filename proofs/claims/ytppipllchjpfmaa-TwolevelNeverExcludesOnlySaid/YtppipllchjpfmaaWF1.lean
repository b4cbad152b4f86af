import Derived.Test.YtppipllchjpfmaaWEnv
namespace Go.Abs
set_option linter.unusedVariables false
set_option maxRecDepth 100000

/-! ### 32 glosswright/twolevel.fault -/
def f32 (m : Nat) (a0 : Int) (a1 : Int) : Option S25 :=
  some ((⟨a0, a1⟩ : S25))
noncomputable abbrev X32 (n : Nat) : Cx := cxOf Proofs.Try.prog E 32 n
noncomputable def C32 : Code := bodyOf Proofs.Try.prog 32
theorem ok32 (m : Nat) (a0 : Int) (a1 : Int) (o : S25) (h : f32 m a0 a1 = some o) (n : Nat) (hn : m + 1 ≤ n) : Fn Proofs.Try.prog E n 32 [eI a0, eI a1] (e25 o) := by
  obtain ⟨n, rfl⟩ : ∃ q, n = q + 1 := ⟨n - 1, by omega⟩
  unfold f32 at h
  refine Fn.of (by kernel_rfl) (by kernel_rfl) ⟨(dI a0) :: (dI a1) :: u6 [], []⟩ (by kernel_rfl) ?_
  refine Wp.seq (subc [0] C32) (subc [1] C32) (by kernel_rfl) ?_
  refine Wp.region (by kernel_rfl) ?_
  refine Ops.seg 1 1 (by kernel_rfl) ⟨(dI a0) :: (dI a1) :: u2 ((.ptr 0 0) :: u3 []), [(.cells [(dI 0), (dI 0)])]⟩ (by kernel_rfl) ?_
  refine Ops.done (by kernel_rfl) ?_
  refine seqQ.n ?_
  refine Wp.seq (subc [1, 0] C32) (subc [1, 1] C32) (by kernel_rfl) ?_
  refine Wp.region (by kernel_rfl) ?_
  refine Ops.seg 4 4 (by kernel_rfl) ⟨(dI a0) :: (dI a1) :: u2 ((.ptr 0 0) :: (dI a0) :: (dI a1) :: (.v (.agg [(vI a0), (vI a1)])) :: []), [(.cells [(dI a0), (dI a1)])]⟩ (by kernel_rfl) ?_
  refine Ops.done (by kernel_rfl) ?_
  refine seqQ.n ?_
  refine Wp.ret (by kernel_rfl) ?_
  exact fnQ.r' (X32 n) (fun z => (e25 z)) h (RetOk.mk' (.v (.agg [(vI a0), (vI a1)])) (by kernel_rfl) (by kernel_rfl))

/-! ### 42 glosswright/twolevel.in -/
def f42_r1 (m : Nat) (v7 : Bool) : Option Bool :=
  some v7
def f42 (m : Nat) (a0 : Int) (a1 : Int) (a2 : Int) : Option Bool :=
  f42_r1 m (((decide (a0 ≥ a1)) && (decide (a0 ≤ a2))))
noncomputable abbrev X42 (n : Nat) : Cx := cxOf Proofs.Try.prog E 42 n
noncomputable def C42 : Code := bodyOf Proofs.Try.prog 42
theorem ok42 (m : Nat) (a0 : Int) (a1 : Int) (a2 : Int) (o : Bool) (h : f42 m a0 a1 a2 = some o) (n : Nat) (hn : m + 1 ≤ n) : Fn Proofs.Try.prog E n 42 [eI a0, eI a1, eI a2] (eB o) := by
  obtain ⟨n, rfl⟩ : ∃ q, n = q + 1 := ⟨n - 1, by omega⟩
  unfold f42 at h
  refine Fn.of (by kernel_rfl) (by kernel_rfl) ⟨(dI a0) :: (dI a1) :: (dI a2) :: u12 [], []⟩ (by kernel_rfl) ?_
  refine Wp.seq (subc [0] C42) (subc [1] C42) (by kernel_rfl) ?_
  refine Wp.region (by kernel_rfl) ?_
  refine Ops.seg 1 1 (by kernel_rfl) ⟨(dI a0) :: (dI a1) :: (dI a2) :: u3 ((dB false) :: u8 []), []⟩ (by kernel_rfl) ?_
  refine Ops.done (by kernel_rfl) ?_
  refine seqQ.n ?_
  refine Wp.seq (subc [1, 0] C42) (subc [1, 1] C42) (by kernel_rfl) ?_
  refine Wp.region (by kernel_rfl) ?_
  refine Ops.seg 4 4 (by kernel_rfl) ⟨(dI a0) :: (dI a1) :: (dI a2) :: u3 ((dB false) :: (dI a0) :: (dI a1) :: (dB (decide (a0 ≥ a1))) :: (dB (decide (a0 ≥ a1))) :: u4 []), []⟩ (by kernel_rfl) ?_
  have J42j8 : ∀ (d3 d4 d5 : D) (v6 : Bool) (v7 : Bool), f42_r1 m v7 = some o → Ops (X42 n) (opl (subc [1, 0] C42)) 8 ⟨(dI a0) :: (dI a1) :: (dI a2) :: u3 ((dB false) :: (dI a0) :: (dI a1) :: (dB v6) :: (dB v6) :: d3 :: d4 :: d5 :: (dB v7) :: []), []⟩ ((seqQ (X42 n) (subc [1, 1] C42) (fnQ (X42 n).E.T (resOf Proofs.Try.prog 42) (eB o))) .normal) := by
    intro d3 d4 d5 v6 v7 h
    unfold f42_r1 at h
    refine Ops.seg 1 9 (by kernel_rfl) ⟨(dI a0) :: (dI a1) :: (dI a2) :: u3 ((dB v7) :: (dI a0) :: (dI a1) :: (dB v6) :: (dB v6) :: d3 :: d4 :: d5 :: (dB v7) :: []), []⟩ (by kernel_rfl) ?_
    refine Ops.done (by kernel_rfl) ?_
    refine seqQ.n ?_
    refine Wp.ret (by kernel_rfl) ?_
    exact fnQ.r' (X42 n) (fun z => (eB z)) h (RetOk.mk' (dB v7) (by kernel_rfl) (by kernel_rfl))
  have G42g2 : ∀ v1 : Bool, f42_r1 m ((v1 && (decide (a0 ≤ a2)))) = some o → Ops (X42 n) (opl (subc [1, 0] C42)) 4 ⟨(dI a0) :: (dI a1) :: (dI a2) :: u3 ((dB false) :: (dI a0) :: (dI a1) :: (dB v1) :: (dB v1) :: u4 []), []⟩ ((seqQ (X42 n) (subc [1, 1] C42) (fnQ (X42 n).E.T (resOf Proofs.Try.prog 42) (eB o))) .normal) := by
    intro v1 h
    cases v1
    · refine Ops.seg 4 8 (by kernel_rfl) ⟨(dI a0) :: (dI a1) :: (dI a2) :: u3 ((dB false) :: (dI a0) :: (dI a1) :: (dB false) :: (dB false) :: u3 ((dB false) :: [])), []⟩ (by kernel_rfl) ?_
      exact J42j8 _ _ _ _ _ h
    · refine Ops.seg 4 8 (by kernel_rfl) ⟨(dI a0) :: (dI a1) :: (dI a2) :: u3 ((dB false) :: (dI a0) :: (dI a1) :: (dB true) :: (dB true) :: (dI a0) :: (dI a2) :: (dB (decide (a0 ≤ a2))) :: (dB (decide (a0 ≤ a2))) :: []), []⟩ (by kernel_rfl) ?_
      exact J42j8 _ _ _ _ _ h
  exact G42g2 (decide (a0 ≥ a1)) h

/-! ### 43 glosswright/twolevel.spots -/
def f43_r1 (m : Nat) (v26 : Int) (v36 : S39) (v45 : Bool) : Option (Stp Int (Int)) :=
  cnd v45
  (some (.ret 3))
  (cnd (((v36.fLexical == 0) && ((v36.fSurface == 0) && true)))
  (some (.ret 5))
  (some (.nxt (w64 (v26 + 1)))))
def f43_B2 (m : Nat) (a0 : (List S39)) (v26 : Int) : Option (Stp Int (Int)) :=
  cnd (decide (v26 < (a0.length : Int)))
  (bnd (idx a0 v26) fun v36 =>
  bnd (f42 m v36.fLexical ((-1)) 1114111) fun v37 =>
  bnd (cnd (!v37)
  (some true)
  (bnd (f42 m v36.fSurface ((-1)) 1114111) fun v47 =>
  some (!v47))) fun v45 =>
  f43_r1 m v26 v36 v45)
  (some (.brk v26))
def f43 (m : Nat) (a0 : (List S39)) : Option Int :=
  brk (iter (fun (y : Int) => f43_B2 m a0 y) m 0) some fun y49 =>
  some 0
noncomputable abbrev X43 (n : Nat) : Cx := cxOf Proofs.Try.prog E 43 n
noncomputable def C43 : Code := bodyOf Proofs.Try.prog 43
theorem ok43 (m : Nat) (a0 : (List S39)) (o : Int) (h : f43 m a0 = some o) (n : Nat) (hn : m + 2 ≤ n) : Fn Proofs.Try.prog E n 43 [(eL e39) a0] (eI o) := by
  obtain ⟨n, rfl⟩ : ∃ q, n = q + 1 := ⟨n - 1, by omega⟩
  unfold f43 at h
  refine Fn.of (by kernel_rfl) (by kernel_rfl) ⟨(dP e39 a0) :: u24 [], []⟩ (by kernel_rfl) ?_
  refine Wp.seq (subc [0] C43) (subc [1] C43) (by kernel_rfl) ?_
  refine Wp.region (by kernel_rfl) ?_
  refine Ops.seg 1 1 (by kernel_rfl) ⟨(dP e39 a0) :: u1 ((dI 0) :: u22 []), []⟩ (by kernel_rfl) ?_
  refine Ops.done (by kernel_rfl) ?_
  refine seqQ.n ?_
  refine Wp.seq (subc [1, 0] C43) (subc [1, 1] C43) (by kernel_rfl) ?_
  refine Wp.seq (subc [1, 0, 0] C43) (subc [1, 0, 1] C43) (by kernel_rfl) ?_
  refine Wp.region (by kernel_rfl) ?_
  refine Ops.seg 1 1 (by kernel_rfl) ⟨(dP e39 a0) :: u1 ((dI 0) :: u2 ((dP e39 a0) :: u19 [])), []⟩ (by kernel_rfl) ?_
  refine Ops.one 2 (by kernel_rfl) ((lenD (X43 n).E.T 37 (D.unt (dP e39 a0))).map (·, [])) (dI ((a0.length : Int))) [] ⟨(dP e39 a0) :: u1 ((dI 0) :: u2 ((dP e39 a0) :: (dI ((a0.length : Int))) :: u18 [])), []⟩ (by kernel_rfl) (len_r _ 37 40 .plain e39 a0 (by kernel_rfl)) (by kernel_rfl) ?_
  refine Ops.seg 1 3 (by kernel_rfl) ⟨(dP e39 a0) :: u1 ((dI 0) :: u2 ((dP e39 a0) :: (dI ((a0.length : Int))) :: (dI 0) :: u17 [])), []⟩ (by kernel_rfl) ?_
  refine Ops.done (by kernel_rfl) ?_
  refine seqQ.n ?_
  refine Wp.block (id := 0) [2] (by kernel_rfl) 0 (by kernel_rfl) (subc [1, 0, 1, 0] C43) (by kernel_rfl) ?_
  have hLx48 : ∀ (kx28 : Nat) (v26 : Int)  (ox27 : Int ⊕ (Int)), iter (fun (y : Int) => f43_B2 m a0 y) kx28 v26 = some ox27 → ∀ nx29, kx28 ≤ nx29 → (∀ r, ox27 = .inl r → ∀ σ, RetOk (X43 n) (resOf Proofs.Try.prog 43) (eI r) σ → (seqQ (X43 n) (subc [1, 1] C43) (fnQ (X43 n).E.T (resOf Proofs.Try.prog 43) (eI o))) .ret σ) → (∀ (y : Int) , ox27 = .inr y → (seqQ (X43 n) (subc [1, 1] C43) (fnQ (X43 n).E.T (resOf Proofs.Try.prog 43) (eI o))) .normal ⟨q2 ((dI 0) :: q2 ((dP e39 a0) :: (dI ((a0.length : Int))) :: (dI y) :: q17 [])), []⟩) → Lp (X43 n) [2, 5, 6, 7] 0 (subc [1, 0, 1, 0, 0] C43) nx29 ⟨q2 ((dI 0) :: q2 ((dP e39 a0) :: (dI ((a0.length : Int))) :: (dI v26) :: q17 [])), []⟩ (blkQ (X43 n) 0 [2] 0 (seqQ (X43 n) (subc [1, 1] C43) (fnQ (X43 n).E.T (resOf Proofs.Try.prog 43) (eI o)))) := by
    intro kx28
    induction kx28 with
    | zero => intro v26  ox27 h; exact (iter_zero h).elim
    | succ kx28 ihx30 =>
      intro v26  ox27 h nx29 hnx33 hrx31 hxx32
      obtain ⟨nx29, rfl⟩ : ∃ q, nx29 = q + 1 := ⟨nx29 - 1, by omega⟩
      obtain ⟨sx34, h, hsx35⟩ := iter_some h
      have h : f43_B2 m a0 v26 = some sx34 := h
      unfold f43_B2 at h
      refine Lp.succ ?_
      refine Wp.seq (subc [1, 0, 1, 0, 0, 0] C43) (subc [1, 0, 1, 0, 0, 1] C43) (by kernel_rfl) ?_
      refine Wp.region (by kernel_rfl) ?_
      refine Ops.seg 1 1 (by kernel_rfl) ⟨q2 ((dI 0) :: q2 ((dP e39 a0) :: (dI ((a0.length : Int))) :: (dI v26) :: (dB (decide (v26 < (a0.length : Int)))) :: q16 [])), []⟩ (by kernel_rfl) ?_
      refine Ops.done (by kernel_rfl) ?_
      refine seqQ.n ?_
      refine Wp.seq (subc [1, 0, 1, 0, 0, 1, 0] C43) (subc [1, 0, 1, 0, 0, 1, 1] C43) (by kernel_rfl) ?_
      rcases cnd_some h with ⟨hb, h⟩ | ⟨hb, h⟩
      · refine Wp.cond (decide (v26 < (a0.length : Int))) [2, 5, 6, 7] (by kernel_rfl) 0 (by kernel_rfl) (subc [1, 0, 1, 0, 0, 1, 0, 0] C43) (subc [1, 0, 1, 0, 0, 1, 0, 1] C43) (by kernel_rfl) (by kernel_rfl) (fun _ => ?_) (fun e => nomatch (hb.symm.trans e))
        refine Wp.skip (by kernel_rfl) ?_
        refine sqQ.n ⟨q2 ((dI 0) :: q2 ((dP e39 a0) :: (dI ((a0.length : Int))) :: (dI v26) :: (dB (decide (v26 < (a0.length : Int)))) :: q16 [])), []⟩ (by kernel_rfl) ?_
        refine seqQ.n ?_
        refine Wp.seq (subc [1, 0, 1, 0, 0, 1, 1, 0] C43) (subc [1, 0, 1, 0, 0, 1, 1, 1] C43) (by kernel_rfl) ?_
        refine Wp.block (id := 1) [2, 5, 6, 7] (by kernel_rfl) 0 (by kernel_rfl) (subc [1, 0, 1, 0, 0, 1, 1, 0, 0] C43) (by kernel_rfl) ?_
        refine Wp.seq (subc [1, 0, 1, 0, 0, 1, 1, 0, 0, 0] C43) (subc [1, 0, 1, 0, 0, 1, 1, 0, 0, 1] C43) (by kernel_rfl) ?_
        refine Wp.region (by kernel_rfl) ?_
        obtain ⟨v36, ev36, h⟩ := bnd_some h
        refine Ops.one 1 (by kernel_rfl) ((indexAddrH (X43 n).E.T [] 37 (D.unt (dP e39 a0)) (dI v26)).map (·, [])) (.vptr [(vI v36.fLexical), (vI v36.fSurface)]) [] ⟨q2 ((dI 0) :: q2 ((dP e39 a0) :: (dI ((a0.length : Int))) :: (dI v26) :: (dB (decide (v26 < (a0.length : Int)))) :: (.vptr [(vI v36.fLexical), (vI v36.fSurface)]) :: q15 [])), []⟩ (by kernel_rfl) (ix_r _ 37 40 2 .plain e39 a0 v26 v36 ev36 (by kernel_rfl) (by kernel_rfl) (fun _ => rfl)) (by kernel_rfl) ?_
        refine Ops.seg 3 4 (by kernel_rfl) ⟨q2 ((dI 0) :: q1 ((.ptr 0 0) :: (dP e39 a0) :: (dI ((a0.length : Int))) :: (dI v26) :: (dB (decide (v26 < (a0.length : Int)))) :: (.vptr [(vI v36.fLexical), (vI v36.fSurface)]) :: (.v (.agg [(vI v36.fLexical), (vI v36.fSurface)])) :: q14 [])), [(.cells [(dI v36.fLexical), (dI v36.fSurface)])]⟩ (by kernel_rfl) ?_
        refine Ops.done (by kernel_rfl) ?_
        refine seqQ.n ?_
        refine Wp.seq (subc [1, 0, 1, 0, 0, 1, 1, 0, 0, 1, 0] C43) (subc [1, 0, 1, 0, 0, 1, 1, 0, 0, 1, 1] C43) (by kernel_rfl) ?_
        refine Wp.seq (subc [1, 0, 1, 0, 0, 1, 1, 0, 0, 1, 0, 0] C43) (subc [1, 0, 1, 0, 0, 1, 1, 0, 0, 1, 0, 1] C43) (by kernel_rfl) ?_
        refine Wp.region (by kernel_rfl) ?_
        refine Ops.seg 2 2 (by kernel_rfl) ⟨q2 ((dI 0) :: q1 ((.ptr 0 0) :: (dP e39 a0) :: (dI ((a0.length : Int))) :: (dI v26) :: (dB (decide (v26 < (a0.length : Int)))) :: (.vptr [(vI v36.fLexical), (vI v36.fSurface)]) :: (.v (.agg [(vI v36.fLexical), (vI v36.fSurface)])) :: (.ptr 0 0) :: (dI v36.fLexical) :: q12 [])), [(.cells [(dI v36.fLexical), (dI v36.fSurface)])]⟩ (by kernel_rfl) ?_
        obtain ⟨v37, ev37, h⟩ := bnd_some h
        refine Ops.one 3 (by kernel_rfl) (callD (X43 n).E (run Proofs.Try.prog E n) 42 [(dI v36.fLexical), (dI ((-1))), (dI 1114111)] [(.cells [(dI v36.fLexical), (dI v36.fSurface)])]) (dB v37) [(.cells [(dI v36.fLexical), (dI v36.fSurface)])] ⟨q2 ((dI 0) :: q1 ((.ptr 0 0) :: (dP e39 a0) :: (dI ((a0.length : Int))) :: (dI v26) :: (dB (decide (v26 < (a0.length : Int)))) :: (.vptr [(vI v36.fLexical), (vI v36.fSurface)]) :: (.v (.agg [(vI v36.fLexical), (vI v36.fSurface)])) :: (.ptr 0 0) :: (dI v36.fLexical) :: (dB v37) :: q11 [])), [(.cells [(dI v36.fLexical), (dI v36.fSurface)])]⟩ (by kernel_rfl) (call_ok (by kernel_rfl) (Args.v (vI v36.fLexical) (eI v36.fLexical) (by kernel_rfl) (Args.v (vI ((-1))) (eI ((-1))) (by kernel_rfl) (Args.v (vI 1114111) (eI 1114111) (by kernel_rfl) Args.nil))) (ok42 m v36.fLexical ((-1)) 1114111 v37 ev37 n (by omega))) (by kernel_rfl) ?_
        refine Ops.seg 2 5 (by kernel_rfl) ⟨q2 ((dI 0) :: q1 ((.ptr 0 0) :: (dP e39 a0) :: (dI ((a0.length : Int))) :: (dI v26) :: (dB (decide (v26 < (a0.length : Int)))) :: (.vptr [(vI v36.fLexical), (vI v36.fSurface)]) :: (.v (.agg [(vI v36.fLexical), (vI v36.fSurface)])) :: (.ptr 0 0) :: (dI v36.fLexical) :: (dB v37) :: (dB (!v37)) :: (dB (!v37)) :: q9 [])), [(.cells [(dI v36.fLexical), (dI v36.fSurface)])]⟩ (by kernel_rfl) ?_
        have J43j46 : ∀ (d40 d41 d42 d43 : D) (v44 : Bool) (v45 : Bool), f43_r1 m v26 v36 v45 = some sx34 → Ops (X43 n) (opl (subc [1, 0, 1, 0, 0, 1, 1, 0, 0, 1, 0, 0] C43)) 10 ⟨q2 ((dI 0) :: q1 ((.ptr 0 0) :: (dP e39 a0) :: (dI ((a0.length : Int))) :: (dI v26) :: (dB (decide (v26 < (a0.length : Int)))) :: (.vptr [(vI v36.fLexical), (vI v36.fSurface)]) :: (.v (.agg [(vI v36.fLexical), (vI v36.fSurface)])) :: (.ptr 0 0) :: (dI v36.fLexical) :: (dB v37) :: (dB v44) :: (dB v44) :: d40 :: d41 :: d42 :: d43 :: (dB v45) :: q4 [])), [(.cells [(dI v36.fLexical), (dI v36.fSurface)])]⟩ ((seqQ (X43 n) (subc [1, 0, 1, 0, 0, 1, 1, 0, 0, 1, 0, 1] C43) (seqQ (X43 n) (subc [1, 0, 1, 0, 0, 1, 1, 0, 0, 1, 1] C43) (blkQ (X43 n) 1 [2, 5, 6, 7] 0 (seqQ (X43 n) (subc [1, 0, 1, 0, 0, 1, 1, 1] C43) (lpQ (X43 n) [2, 5, 6, 7] 0 (subc [1, 0, 1, 0, 0] C43) nx29 (blkQ (X43 n) 0 [2] 0 (seqQ (X43 n) (subc [1, 1] C43) (fnQ (X43 n).E.T (resOf Proofs.Try.prog 43) (eI o))))))))) .normal) := by
          intro d40 d41 d42 d43 v44 v45 h
          unfold f43_r1 at h
          refine Ops.done (by kernel_rfl) ?_
          refine seqQ.n ?_
          rcases cnd_some h with ⟨hb, h⟩ | ⟨hb, h⟩
          · refine Wp.cond v45 [2, 4, 5, 6, 7] (by kernel_rfl) 1 (by kernel_rfl) (subc [1, 0, 1, 0, 0, 1, 1, 0, 0, 1, 0, 1, 0] C43) (subc [1, 0, 1, 0, 0, 1, 1, 0, 0, 1, 0, 1, 1] C43) (by kernel_rfl) (by kernel_rfl) (fun _ => ?_) (fun e => nomatch (hb.symm.trans e))
            refine Wp.seq (subc [1, 0, 1, 0, 0, 1, 1, 0, 0, 1, 0, 1, 0, 0] C43) (subc [1, 0, 1, 0, 0, 1, 1, 0, 0, 1, 0, 1, 0, 1] C43) (by kernel_rfl) ?_
            refine Wp.region (by kernel_rfl) ?_
            refine Ops.seg 1 1 (by kernel_rfl) ⟨q2 ((dI 3) :: q1 ((.ptr 0 0) :: (dP e39 a0) :: (dI ((a0.length : Int))) :: (dI v26) :: (dB (decide (v26 < (a0.length : Int)))) :: (.vptr [(vI v36.fLexical), (vI v36.fSurface)]) :: (.v (.agg [(vI v36.fLexical), (vI v36.fSurface)])) :: (.ptr 0 0) :: (dI v36.fLexical) :: (dB v37) :: (dB v44) :: (dB v44) :: d40 :: d41 :: d42 :: d43 :: (dB v45) :: q4 [])), [(.cells [(dI v36.fLexical), (dI v36.fSurface)])]⟩ (by kernel_rfl) ?_
            refine Ops.done (by kernel_rfl) ?_
            refine seqQ.n ?_
            refine Wp.ret (by kernel_rfl) ?_
            refine sqQ.r ?_
            refine seqQ.r ?_
            refine blkQ.r ?_
            refine seqQ.r ?_
            cases h
            refine lpQ.r ?_
            refine blkQ.r ?_
            exact hrx31 _ hsx35 _ (RetOk.forget [2, 5, 6, 7] (by kernel_rfl) (RetOk.mk' (dI 3) (by kernel_rfl) (by kernel_rfl)))
          · refine Wp.cond v45 [2, 4, 5, 6, 7] (by kernel_rfl) 1 (by kernel_rfl) (subc [1, 0, 1, 0, 0, 1, 1, 0, 0, 1, 0, 1, 0] C43) (subc [1, 0, 1, 0, 0, 1, 1, 0, 0, 1, 0, 1, 1] C43) (by kernel_rfl) (by kernel_rfl) (fun e => nomatch (hb.symm.trans e)) (fun _ => ?_)
            refine Wp.skip (by kernel_rfl) ?_
            refine sqQ.n ⟨q2 ((dI 0) :: q1 ((.ptr 0 0) :: (dP e39 a0) :: (dI ((a0.length : Int))) :: (dI v26) :: (dB (decide (v26 < (a0.length : Int)))) :: (.vptr [(vI v36.fLexical), (vI v36.fSurface)]) :: (.v (.agg [(vI v36.fLexical), (vI v36.fSurface)])) :: (.ptr 0 0) :: (dI v36.fLexical) :: (dB v37) :: (dB v44) :: (dB v44) :: d40 :: d41 :: d42 :: d43 :: (dB v45) :: q4 [])), [(.cells [(dI v36.fLexical), (dI v36.fSurface)])]⟩ (by kernel_rfl) ?_
            refine seqQ.n ?_
            refine Wp.seq (subc [1, 0, 1, 0, 0, 1, 1, 0, 0, 1, 1, 0] C43) (subc [1, 0, 1, 0, 0, 1, 1, 0, 0, 1, 1, 1] C43) (by kernel_rfl) ?_
            refine Wp.region (by kernel_rfl) ?_
            refine Ops.seg 3 3 (by kernel_rfl) ⟨q2 ((dI 0) :: q1 ((.ptr 0 0) :: (dP e39 a0) :: (dI ((a0.length : Int))) :: (dI v26) :: (dB (decide (v26 < (a0.length : Int)))) :: (.vptr [(vI v36.fLexical), (vI v36.fSurface)]) :: (.v (.agg [(vI v36.fLexical), (vI v36.fSurface)])) :: (.ptr 0 0) :: (dI v36.fLexical) :: (dB v37) :: (dB v44) :: (dB v44) :: d40 :: d41 :: d42 :: d43 :: (dB v45) :: (.v (.agg [(vI v36.fLexical), (vI v36.fSurface)])) :: (.v (.agg [(vI 0), (vI 0)])) :: (dB (((v36.fLexical == 0) && ((v36.fSurface == 0) && true)))) :: q1 [])), [(.cells [(dI v36.fLexical), (dI v36.fSurface)])]⟩ (by kernel_rfl) ?_
            refine Ops.done (by kernel_rfl) ?_
            refine seqQ.n ?_
            rcases cnd_some h with ⟨hb, h⟩ | ⟨hb, h⟩
            · refine Wp.cond (((v36.fLexical == 0) && ((v36.fSurface == 0) && true))) [2, 5, 6, 7] (by kernel_rfl) 1 (by kernel_rfl) (subc [1, 0, 1, 0, 0, 1, 1, 0, 0, 1, 1, 1, 0] C43) (subc [1, 0, 1, 0, 0, 1, 1, 0, 0, 1, 1, 1, 1] C43) (by kernel_rfl) (by kernel_rfl) (fun _ => ?_) (fun e => nomatch (hb.symm.trans e))
              refine Wp.seq (subc [1, 0, 1, 0, 0, 1, 1, 0, 0, 1, 1, 1, 0, 0] C43) (subc [1, 0, 1, 0, 0, 1, 1, 0, 0, 1, 1, 1, 0, 1] C43) (by kernel_rfl) ?_
              refine Wp.region (by kernel_rfl) ?_
              refine Ops.seg 1 1 (by kernel_rfl) ⟨q2 ((dI 5) :: q1 ((.ptr 0 0) :: (dP e39 a0) :: (dI ((a0.length : Int))) :: (dI v26) :: (dB (decide (v26 < (a0.length : Int)))) :: (.vptr [(vI v36.fLexical), (vI v36.fSurface)]) :: (.v (.agg [(vI v36.fLexical), (vI v36.fSurface)])) :: (.ptr 0 0) :: (dI v36.fLexical) :: (dB v37) :: (dB v44) :: (dB v44) :: d40 :: d41 :: d42 :: d43 :: (dB v45) :: (.v (.agg [(vI v36.fLexical), (vI v36.fSurface)])) :: (.v (.agg [(vI 0), (vI 0)])) :: (dB (((v36.fLexical == 0) && ((v36.fSurface == 0) && true)))) :: q1 [])), [(.cells [(dI v36.fLexical), (dI v36.fSurface)])]⟩ (by kernel_rfl) ?_
              refine Ops.done (by kernel_rfl) ?_
              refine seqQ.n ?_
              refine Wp.ret (by kernel_rfl) ?_
              refine sqQ.r ?_
              refine blkQ.r ?_
              refine seqQ.r ?_
              cases h
              refine lpQ.r ?_
              refine blkQ.r ?_
              exact hrx31 _ hsx35 _ (RetOk.forget [2, 5, 6, 7] (by kernel_rfl) (RetOk.mk' (dI 5) (by kernel_rfl) (by kernel_rfl)))
            · refine Wp.cond (((v36.fLexical == 0) && ((v36.fSurface == 0) && true))) [2, 5, 6, 7] (by kernel_rfl) 1 (by kernel_rfl) (subc [1, 0, 1, 0, 0, 1, 1, 0, 0, 1, 1, 1, 0] C43) (subc [1, 0, 1, 0, 0, 1, 1, 0, 0, 1, 1, 1, 1] C43) (by kernel_rfl) (by kernel_rfl) (fun e => nomatch (hb.symm.trans e)) (fun _ => ?_)
              refine Wp.skip (by kernel_rfl) ?_
              refine sqQ.n ⟨q2 ((dI 0) :: q1 ((.ptr 0 0) :: (dP e39 a0) :: (dI ((a0.length : Int))) :: (dI v26) :: (dB (decide (v26 < (a0.length : Int)))) :: (.vptr [(vI v36.fLexical), (vI v36.fSurface)]) :: (.v (.agg [(vI v36.fLexical), (vI v36.fSurface)])) :: (.ptr 0 0) :: (dI v36.fLexical) :: (dB v37) :: (dB v44) :: (dB v44) :: d40 :: d41 :: d42 :: d43 :: (dB v45) :: (.v (.agg [(vI v36.fLexical), (vI v36.fSurface)])) :: (.v (.agg [(vI 0), (vI 0)])) :: (dB (((v36.fLexical == 0) && ((v36.fSurface == 0) && true)))) :: q1 [])), [(.cells [(dI v36.fLexical), (dI v36.fSurface)])]⟩ (by kernel_rfl) ?_
              refine blkQ.n ⟨q2 ((dI 0) :: q2 ((dP e39 a0) :: (dI ((a0.length : Int))) :: (dI v26) :: q17 [])), []⟩ (by kernel_rfl) ?_
              refine seqQ.n ?_
              refine Wp.region (by kernel_rfl) ?_
              refine Ops.seg 2 2 (by kernel_rfl) ⟨q2 ((dI 0) :: q2 ((dP e39 a0) :: (dI ((a0.length : Int))) :: (dI (w64 (v26 + 1))) :: q16 ((dI (w64 (v26 + 1))) :: []))), []⟩ (by kernel_rfl) ?_
              refine Ops.done (by kernel_rfl) ?_
              refine lpQ.n ⟨q2 ((dI 0) :: q2 ((dP e39 a0) :: (dI ((a0.length : Int))) :: (dI (w64 (v26 + 1))) :: q17 [])), []⟩ (by kernel_rfl) ?_
              cases h
              exact ihx30 (w64 (v26 + 1))  _ hsx35 _ (by omega) hrx31 hxx32
        obtain ⟨v45, ev45, h⟩ := bnd_some h
        have G43g39 : ∀ v38 : Bool, (cnd v38 (some true) (bnd (f42 m v36.fSurface ((-1)) 1114111) fun v47 => some (!v47))) = some v45 → Ops (X43 n) (opl (subc [1, 0, 1, 0, 0, 1, 1, 0, 0, 1, 0, 0] C43)) 5 ⟨q2 ((dI 0) :: q1 ((.ptr 0 0) :: (dP e39 a0) :: (dI ((a0.length : Int))) :: (dI v26) :: (dB (decide (v26 < (a0.length : Int)))) :: (.vptr [(vI v36.fLexical), (vI v36.fSurface)]) :: (.v (.agg [(vI v36.fLexical), (vI v36.fSurface)])) :: (.ptr 0 0) :: (dI v36.fLexical) :: (dB v37) :: (dB v38) :: (dB v38) :: q9 [])), [(.cells [(dI v36.fLexical), (dI v36.fSurface)])]⟩ ((seqQ (X43 n) (subc [1, 0, 1, 0, 0, 1, 1, 0, 0, 1, 0, 1] C43) (seqQ (X43 n) (subc [1, 0, 1, 0, 0, 1, 1, 0, 0, 1, 1] C43) (blkQ (X43 n) 1 [2, 5, 6, 7] 0 (seqQ (X43 n) (subc [1, 0, 1, 0, 0, 1, 1, 1] C43) (lpQ (X43 n) [2, 5, 6, 7] 0 (subc [1, 0, 1, 0, 0] C43) nx29 (blkQ (X43 n) 0 [2] 0 (seqQ (X43 n) (subc [1, 1] C43) (fnQ (X43 n).E.T (resOf Proofs.Try.prog 43) (eI o))))))))) .normal) := by
          intro v38 ev45
          cases v38
          · have ev45 := cnd_f ev45
            refine Ops.seg 2 7 (by kernel_rfl) ⟨q2 ((dI 0) :: q1 ((.ptr 0 0) :: (dP e39 a0) :: (dI ((a0.length : Int))) :: (dI v26) :: (dB (decide (v26 < (a0.length : Int)))) :: (.vptr [(vI v36.fLexical), (vI v36.fSurface)]) :: (.v (.agg [(vI v36.fLexical), (vI v36.fSurface)])) :: (.ptr 0 0) :: (dI v36.fLexical) :: (dB v37) :: (dB false) :: (dB false) :: (.ptr 0 1) :: (dI v36.fSurface) :: q7 [])), [(.cells [(dI v36.fLexical), (dI v36.fSurface)])]⟩ (by kernel_rfl) ?_
            obtain ⟨v47, ev47, ev45⟩ := bnd_some ev45
            refine Ops.one 8 (by kernel_rfl) (callD (X43 n).E (run Proofs.Try.prog E n) 42 [(dI v36.fSurface), (dI ((-1))), (dI 1114111)] [(.cells [(dI v36.fLexical), (dI v36.fSurface)])]) (dB v47) [(.cells [(dI v36.fLexical), (dI v36.fSurface)])] ⟨q2 ((dI 0) :: q1 ((.ptr 0 0) :: (dP e39 a0) :: (dI ((a0.length : Int))) :: (dI v26) :: (dB (decide (v26 < (a0.length : Int)))) :: (.vptr [(vI v36.fLexical), (vI v36.fSurface)]) :: (.v (.agg [(vI v36.fLexical), (vI v36.fSurface)])) :: (.ptr 0 0) :: (dI v36.fLexical) :: (dB v37) :: (dB false) :: (dB false) :: (.ptr 0 1) :: (dI v36.fSurface) :: (dB v47) :: q6 [])), [(.cells [(dI v36.fLexical), (dI v36.fSurface)])]⟩ (by kernel_rfl) (call_ok (by kernel_rfl) (Args.v (vI v36.fSurface) (eI v36.fSurface) (by kernel_rfl) (Args.v (vI ((-1))) (eI ((-1))) (by kernel_rfl) (Args.v (vI 1114111) (eI 1114111) (by kernel_rfl) Args.nil))) (ok42 m v36.fSurface ((-1)) 1114111 v47 ev47 n (by omega))) (by kernel_rfl) ?_
            refine Ops.seg 2 10 (by kernel_rfl) ⟨q2 ((dI 0) :: q1 ((.ptr 0 0) :: (dP e39 a0) :: (dI ((a0.length : Int))) :: (dI v26) :: (dB (decide (v26 < (a0.length : Int)))) :: (.vptr [(vI v36.fLexical), (vI v36.fSurface)]) :: (.v (.agg [(vI v36.fLexical), (vI v36.fSurface)])) :: (.ptr 0 0) :: (dI v36.fLexical) :: (dB v37) :: (dB false) :: (dB false) :: (.ptr 0 1) :: (dI v36.fSurface) :: (dB v47) :: (dB (!v47)) :: (dB (!v47)) :: q4 [])), [(.cells [(dI v36.fLexical), (dI v36.fSurface)])]⟩ (by kernel_rfl) ?_
            exact J43j46 _ _ _ _ _ _ (some_sub (fun v45 => f43_r1 m v26 v36 v45 = some sx34) ev45 h)
          · have ev45 := cnd_t ev45
            refine Ops.seg 5 10 (by kernel_rfl) ⟨q2 ((dI 0) :: q1 ((.ptr 0 0) :: (dP e39 a0) :: (dI ((a0.length : Int))) :: (dI v26) :: (dB (decide (v26 < (a0.length : Int)))) :: (.vptr [(vI v36.fLexical), (vI v36.fSurface)]) :: (.v (.agg [(vI v36.fLexical), (vI v36.fSurface)])) :: (.ptr 0 0) :: (dI v36.fLexical) :: (dB v37) :: (dB true) :: (dB true) :: u4 ((dB true) :: q4 []))), [(.cells [(dI v36.fLexical), (dI v36.fSurface)])]⟩ (by kernel_rfl) ?_
            exact J43j46 _ _ _ _ _ _ (some_sub (fun v45 => f43_r1 m v26 v36 v45 = some sx34) ev45 h)
        exact G43g39 (!v37) ev45
      · refine Wp.cond (decide (v26 < (a0.length : Int))) [2, 5, 6, 7] (by kernel_rfl) 0 (by kernel_rfl) (subc [1, 0, 1, 0, 0, 1, 0, 0] C43) (subc [1, 0, 1, 0, 0, 1, 0, 1] C43) (by kernel_rfl) (by kernel_rfl) (fun e => nomatch (hb.symm.trans e)) (fun _ => ?_)
        refine Wp.exit (id := 0) (by kernel_rfl) ?_
        refine sqQ.x ?_
        refine seqQ.x ?_
        cases h
        refine lpQ.x ?_
        refine blkQ.x ⟨q2 ((dI 0) :: q2 ((dP e39 a0) :: (dI ((a0.length : Int))) :: (dI v26) :: q17 [])), []⟩ (by kernel_rfl) ?_
        exact hxx32 v26  hsx35
  refine Wp.loop [2, 5, 6, 7] 0 (by kernel_rfl) (subc [1, 0, 1, 0, 0] C43) (by kernel_rfl) (by kernel_rfl) ⟨q2 ((dI 0) :: q2 ((dP e39 a0) :: (dI ((a0.length : Int))) :: (dI 0) :: q17 [])), []⟩ (by kernel_rfl) ?_
  rcases brk_some h with ⟨r50, er50, h⟩ | ⟨y49, ey49, h⟩
  · refine hLx48 _ 0  _ er50 n (by omega) (fun r er σ hσ => ?_) (fun y  ey => by cases ey)
    cases er
    refine seqQ.r ?_
    exact fnQ.r' (X43 n) (fun z => (eI z)) h hσ
  · refine hLx48 _ 0  _ ey49 n (by omega) (fun r er => by cases er) (fun y  ey => ?_)
    cases ey
    refine seqQ.n ?_
    refine Wp.seq (subc [1, 1, 0] C43) (subc [1, 1, 1] C43) (by kernel_rfl) ?_
    refine Wp.region (by kernel_rfl) ?_
    refine Ops.seg 1 1 (by kernel_rfl) ⟨q2 ((dI 0) :: q2 ((dP e39 a0) :: (dI ((a0.length : Int))) :: (dI y49) :: q17 [])), []⟩ (by kernel_rfl) ?_
    refine Ops.done (by kernel_rfl) ?_
    refine seqQ.n ?_
    refine Wp.ret (by kernel_rfl) ?_
    exact fnQ.r' (X43 n) (fun z => (eI z)) h (RetOk.mk' (dI 0) (by kernel_rfl) (by kernel_rfl))

/-! ### 33 glosswright/twolevel.validate -/
def f33_r1 (m : Nat) (v39 : Int) (v49 : S64) (v57 : Bool) : Option (Stp Int (Int)) :=
  cnd v57
  (some (.ret 9))
  (bnd (f43 m v49.fLeft) fun v59 =>
  cnd (v59 != 0)
  (some (.ret v59))
  (bnd (f43 m v49.fRight) fun v60 =>
  cnd (v60 != 0)
  (some (.ret v60))
  (some (.nxt (w64 (v39 + 1))))))
def f33_B2 (m : Nat) (a0 : S42) (v39 : Int) : Option (Stp Int (Int)) :=
  cnd (decide (v39 < (a0.fContexts.length : Int)))
  (bnd (idx a0.fContexts v39) fun v49 =>
  f33_r1 m v39 v49 (((decide ((v49.fLeft.length : Int) > 3)) || (decide ((v49.fRight.length : Int) > 3)))))
  (some (.brk v39))
def f33_r3 (m : Nat) (a0 : S42) (v11 : Bool) : Option Int :=
  cnd v11
  (some 3)
  (cnd (((a0.fPair.fLexical == 0) && ((a0.fPair.fSurface == 0) && true)))
  (some 5)
  (bnd (f42 m ((a0.fContexts.length : Int)) 1 3) fun v13 =>
  cnd (!v13)
  (some 9)
  (brk (iter (fun (y : Int) => f33_B2 m a0 y) m 0) some fun y62 =>
  some 0)))
def f33 (m : Nat) (a0 : S42) : Option Int :=
  bnd (f42 m a0.fKind 1 4) fun v1 =>
  cnd (!v1)
  (some 4)
  (bnd (f42 m a0.fPair.fLexical 0 1114111) fun v2 =>
  bnd (cnd (!v2)
  (some true)
  (bnd (f42 m a0.fPair.fSurface 0 1114111) fun v64 =>
  some (!v64))) fun v11 =>
  f33_r3 m a0 v11)
noncomputable abbrev X33 (n : Nat) : Cx := cxOf Proofs.Try.prog E 33 n
noncomputable def C33 : Code := bodyOf Proofs.Try.prog 33
theorem ok33 (m : Nat) (a0 : S42) (o : Int) (h : f33 m a0 = some o) (n : Nat) (hn : m + 3 ≤ n) : Fn Proofs.Try.prog E n 33 [e42 a0] (eI o) := by
  obtain ⟨n, rfl⟩ : ∃ q, n = q + 1 := ⟨n - 1, by omega⟩
  unfold f33 at h
  refine Fn.of (by kernel_rfl) (by kernel_rfl) ⟨(.v (.agg [(vI a0.fKind), (vI a0.fPair.fLexical), (vI a0.fPair.fSurface), (vP e64 a0.fContexts)])) :: u40 (u21 []), []⟩ (by kernel_rfl) ?_
  refine Wp.seq (subc [0] C33) (subc [1] C33) (by kernel_rfl) ?_
  refine Wp.region (by kernel_rfl) ?_
  refine Ops.seg 2 2 (by kernel_rfl) ⟨(.v (.agg [(vI a0.fKind), (vI a0.fPair.fLexical), (vI a0.fPair.fSurface), (vP e64 a0.fContexts)])) :: (.ptr 0 0) :: (dI 0) :: u40 (u19 []), [(.cells [(dI a0.fKind), (dI a0.fPair.fLexical), (dI a0.fPair.fSurface), (dP e64 a0.fContexts)])]⟩ (by kernel_rfl) ?_
  refine Ops.done (by kernel_rfl) ?_
  refine seqQ.n ?_
  refine Wp.seq (subc [1, 0] C33) (subc [1, 1] C33) (by kernel_rfl) ?_
  refine Wp.seq (subc [1, 0, 0] C33) (subc [1, 0, 1] C33) (by kernel_rfl) ?_
  refine Wp.region (by kernel_rfl) ?_
  refine Ops.seg 2 2 (by kernel_rfl) ⟨(.v (.agg [(vI a0.fKind), (vI a0.fPair.fLexical), (vI a0.fPair.fSurface), (vP e64 a0.fContexts)])) :: (.ptr 0 0) :: (dI 0) :: u4 ((.ptr 0 0) :: (dI a0.fKind) :: u40 (u13 [])), [(.cells [(dI a0.fKind), (dI a0.fPair.fLexical), (dI a0.fPair.fSurface), (dP e64 a0.fContexts)])]⟩ (by kernel_rfl) ?_
  obtain ⟨v1, ev1, h⟩ := bnd_some h
  refine Ops.one 3 (by kernel_rfl) (callD (X33 n).E (run Proofs.Try.prog E n) 42 [(dI a0.fKind), (dI 1), (dI 4)] [(.cells [(dI a0.fKind), (dI a0.fPair.fLexical), (dI a0.fPair.fSurface), (dP e64 a0.fContexts)])]) (dB v1) [(.cells [(dI a0.fKind), (dI a0.fPair.fLexical), (dI a0.fPair.fSurface), (dP e64 a0.fContexts)])] ⟨(.v (.agg [(vI a0.fKind), (vI a0.fPair.fLexical), (vI a0.fPair.fSurface), (vP e64 a0.fContexts)])) :: (.ptr 0 0) :: (dI 0) :: u4 ((.ptr 0 0) :: (dI a0.fKind) :: (dB v1) :: u40 (u12 [])), [(.cells [(dI a0.fKind), (dI a0.fPair.fLexical), (dI a0.fPair.fSurface), (dP e64 a0.fContexts)])]⟩ (by kernel_rfl) (call_ok (by kernel_rfl) (Args.v (vI a0.fKind) (eI a0.fKind) (by kernel_rfl) (Args.v (vI 1) (eI 1) (by kernel_rfl) (Args.v (vI 4) (eI 4) (by kernel_rfl) Args.nil))) (ok42 m a0.fKind 1 4 v1 ev1 n (by omega))) (by kernel_rfl) ?_
  refine Ops.seg 1 4 (by kernel_rfl) ⟨(.v (.agg [(vI a0.fKind), (vI a0.fPair.fLexical), (vI a0.fPair.fSurface), (vP e64 a0.fContexts)])) :: (.ptr 0 0) :: (dI 0) :: u4 ((.ptr 0 0) :: (dI a0.fKind) :: (dB v1) :: (dB (!v1)) :: u40 (u11 [])), [(.cells [(dI a0.fKind), (dI a0.fPair.fLexical), (dI a0.fPair.fSurface), (dP e64 a0.fContexts)])]⟩ (by kernel_rfl) ?_
  refine Ops.done (by kernel_rfl) ?_
  refine seqQ.n ?_
  rcases cnd_some h with ⟨hb, h⟩ | ⟨hb, h⟩
  · refine Wp.cond (!v1) [1, 2] (by kernel_rfl) 1 (by kernel_rfl) (subc [1, 0, 1, 0] C33) (subc [1, 0, 1, 1] C33) (by kernel_rfl) (by kernel_rfl) (fun _ => ?_) (fun e => nomatch (hb.symm.trans e))
    refine Wp.seq (subc [1, 0, 1, 0, 0] C33) (subc [1, 0, 1, 0, 1] C33) (by kernel_rfl) ?_
    refine Wp.region (by kernel_rfl) ?_
    refine Ops.seg 1 1 (by kernel_rfl) ⟨(.v (.agg [(vI a0.fKind), (vI a0.fPair.fLexical), (vI a0.fPair.fSurface), (vP e64 a0.fContexts)])) :: (.ptr 0 0) :: (dI 4) :: u4 ((.ptr 0 0) :: (dI a0.fKind) :: (dB v1) :: (dB (!v1)) :: u40 (u11 [])), [(.cells [(dI a0.fKind), (dI a0.fPair.fLexical), (dI a0.fPair.fSurface), (dP e64 a0.fContexts)])]⟩ (by kernel_rfl) ?_
    refine Ops.done (by kernel_rfl) ?_
    refine seqQ.n ?_
    refine Wp.ret (by kernel_rfl) ?_
    refine sqQ.r ?_
    refine seqQ.r ?_
    exact fnQ.r' (X33 n) (fun z => (eI z)) h (RetOk.mk' (dI 4) (by kernel_rfl) (by kernel_rfl))
  · refine Wp.cond (!v1) [1, 2] (by kernel_rfl) 1 (by kernel_rfl) (subc [1, 0, 1, 0] C33) (subc [1, 0, 1, 1] C33) (by kernel_rfl) (by kernel_rfl) (fun e => nomatch (hb.symm.trans e)) (fun _ => ?_)
    refine Wp.skip (by kernel_rfl) ?_
    refine sqQ.n ⟨(.v (.agg [(vI a0.fKind), (vI a0.fPair.fLexical), (vI a0.fPair.fSurface), (vP e64 a0.fContexts)])) :: (.ptr 0 0) :: (dI 0) :: u4 ((.ptr 0 0) :: (dI a0.fKind) :: (dB v1) :: (dB (!v1)) :: u40 (u11 [])), [(.cells [(dI a0.fKind), (dI a0.fPair.fLexical), (dI a0.fPair.fSurface), (dP e64 a0.fContexts)])]⟩ (by kernel_rfl) ?_
    refine seqQ.n ?_
    refine Wp.seq (subc [1, 1, 0] C33) (subc [1, 1, 1] C33) (by kernel_rfl) ?_
    refine Wp.seq (subc [1, 1, 0, 0] C33) (subc [1, 1, 0, 1] C33) (by kernel_rfl) ?_
    refine Wp.region (by kernel_rfl) ?_
    refine Ops.seg 3 3 (by kernel_rfl) ⟨(.v (.agg [(vI a0.fKind), (vI a0.fPair.fLexical), (vI a0.fPair.fSurface), (vP e64 a0.fContexts)])) :: (.ptr 0 0) :: (dI 0) :: u4 ((.ptr 0 0) :: (dI a0.fKind) :: (dB v1) :: (dB (!v1)) :: (.ptr 0 1) :: (.ptr 0 1) :: (dI a0.fPair.fLexical) :: u40 (u8 [])), [(.cells [(dI a0.fKind), (dI a0.fPair.fLexical), (dI a0.fPair.fSurface), (dP e64 a0.fContexts)])]⟩ (by kernel_rfl) ?_
    obtain ⟨v2, ev2, h⟩ := bnd_some h
    refine Ops.one 4 (by kernel_rfl) (callD (X33 n).E (run Proofs.Try.prog E n) 42 [(dI a0.fPair.fLexical), (dI 0), (dI 1114111)] [(.cells [(dI a0.fKind), (dI a0.fPair.fLexical), (dI a0.fPair.fSurface), (dP e64 a0.fContexts)])]) (dB v2) [(.cells [(dI a0.fKind), (dI a0.fPair.fLexical), (dI a0.fPair.fSurface), (dP e64 a0.fContexts)])] ⟨(.v (.agg [(vI a0.fKind), (vI a0.fPair.fLexical), (vI a0.fPair.fSurface), (vP e64 a0.fContexts)])) :: (.ptr 0 0) :: (dI 0) :: u4 ((.ptr 0 0) :: (dI a0.fKind) :: (dB v1) :: (dB (!v1)) :: (.ptr 0 1) :: (.ptr 0 1) :: (dI a0.fPair.fLexical) :: (dB v2) :: u40 (u7 [])), [(.cells [(dI a0.fKind), (dI a0.fPair.fLexical), (dI a0.fPair.fSurface), (dP e64 a0.fContexts)])]⟩ (by kernel_rfl) (call_ok (by kernel_rfl) (Args.v (vI a0.fPair.fLexical) (eI a0.fPair.fLexical) (by kernel_rfl) (Args.v (vI 0) (eI 0) (by kernel_rfl) (Args.v (vI 1114111) (eI 1114111) (by kernel_rfl) Args.nil))) (ok42 m a0.fPair.fLexical 0 1114111 v2 ev2 n (by omega))) (by kernel_rfl) ?_
    refine Ops.seg 2 6 (by kernel_rfl) ⟨(.v (.agg [(vI a0.fKind), (vI a0.fPair.fLexical), (vI a0.fPair.fSurface), (vP e64 a0.fContexts)])) :: (.ptr 0 0) :: (dI 0) :: u4 ((.ptr 0 0) :: (dI a0.fKind) :: (dB v1) :: (dB (!v1)) :: (.ptr 0 1) :: (.ptr 0 1) :: (dI a0.fPair.fLexical) :: (dB v2) :: (dB (!v2)) :: (dB (!v2)) :: u40 (u5 [])), [(.cells [(dI a0.fKind), (dI a0.fPair.fLexical), (dI a0.fPair.fSurface), (dP e64 a0.fContexts)])]⟩ (by kernel_rfl) ?_
    have J33j12 : ∀ (d5 d6 d7 d8 d9 : D) (v10 : Bool) (v11 : Bool), f33_r3 m a0 v11 = some o → Ops (X33 n) (opl (subc [1, 1, 0, 0] C33)) 12 ⟨(.v (.agg [(vI a0.fKind), (vI a0.fPair.fLexical), (vI a0.fPair.fSurface), (vP e64 a0.fContexts)])) :: (.ptr 0 0) :: (dI 0) :: u4 ((.ptr 0 0) :: (dI a0.fKind) :: (dB v1) :: (dB (!v1)) :: (.ptr 0 1) :: (.ptr 0 1) :: (dI a0.fPair.fLexical) :: (dB v2) :: (dB v10) :: (dB v10) :: d5 :: d6 :: d7 :: d8 :: d9 :: (dB v11) :: u39 []), [(.cells [(dI a0.fKind), (dI a0.fPair.fLexical), (dI a0.fPair.fSurface), (dP e64 a0.fContexts)])]⟩ ((seqQ (X33 n) (subc [1, 1, 0, 1] C33) (seqQ (X33 n) (subc [1, 1, 1] C33) (fnQ (X33 n).E.T (resOf Proofs.Try.prog 33) (eI o)))) .normal) := by
      intro d5 d6 d7 d8 d9 v10 v11 h
      unfold f33_r3 at h
      refine Ops.done (by kernel_rfl) ?_
      refine seqQ.n ?_
      rcases cnd_some h with ⟨hb, h⟩ | ⟨hb, h⟩
      · refine Wp.cond v11 [1, 2] (by kernel_rfl) 1 (by kernel_rfl) (subc [1, 1, 0, 1, 0] C33) (subc [1, 1, 0, 1, 1] C33) (by kernel_rfl) (by kernel_rfl) (fun _ => ?_) (fun e => nomatch (hb.symm.trans e))
        refine Wp.seq (subc [1, 1, 0, 1, 0, 0] C33) (subc [1, 1, 0, 1, 0, 1] C33) (by kernel_rfl) ?_
        refine Wp.region (by kernel_rfl) ?_
        refine Ops.seg 1 1 (by kernel_rfl) ⟨(.v (.agg [(vI a0.fKind), (vI a0.fPair.fLexical), (vI a0.fPair.fSurface), (vP e64 a0.fContexts)])) :: (.ptr 0 0) :: (dI 3) :: u4 ((.ptr 0 0) :: (dI a0.fKind) :: (dB v1) :: (dB (!v1)) :: (.ptr 0 1) :: (.ptr 0 1) :: (dI a0.fPair.fLexical) :: (dB v2) :: (dB v10) :: (dB v10) :: d5 :: d6 :: d7 :: d8 :: d9 :: (dB v11) :: u39 []), [(.cells [(dI a0.fKind), (dI a0.fPair.fLexical), (dI a0.fPair.fSurface), (dP e64 a0.fContexts)])]⟩ (by kernel_rfl) ?_
        refine Ops.done (by kernel_rfl) ?_
        refine seqQ.n ?_
        refine Wp.ret (by kernel_rfl) ?_
        refine sqQ.r ?_
        refine seqQ.r ?_
        exact fnQ.r' (X33 n) (fun z => (eI z)) h (RetOk.mk' (dI 3) (by kernel_rfl) (by kernel_rfl))
      · refine Wp.cond v11 [1, 2] (by kernel_rfl) 1 (by kernel_rfl) (subc [1, 1, 0, 1, 0] C33) (subc [1, 1, 0, 1, 1] C33) (by kernel_rfl) (by kernel_rfl) (fun e => nomatch (hb.symm.trans e)) (fun _ => ?_)
        refine Wp.skip (by kernel_rfl) ?_
        refine sqQ.n ⟨(.v (.agg [(vI a0.fKind), (vI a0.fPair.fLexical), (vI a0.fPair.fSurface), (vP e64 a0.fContexts)])) :: (.ptr 0 0) :: (dI 0) :: u4 ((.ptr 0 0) :: (dI a0.fKind) :: (dB v1) :: (dB (!v1)) :: (.ptr 0 1) :: (.ptr 0 1) :: (dI a0.fPair.fLexical) :: (dB v2) :: (dB v10) :: (dB v10) :: d5 :: d6 :: d7 :: d8 :: d9 :: (dB v11) :: u39 []), [(.cells [(dI a0.fKind), (dI a0.fPair.fLexical), (dI a0.fPair.fSurface), (dP e64 a0.fContexts)])]⟩ (by kernel_rfl) ?_
        refine seqQ.n ?_
        refine Wp.seq (subc [1, 1, 1, 0] C33) (subc [1, 1, 1, 1] C33) (by kernel_rfl) ?_
        refine Wp.seq (subc [1, 1, 1, 0, 0] C33) (subc [1, 1, 1, 0, 1] C33) (by kernel_rfl) ?_
        refine Wp.region (by kernel_rfl) ?_
        refine Ops.seg 4 4 (by kernel_rfl) ⟨(.v (.agg [(vI a0.fKind), (vI a0.fPair.fLexical), (vI a0.fPair.fSurface), (vP e64 a0.fContexts)])) :: (.ptr 0 0) :: (dI 0) :: u4 ((.ptr 0 0) :: (dI a0.fKind) :: (dB v1) :: (dB (!v1)) :: (.ptr 0 1) :: (.ptr 0 1) :: (dI a0.fPair.fLexical) :: (dB v2) :: (dB v10) :: (dB v10) :: d5 :: d6 :: d7 :: d8 :: d9 :: (dB v11) :: (.ptr 0 1) :: (.v (.agg [(vI a0.fPair.fLexical), (vI a0.fPair.fSurface)])) :: (.v (.agg [(vI 0), (vI 0)])) :: (dB (((a0.fPair.fLexical == 0) && ((a0.fPair.fSurface == 0) && true)))) :: u35 []), [(.cells [(dI a0.fKind), (dI a0.fPair.fLexical), (dI a0.fPair.fSurface), (dP e64 a0.fContexts)])]⟩ (by kernel_rfl) ?_
        refine Ops.done (by kernel_rfl) ?_
        refine seqQ.n ?_
        rcases cnd_some h with ⟨hb, h⟩ | ⟨hb, h⟩
        · refine Wp.cond (((a0.fPair.fLexical == 0) && ((a0.fPair.fSurface == 0) && true))) [1, 2] (by kernel_rfl) 1 (by kernel_rfl) (subc [1, 1, 1, 0, 1, 0] C33) (subc [1, 1, 1, 0, 1, 1] C33) (by kernel_rfl) (by kernel_rfl) (fun _ => ?_) (fun e => nomatch (hb.symm.trans e))
          refine Wp.seq (subc [1, 1, 1, 0, 1, 0, 0] C33) (subc [1, 1, 1, 0, 1, 0, 1] C33) (by kernel_rfl) ?_
          refine Wp.region (by kernel_rfl) ?_
          refine Ops.seg 1 1 (by kernel_rfl) ⟨(.v (.agg [(vI a0.fKind), (vI a0.fPair.fLexical), (vI a0.fPair.fSurface), (vP e64 a0.fContexts)])) :: (.ptr 0 0) :: (dI 5) :: u4 ((.ptr 0 0) :: (dI a0.fKind) :: (dB v1) :: (dB (!v1)) :: (.ptr 0 1) :: (.ptr 0 1) :: (dI a0.fPair.fLexical) :: (dB v2) :: (dB v10) :: (dB v10) :: d5 :: d6 :: d7 :: d8 :: d9 :: (dB v11) :: (.ptr 0 1) :: (.v (.agg [(vI a0.fPair.fLexical), (vI a0.fPair.fSurface)])) :: (.v (.agg [(vI 0), (vI 0)])) :: (dB (((a0.fPair.fLexical == 0) && ((a0.fPair.fSurface == 0) && true)))) :: u35 []), [(.cells [(dI a0.fKind), (dI a0.fPair.fLexical), (dI a0.fPair.fSurface), (dP e64 a0.fContexts)])]⟩ (by kernel_rfl) ?_
          refine Ops.done (by kernel_rfl) ?_
          refine seqQ.n ?_
          refine Wp.ret (by kernel_rfl) ?_
          refine sqQ.r ?_
          refine seqQ.r ?_
          exact fnQ.r' (X33 n) (fun z => (eI z)) h (RetOk.mk' (dI 5) (by kernel_rfl) (by kernel_rfl))
        · refine Wp.cond (((a0.fPair.fLexical == 0) && ((a0.fPair.fSurface == 0) && true))) [1, 2] (by kernel_rfl) 1 (by kernel_rfl) (subc [1, 1, 1, 0, 1, 0] C33) (subc [1, 1, 1, 0, 1, 1] C33) (by kernel_rfl) (by kernel_rfl) (fun e => nomatch (hb.symm.trans e)) (fun _ => ?_)
          refine Wp.skip (by kernel_rfl) ?_
          refine sqQ.n ⟨(.v (.agg [(vI a0.fKind), (vI a0.fPair.fLexical), (vI a0.fPair.fSurface), (vP e64 a0.fContexts)])) :: (.ptr 0 0) :: (dI 0) :: u4 ((.ptr 0 0) :: (dI a0.fKind) :: (dB v1) :: (dB (!v1)) :: (.ptr 0 1) :: (.ptr 0 1) :: (dI a0.fPair.fLexical) :: (dB v2) :: (dB v10) :: (dB v10) :: d5 :: d6 :: d7 :: d8 :: d9 :: (dB v11) :: (.ptr 0 1) :: (.v (.agg [(vI a0.fPair.fLexical), (vI a0.fPair.fSurface)])) :: (.v (.agg [(vI 0), (vI 0)])) :: (dB (((a0.fPair.fLexical == 0) && ((a0.fPair.fSurface == 0) && true)))) :: u35 []), [(.cells [(dI a0.fKind), (dI a0.fPair.fLexical), (dI a0.fPair.fSurface), (dP e64 a0.fContexts)])]⟩ (by kernel_rfl) ?_
          refine seqQ.n ?_
          refine Wp.seq (subc [1, 1, 1, 1, 0] C33) (subc [1, 1, 1, 1, 1] C33) (by kernel_rfl) ?_
          refine Wp.seq (subc [1, 1, 1, 1, 0, 0] C33) (subc [1, 1, 1, 1, 0, 1] C33) (by kernel_rfl) ?_
          refine Wp.region (by kernel_rfl) ?_
          refine Ops.seg 2 2 (by kernel_rfl) ⟨(.v (.agg [(vI a0.fKind), (vI a0.fPair.fLexical), (vI a0.fPair.fSurface), (vP e64 a0.fContexts)])) :: (.ptr 0 0) :: (dI 0) :: u4 ((.ptr 0 0) :: (dI a0.fKind) :: (dB v1) :: (dB (!v1)) :: (.ptr 0 1) :: (.ptr 0 1) :: (dI a0.fPair.fLexical) :: (dB v2) :: (dB v10) :: (dB v10) :: d5 :: d6 :: d7 :: d8 :: d9 :: (dB v11) :: (.ptr 0 1) :: (.v (.agg [(vI a0.fPair.fLexical), (vI a0.fPair.fSurface)])) :: (.v (.agg [(vI 0), (vI 0)])) :: (dB (((a0.fPair.fLexical == 0) && ((a0.fPair.fSurface == 0) && true)))) :: (.ptr 0 3) :: (dP e64 a0.fContexts) :: u33 []), [(.cells [(dI a0.fKind), (dI a0.fPair.fLexical), (dI a0.fPair.fSurface), (dP e64 a0.fContexts)])]⟩ (by kernel_rfl) ?_
          refine Ops.one 3 (by kernel_rfl) ((lenD (X33 n).E.T 41 (D.unt (dP e64 a0.fContexts))).map (·, [(.cells [(dI a0.fKind), (dI a0.fPair.fLexical), (dI a0.fPair.fSurface), (dP e64 a0.fContexts)])])) (dI ((a0.fContexts.length : Int))) [(.cells [(dI a0.fKind), (dI a0.fPair.fLexical), (dI a0.fPair.fSurface), (dP e64 a0.fContexts)])] ⟨(.v (.agg [(vI a0.fKind), (vI a0.fPair.fLexical), (vI a0.fPair.fSurface), (vP e64 a0.fContexts)])) :: (.ptr 0 0) :: (dI 0) :: u4 ((.ptr 0 0) :: (dI a0.fKind) :: (dB v1) :: (dB (!v1)) :: (.ptr 0 1) :: (.ptr 0 1) :: (dI a0.fPair.fLexical) :: (dB v2) :: (dB v10) :: (dB v10) :: d5 :: d6 :: d7 :: d8 :: d9 :: (dB v11) :: (.ptr 0 1) :: (.v (.agg [(vI a0.fPair.fLexical), (vI a0.fPair.fSurface)])) :: (.v (.agg [(vI 0), (vI 0)])) :: (dB (((a0.fPair.fLexical == 0) && ((a0.fPair.fSurface == 0) && true)))) :: (.ptr 0 3) :: (dP e64 a0.fContexts) :: (dI ((a0.fContexts.length : Int))) :: u32 []), [(.cells [(dI a0.fKind), (dI a0.fPair.fLexical), (dI a0.fPair.fSurface), (dP e64 a0.fContexts)])]⟩ (by kernel_rfl) (len_r _ 41 65 .plain e64 a0.fContexts (by kernel_rfl)) (by kernel_rfl) ?_
          obtain ⟨v13, ev13, h⟩ := bnd_some h
          refine Ops.one 4 (by kernel_rfl) (callD (X33 n).E (run Proofs.Try.prog E n) 42 [(dI ((a0.fContexts.length : Int))), (dI 1), (dI 3)] [(.cells [(dI a0.fKind), (dI a0.fPair.fLexical), (dI a0.fPair.fSurface), (dP e64 a0.fContexts)])]) (dB v13) [(.cells [(dI a0.fKind), (dI a0.fPair.fLexical), (dI a0.fPair.fSurface), (dP e64 a0.fContexts)])] ⟨(.v (.agg [(vI a0.fKind), (vI a0.fPair.fLexical), (vI a0.fPair.fSurface), (vP e64 a0.fContexts)])) :: (.ptr 0 0) :: (dI 0) :: u4 ((.ptr 0 0) :: (dI a0.fKind) :: (dB v1) :: (dB (!v1)) :: (.ptr 0 1) :: (.ptr 0 1) :: (dI a0.fPair.fLexical) :: (dB v2) :: (dB v10) :: (dB v10) :: d5 :: d6 :: d7 :: d8 :: d9 :: (dB v11) :: (.ptr 0 1) :: (.v (.agg [(vI a0.fPair.fLexical), (vI a0.fPair.fSurface)])) :: (.v (.agg [(vI 0), (vI 0)])) :: (dB (((a0.fPair.fLexical == 0) && ((a0.fPair.fSurface == 0) && true)))) :: (.ptr 0 3) :: (dP e64 a0.fContexts) :: (dI ((a0.fContexts.length : Int))) :: (dB v13) :: u31 []), [(.cells [(dI a0.fKind), (dI a0.fPair.fLexical), (dI a0.fPair.fSurface), (dP e64 a0.fContexts)])]⟩ (by kernel_rfl) (call_ok (by kernel_rfl) (Args.v (vI ((a0.fContexts.length : Int))) (eI ((a0.fContexts.length : Int))) (by kernel_rfl) (Args.v (vI 1) (eI 1) (by kernel_rfl) (Args.v (vI 3) (eI 3) (by kernel_rfl) Args.nil))) (ok42 m ((a0.fContexts.length : Int)) 1 3 v13 ev13 n (by omega))) (by kernel_rfl) ?_
          refine Ops.seg 1 5 (by kernel_rfl) ⟨(.v (.agg [(vI a0.fKind), (vI a0.fPair.fLexical), (vI a0.fPair.fSurface), (vP e64 a0.fContexts)])) :: (.ptr 0 0) :: (dI 0) :: u4 ((.ptr 0 0) :: (dI a0.fKind) :: (dB v1) :: (dB (!v1)) :: (.ptr 0 1) :: (.ptr 0 1) :: (dI a0.fPair.fLexical) :: (dB v2) :: (dB v10) :: (dB v10) :: d5 :: d6 :: d7 :: d8 :: d9 :: (dB v11) :: (.ptr 0 1) :: (.v (.agg [(vI a0.fPair.fLexical), (vI a0.fPair.fSurface)])) :: (.v (.agg [(vI 0), (vI 0)])) :: (dB (((a0.fPair.fLexical == 0) && ((a0.fPair.fSurface == 0) && true)))) :: (.ptr 0 3) :: (dP e64 a0.fContexts) :: (dI ((a0.fContexts.length : Int))) :: (dB v13) :: (dB (!v13)) :: u30 []), [(.cells [(dI a0.fKind), (dI a0.fPair.fLexical), (dI a0.fPair.fSurface), (dP e64 a0.fContexts)])]⟩ (by kernel_rfl) ?_
          refine Ops.done (by kernel_rfl) ?_
          refine seqQ.n ?_
          rcases cnd_some h with ⟨hb, h⟩ | ⟨hb, h⟩
          · refine Wp.cond (!v13) [1, 2] (by kernel_rfl) 1 (by kernel_rfl) (subc [1, 1, 1, 1, 0, 1, 0] C33) (subc [1, 1, 1, 1, 0, 1, 1] C33) (by kernel_rfl) (by kernel_rfl) (fun _ => ?_) (fun e => nomatch (hb.symm.trans e))
            refine Wp.seq (subc [1, 1, 1, 1, 0, 1, 0, 0] C33) (subc [1, 1, 1, 1, 0, 1, 0, 1] C33) (by kernel_rfl) ?_
            refine Wp.region (by kernel_rfl) ?_
            refine Ops.seg 1 1 (by kernel_rfl) ⟨(.v (.agg [(vI a0.fKind), (vI a0.fPair.fLexical), (vI a0.fPair.fSurface), (vP e64 a0.fContexts)])) :: (.ptr 0 0) :: (dI 9) :: u4 ((.ptr 0 0) :: (dI a0.fKind) :: (dB v1) :: (dB (!v1)) :: (.ptr 0 1) :: (.ptr 0 1) :: (dI a0.fPair.fLexical) :: (dB v2) :: (dB v10) :: (dB v10) :: d5 :: d6 :: d7 :: d8 :: d9 :: (dB v11) :: (.ptr 0 1) :: (.v (.agg [(vI a0.fPair.fLexical), (vI a0.fPair.fSurface)])) :: (.v (.agg [(vI 0), (vI 0)])) :: (dB (((a0.fPair.fLexical == 0) && ((a0.fPair.fSurface == 0) && true)))) :: (.ptr 0 3) :: (dP e64 a0.fContexts) :: (dI ((a0.fContexts.length : Int))) :: (dB v13) :: (dB (!v13)) :: u30 []), [(.cells [(dI a0.fKind), (dI a0.fPair.fLexical), (dI a0.fPair.fSurface), (dP e64 a0.fContexts)])]⟩ (by kernel_rfl) ?_
            refine Ops.done (by kernel_rfl) ?_
            refine seqQ.n ?_
            refine Wp.ret (by kernel_rfl) ?_
            refine sqQ.r ?_
            refine seqQ.r ?_
            exact fnQ.r' (X33 n) (fun z => (eI z)) h (RetOk.mk' (dI 9) (by kernel_rfl) (by kernel_rfl))
          · refine Wp.cond (!v13) [1, 2] (by kernel_rfl) 1 (by kernel_rfl) (subc [1, 1, 1, 1, 0, 1, 0] C33) (subc [1, 1, 1, 1, 0, 1, 1] C33) (by kernel_rfl) (by kernel_rfl) (fun e => nomatch (hb.symm.trans e)) (fun _ => ?_)
            refine Wp.skip (by kernel_rfl) ?_
            refine sqQ.n ⟨(.v (.agg [(vI a0.fKind), (vI a0.fPair.fLexical), (vI a0.fPair.fSurface), (vP e64 a0.fContexts)])) :: (.ptr 0 0) :: (dI 0) :: u4 ((.ptr 0 0) :: (dI a0.fKind) :: (dB v1) :: (dB (!v1)) :: (.ptr 0 1) :: (.ptr 0 1) :: (dI a0.fPair.fLexical) :: (dB v2) :: (dB v10) :: (dB v10) :: d5 :: d6 :: d7 :: d8 :: d9 :: (dB v11) :: (.ptr 0 1) :: (.v (.agg [(vI a0.fPair.fLexical), (vI a0.fPair.fSurface)])) :: (.v (.agg [(vI 0), (vI 0)])) :: (dB (((a0.fPair.fLexical == 0) && ((a0.fPair.fSurface == 0) && true)))) :: (.ptr 0 3) :: (dP e64 a0.fContexts) :: (dI ((a0.fContexts.length : Int))) :: (dB v13) :: (dB (!v13)) :: u30 []), [(.cells [(dI a0.fKind), (dI a0.fPair.fLexical), (dI a0.fPair.fSurface), (dP e64 a0.fContexts)])]⟩ (by kernel_rfl) ?_
            refine seqQ.n ?_
            refine Wp.seq (subc [1, 1, 1, 1, 1, 0] C33) (subc [1, 1, 1, 1, 1, 1] C33) (by kernel_rfl) ?_
            refine Wp.seq (subc [1, 1, 1, 1, 1, 0, 0] C33) (subc [1, 1, 1, 1, 1, 0, 1] C33) (by kernel_rfl) ?_
            refine Wp.region (by kernel_rfl) ?_
            refine Ops.seg 2 2 (by kernel_rfl) ⟨(.v (.agg [(vI a0.fKind), (vI a0.fPair.fLexical), (vI a0.fPair.fSurface), (vP e64 a0.fContexts)])) :: (.ptr 0 0) :: (dI 0) :: u4 ((.ptr 0 0) :: (dI a0.fKind) :: (dB v1) :: (dB (!v1)) :: (.ptr 0 1) :: (.ptr 0 1) :: (dI a0.fPair.fLexical) :: (dB v2) :: (dB v10) :: (dB v10) :: d5 :: d6 :: d7 :: d8 :: d9 :: (dB v11) :: (.ptr 0 1) :: (.v (.agg [(vI a0.fPair.fLexical), (vI a0.fPair.fSurface)])) :: (.v (.agg [(vI 0), (vI 0)])) :: (dB (((a0.fPair.fLexical == 0) && ((a0.fPair.fSurface == 0) && true)))) :: (.ptr 0 3) :: (dP e64 a0.fContexts) :: (dI ((a0.fContexts.length : Int))) :: (dB v13) :: (dB (!v13)) :: (.ptr 0 3) :: (dP e64 a0.fContexts) :: u28 []), [(.cells [(dI a0.fKind), (dI a0.fPair.fLexical), (dI a0.fPair.fSurface), (dP e64 a0.fContexts)])]⟩ (by kernel_rfl) ?_
            refine Ops.one 3 (by kernel_rfl) ((lenD (X33 n).E.T 41 (D.unt (dP e64 a0.fContexts))).map (·, [(.cells [(dI a0.fKind), (dI a0.fPair.fLexical), (dI a0.fPair.fSurface), (dP e64 a0.fContexts)])])) (dI ((a0.fContexts.length : Int))) [(.cells [(dI a0.fKind), (dI a0.fPair.fLexical), (dI a0.fPair.fSurface), (dP e64 a0.fContexts)])] ⟨(.v (.agg [(vI a0.fKind), (vI a0.fPair.fLexical), (vI a0.fPair.fSurface), (vP e64 a0.fContexts)])) :: (.ptr 0 0) :: (dI 0) :: u4 ((.ptr 0 0) :: (dI a0.fKind) :: (dB v1) :: (dB (!v1)) :: (.ptr 0 1) :: (.ptr 0 1) :: (dI a0.fPair.fLexical) :: (dB v2) :: (dB v10) :: (dB v10) :: d5 :: d6 :: d7 :: d8 :: d9 :: (dB v11) :: (.ptr 0 1) :: (.v (.agg [(vI a0.fPair.fLexical), (vI a0.fPair.fSurface)])) :: (.v (.agg [(vI 0), (vI 0)])) :: (dB (((a0.fPair.fLexical == 0) && ((a0.fPair.fSurface == 0) && true)))) :: (.ptr 0 3) :: (dP e64 a0.fContexts) :: (dI ((a0.fContexts.length : Int))) :: (dB v13) :: (dB (!v13)) :: (.ptr 0 3) :: (dP e64 a0.fContexts) :: (dI ((a0.fContexts.length : Int))) :: u27 []), [(.cells [(dI a0.fKind), (dI a0.fPair.fLexical), (dI a0.fPair.fSurface), (dP e64 a0.fContexts)])]⟩ (by kernel_rfl) (len_r _ 41 65 .plain e64 a0.fContexts (by kernel_rfl)) (by kernel_rfl) ?_
            refine Ops.seg 1 4 (by kernel_rfl) ⟨(.v (.agg [(vI a0.fKind), (vI a0.fPair.fLexical), (vI a0.fPair.fSurface), (vP e64 a0.fContexts)])) :: (.ptr 0 0) :: (dI 0) :: u4 ((.ptr 0 0) :: (dI a0.fKind) :: (dB v1) :: (dB (!v1)) :: (.ptr 0 1) :: (.ptr 0 1) :: (dI a0.fPair.fLexical) :: (dB v2) :: (dB v10) :: (dB v10) :: d5 :: d6 :: d7 :: d8 :: d9 :: (dB v11) :: (.ptr 0 1) :: (.v (.agg [(vI a0.fPair.fLexical), (vI a0.fPair.fSurface)])) :: (.v (.agg [(vI 0), (vI 0)])) :: (dB (((a0.fPair.fLexical == 0) && ((a0.fPair.fSurface == 0) && true)))) :: (.ptr 0 3) :: (dP e64 a0.fContexts) :: (dI ((a0.fContexts.length : Int))) :: (dB v13) :: (dB (!v13)) :: (.ptr 0 3) :: (dP e64 a0.fContexts) :: (dI ((a0.fContexts.length : Int))) :: (dI 0) :: u26 []), [(.cells [(dI a0.fKind), (dI a0.fPair.fLexical), (dI a0.fPair.fSurface), (dP e64 a0.fContexts)])]⟩ (by kernel_rfl) ?_
            refine Ops.done (by kernel_rfl) ?_
            refine seqQ.n ?_
            refine Wp.block (id := 0) [2] (by kernel_rfl) 1 (by kernel_rfl) (subc [1, 1, 1, 1, 1, 0, 1, 0] C33) (by kernel_rfl) ?_
            have hLx61 : ∀ (kx41 : Nat) (v39 : Int)  (ox40 : Int ⊕ (Int)), iter (fun (y : Int) => f33_B2 m a0 y) kx41 v39 = some ox40 → ∀ nx42, kx41 ≤ nx42 → (∀ r, ox40 = .inl r → ∀ σ, RetOk (X33 n) (resOf Proofs.Try.prog 33) (eI r) σ → (seqQ (X33 n) (subc [1, 1, 1, 1, 1, 1] C33) (fnQ (X33 n).E.T (resOf Proofs.Try.prog 33) (eI o))) .ret σ) → (∀ (y : Int) , ox40 = .inr y → (seqQ (X33 n) (subc [1, 1, 1, 1, 1, 1] C33) (fnQ (X33 n).E.T (resOf Proofs.Try.prog 33) (eI o))) .normal ⟨q2 ((dI 0) :: q30 ((dP e64 a0.fContexts) :: (dI ((a0.fContexts.length : Int))) :: (dI y) :: q26 [])), [(.cells [(dI a0.fKind), (dI a0.fPair.fLexical), (dI a0.fPair.fSurface), (dP e64 a0.fContexts)])]⟩) → Lp (X33 n) [2, 33, 34, 35] 1 (subc [1, 1, 1, 1, 1, 0, 1, 0, 0] C33) nx42 ⟨q2 ((dI 0) :: q30 ((dP e64 a0.fContexts) :: (dI ((a0.fContexts.length : Int))) :: (dI v39) :: q26 [])), [(.cells [(dI a0.fKind), (dI a0.fPair.fLexical), (dI a0.fPair.fSurface), (dP e64 a0.fContexts)])]⟩ (blkQ (X33 n) 0 [2] 1 (seqQ (X33 n) (subc [1, 1, 1, 1, 1, 1] C33) (fnQ (X33 n).E.T (resOf Proofs.Try.prog 33) (eI o)))) := by
              intro kx41
              induction kx41 with
              | zero => intro v39  ox40 h; exact (iter_zero h).elim
              | succ kx41 ihx43 =>
                intro v39  ox40 h nx42 hnx46 hrx44 hxx45
                obtain ⟨nx42, rfl⟩ : ∃ q, nx42 = q + 1 := ⟨nx42 - 1, by omega⟩
                obtain ⟨sx47, h, hsx48⟩ := iter_some h
                have h : f33_B2 m a0 v39 = some sx47 := h
                unfold f33_B2 at h
                refine Lp.succ ?_
                refine Wp.seq (subc [1, 1, 1, 1, 1, 0, 1, 0, 0, 0] C33) (subc [1, 1, 1, 1, 1, 0, 1, 0, 0, 1] C33) (by kernel_rfl) ?_
                refine Wp.region (by kernel_rfl) ?_
                refine Ops.seg 1 1 (by kernel_rfl) ⟨q2 ((dI 0) :: q30 ((dP e64 a0.fContexts) :: (dI ((a0.fContexts.length : Int))) :: (dI v39) :: (dB (decide (v39 < (a0.fContexts.length : Int)))) :: q25 [])), [(.cells [(dI a0.fKind), (dI a0.fPair.fLexical), (dI a0.fPair.fSurface), (dP e64 a0.fContexts)])]⟩ (by kernel_rfl) ?_
                refine Ops.done (by kernel_rfl) ?_
                refine seqQ.n ?_
                refine Wp.seq (subc [1, 1, 1, 1, 1, 0, 1, 0, 0, 1, 0] C33) (subc [1, 1, 1, 1, 1, 0, 1, 0, 0, 1, 1] C33) (by kernel_rfl) ?_
                rcases cnd_some h with ⟨hb, h⟩ | ⟨hb, h⟩
                · refine Wp.cond (decide (v39 < (a0.fContexts.length : Int))) [2, 33, 34, 35] (by kernel_rfl) 1 (by kernel_rfl) (subc [1, 1, 1, 1, 1, 0, 1, 0, 0, 1, 0, 0] C33) (subc [1, 1, 1, 1, 1, 0, 1, 0, 0, 1, 0, 1] C33) (by kernel_rfl) (by kernel_rfl) (fun _ => ?_) (fun e => nomatch (hb.symm.trans e))
                  refine Wp.skip (by kernel_rfl) ?_
                  refine sqQ.n ⟨q2 ((dI 0) :: q30 ((dP e64 a0.fContexts) :: (dI ((a0.fContexts.length : Int))) :: (dI v39) :: (dB (decide (v39 < (a0.fContexts.length : Int)))) :: q25 [])), [(.cells [(dI a0.fKind), (dI a0.fPair.fLexical), (dI a0.fPair.fSurface), (dP e64 a0.fContexts)])]⟩ (by kernel_rfl) ?_
                  refine seqQ.n ?_
                  refine Wp.seq (subc [1, 1, 1, 1, 1, 0, 1, 0, 0, 1, 1, 0] C33) (subc [1, 1, 1, 1, 1, 0, 1, 0, 0, 1, 1, 1] C33) (by kernel_rfl) ?_
                  refine Wp.block (id := 1) [2, 33, 34, 35] (by kernel_rfl) 1 (by kernel_rfl) (subc [1, 1, 1, 1, 1, 0, 1, 0, 0, 1, 1, 0, 0] C33) (by kernel_rfl) ?_
                  refine Wp.seq (subc [1, 1, 1, 1, 1, 0, 1, 0, 0, 1, 1, 0, 0, 0] C33) (subc [1, 1, 1, 1, 1, 0, 1, 0, 0, 1, 1, 0, 0, 1] C33) (by kernel_rfl) ?_
                  refine Wp.region (by kernel_rfl) ?_
                  obtain ⟨v49, ev49, h⟩ := bnd_some h
                  refine Ops.one 1 (by kernel_rfl) ((indexAddrH (X33 n).E.T [(.cells [(dI a0.fKind), (dI a0.fPair.fLexical), (dI a0.fPair.fSurface), (dP e64 a0.fContexts)])] 41 (D.unt (dP e64 a0.fContexts)) (dI v39)).map (·, [(.cells [(dI a0.fKind), (dI a0.fPair.fLexical), (dI a0.fPair.fSurface), (dP e64 a0.fContexts)])])) (.vptr [(vP e39 v49.fLeft), (vP e39 v49.fRight), (vB v49.fBegin), (vB v49.fEnd)]) [(.cells [(dI a0.fKind), (dI a0.fPair.fLexical), (dI a0.fPair.fSurface), (dP e64 a0.fContexts)])] ⟨q2 ((dI 0) :: q30 ((dP e64 a0.fContexts) :: (dI ((a0.fContexts.length : Int))) :: (dI v39) :: (dB (decide (v39 < (a0.fContexts.length : Int)))) :: (.vptr [(vP e39 v49.fLeft), (vP e39 v49.fRight), (vB v49.fBegin), (vB v49.fEnd)]) :: q24 [])), [(.cells [(dI a0.fKind), (dI a0.fPair.fLexical), (dI a0.fPair.fSurface), (dP e64 a0.fContexts)])]⟩ (by kernel_rfl) (ix_r _ 41 65 4 .plain e64 a0.fContexts v39 v49 ev49 (by kernel_rfl) (by kernel_rfl) (fun _ => rfl)) (by kernel_rfl) ?_
                  refine Ops.seg 3 4 (by kernel_rfl) ⟨q2 ((dI 0) :: q1 ((.ptr 1 0) :: q28 ((dP e64 a0.fContexts) :: (dI ((a0.fContexts.length : Int))) :: (dI v39) :: (dB (decide (v39 < (a0.fContexts.length : Int)))) :: (.vptr [(vP e39 v49.fLeft), (vP e39 v49.fRight), (vB v49.fBegin), (vB v49.fEnd)]) :: (.v (.agg [(vP e39 v49.fLeft), (vP e39 v49.fRight), (vB v49.fBegin), (vB v49.fEnd)])) :: q23 []))), [(.cells [(dI a0.fKind), (dI a0.fPair.fLexical), (dI a0.fPair.fSurface), (dP e64 a0.fContexts)]), (.cells [(dP e39 v49.fLeft), (dP e39 v49.fRight), (dB v49.fBegin), (dB v49.fEnd)])]⟩ (by kernel_rfl) ?_
                  refine Ops.done (by kernel_rfl) ?_
                  refine seqQ.n ?_
                  refine Wp.seq (subc [1, 1, 1, 1, 1, 0, 1, 0, 0, 1, 1, 0, 0, 1, 0] C33) (subc [1, 1, 1, 1, 1, 0, 1, 0, 0, 1, 1, 0, 0, 1, 1] C33) (by kernel_rfl) ?_
                  refine Wp.seq (subc [1, 1, 1, 1, 1, 0, 1, 0, 0, 1, 1, 0, 0, 1, 0, 0] C33) (subc [1, 1, 1, 1, 1, 0, 1, 0, 0, 1, 1, 0, 0, 1, 0, 1] C33) (by kernel_rfl) ?_
                  refine Wp.region (by kernel_rfl) ?_
                  refine Ops.seg 2 2 (by kernel_rfl) ⟨q2 ((dI 0) :: q1 ((.ptr 1 0) :: q28 ((dP e64 a0.fContexts) :: (dI ((a0.fContexts.length : Int))) :: (dI v39) :: (dB (decide (v39 < (a0.fContexts.length : Int)))) :: (.vptr [(vP e39 v49.fLeft), (vP e39 v49.fRight), (vB v49.fBegin), (vB v49.fEnd)]) :: (.v (.agg [(vP e39 v49.fLeft), (vP e39 v49.fRight), (vB v49.fBegin), (vB v49.fEnd)])) :: (.ptr 1 0) :: (dP e39 v49.fLeft) :: q21 []))), [(.cells [(dI a0.fKind), (dI a0.fPair.fLexical), (dI a0.fPair.fSurface), (dP e64 a0.fContexts)]), (.cells [(dP e39 v49.fLeft), (dP e39 v49.fRight), (dB v49.fBegin), (dB v49.fEnd)])]⟩ (by kernel_rfl) ?_
                  refine Ops.one 3 (by kernel_rfl) ((lenD (X33 n).E.T 37 (D.unt (dP e39 v49.fLeft))).map (·, [(.cells [(dI a0.fKind), (dI a0.fPair.fLexical), (dI a0.fPair.fSurface), (dP e64 a0.fContexts)]), (.cells [(dP e39 v49.fLeft), (dP e39 v49.fRight), (dB v49.fBegin), (dB v49.fEnd)])])) (dI ((v49.fLeft.length : Int))) [(.cells [(dI a0.fKind), (dI a0.fPair.fLexical), (dI a0.fPair.fSurface), (dP e64 a0.fContexts)]), (.cells [(dP e39 v49.fLeft), (dP e39 v49.fRight), (dB v49.fBegin), (dB v49.fEnd)])] ⟨q2 ((dI 0) :: q1 ((.ptr 1 0) :: q28 ((dP e64 a0.fContexts) :: (dI ((a0.fContexts.length : Int))) :: (dI v39) :: (dB (decide (v39 < (a0.fContexts.length : Int)))) :: (.vptr [(vP e39 v49.fLeft), (vP e39 v49.fRight), (vB v49.fBegin), (vB v49.fEnd)]) :: (.v (.agg [(vP e39 v49.fLeft), (vP e39 v49.fRight), (vB v49.fBegin), (vB v49.fEnd)])) :: (.ptr 1 0) :: (dP e39 v49.fLeft) :: (dI ((v49.fLeft.length : Int))) :: q20 []))), [(.cells [(dI a0.fKind), (dI a0.fPair.fLexical), (dI a0.fPair.fSurface), (dP e64 a0.fContexts)]), (.cells [(dP e39 v49.fLeft), (dP e39 v49.fRight), (dB v49.fBegin), (dB v49.fEnd)])]⟩ (by kernel_rfl) (len_r _ 37 40 .plain e39 v49.fLeft (by kernel_rfl)) (by kernel_rfl) ?_
                  refine Ops.seg 2 5 (by kernel_rfl) ⟨q2 ((dI 0) :: q1 ((.ptr 1 0) :: q28 ((dP e64 a0.fContexts) :: (dI ((a0.fContexts.length : Int))) :: (dI v39) :: (dB (decide (v39 < (a0.fContexts.length : Int)))) :: (.vptr [(vP e39 v49.fLeft), (vP e39 v49.fRight), (vB v49.fBegin), (vB v49.fEnd)]) :: (.v (.agg [(vP e39 v49.fLeft), (vP e39 v49.fRight), (vB v49.fBegin), (vB v49.fEnd)])) :: (.ptr 1 0) :: (dP e39 v49.fLeft) :: (dI ((v49.fLeft.length : Int))) :: (dB (decide ((v49.fLeft.length : Int) > 3))) :: (dB (decide ((v49.fLeft.length : Int) > 3))) :: q18 []))), [(.cells [(dI a0.fKind), (dI a0.fPair.fLexical), (dI a0.fPair.fSurface), (dP e64 a0.fContexts)]), (.cells [(dP e39 v49.fLeft), (dP e39 v49.fRight), (dB v49.fBegin), (dB v49.fEnd)])]⟩ (by kernel_rfl) ?_
                  have J33j58 : ∀ (d52 d53 d54 d55 : D) (v56 : Bool) (v57 : Bool), f33_r1 m v39 v49 v57 = some sx47 → Ops (X33 n) (opl (subc [1, 1, 1, 1, 1, 0, 1, 0, 0, 1, 1, 0, 0, 1, 0, 0] C33)) 10 ⟨q2 ((dI 0) :: q1 ((.ptr 1 0) :: q28 ((dP e64 a0.fContexts) :: (dI ((a0.fContexts.length : Int))) :: (dI v39) :: (dB (decide (v39 < (a0.fContexts.length : Int)))) :: (.vptr [(vP e39 v49.fLeft), (vP e39 v49.fRight), (vB v49.fBegin), (vB v49.fEnd)]) :: (.v (.agg [(vP e39 v49.fLeft), (vP e39 v49.fRight), (vB v49.fBegin), (vB v49.fEnd)])) :: (.ptr 1 0) :: (dP e39 v49.fLeft) :: (dI ((v49.fLeft.length : Int))) :: (dB v56) :: (dB v56) :: d52 :: d53 :: d54 :: d55 :: (dB v57) :: q13 []))), [(.cells [(dI a0.fKind), (dI a0.fPair.fLexical), (dI a0.fPair.fSurface), (dP e64 a0.fContexts)]), (.cells [(dP e39 v49.fLeft), (dP e39 v49.fRight), (dB v49.fBegin), (dB v49.fEnd)])]⟩ ((seqQ (X33 n) (subc [1, 1, 1, 1, 1, 0, 1, 0, 0, 1, 1, 0, 0, 1, 0, 1] C33) (seqQ (X33 n) (subc [1, 1, 1, 1, 1, 0, 1, 0, 0, 1, 1, 0, 0, 1, 1] C33) (blkQ (X33 n) 1 [2, 33, 34, 35] 1 (seqQ (X33 n) (subc [1, 1, 1, 1, 1, 0, 1, 0, 0, 1, 1, 1] C33) (lpQ (X33 n) [2, 33, 34, 35] 1 (subc [1, 1, 1, 1, 1, 0, 1, 0, 0] C33) nx42 (blkQ (X33 n) 0 [2] 1 (seqQ (X33 n) (subc [1, 1, 1, 1, 1, 1] C33) (fnQ (X33 n).E.T (resOf Proofs.Try.prog 33) (eI o))))))))) .normal) := by
                    intro d52 d53 d54 d55 v56 v57 h
                    unfold f33_r1 at h
                    refine Ops.done (by kernel_rfl) ?_
                    refine seqQ.n ?_
                    rcases cnd_some h with ⟨hb, h⟩ | ⟨hb, h⟩
                    · refine Wp.cond v57 [2, 4, 33, 34, 35] (by kernel_rfl) 2 (by kernel_rfl) (subc [1, 1, 1, 1, 1, 0, 1, 0, 0, 1, 1, 0, 0, 1, 0, 1, 0] C33) (subc [1, 1, 1, 1, 1, 0, 1, 0, 0, 1, 1, 0, 0, 1, 0, 1, 1] C33) (by kernel_rfl) (by kernel_rfl) (fun _ => ?_) (fun e => nomatch (hb.symm.trans e))
                      refine Wp.seq (subc [1, 1, 1, 1, 1, 0, 1, 0, 0, 1, 1, 0, 0, 1, 0, 1, 0, 0] C33) (subc [1, 1, 1, 1, 1, 0, 1, 0, 0, 1, 1, 0, 0, 1, 0, 1, 0, 1] C33) (by kernel_rfl) ?_
                      refine Wp.region (by kernel_rfl) ?_
                      refine Ops.seg 1 1 (by kernel_rfl) ⟨q2 ((dI 9) :: q1 ((.ptr 1 0) :: q28 ((dP e64 a0.fContexts) :: (dI ((a0.fContexts.length : Int))) :: (dI v39) :: (dB (decide (v39 < (a0.fContexts.length : Int)))) :: (.vptr [(vP e39 v49.fLeft), (vP e39 v49.fRight), (vB v49.fBegin), (vB v49.fEnd)]) :: (.v (.agg [(vP e39 v49.fLeft), (vP e39 v49.fRight), (vB v49.fBegin), (vB v49.fEnd)])) :: (.ptr 1 0) :: (dP e39 v49.fLeft) :: (dI ((v49.fLeft.length : Int))) :: (dB v56) :: (dB v56) :: d52 :: d53 :: d54 :: d55 :: (dB v57) :: q13 []))), [(.cells [(dI a0.fKind), (dI a0.fPair.fLexical), (dI a0.fPair.fSurface), (dP e64 a0.fContexts)]), (.cells [(dP e39 v49.fLeft), (dP e39 v49.fRight), (dB v49.fBegin), (dB v49.fEnd)])]⟩ (by kernel_rfl) ?_
                      refine Ops.done (by kernel_rfl) ?_
                      refine seqQ.n ?_
                      refine Wp.ret (by kernel_rfl) ?_
                      refine sqQ.r ?_
                      refine seqQ.r ?_
                      refine blkQ.r ?_
                      refine seqQ.r ?_
                      cases h
                      refine lpQ.r ?_
                      refine blkQ.r ?_
                      exact hrx44 _ hsx48 _ (RetOk.forget [2, 33, 34, 35] (by kernel_rfl) (RetOk.mk' (dI 9) (by kernel_rfl) (by kernel_rfl)))
                    · refine Wp.cond v57 [2, 4, 33, 34, 35] (by kernel_rfl) 2 (by kernel_rfl) (subc [1, 1, 1, 1, 1, 0, 1, 0, 0, 1, 1, 0, 0, 1, 0, 1, 0] C33) (subc [1, 1, 1, 1, 1, 0, 1, 0, 0, 1, 1, 0, 0, 1, 0, 1, 1] C33) (by kernel_rfl) (by kernel_rfl) (fun e => nomatch (hb.symm.trans e)) (fun _ => ?_)
                      refine Wp.skip (by kernel_rfl) ?_
                      refine sqQ.n ⟨q2 ((dI 0) :: q1 ((.ptr 1 0) :: q28 ((dP e64 a0.fContexts) :: (dI ((a0.fContexts.length : Int))) :: (dI v39) :: (dB (decide (v39 < (a0.fContexts.length : Int)))) :: (.vptr [(vP e39 v49.fLeft), (vP e39 v49.fRight), (vB v49.fBegin), (vB v49.fEnd)]) :: (.v (.agg [(vP e39 v49.fLeft), (vP e39 v49.fRight), (vB v49.fBegin), (vB v49.fEnd)])) :: (.ptr 1 0) :: (dP e39 v49.fLeft) :: (dI ((v49.fLeft.length : Int))) :: (dB v56) :: (dB v56) :: d52 :: d53 :: d54 :: d55 :: (dB v57) :: q13 []))), [(.cells [(dI a0.fKind), (dI a0.fPair.fLexical), (dI a0.fPair.fSurface), (dP e64 a0.fContexts)]), (.cells [(dP e39 v49.fLeft), (dP e39 v49.fRight), (dB v49.fBegin), (dB v49.fEnd)])]⟩ (by kernel_rfl) ?_
                      refine seqQ.n ?_
                      refine Wp.seq (subc [1, 1, 1, 1, 1, 0, 1, 0, 0, 1, 1, 0, 0, 1, 1, 0] C33) (subc [1, 1, 1, 1, 1, 0, 1, 0, 0, 1, 1, 0, 0, 1, 1, 1] C33) (by kernel_rfl) ?_
                      refine Wp.seq (subc [1, 1, 1, 1, 1, 0, 1, 0, 0, 1, 1, 0, 0, 1, 1, 0, 0] C33) (subc [1, 1, 1, 1, 1, 0, 1, 0, 0, 1, 1, 0, 0, 1, 1, 0, 1] C33) (by kernel_rfl) ?_
                      refine Wp.region (by kernel_rfl) ?_
                      refine Ops.seg 2 2 (by kernel_rfl) ⟨q2 ((dI 0) :: q1 ((.ptr 1 0) :: q28 ((dP e64 a0.fContexts) :: (dI ((a0.fContexts.length : Int))) :: (dI v39) :: (dB (decide (v39 < (a0.fContexts.length : Int)))) :: (.vptr [(vP e39 v49.fLeft), (vP e39 v49.fRight), (vB v49.fBegin), (vB v49.fEnd)]) :: (.v (.agg [(vP e39 v49.fLeft), (vP e39 v49.fRight), (vB v49.fBegin), (vB v49.fEnd)])) :: (.ptr 1 0) :: (dP e39 v49.fLeft) :: (dI ((v49.fLeft.length : Int))) :: (dB v56) :: (dB v56) :: d52 :: d53 :: d54 :: d55 :: (dB v57) :: (.ptr 1 0) :: (dP e39 v49.fLeft) :: q11 []))), [(.cells [(dI a0.fKind), (dI a0.fPair.fLexical), (dI a0.fPair.fSurface), (dP e64 a0.fContexts)]), (.cells [(dP e39 v49.fLeft), (dP e39 v49.fRight), (dB v49.fBegin), (dB v49.fEnd)])]⟩ (by kernel_rfl) ?_
                      obtain ⟨v59, ev59, h⟩ := bnd_some h
                      refine Ops.one 3 (by kernel_rfl) (callD (X33 n).E (run Proofs.Try.prog E n) 43 [(dP e39 v49.fLeft)] [(.cells [(dI a0.fKind), (dI a0.fPair.fLexical), (dI a0.fPair.fSurface), (dP e64 a0.fContexts)]), (.cells [(dP e39 v49.fLeft), (dP e39 v49.fRight), (dB v49.fBegin), (dB v49.fEnd)])]) (dI v59) [(.cells [(dI a0.fKind), (dI a0.fPair.fLexical), (dI a0.fPair.fSurface), (dP e64 a0.fContexts)]), (.cells [(dP e39 v49.fLeft), (dP e39 v49.fRight), (dB v49.fBegin), (dB v49.fEnd)])] ⟨q2 ((dI 0) :: q1 ((.ptr 1 0) :: q28 ((dP e64 a0.fContexts) :: (dI ((a0.fContexts.length : Int))) :: (dI v39) :: (dB (decide (v39 < (a0.fContexts.length : Int)))) :: (.vptr [(vP e39 v49.fLeft), (vP e39 v49.fRight), (vB v49.fBegin), (vB v49.fEnd)]) :: (.v (.agg [(vP e39 v49.fLeft), (vP e39 v49.fRight), (vB v49.fBegin), (vB v49.fEnd)])) :: (.ptr 1 0) :: (dP e39 v49.fLeft) :: (dI ((v49.fLeft.length : Int))) :: (dB v56) :: (dB v56) :: d52 :: d53 :: d54 :: d55 :: (dB v57) :: (.ptr 1 0) :: (dP e39 v49.fLeft) :: (dI v59) :: q10 []))), [(.cells [(dI a0.fKind), (dI a0.fPair.fLexical), (dI a0.fPair.fSurface), (dP e64 a0.fContexts)]), (.cells [(dP e39 v49.fLeft), (dP e39 v49.fRight), (dB v49.fBegin), (dB v49.fEnd)])]⟩ (by kernel_rfl) (call_ok (by kernel_rfl) (Args.v (vP e39 v49.fLeft) ((eL e39) v49.fLeft) (by kernel_rfl) Args.nil) (ok43 m v49.fLeft v59 ev59 n (by omega))) (by kernel_rfl) ?_
                      refine Ops.seg 1 4 (by kernel_rfl) ⟨q2 ((dI 0) :: q1 ((.ptr 1 0) :: (dI v59) :: q27 ((dP e64 a0.fContexts) :: (dI ((a0.fContexts.length : Int))) :: (dI v39) :: (dB (decide (v39 < (a0.fContexts.length : Int)))) :: (.vptr [(vP e39 v49.fLeft), (vP e39 v49.fRight), (vB v49.fBegin), (vB v49.fEnd)]) :: (.v (.agg [(vP e39 v49.fLeft), (vP e39 v49.fRight), (vB v49.fBegin), (vB v49.fEnd)])) :: (.ptr 1 0) :: (dP e39 v49.fLeft) :: (dI ((v49.fLeft.length : Int))) :: (dB v56) :: (dB v56) :: d52 :: d53 :: d54 :: d55 :: (dB v57) :: (.ptr 1 0) :: (dP e39 v49.fLeft) :: (dI v59) :: q10 []))), [(.cells [(dI a0.fKind), (dI a0.fPair.fLexical), (dI a0.fPair.fSurface), (dP e64 a0.fContexts)]), (.cells [(dP e39 v49.fLeft), (dP e39 v49.fRight), (dB v49.fBegin), (dB v49.fEnd)])]⟩ (by kernel_rfl) ?_
                      refine Ops.done (by kernel_rfl) ?_
                      refine seqQ.n ?_
                      refine Wp.seq (subc [1, 1, 1, 1, 1, 0, 1, 0, 0, 1, 1, 0, 0, 1, 1, 0, 1, 0] C33) (subc [1, 1, 1, 1, 1, 0, 1, 0, 0, 1, 1, 0, 0, 1, 1, 0, 1, 1] C33) (by kernel_rfl) ?_
                      refine Wp.region (by kernel_rfl) ?_
                      refine Ops.seg 2 2 (by kernel_rfl) ⟨q2 ((dI 0) :: q1 ((.ptr 1 0) :: (dI v59) :: q27 ((dP e64 a0.fContexts) :: (dI ((a0.fContexts.length : Int))) :: (dI v39) :: (dB (decide (v39 < (a0.fContexts.length : Int)))) :: (.vptr [(vP e39 v49.fLeft), (vP e39 v49.fRight), (vB v49.fBegin), (vB v49.fEnd)]) :: (.v (.agg [(vP e39 v49.fLeft), (vP e39 v49.fRight), (vB v49.fBegin), (vB v49.fEnd)])) :: (.ptr 1 0) :: (dP e39 v49.fLeft) :: (dI ((v49.fLeft.length : Int))) :: (dB v56) :: (dB v56) :: d52 :: d53 :: d54 :: d55 :: (dB v57) :: (.ptr 1 0) :: (dP e39 v49.fLeft) :: (dI v59) :: (dI v59) :: (dB (v59 != 0)) :: q8 []))), [(.cells [(dI a0.fKind), (dI a0.fPair.fLexical), (dI a0.fPair.fSurface), (dP e64 a0.fContexts)]), (.cells [(dP e39 v49.fLeft), (dP e39 v49.fRight), (dB v49.fBegin), (dB v49.fEnd)])]⟩ (by kernel_rfl) ?_
                      refine Ops.done (by kernel_rfl) ?_
                      refine seqQ.n ?_
                      rcases cnd_some h with ⟨hb, h⟩ | ⟨hb, h⟩
                      · refine Wp.cond (v59 != 0) [2, 4, 33, 34, 35] (by kernel_rfl) 2 (by kernel_rfl) (subc [1, 1, 1, 1, 1, 0, 1, 0, 0, 1, 1, 0, 0, 1, 1, 0, 1, 1, 0] C33) (subc [1, 1, 1, 1, 1, 0, 1, 0, 0, 1, 1, 0, 0, 1, 1, 0, 1, 1, 1] C33) (by kernel_rfl) (by kernel_rfl) (fun _ => ?_) (fun e => nomatch (hb.symm.trans e))
                        refine Wp.seq (subc [1, 1, 1, 1, 1, 0, 1, 0, 0, 1, 1, 0, 0, 1, 1, 0, 1, 1, 0, 0] C33) (subc [1, 1, 1, 1, 1, 0, 1, 0, 0, 1, 1, 0, 0, 1, 1, 0, 1, 1, 0, 1] C33) (by kernel_rfl) ?_
                        refine Wp.region (by kernel_rfl) ?_
                        refine Ops.seg 2 2 (by kernel_rfl) ⟨q2 ((dI v59) :: q1 ((.ptr 1 0) :: (dI v59) :: q27 ((dP e64 a0.fContexts) :: (dI ((a0.fContexts.length : Int))) :: (dI v39) :: (dB (decide (v39 < (a0.fContexts.length : Int)))) :: (.vptr [(vP e39 v49.fLeft), (vP e39 v49.fRight), (vB v49.fBegin), (vB v49.fEnd)]) :: (.v (.agg [(vP e39 v49.fLeft), (vP e39 v49.fRight), (vB v49.fBegin), (vB v49.fEnd)])) :: (.ptr 1 0) :: (dP e39 v49.fLeft) :: (dI ((v49.fLeft.length : Int))) :: (dB v56) :: (dB v56) :: d52 :: d53 :: d54 :: d55 :: (dB v57) :: (.ptr 1 0) :: (dP e39 v49.fLeft) :: (dI v59) :: (dI v59) :: (dB (v59 != 0)) :: (dI v59) :: q7 []))), [(.cells [(dI a0.fKind), (dI a0.fPair.fLexical), (dI a0.fPair.fSurface), (dP e64 a0.fContexts)]), (.cells [(dP e39 v49.fLeft), (dP e39 v49.fRight), (dB v49.fBegin), (dB v49.fEnd)])]⟩ (by kernel_rfl) ?_
                        refine Ops.done (by kernel_rfl) ?_
                        refine seqQ.n ?_
                        refine Wp.ret (by kernel_rfl) ?_
                        refine sqQ.r ?_
                        refine seqQ.r ?_
                        refine blkQ.r ?_
                        refine seqQ.r ?_
                        cases h
                        refine lpQ.r ?_
                        refine blkQ.r ?_
                        exact hrx44 _ hsx48 _ (RetOk.forget [2, 33, 34, 35] (by kernel_rfl) (RetOk.mk' (dI v59) (by kernel_rfl) (by kernel_rfl)))
                      · refine Wp.cond (v59 != 0) [2, 4, 33, 34, 35] (by kernel_rfl) 2 (by kernel_rfl) (subc [1, 1, 1, 1, 1, 0, 1, 0, 0, 1, 1, 0, 0, 1, 1, 0, 1, 1, 0] C33) (subc [1, 1, 1, 1, 1, 0, 1, 0, 0, 1, 1, 0, 0, 1, 1, 0, 1, 1, 1] C33) (by kernel_rfl) (by kernel_rfl) (fun e => nomatch (hb.symm.trans e)) (fun _ => ?_)
                        refine Wp.skip (by kernel_rfl) ?_
                        refine sqQ.n ⟨q2 ((dI 0) :: q1 ((.ptr 1 0) :: (dI v59) :: q27 ((dP e64 a0.fContexts) :: (dI ((a0.fContexts.length : Int))) :: (dI v39) :: (dB (decide (v39 < (a0.fContexts.length : Int)))) :: (.vptr [(vP e39 v49.fLeft), (vP e39 v49.fRight), (vB v49.fBegin), (vB v49.fEnd)]) :: (.v (.agg [(vP e39 v49.fLeft), (vP e39 v49.fRight), (vB v49.fBegin), (vB v49.fEnd)])) :: (.ptr 1 0) :: (dP e39 v49.fLeft) :: (dI ((v49.fLeft.length : Int))) :: (dB v56) :: (dB v56) :: d52 :: d53 :: d54 :: d55 :: (dB v57) :: (.ptr 1 0) :: (dP e39 v49.fLeft) :: (dI v59) :: (dI v59) :: (dB (v59 != 0)) :: q8 []))), [(.cells [(dI a0.fKind), (dI a0.fPair.fLexical), (dI a0.fPair.fSurface), (dP e64 a0.fContexts)]), (.cells [(dP e39 v49.fLeft), (dP e39 v49.fRight), (dB v49.fBegin), (dB v49.fEnd)])]⟩ (by kernel_rfl) ?_
                        refine seqQ.n ?_
                        refine Wp.seq (subc [1, 1, 1, 1, 1, 0, 1, 0, 0, 1, 1, 0, 0, 1, 1, 1, 0] C33) (subc [1, 1, 1, 1, 1, 0, 1, 0, 0, 1, 1, 0, 0, 1, 1, 1, 1] C33) (by kernel_rfl) ?_
                        refine Wp.region (by kernel_rfl) ?_
                        refine Ops.seg 2 2 (by kernel_rfl) ⟨q2 ((dI 0) :: q1 ((.ptr 1 0) :: (dI v59) :: q27 ((dP e64 a0.fContexts) :: (dI ((a0.fContexts.length : Int))) :: (dI v39) :: (dB (decide (v39 < (a0.fContexts.length : Int)))) :: (.vptr [(vP e39 v49.fLeft), (vP e39 v49.fRight), (vB v49.fBegin), (vB v49.fEnd)]) :: (.v (.agg [(vP e39 v49.fLeft), (vP e39 v49.fRight), (vB v49.fBegin), (vB v49.fEnd)])) :: (.ptr 1 0) :: (dP e39 v49.fLeft) :: (dI ((v49.fLeft.length : Int))) :: (dB v56) :: (dB v56) :: d52 :: d53 :: d54 :: d55 :: (dB v57) :: (.ptr 1 0) :: (dP e39 v49.fLeft) :: (dI v59) :: (dI v59) :: (dB (v59 != 0)) :: q1 ((.ptr 1 1) :: (dP e39 v49.fRight) :: q5 [])))), [(.cells [(dI a0.fKind), (dI a0.fPair.fLexical), (dI a0.fPair.fSurface), (dP e64 a0.fContexts)]), (.cells [(dP e39 v49.fLeft), (dP e39 v49.fRight), (dB v49.fBegin), (dB v49.fEnd)])]⟩ (by kernel_rfl) ?_
                        obtain ⟨v60, ev60, h⟩ := bnd_some h
                        refine Ops.one 3 (by kernel_rfl) (callD (X33 n).E (run Proofs.Try.prog E n) 43 [(dP e39 v49.fRight)] [(.cells [(dI a0.fKind), (dI a0.fPair.fLexical), (dI a0.fPair.fSurface), (dP e64 a0.fContexts)]), (.cells [(dP e39 v49.fLeft), (dP e39 v49.fRight), (dB v49.fBegin), (dB v49.fEnd)])]) (dI v60) [(.cells [(dI a0.fKind), (dI a0.fPair.fLexical), (dI a0.fPair.fSurface), (dP e64 a0.fContexts)]), (.cells [(dP e39 v49.fLeft), (dP e39 v49.fRight), (dB v49.fBegin), (dB v49.fEnd)])] ⟨q2 ((dI 0) :: q1 ((.ptr 1 0) :: (dI v59) :: q27 ((dP e64 a0.fContexts) :: (dI ((a0.fContexts.length : Int))) :: (dI v39) :: (dB (decide (v39 < (a0.fContexts.length : Int)))) :: (.vptr [(vP e39 v49.fLeft), (vP e39 v49.fRight), (vB v49.fBegin), (vB v49.fEnd)]) :: (.v (.agg [(vP e39 v49.fLeft), (vP e39 v49.fRight), (vB v49.fBegin), (vB v49.fEnd)])) :: (.ptr 1 0) :: (dP e39 v49.fLeft) :: (dI ((v49.fLeft.length : Int))) :: (dB v56) :: (dB v56) :: d52 :: d53 :: d54 :: d55 :: (dB v57) :: (.ptr 1 0) :: (dP e39 v49.fLeft) :: (dI v59) :: (dI v59) :: (dB (v59 != 0)) :: q1 ((.ptr 1 1) :: (dP e39 v49.fRight) :: (dI v60) :: q4 [])))), [(.cells [(dI a0.fKind), (dI a0.fPair.fLexical), (dI a0.fPair.fSurface), (dP e64 a0.fContexts)]), (.cells [(dP e39 v49.fLeft), (dP e39 v49.fRight), (dB v49.fBegin), (dB v49.fEnd)])]⟩ (by kernel_rfl) (call_ok (by kernel_rfl) (Args.v (vP e39 v49.fRight) ((eL e39) v49.fRight) (by kernel_rfl) Args.nil) (ok43 m v49.fRight v60 ev60 n (by omega))) (by kernel_rfl) ?_
                        refine Ops.seg 1 4 (by kernel_rfl) ⟨q2 ((dI 0) :: q1 ((.ptr 1 0) :: (dI v59) :: (dI v60) :: q26 ((dP e64 a0.fContexts) :: (dI ((a0.fContexts.length : Int))) :: (dI v39) :: (dB (decide (v39 < (a0.fContexts.length : Int)))) :: (.vptr [(vP e39 v49.fLeft), (vP e39 v49.fRight), (vB v49.fBegin), (vB v49.fEnd)]) :: (.v (.agg [(vP e39 v49.fLeft), (vP e39 v49.fRight), (vB v49.fBegin), (vB v49.fEnd)])) :: (.ptr 1 0) :: (dP e39 v49.fLeft) :: (dI ((v49.fLeft.length : Int))) :: (dB v56) :: (dB v56) :: d52 :: d53 :: d54 :: d55 :: (dB v57) :: (.ptr 1 0) :: (dP e39 v49.fLeft) :: (dI v59) :: (dI v59) :: (dB (v59 != 0)) :: q1 ((.ptr 1 1) :: (dP e39 v49.fRight) :: (dI v60) :: q4 [])))), [(.cells [(dI a0.fKind), (dI a0.fPair.fLexical), (dI a0.fPair.fSurface), (dP e64 a0.fContexts)]), (.cells [(dP e39 v49.fLeft), (dP e39 v49.fRight), (dB v49.fBegin), (dB v49.fEnd)])]⟩ (by kernel_rfl) ?_
                        refine Ops.done (by kernel_rfl) ?_
                        refine seqQ.n ?_
                        refine Wp.seq (subc [1, 1, 1, 1, 1, 0, 1, 0, 0, 1, 1, 0, 0, 1, 1, 1, 1, 0] C33) (subc [1, 1, 1, 1, 1, 0, 1, 0, 0, 1, 1, 0, 0, 1, 1, 1, 1, 1] C33) (by kernel_rfl) ?_
                        refine Wp.region (by kernel_rfl) ?_
                        refine Ops.seg 2 2 (by kernel_rfl) ⟨q2 ((dI 0) :: q1 ((.ptr 1 0) :: (dI v59) :: (dI v60) :: q26 ((dP e64 a0.fContexts) :: (dI ((a0.fContexts.length : Int))) :: (dI v39) :: (dB (decide (v39 < (a0.fContexts.length : Int)))) :: (.vptr [(vP e39 v49.fLeft), (vP e39 v49.fRight), (vB v49.fBegin), (vB v49.fEnd)]) :: (.v (.agg [(vP e39 v49.fLeft), (vP e39 v49.fRight), (vB v49.fBegin), (vB v49.fEnd)])) :: (.ptr 1 0) :: (dP e39 v49.fLeft) :: (dI ((v49.fLeft.length : Int))) :: (dB v56) :: (dB v56) :: d52 :: d53 :: d54 :: d55 :: (dB v57) :: (.ptr 1 0) :: (dP e39 v49.fLeft) :: (dI v59) :: (dI v59) :: (dB (v59 != 0)) :: q1 ((.ptr 1 1) :: (dP e39 v49.fRight) :: (dI v60) :: (dI v60) :: (dB (v60 != 0)) :: q2 [])))), [(.cells [(dI a0.fKind), (dI a0.fPair.fLexical), (dI a0.fPair.fSurface), (dP e64 a0.fContexts)]), (.cells [(dP e39 v49.fLeft), (dP e39 v49.fRight), (dB v49.fBegin), (dB v49.fEnd)])]⟩ (by kernel_rfl) ?_
                        refine Ops.done (by kernel_rfl) ?_
                        refine seqQ.n ?_
                        rcases cnd_some h with ⟨hb, h⟩ | ⟨hb, h⟩
                        · refine Wp.cond (v60 != 0) [2, 33, 34, 35] (by kernel_rfl) 2 (by kernel_rfl) (subc [1, 1, 1, 1, 1, 0, 1, 0, 0, 1, 1, 0, 0, 1, 1, 1, 1, 1, 0] C33) (subc [1, 1, 1, 1, 1, 0, 1, 0, 0, 1, 1, 0, 0, 1, 1, 1, 1, 1, 1] C33) (by kernel_rfl) (by kernel_rfl) (fun _ => ?_) (fun e => nomatch (hb.symm.trans e))
                          refine Wp.seq (subc [1, 1, 1, 1, 1, 0, 1, 0, 0, 1, 1, 0, 0, 1, 1, 1, 1, 1, 0, 0] C33) (subc [1, 1, 1, 1, 1, 0, 1, 0, 0, 1, 1, 0, 0, 1, 1, 1, 1, 1, 0, 1] C33) (by kernel_rfl) ?_
                          refine Wp.region (by kernel_rfl) ?_
                          refine Ops.seg 2 2 (by kernel_rfl) ⟨q2 ((dI v60) :: q1 ((.ptr 1 0) :: (dI v59) :: (dI v60) :: q26 ((dP e64 a0.fContexts) :: (dI ((a0.fContexts.length : Int))) :: (dI v39) :: (dB (decide (v39 < (a0.fContexts.length : Int)))) :: (.vptr [(vP e39 v49.fLeft), (vP e39 v49.fRight), (vB v49.fBegin), (vB v49.fEnd)]) :: (.v (.agg [(vP e39 v49.fLeft), (vP e39 v49.fRight), (vB v49.fBegin), (vB v49.fEnd)])) :: (.ptr 1 0) :: (dP e39 v49.fLeft) :: (dI ((v49.fLeft.length : Int))) :: (dB v56) :: (dB v56) :: d52 :: d53 :: d54 :: d55 :: (dB v57) :: (.ptr 1 0) :: (dP e39 v49.fLeft) :: (dI v59) :: (dI v59) :: (dB (v59 != 0)) :: q1 ((.ptr 1 1) :: (dP e39 v49.fRight) :: (dI v60) :: (dI v60) :: (dB (v60 != 0)) :: (dI v60) :: q1 [])))), [(.cells [(dI a0.fKind), (dI a0.fPair.fLexical), (dI a0.fPair.fSurface), (dP e64 a0.fContexts)]), (.cells [(dP e39 v49.fLeft), (dP e39 v49.fRight), (dB v49.fBegin), (dB v49.fEnd)])]⟩ (by kernel_rfl) ?_
                          refine Ops.done (by kernel_rfl) ?_
                          refine seqQ.n ?_
                          refine Wp.ret (by kernel_rfl) ?_
                          refine sqQ.r ?_
                          refine blkQ.r ?_
                          refine seqQ.r ?_
                          cases h
                          refine lpQ.r ?_
                          refine blkQ.r ?_
                          exact hrx44 _ hsx48 _ (RetOk.forget [2, 33, 34, 35] (by kernel_rfl) (RetOk.mk' (dI v60) (by kernel_rfl) (by kernel_rfl)))
                        · refine Wp.cond (v60 != 0) [2, 33, 34, 35] (by kernel_rfl) 2 (by kernel_rfl) (subc [1, 1, 1, 1, 1, 0, 1, 0, 0, 1, 1, 0, 0, 1, 1, 1, 1, 1, 0] C33) (subc [1, 1, 1, 1, 1, 0, 1, 0, 0, 1, 1, 0, 0, 1, 1, 1, 1, 1, 1] C33) (by kernel_rfl) (by kernel_rfl) (fun e => nomatch (hb.symm.trans e)) (fun _ => ?_)
                          refine Wp.skip (by kernel_rfl) ?_
                          refine sqQ.n ⟨q2 ((dI 0) :: q1 ((.ptr 1 0) :: (dI v59) :: (dI v60) :: q26 ((dP e64 a0.fContexts) :: (dI ((a0.fContexts.length : Int))) :: (dI v39) :: (dB (decide (v39 < (a0.fContexts.length : Int)))) :: (.vptr [(vP e39 v49.fLeft), (vP e39 v49.fRight), (vB v49.fBegin), (vB v49.fEnd)]) :: (.v (.agg [(vP e39 v49.fLeft), (vP e39 v49.fRight), (vB v49.fBegin), (vB v49.fEnd)])) :: (.ptr 1 0) :: (dP e39 v49.fLeft) :: (dI ((v49.fLeft.length : Int))) :: (dB v56) :: (dB v56) :: d52 :: d53 :: d54 :: d55 :: (dB v57) :: (.ptr 1 0) :: (dP e39 v49.fLeft) :: (dI v59) :: (dI v59) :: (dB (v59 != 0)) :: q1 ((.ptr 1 1) :: (dP e39 v49.fRight) :: (dI v60) :: (dI v60) :: (dB (v60 != 0)) :: q2 [])))), [(.cells [(dI a0.fKind), (dI a0.fPair.fLexical), (dI a0.fPair.fSurface), (dP e64 a0.fContexts)]), (.cells [(dP e39 v49.fLeft), (dP e39 v49.fRight), (dB v49.fBegin), (dB v49.fEnd)])]⟩ (by kernel_rfl) ?_
                          refine blkQ.n ⟨q2 ((dI 0) :: q30 ((dP e64 a0.fContexts) :: (dI ((a0.fContexts.length : Int))) :: (dI v39) :: q26 [])), [(.cells [(dI a0.fKind), (dI a0.fPair.fLexical), (dI a0.fPair.fSurface), (dP e64 a0.fContexts)])]⟩ (by kernel_rfl) ?_
                          refine seqQ.n ?_
                          refine Wp.region (by kernel_rfl) ?_
                          refine Ops.seg 2 2 (by kernel_rfl) ⟨q2 ((dI 0) :: q30 ((dP e64 a0.fContexts) :: (dI ((a0.fContexts.length : Int))) :: (dI (w64 (v39 + 1))) :: q25 ((dI (w64 (v39 + 1))) :: []))), [(.cells [(dI a0.fKind), (dI a0.fPair.fLexical), (dI a0.fPair.fSurface), (dP e64 a0.fContexts)])]⟩ (by kernel_rfl) ?_
                          refine Ops.done (by kernel_rfl) ?_
                          refine lpQ.n ⟨q2 ((dI 0) :: q30 ((dP e64 a0.fContexts) :: (dI ((a0.fContexts.length : Int))) :: (dI (w64 (v39 + 1))) :: q26 [])), [(.cells [(dI a0.fKind), (dI a0.fPair.fLexical), (dI a0.fPair.fSurface), (dP e64 a0.fContexts)])]⟩ (by kernel_rfl) ?_
                          cases h
                          exact ihx43 (w64 (v39 + 1))  _ hsx48 _ (by omega) hrx44 hxx45
                  have G33g51 : ∀ v50 : Bool, f33_r1 m v39 v49 ((v50 || (decide ((v49.fRight.length : Int) > 3)))) = some sx47 → Ops (X33 n) (opl (subc [1, 1, 1, 1, 1, 0, 1, 0, 0, 1, 1, 0, 0, 1, 0, 0] C33)) 5 ⟨q2 ((dI 0) :: q1 ((.ptr 1 0) :: q28 ((dP e64 a0.fContexts) :: (dI ((a0.fContexts.length : Int))) :: (dI v39) :: (dB (decide (v39 < (a0.fContexts.length : Int)))) :: (.vptr [(vP e39 v49.fLeft), (vP e39 v49.fRight), (vB v49.fBegin), (vB v49.fEnd)]) :: (.v (.agg [(vP e39 v49.fLeft), (vP e39 v49.fRight), (vB v49.fBegin), (vB v49.fEnd)])) :: (.ptr 1 0) :: (dP e39 v49.fLeft) :: (dI ((v49.fLeft.length : Int))) :: (dB v50) :: (dB v50) :: q18 []))), [(.cells [(dI a0.fKind), (dI a0.fPair.fLexical), (dI a0.fPair.fSurface), (dP e64 a0.fContexts)]), (.cells [(dP e39 v49.fLeft), (dP e39 v49.fRight), (dB v49.fBegin), (dB v49.fEnd)])]⟩ ((seqQ (X33 n) (subc [1, 1, 1, 1, 1, 0, 1, 0, 0, 1, 1, 0, 0, 1, 0, 1] C33) (seqQ (X33 n) (subc [1, 1, 1, 1, 1, 0, 1, 0, 0, 1, 1, 0, 0, 1, 1] C33) (blkQ (X33 n) 1 [2, 33, 34, 35] 1 (seqQ (X33 n) (subc [1, 1, 1, 1, 1, 0, 1, 0, 0, 1, 1, 1] C33) (lpQ (X33 n) [2, 33, 34, 35] 1 (subc [1, 1, 1, 1, 1, 0, 1, 0, 0] C33) nx42 (blkQ (X33 n) 0 [2] 1 (seqQ (X33 n) (subc [1, 1, 1, 1, 1, 1] C33) (fnQ (X33 n).E.T (resOf Proofs.Try.prog 33) (eI o))))))))) .normal) := by
                    intro v50 h
                    cases v50
                    · refine Ops.seg 2 7 (by kernel_rfl) ⟨q2 ((dI 0) :: q1 ((.ptr 1 0) :: q28 ((dP e64 a0.fContexts) :: (dI ((a0.fContexts.length : Int))) :: (dI v39) :: (dB (decide (v39 < (a0.fContexts.length : Int)))) :: (.vptr [(vP e39 v49.fLeft), (vP e39 v49.fRight), (vB v49.fBegin), (vB v49.fEnd)]) :: (.v (.agg [(vP e39 v49.fLeft), (vP e39 v49.fRight), (vB v49.fBegin), (vB v49.fEnd)])) :: (.ptr 1 0) :: (dP e39 v49.fLeft) :: (dI ((v49.fLeft.length : Int))) :: (dB false) :: (dB false) :: (.ptr 1 1) :: (dP e39 v49.fRight) :: q16 []))), [(.cells [(dI a0.fKind), (dI a0.fPair.fLexical), (dI a0.fPair.fSurface), (dP e64 a0.fContexts)]), (.cells [(dP e39 v49.fLeft), (dP e39 v49.fRight), (dB v49.fBegin), (dB v49.fEnd)])]⟩ (by kernel_rfl) ?_
                      refine Ops.one 8 (by kernel_rfl) ((lenD (X33 n).E.T 37 (D.unt (dP e39 v49.fRight))).map (·, [(.cells [(dI a0.fKind), (dI a0.fPair.fLexical), (dI a0.fPair.fSurface), (dP e64 a0.fContexts)]), (.cells [(dP e39 v49.fLeft), (dP e39 v49.fRight), (dB v49.fBegin), (dB v49.fEnd)])])) (dI ((v49.fRight.length : Int))) [(.cells [(dI a0.fKind), (dI a0.fPair.fLexical), (dI a0.fPair.fSurface), (dP e64 a0.fContexts)]), (.cells [(dP e39 v49.fLeft), (dP e39 v49.fRight), (dB v49.fBegin), (dB v49.fEnd)])] ⟨q2 ((dI 0) :: q1 ((.ptr 1 0) :: q28 ((dP e64 a0.fContexts) :: (dI ((a0.fContexts.length : Int))) :: (dI v39) :: (dB (decide (v39 < (a0.fContexts.length : Int)))) :: (.vptr [(vP e39 v49.fLeft), (vP e39 v49.fRight), (vB v49.fBegin), (vB v49.fEnd)]) :: (.v (.agg [(vP e39 v49.fLeft), (vP e39 v49.fRight), (vB v49.fBegin), (vB v49.fEnd)])) :: (.ptr 1 0) :: (dP e39 v49.fLeft) :: (dI ((v49.fLeft.length : Int))) :: (dB false) :: (dB false) :: (.ptr 1 1) :: (dP e39 v49.fRight) :: (dI ((v49.fRight.length : Int))) :: q15 []))), [(.cells [(dI a0.fKind), (dI a0.fPair.fLexical), (dI a0.fPair.fSurface), (dP e64 a0.fContexts)]), (.cells [(dP e39 v49.fLeft), (dP e39 v49.fRight), (dB v49.fBegin), (dB v49.fEnd)])]⟩ (by kernel_rfl) (len_r _ 37 40 .plain e39 v49.fRight (by kernel_rfl)) (by kernel_rfl) ?_
                      refine Ops.seg 2 10 (by kernel_rfl) ⟨q2 ((dI 0) :: q1 ((.ptr 1 0) :: q28 ((dP e64 a0.fContexts) :: (dI ((a0.fContexts.length : Int))) :: (dI v39) :: (dB (decide (v39 < (a0.fContexts.length : Int)))) :: (.vptr [(vP e39 v49.fLeft), (vP e39 v49.fRight), (vB v49.fBegin), (vB v49.fEnd)]) :: (.v (.agg [(vP e39 v49.fLeft), (vP e39 v49.fRight), (vB v49.fBegin), (vB v49.fEnd)])) :: (.ptr 1 0) :: (dP e39 v49.fLeft) :: (dI ((v49.fLeft.length : Int))) :: (dB false) :: (dB false) :: (.ptr 1 1) :: (dP e39 v49.fRight) :: (dI ((v49.fRight.length : Int))) :: (dB (decide ((v49.fRight.length : Int) > 3))) :: (dB (decide ((v49.fRight.length : Int) > 3))) :: q13 []))), [(.cells [(dI a0.fKind), (dI a0.fPair.fLexical), (dI a0.fPair.fSurface), (dP e64 a0.fContexts)]), (.cells [(dP e39 v49.fLeft), (dP e39 v49.fRight), (dB v49.fBegin), (dB v49.fEnd)])]⟩ (by kernel_rfl) ?_
                      exact J33j58 _ _ _ _ _ _ h
                    · refine Ops.seg 5 10 (by kernel_rfl) ⟨q2 ((dI 0) :: q1 ((.ptr 1 0) :: q28 ((dP e64 a0.fContexts) :: (dI ((a0.fContexts.length : Int))) :: (dI v39) :: (dB (decide (v39 < (a0.fContexts.length : Int)))) :: (.vptr [(vP e39 v49.fLeft), (vP e39 v49.fRight), (vB v49.fBegin), (vB v49.fEnd)]) :: (.v (.agg [(vP e39 v49.fLeft), (vP e39 v49.fRight), (vB v49.fBegin), (vB v49.fEnd)])) :: (.ptr 1 0) :: (dP e39 v49.fLeft) :: (dI ((v49.fLeft.length : Int))) :: (dB true) :: (dB true) :: u4 ((dB true) :: q13 [])))), [(.cells [(dI a0.fKind), (dI a0.fPair.fLexical), (dI a0.fPair.fSurface), (dP e64 a0.fContexts)]), (.cells [(dP e39 v49.fLeft), (dP e39 v49.fRight), (dB v49.fBegin), (dB v49.fEnd)])]⟩ (by kernel_rfl) ?_
                      exact J33j58 _ _ _ _ _ _ h
                  exact G33g51 (decide ((v49.fLeft.length : Int) > 3)) h
                · refine Wp.cond (decide (v39 < (a0.fContexts.length : Int))) [2, 33, 34, 35] (by kernel_rfl) 1 (by kernel_rfl) (subc [1, 1, 1, 1, 1, 0, 1, 0, 0, 1, 0, 0] C33) (subc [1, 1, 1, 1, 1, 0, 1, 0, 0, 1, 0, 1] C33) (by kernel_rfl) (by kernel_rfl) (fun e => nomatch (hb.symm.trans e)) (fun _ => ?_)
                  refine Wp.exit (id := 0) (by kernel_rfl) ?_
                  refine sqQ.x ?_
                  refine seqQ.x ?_
                  cases h
                  refine lpQ.x ?_
                  refine blkQ.x ⟨q2 ((dI 0) :: q30 ((dP e64 a0.fContexts) :: (dI ((a0.fContexts.length : Int))) :: (dI v39) :: q26 [])), [(.cells [(dI a0.fKind), (dI a0.fPair.fLexical), (dI a0.fPair.fSurface), (dP e64 a0.fContexts)])]⟩ (by kernel_rfl) ?_
                  exact hxx45 v39  hsx48
            refine Wp.loop [2, 33, 34, 35] 1 (by kernel_rfl) (subc [1, 1, 1, 1, 1, 0, 1, 0, 0] C33) (by kernel_rfl) (by kernel_rfl) ⟨q2 ((dI 0) :: q30 ((dP e64 a0.fContexts) :: (dI ((a0.fContexts.length : Int))) :: (dI 0) :: q26 [])), [(.cells [(dI a0.fKind), (dI a0.fPair.fLexical), (dI a0.fPair.fSurface), (dP e64 a0.fContexts)])]⟩ (by kernel_rfl) ?_
            rcases brk_some h with ⟨r63, er63, h⟩ | ⟨y62, ey62, h⟩
            · refine hLx61 _ 0  _ er63 n (by omega) (fun r er σ hσ => ?_) (fun y  ey => by cases ey)
              cases er
              refine seqQ.r ?_
              exact fnQ.r' (X33 n) (fun z => (eI z)) h hσ
            · refine hLx61 _ 0  _ ey62 n (by omega) (fun r er => by cases er) (fun y  ey => ?_)
              cases ey
              refine seqQ.n ?_
              refine Wp.seq (subc [1, 1, 1, 1, 1, 1, 0] C33) (subc [1, 1, 1, 1, 1, 1, 1] C33) (by kernel_rfl) ?_
              refine Wp.region (by kernel_rfl) ?_
              refine Ops.seg 1 1 (by kernel_rfl) ⟨q2 ((dI 0) :: q30 ((dP e64 a0.fContexts) :: (dI ((a0.fContexts.length : Int))) :: (dI y62) :: q26 [])), [(.cells [(dI a0.fKind), (dI a0.fPair.fLexical), (dI a0.fPair.fSurface), (dP e64 a0.fContexts)])]⟩ (by kernel_rfl) ?_
              refine Ops.done (by kernel_rfl) ?_
              refine seqQ.n ?_
              refine Wp.ret (by kernel_rfl) ?_
              exact fnQ.r' (X33 n) (fun z => (eI z)) h (RetOk.mk' (dI 0) (by kernel_rfl) (by kernel_rfl))
    obtain ⟨v11, ev11, h⟩ := bnd_some h
    have G33g4 : ∀ v3 : Bool, (cnd v3 (some true) (bnd (f42 m a0.fPair.fSurface 0 1114111) fun v64 => some (!v64))) = some v11 → Ops (X33 n) (opl (subc [1, 1, 0, 0] C33)) 6 ⟨(.v (.agg [(vI a0.fKind), (vI a0.fPair.fLexical), (vI a0.fPair.fSurface), (vP e64 a0.fContexts)])) :: (.ptr 0 0) :: (dI 0) :: u4 ((.ptr 0 0) :: (dI a0.fKind) :: (dB v1) :: (dB (!v1)) :: (.ptr 0 1) :: (.ptr 0 1) :: (dI a0.fPair.fLexical) :: (dB v2) :: (dB v3) :: (dB v3) :: u40 (u5 [])), [(.cells [(dI a0.fKind), (dI a0.fPair.fLexical), (dI a0.fPair.fSurface), (dP e64 a0.fContexts)])]⟩ ((seqQ (X33 n) (subc [1, 1, 0, 1] C33) (seqQ (X33 n) (subc [1, 1, 1] C33) (fnQ (X33 n).E.T (resOf Proofs.Try.prog 33) (eI o)))) .normal) := by
      intro v3 ev11
      cases v3
      · have ev11 := cnd_f ev11
        refine Ops.seg 3 9 (by kernel_rfl) ⟨(.v (.agg [(vI a0.fKind), (vI a0.fPair.fLexical), (vI a0.fPair.fSurface), (vP e64 a0.fContexts)])) :: (.ptr 0 0) :: (dI 0) :: u4 ((.ptr 0 0) :: (dI a0.fKind) :: (dB v1) :: (dB (!v1)) :: (.ptr 0 1) :: (.ptr 0 1) :: (dI a0.fPair.fLexical) :: (dB v2) :: (dB false) :: (dB false) :: (.ptr 0 1) :: (.ptr 0 2) :: (dI a0.fPair.fSurface) :: u40 (u2 [])), [(.cells [(dI a0.fKind), (dI a0.fPair.fLexical), (dI a0.fPair.fSurface), (dP e64 a0.fContexts)])]⟩ (by kernel_rfl) ?_
        obtain ⟨v64, ev64, ev11⟩ := bnd_some ev11
        refine Ops.one 10 (by kernel_rfl) (callD (X33 n).E (run Proofs.Try.prog E n) 42 [(dI a0.fPair.fSurface), (dI 0), (dI 1114111)] [(.cells [(dI a0.fKind), (dI a0.fPair.fLexical), (dI a0.fPair.fSurface), (dP e64 a0.fContexts)])]) (dB v64) [(.cells [(dI a0.fKind), (dI a0.fPair.fLexical), (dI a0.fPair.fSurface), (dP e64 a0.fContexts)])] ⟨(.v (.agg [(vI a0.fKind), (vI a0.fPair.fLexical), (vI a0.fPair.fSurface), (vP e64 a0.fContexts)])) :: (.ptr 0 0) :: (dI 0) :: u4 ((.ptr 0 0) :: (dI a0.fKind) :: (dB v1) :: (dB (!v1)) :: (.ptr 0 1) :: (.ptr 0 1) :: (dI a0.fPair.fLexical) :: (dB v2) :: (dB false) :: (dB false) :: (.ptr 0 1) :: (.ptr 0 2) :: (dI a0.fPair.fSurface) :: (dB v64) :: u40 (u1 [])), [(.cells [(dI a0.fKind), (dI a0.fPair.fLexical), (dI a0.fPair.fSurface), (dP e64 a0.fContexts)])]⟩ (by kernel_rfl) (call_ok (by kernel_rfl) (Args.v (vI a0.fPair.fSurface) (eI a0.fPair.fSurface) (by kernel_rfl) (Args.v (vI 0) (eI 0) (by kernel_rfl) (Args.v (vI 1114111) (eI 1114111) (by kernel_rfl) Args.nil))) (ok42 m a0.fPair.fSurface 0 1114111 v64 ev64 n (by omega))) (by kernel_rfl) ?_
        refine Ops.seg 2 12 (by kernel_rfl) ⟨(.v (.agg [(vI a0.fKind), (vI a0.fPair.fLexical), (vI a0.fPair.fSurface), (vP e64 a0.fContexts)])) :: (.ptr 0 0) :: (dI 0) :: u4 ((.ptr 0 0) :: (dI a0.fKind) :: (dB v1) :: (dB (!v1)) :: (.ptr 0 1) :: (.ptr 0 1) :: (dI a0.fPair.fLexical) :: (dB v2) :: (dB false) :: (dB false) :: (.ptr 0 1) :: (.ptr 0 2) :: (dI a0.fPair.fSurface) :: (dB v64) :: (dB (!v64)) :: (dB (!v64)) :: u39 []), [(.cells [(dI a0.fKind), (dI a0.fPair.fLexical), (dI a0.fPair.fSurface), (dP e64 a0.fContexts)])]⟩ (by kernel_rfl) ?_
        exact J33j12 _ _ _ _ _ _ _ (some_sub (fun v11 => f33_r3 m a0 v11 = some o) ev11 h)
      · have ev11 := cnd_t ev11
        refine Ops.seg 6 12 (by kernel_rfl) ⟨(.v (.agg [(vI a0.fKind), (vI a0.fPair.fLexical), (vI a0.fPair.fSurface), (vP e64 a0.fContexts)])) :: (.ptr 0 0) :: (dI 0) :: u4 ((.ptr 0 0) :: (dI a0.fKind) :: (dB v1) :: (dB (!v1)) :: (.ptr 0 1) :: (.ptr 0 1) :: (dI a0.fPair.fLexical) :: (dB v2) :: (dB true) :: (dB true) :: u5 ((dB true) :: u39 [])), [(.cells [(dI a0.fKind), (dI a0.fPair.fLexical), (dI a0.fPair.fSurface), (dP e64 a0.fContexts)])]⟩ (by kernel_rfl) ?_
        exact J33j12 _ _ _ _ _ _ _ (some_sub (fun v11 => f33_r3 m a0 v11 = some o) ev11 h)
    exact G33g4 (!v2) ev11

/-! ### 17 glosswright/twolevel.Validate -/
def f17_B1 (m : Nat) (a0 : (List S42)) (v9 : Int) : Option (Stp S25 (Int)) :=
  cnd (decide (v9 < (a0.length : Int)))
  (bnd (idx a0 v9) fun v19 =>
  bnd (f33 m v19) fun v20 =>
  cnd (v20 != 0)
  (bnd (f32 m v20 v9) fun v21 =>
  some (.ret v21))
  (some (.nxt (w64 (v9 + 1)))))
  (some (.brk v9))
def f17 (m : Nat) (a0 : (List S42)) : Option S25 :=
  cnd (decide ((a0.length : Int) > 40))
  (bnd (f32 m 2 ((-1))) fun v1 =>
  some v1)
  (brk (iter (fun (y : Int) => f17_B1 m a0 y) m 0) some fun y23 =>
  some ((⟨0, 0⟩ : S25)))
noncomputable abbrev X17 (n : Nat) : Cx := cxOf Proofs.Try.prog E 17 n
noncomputable def C17 : Code := bodyOf Proofs.Try.prog 17
theorem ok17 (m : Nat) (a0 : (List S42)) (o : S25) (h : f17 m a0 = some o) (n : Nat) (hn : m + 4 ≤ n) : Fn Proofs.Try.prog E n 17 [(eL e42) a0] (e25 o) := by
  obtain ⟨n, rfl⟩ : ∃ q, n = q + 1 := ⟨n - 1, by omega⟩
  unfold f17 at h
  refine Fn.of (by kernel_rfl) (by kernel_rfl) ⟨(dP e42 a0) :: u25 [], []⟩ (by kernel_rfl) ?_
  refine Wp.seq (subc [0] C17) (subc [1] C17) (by kernel_rfl) ?_
  refine Wp.region (by kernel_rfl) ?_
  refine Ops.seg 1 1 (by kernel_rfl) ⟨(dP e42 a0) :: u1 ((.ptr 0 0) :: u23 []), [(.cells [(dI 0), (dI 0)])]⟩ (by kernel_rfl) ?_
  refine Ops.done (by kernel_rfl) ?_
  refine seqQ.n ?_
  refine Wp.seq (subc [1, 0] C17) (subc [1, 1] C17) (by kernel_rfl) ?_
  refine Wp.seq (subc [1, 0, 0] C17) (subc [1, 0, 1] C17) (by kernel_rfl) ?_
  refine Wp.region (by kernel_rfl) ?_
  refine Ops.seg 1 1 (by kernel_rfl) ⟨(dP e42 a0) :: u1 ((.ptr 0 0) :: u3 ((dP e42 a0) :: u19 [])), [(.cells [(dI 0), (dI 0)])]⟩ (by kernel_rfl) ?_
  refine Ops.one 2 (by kernel_rfl) ((lenD (X17 n).E.T 36 (D.unt (dP e42 a0))).map (·, [(.cells [(dI 0), (dI 0)])])) (dI ((a0.length : Int))) [(.cells [(dI 0), (dI 0)])] ⟨(dP e42 a0) :: u1 ((.ptr 0 0) :: u3 ((dP e42 a0) :: (dI ((a0.length : Int))) :: u18 [])), [(.cells [(dI 0), (dI 0)])]⟩ (by kernel_rfl) (len_r _ 36 43 .plain e42 a0 (by kernel_rfl)) (by kernel_rfl) ?_
  refine Ops.seg 1 3 (by kernel_rfl) ⟨(dP e42 a0) :: u1 ((.ptr 0 0) :: u3 ((dP e42 a0) :: (dI ((a0.length : Int))) :: (dB (decide ((a0.length : Int) > 40))) :: u17 [])), [(.cells [(dI 0), (dI 0)])]⟩ (by kernel_rfl) ?_
  refine Ops.done (by kernel_rfl) ?_
  refine seqQ.n ?_
  rcases cnd_some h with ⟨hb, h⟩ | ⟨hb, h⟩
  · refine Wp.cond (decide ((a0.length : Int) > 40)) [0, 2] (by kernel_rfl) 1 (by kernel_rfl) (subc [1, 0, 1, 0] C17) (subc [1, 0, 1, 1] C17) (by kernel_rfl) (by kernel_rfl) (fun _ => ?_) (fun e => nomatch (hb.symm.trans e))
    refine Wp.seq (subc [1, 0, 1, 0, 0] C17) (subc [1, 0, 1, 0, 1] C17) (by kernel_rfl) ?_
    refine Wp.region (by kernel_rfl) ?_
    obtain ⟨v1, ev1, h⟩ := bnd_some h
    refine Ops.one 1 (by kernel_rfl) (callD (X17 n).E (run Proofs.Try.prog E n) 32 [(dI 2), (dI ((-1)))] [(.cells [(dI 0), (dI 0)])]) (.v (.agg [(vI v1.fCode), (vI v1.fIndex)])) [(.cells [(dI 0), (dI 0)])] ⟨(dP e42 a0) :: u1 ((.ptr 0 0) :: u3 ((dP e42 a0) :: (dI ((a0.length : Int))) :: (dB (decide ((a0.length : Int) > 40))) :: (.v (.agg [(vI v1.fCode), (vI v1.fIndex)])) :: u16 [])), [(.cells [(dI 0), (dI 0)])]⟩ (by kernel_rfl) (call_ok (by kernel_rfl) (Args.v (vI 2) (eI 2) (by kernel_rfl) (Args.v (vI ((-1))) (eI ((-1))) (by kernel_rfl) Args.nil)) (ok32 m 2 ((-1)) v1 ev1 n (by omega))) (by kernel_rfl) ?_
    refine Ops.seg 1 2 (by kernel_rfl) ⟨(dP e42 a0) :: u1 ((.ptr 0 0) :: u3 ((dP e42 a0) :: (dI ((a0.length : Int))) :: (dB (decide ((a0.length : Int) > 40))) :: (.v (.agg [(vI v1.fCode), (vI v1.fIndex)])) :: u16 [])), [(.cells [(dI v1.fCode), (dI v1.fIndex)])]⟩ (by kernel_rfl) ?_
    refine Ops.done (by kernel_rfl) ?_
    refine seqQ.n ?_
    refine Wp.ret (by kernel_rfl) ?_
    refine sqQ.r ?_
    refine seqQ.r ?_
    exact fnQ.r' (X17 n) (fun z => (e25 z)) h (RetOk.mk' (.v (.agg [(vI v1.fCode), (vI v1.fIndex)])) (by kernel_rfl) (by kernel_rfl))
  · refine Wp.cond (decide ((a0.length : Int) > 40)) [0, 2] (by kernel_rfl) 1 (by kernel_rfl) (subc [1, 0, 1, 0] C17) (subc [1, 0, 1, 1] C17) (by kernel_rfl) (by kernel_rfl) (fun e => nomatch (hb.symm.trans e)) (fun _ => ?_)
    refine Wp.skip (by kernel_rfl) ?_
    refine sqQ.n ⟨(dP e42 a0) :: u1 ((.ptr 0 0) :: u3 ((dP e42 a0) :: (dI ((a0.length : Int))) :: (dB (decide ((a0.length : Int) > 40))) :: u17 [])), [(.cells [(dI 0), (dI 0)])]⟩ (by kernel_rfl) ?_
    refine seqQ.n ?_
    refine Wp.seq (subc [1, 1, 0] C17) (subc [1, 1, 1] C17) (by kernel_rfl) ?_
    refine Wp.seq (subc [1, 1, 0, 0] C17) (subc [1, 1, 0, 1] C17) (by kernel_rfl) ?_
    refine Wp.region (by kernel_rfl) ?_
    refine Ops.seg 1 1 (by kernel_rfl) ⟨(dP e42 a0) :: u1 ((.ptr 0 0) :: u3 ((dP e42 a0) :: (dI ((a0.length : Int))) :: (dB (decide ((a0.length : Int) > 40))) :: u1 ((dP e42 a0) :: u15 []))), [(.cells [(dI 0), (dI 0)])]⟩ (by kernel_rfl) ?_
    refine Ops.one 2 (by kernel_rfl) ((lenD (X17 n).E.T 36 (D.unt (dP e42 a0))).map (·, [(.cells [(dI 0), (dI 0)])])) (dI ((a0.length : Int))) [(.cells [(dI 0), (dI 0)])] ⟨(dP e42 a0) :: u1 ((.ptr 0 0) :: u3 ((dP e42 a0) :: (dI ((a0.length : Int))) :: (dB (decide ((a0.length : Int) > 40))) :: u1 ((dP e42 a0) :: (dI ((a0.length : Int))) :: u14 []))), [(.cells [(dI 0), (dI 0)])]⟩ (by kernel_rfl) (len_r _ 36 43 .plain e42 a0 (by kernel_rfl)) (by kernel_rfl) ?_
    refine Ops.seg 1 3 (by kernel_rfl) ⟨(dP e42 a0) :: u1 ((.ptr 0 0) :: u3 ((dP e42 a0) :: (dI ((a0.length : Int))) :: (dB (decide ((a0.length : Int) > 40))) :: u1 ((dP e42 a0) :: (dI ((a0.length : Int))) :: (dI 0) :: u13 []))), [(.cells [(dI 0), (dI 0)])]⟩ (by kernel_rfl) ?_
    refine Ops.done (by kernel_rfl) ?_
    refine seqQ.n ?_
    refine Wp.block (id := 0) [2] (by kernel_rfl) 1 (by kernel_rfl) (subc [1, 1, 0, 1, 0] C17) (by kernel_rfl) ?_
    have hLx22 : ∀ (kx11 : Nat) (v9 : Int)  (ox10 : S25 ⊕ (Int)), iter (fun (y : Int) => f17_B1 m a0 y) kx11 v9 = some ox10 → ∀ nx12, kx11 ≤ nx12 → (∀ r, ox10 = .inl r → ∀ σ, RetOk (X17 n) (resOf Proofs.Try.prog 17) (e25 r) σ → (seqQ (X17 n) (subc [1, 1, 1] C17) (fnQ (X17 n).E.T (resOf Proofs.Try.prog 17) (e25 o))) .ret σ) → (∀ (y : Int) , ox10 = .inr y → (seqQ (X17 n) (subc [1, 1, 1] C17) (fnQ (X17 n).E.T (resOf Proofs.Try.prog 17) (e25 o))) .normal ⟨q2 ((.ptr 0 0) :: q7 ((dP e42 a0) :: (dI ((a0.length : Int))) :: (dI y) :: q13 [])), [(.cells [(dI 0), (dI 0)])]⟩) → Lp (X17 n) [2, 10, 11, 12] 1 (subc [1, 1, 0, 1, 0, 0] C17) nx12 ⟨q2 ((.ptr 0 0) :: q7 ((dP e42 a0) :: (dI ((a0.length : Int))) :: (dI v9) :: q13 [])), [(.cells [(dI 0), (dI 0)])]⟩ (blkQ (X17 n) 0 [2] 1 (seqQ (X17 n) (subc [1, 1, 1] C17) (fnQ (X17 n).E.T (resOf Proofs.Try.prog 17) (e25 o)))) := by
      intro kx11
      induction kx11 with
      | zero => intro v9  ox10 h; exact (iter_zero h).elim
      | succ kx11 ihx13 =>
        intro v9  ox10 h nx12 hnx16 hrx14 hxx15
        obtain ⟨nx12, rfl⟩ : ∃ q, nx12 = q + 1 := ⟨nx12 - 1, by omega⟩
        obtain ⟨sx17, h, hsx18⟩ := iter_some h
        have h : f17_B1 m a0 v9 = some sx17 := h
        unfold f17_B1 at h
        refine Lp.succ ?_
        refine Wp.seq (subc [1, 1, 0, 1, 0, 0, 0] C17) (subc [1, 1, 0, 1, 0, 0, 1] C17) (by kernel_rfl) ?_
        refine Wp.region (by kernel_rfl) ?_
        refine Ops.seg 1 1 (by kernel_rfl) ⟨q2 ((.ptr 0 0) :: q7 ((dP e42 a0) :: (dI ((a0.length : Int))) :: (dI v9) :: (dB (decide (v9 < (a0.length : Int)))) :: q12 [])), [(.cells [(dI 0), (dI 0)])]⟩ (by kernel_rfl) ?_
        refine Ops.done (by kernel_rfl) ?_
        refine seqQ.n ?_
        refine Wp.seq (subc [1, 1, 0, 1, 0, 0, 1, 0] C17) (subc [1, 1, 0, 1, 0, 0, 1, 1] C17) (by kernel_rfl) ?_
        rcases cnd_some h with ⟨hb, h⟩ | ⟨hb, h⟩
        · refine Wp.cond (decide (v9 < (a0.length : Int))) [2, 10, 11, 12] (by kernel_rfl) 1 (by kernel_rfl) (subc [1, 1, 0, 1, 0, 0, 1, 0, 0] C17) (subc [1, 1, 0, 1, 0, 0, 1, 0, 1] C17) (by kernel_rfl) (by kernel_rfl) (fun _ => ?_) (fun e => nomatch (hb.symm.trans e))
          refine Wp.skip (by kernel_rfl) ?_
          refine sqQ.n ⟨q2 ((.ptr 0 0) :: q7 ((dP e42 a0) :: (dI ((a0.length : Int))) :: (dI v9) :: (dB (decide (v9 < (a0.length : Int)))) :: q12 [])), [(.cells [(dI 0), (dI 0)])]⟩ (by kernel_rfl) ?_
          refine seqQ.n ?_
          refine Wp.seq (subc [1, 1, 0, 1, 0, 0, 1, 1, 0] C17) (subc [1, 1, 0, 1, 0, 0, 1, 1, 1] C17) (by kernel_rfl) ?_
          refine Wp.block (id := 1) [2, 10, 11, 12] (by kernel_rfl) 1 (by kernel_rfl) (subc [1, 1, 0, 1, 0, 0, 1, 1, 0, 0] C17) (by kernel_rfl) ?_
          refine Wp.seq (subc [1, 1, 0, 1, 0, 0, 1, 1, 0, 0, 0] C17) (subc [1, 1, 0, 1, 0, 0, 1, 1, 0, 0, 1] C17) (by kernel_rfl) ?_
          refine Wp.region (by kernel_rfl) ?_
          refine Ops.seg 1 1 (by kernel_rfl) ⟨q2 ((.ptr 0 0) :: q7 ((dP e42 a0) :: (dI ((a0.length : Int))) :: (dI v9) :: (dB (decide (v9 < (a0.length : Int)))) :: (dI v9) :: q11 [])), [(.cells [(dI 0), (dI 0)])]⟩ (by kernel_rfl) ?_
          obtain ⟨v19, ev19, h⟩ := bnd_some h
          refine Ops.one 2 (by kernel_rfl) ((indexAddrH (X17 n).E.T [(.cells [(dI 0), (dI 0)])] 36 (D.unt (dP e42 a0)) (dI v9)).map (·, [(.cells [(dI 0), (dI 0)])])) (.vptr [(vI v19.fKind), (vI v19.fPair.fLexical), (vI v19.fPair.fSurface), (vP e64 v19.fContexts)]) [(.cells [(dI 0), (dI 0)])] ⟨q2 ((.ptr 0 0) :: q7 ((dP e42 a0) :: (dI ((a0.length : Int))) :: (dI v9) :: (dB (decide (v9 < (a0.length : Int)))) :: (dI v9) :: (.vptr [(vI v19.fKind), (vI v19.fPair.fLexical), (vI v19.fPair.fSurface), (vP e64 v19.fContexts)]) :: q10 [])), [(.cells [(dI 0), (dI 0)])]⟩ (by kernel_rfl) (ix_r _ 36 43 4 .plain e42 a0 v9 v19 ev19 (by kernel_rfl) (by kernel_rfl) (fun _ => rfl)) (by kernel_rfl) ?_
          refine Ops.seg 4 6 (by kernel_rfl) ⟨q2 ((.ptr 0 0) :: (dI v9) :: (.ptr 1 0) :: q5 ((dP e42 a0) :: (dI ((a0.length : Int))) :: (dI v9) :: (dB (decide (v9 < (a0.length : Int)))) :: (dI v9) :: (.vptr [(vI v19.fKind), (vI v19.fPair.fLexical), (vI v19.fPair.fSurface), (vP e64 v19.fContexts)]) :: (.v (.agg [(vI v19.fKind), (vI v19.fPair.fLexical), (vI v19.fPair.fSurface), (vP e64 v19.fContexts)])) :: q9 [])), [(.cells [(dI 0), (dI 0)]), (.cells [(dI v19.fKind), (dI v19.fPair.fLexical), (dI v19.fPair.fSurface), (dP e64 v19.fContexts)])]⟩ (by kernel_rfl) ?_
          refine Ops.done (by kernel_rfl) ?_
          refine seqQ.n ?_
          refine Wp.seq (subc [1, 1, 0, 1, 0, 0, 1, 1, 0, 0, 1, 0] C17) (subc [1, 1, 0, 1, 0, 0, 1, 1, 0, 0, 1, 1] C17) (by kernel_rfl) ?_
          refine Wp.region (by kernel_rfl) ?_
          refine Ops.seg 1 1 (by kernel_rfl) ⟨q2 ((.ptr 0 0) :: (dI v9) :: (.ptr 1 0) :: q5 ((dP e42 a0) :: (dI ((a0.length : Int))) :: (dI v9) :: (dB (decide (v9 < (a0.length : Int)))) :: (dI v9) :: (.vptr [(vI v19.fKind), (vI v19.fPair.fLexical), (vI v19.fPair.fSurface), (vP e64 v19.fContexts)]) :: (.v (.agg [(vI v19.fKind), (vI v19.fPair.fLexical), (vI v19.fPair.fSurface), (vP e64 v19.fContexts)])) :: (.v (.agg [(vI v19.fKind), (vI v19.fPair.fLexical), (vI v19.fPair.fSurface), (vP e64 v19.fContexts)])) :: q8 [])), [(.cells [(dI 0), (dI 0)]), (.cells [(dI v19.fKind), (dI v19.fPair.fLexical), (dI v19.fPair.fSurface), (dP e64 v19.fContexts)])]⟩ (by kernel_rfl) ?_
          obtain ⟨v20, ev20, h⟩ := bnd_some h
          refine Ops.one 2 (by kernel_rfl) (callD (X17 n).E (run Proofs.Try.prog E n) 33 [(.v (.agg [(vI v19.fKind), (vI v19.fPair.fLexical), (vI v19.fPair.fSurface), (vP e64 v19.fContexts)]))] [(.cells [(dI 0), (dI 0)]), (.cells [(dI v19.fKind), (dI v19.fPair.fLexical), (dI v19.fPair.fSurface), (dP e64 v19.fContexts)])]) (dI v20) [(.cells [(dI 0), (dI 0)]), (.cells [(dI v19.fKind), (dI v19.fPair.fLexical), (dI v19.fPair.fSurface), (dP e64 v19.fContexts)])] ⟨q2 ((.ptr 0 0) :: (dI v9) :: (.ptr 1 0) :: q5 ((dP e42 a0) :: (dI ((a0.length : Int))) :: (dI v9) :: (dB (decide (v9 < (a0.length : Int)))) :: (dI v9) :: (.vptr [(vI v19.fKind), (vI v19.fPair.fLexical), (vI v19.fPair.fSurface), (vP e64 v19.fContexts)]) :: (.v (.agg [(vI v19.fKind), (vI v19.fPair.fLexical), (vI v19.fPair.fSurface), (vP e64 v19.fContexts)])) :: (.v (.agg [(vI v19.fKind), (vI v19.fPair.fLexical), (vI v19.fPair.fSurface), (vP e64 v19.fContexts)])) :: (dI v20) :: q7 [])), [(.cells [(dI 0), (dI 0)]), (.cells [(dI v19.fKind), (dI v19.fPair.fLexical), (dI v19.fPair.fSurface), (dP e64 v19.fContexts)])]⟩ (by kernel_rfl) (call_ok (by kernel_rfl) (Args.v (.agg [(vI v19.fKind), (vI v19.fPair.fLexical), (vI v19.fPair.fSurface), (vP e64 v19.fContexts)]) (e42 v19) (by kernel_rfl) Args.nil) (ok33 m v19 v20 ev20 n (by omega))) (by kernel_rfl) ?_
          refine Ops.seg 1 3 (by kernel_rfl) ⟨q2 ((.ptr 0 0) :: (dI v9) :: (.ptr 1 0) :: (dI v20) :: q4 ((dP e42 a0) :: (dI ((a0.length : Int))) :: (dI v9) :: (dB (decide (v9 < (a0.length : Int)))) :: (dI v9) :: (.vptr [(vI v19.fKind), (vI v19.fPair.fLexical), (vI v19.fPair.fSurface), (vP e64 v19.fContexts)]) :: (.v (.agg [(vI v19.fKind), (vI v19.fPair.fLexical), (vI v19.fPair.fSurface), (vP e64 v19.fContexts)])) :: (.v (.agg [(vI v19.fKind), (vI v19.fPair.fLexical), (vI v19.fPair.fSurface), (vP e64 v19.fContexts)])) :: (dI v20) :: q7 [])), [(.cells [(dI 0), (dI 0)]), (.cells [(dI v19.fKind), (dI v19.fPair.fLexical), (dI v19.fPair.fSurface), (dP e64 v19.fContexts)])]⟩ (by kernel_rfl) ?_
          refine Ops.done (by kernel_rfl) ?_
          refine seqQ.n ?_
          refine Wp.seq (subc [1, 1, 0, 1, 0, 0, 1, 1, 0, 0, 1, 1, 0] C17) (subc [1, 1, 0, 1, 0, 0, 1, 1, 0, 0, 1, 1, 1] C17) (by kernel_rfl) ?_
          refine Wp.region (by kernel_rfl) ?_
          refine Ops.seg 2 2 (by kernel_rfl) ⟨q2 ((.ptr 0 0) :: (dI v9) :: (.ptr 1 0) :: (dI v20) :: q4 ((dP e42 a0) :: (dI ((a0.length : Int))) :: (dI v9) :: (dB (decide (v9 < (a0.length : Int)))) :: (dI v9) :: (.vptr [(vI v19.fKind), (vI v19.fPair.fLexical), (vI v19.fPair.fSurface), (vP e64 v19.fContexts)]) :: (.v (.agg [(vI v19.fKind), (vI v19.fPair.fLexical), (vI v19.fPair.fSurface), (vP e64 v19.fContexts)])) :: (.v (.agg [(vI v19.fKind), (vI v19.fPair.fLexical), (vI v19.fPair.fSurface), (vP e64 v19.fContexts)])) :: (dI v20) :: (dI v20) :: (dB (v20 != 0)) :: q5 [])), [(.cells [(dI 0), (dI 0)]), (.cells [(dI v19.fKind), (dI v19.fPair.fLexical), (dI v19.fPair.fSurface), (dP e64 v19.fContexts)])]⟩ (by kernel_rfl) ?_
          refine Ops.done (by kernel_rfl) ?_
          refine seqQ.n ?_
          rcases cnd_some h with ⟨hb, h⟩ | ⟨hb, h⟩
          · refine Wp.cond (v20 != 0) [2, 10, 11, 12] (by kernel_rfl) 2 (by kernel_rfl) (subc [1, 1, 0, 1, 0, 0, 1, 1, 0, 0, 1, 1, 1, 0] C17) (subc [1, 1, 0, 1, 0, 0, 1, 1, 0, 0, 1, 1, 1, 1] C17) (by kernel_rfl) (by kernel_rfl) (fun _ => ?_) (fun e => nomatch (hb.symm.trans e))
            refine Wp.seq (subc [1, 1, 0, 1, 0, 0, 1, 1, 0, 0, 1, 1, 1, 0, 0] C17) (subc [1, 1, 0, 1, 0, 0, 1, 1, 0, 0, 1, 1, 1, 0, 1] C17) (by kernel_rfl) ?_
            refine Wp.region (by kernel_rfl) ?_
            refine Ops.seg 2 2 (by kernel_rfl) ⟨q2 ((.ptr 0 0) :: (dI v9) :: (.ptr 1 0) :: (dI v20) :: q4 ((dP e42 a0) :: (dI ((a0.length : Int))) :: (dI v9) :: (dB (decide (v9 < (a0.length : Int)))) :: (dI v9) :: (.vptr [(vI v19.fKind), (vI v19.fPair.fLexical), (vI v19.fPair.fSurface), (vP e64 v19.fContexts)]) :: (.v (.agg [(vI v19.fKind), (vI v19.fPair.fLexical), (vI v19.fPair.fSurface), (vP e64 v19.fContexts)])) :: (.v (.agg [(vI v19.fKind), (vI v19.fPair.fLexical), (vI v19.fPair.fSurface), (vP e64 v19.fContexts)])) :: (dI v20) :: (dI v20) :: (dB (v20 != 0)) :: (dI v20) :: (dI v9) :: q3 [])), [(.cells [(dI 0), (dI 0)]), (.cells [(dI v19.fKind), (dI v19.fPair.fLexical), (dI v19.fPair.fSurface), (dP e64 v19.fContexts)])]⟩ (by kernel_rfl) ?_
            obtain ⟨v21, ev21, h⟩ := bnd_some h
            refine Ops.one 3 (by kernel_rfl) (callD (X17 n).E (run Proofs.Try.prog E n) 32 [(dI v20), (dI v9)] [(.cells [(dI 0), (dI 0)]), (.cells [(dI v19.fKind), (dI v19.fPair.fLexical), (dI v19.fPair.fSurface), (dP e64 v19.fContexts)])]) (.v (.agg [(vI v21.fCode), (vI v21.fIndex)])) [(.cells [(dI 0), (dI 0)]), (.cells [(dI v19.fKind), (dI v19.fPair.fLexical), (dI v19.fPair.fSurface), (dP e64 v19.fContexts)])] ⟨q2 ((.ptr 0 0) :: (dI v9) :: (.ptr 1 0) :: (dI v20) :: q4 ((dP e42 a0) :: (dI ((a0.length : Int))) :: (dI v9) :: (dB (decide (v9 < (a0.length : Int)))) :: (dI v9) :: (.vptr [(vI v19.fKind), (vI v19.fPair.fLexical), (vI v19.fPair.fSurface), (vP e64 v19.fContexts)]) :: (.v (.agg [(vI v19.fKind), (vI v19.fPair.fLexical), (vI v19.fPair.fSurface), (vP e64 v19.fContexts)])) :: (.v (.agg [(vI v19.fKind), (vI v19.fPair.fLexical), (vI v19.fPair.fSurface), (vP e64 v19.fContexts)])) :: (dI v20) :: (dI v20) :: (dB (v20 != 0)) :: (dI v20) :: (dI v9) :: (.v (.agg [(vI v21.fCode), (vI v21.fIndex)])) :: q2 [])), [(.cells [(dI 0), (dI 0)]), (.cells [(dI v19.fKind), (dI v19.fPair.fLexical), (dI v19.fPair.fSurface), (dP e64 v19.fContexts)])]⟩ (by kernel_rfl) (call_ok (by kernel_rfl) (Args.v (vI v20) (eI v20) (by kernel_rfl) (Args.v (vI v9) (eI v9) (by kernel_rfl) Args.nil)) (ok32 m v20 v9 v21 ev21 n (by omega))) (by kernel_rfl) ?_
            refine Ops.seg 1 4 (by kernel_rfl) ⟨q2 ((.ptr 0 0) :: (dI v9) :: (.ptr 1 0) :: (dI v20) :: q4 ((dP e42 a0) :: (dI ((a0.length : Int))) :: (dI v9) :: (dB (decide (v9 < (a0.length : Int)))) :: (dI v9) :: (.vptr [(vI v19.fKind), (vI v19.fPair.fLexical), (vI v19.fPair.fSurface), (vP e64 v19.fContexts)]) :: (.v (.agg [(vI v19.fKind), (vI v19.fPair.fLexical), (vI v19.fPair.fSurface), (vP e64 v19.fContexts)])) :: (.v (.agg [(vI v19.fKind), (vI v19.fPair.fLexical), (vI v19.fPair.fSurface), (vP e64 v19.fContexts)])) :: (dI v20) :: (dI v20) :: (dB (v20 != 0)) :: (dI v20) :: (dI v9) :: (.v (.agg [(vI v21.fCode), (vI v21.fIndex)])) :: q2 [])), [(.cells [(dI v21.fCode), (dI v21.fIndex)]), (.cells [(dI v19.fKind), (dI v19.fPair.fLexical), (dI v19.fPair.fSurface), (dP e64 v19.fContexts)])]⟩ (by kernel_rfl) ?_
            refine Ops.done (by kernel_rfl) ?_
            refine seqQ.n ?_
            refine Wp.ret (by kernel_rfl) ?_
            refine sqQ.r ?_
            refine blkQ.r ?_
            refine seqQ.r ?_
            cases h
            refine lpQ.r ?_
            refine blkQ.r ?_
            exact hrx14 _ hsx18 _ (RetOk.forget [2, 10, 11, 12] (by kernel_rfl) (RetOk.mk' (.v (.agg [(vI v21.fCode), (vI v21.fIndex)])) (by kernel_rfl) (by kernel_rfl)))
          · refine Wp.cond (v20 != 0) [2, 10, 11, 12] (by kernel_rfl) 2 (by kernel_rfl) (subc [1, 1, 0, 1, 0, 0, 1, 1, 0, 0, 1, 1, 1, 0] C17) (subc [1, 1, 0, 1, 0, 0, 1, 1, 0, 0, 1, 1, 1, 1] C17) (by kernel_rfl) (by kernel_rfl) (fun e => nomatch (hb.symm.trans e)) (fun _ => ?_)
            refine Wp.skip (by kernel_rfl) ?_
            refine sqQ.n ⟨q2 ((.ptr 0 0) :: (dI v9) :: (.ptr 1 0) :: (dI v20) :: q4 ((dP e42 a0) :: (dI ((a0.length : Int))) :: (dI v9) :: (dB (decide (v9 < (a0.length : Int)))) :: (dI v9) :: (.vptr [(vI v19.fKind), (vI v19.fPair.fLexical), (vI v19.fPair.fSurface), (vP e64 v19.fContexts)]) :: (.v (.agg [(vI v19.fKind), (vI v19.fPair.fLexical), (vI v19.fPair.fSurface), (vP e64 v19.fContexts)])) :: (.v (.agg [(vI v19.fKind), (vI v19.fPair.fLexical), (vI v19.fPair.fSurface), (vP e64 v19.fContexts)])) :: (dI v20) :: (dI v20) :: (dB (v20 != 0)) :: q5 [])), [(.cells [(dI 0), (dI 0)]), (.cells [(dI v19.fKind), (dI v19.fPair.fLexical), (dI v19.fPair.fSurface), (dP e64 v19.fContexts)])]⟩ (by kernel_rfl) ?_
            refine blkQ.n ⟨q2 ((.ptr 0 0) :: q7 ((dP e42 a0) :: (dI ((a0.length : Int))) :: (dI v9) :: q13 [])), [(.cells [(dI 0), (dI 0)])]⟩ (by kernel_rfl) ?_
            refine seqQ.n ?_
            refine Wp.region (by kernel_rfl) ?_
            refine Ops.seg 2 2 (by kernel_rfl) ⟨q2 ((.ptr 0 0) :: q7 ((dP e42 a0) :: (dI ((a0.length : Int))) :: (dI (w64 (v9 + 1))) :: q11 ((dI (w64 (v9 + 1))) :: q1 []))), [(.cells [(dI 0), (dI 0)])]⟩ (by kernel_rfl) ?_
            refine Ops.done (by kernel_rfl) ?_
            refine lpQ.n ⟨q2 ((.ptr 0 0) :: q7 ((dP e42 a0) :: (dI ((a0.length : Int))) :: (dI (w64 (v9 + 1))) :: q13 [])), [(.cells [(dI 0), (dI 0)])]⟩ (by kernel_rfl) ?_
            cases h
            exact ihx13 (w64 (v9 + 1))  _ hsx18 _ (by omega) hrx14 hxx15
        · refine Wp.cond (decide (v9 < (a0.length : Int))) [2, 10, 11, 12] (by kernel_rfl) 1 (by kernel_rfl) (subc [1, 1, 0, 1, 0, 0, 1, 0, 0] C17) (subc [1, 1, 0, 1, 0, 0, 1, 0, 1] C17) (by kernel_rfl) (by kernel_rfl) (fun e => nomatch (hb.symm.trans e)) (fun _ => ?_)
          refine Wp.exit (id := 0) (by kernel_rfl) ?_
          refine sqQ.x ?_
          refine seqQ.x ?_
          cases h
          refine lpQ.x ?_
          refine blkQ.x ⟨q2 ((.ptr 0 0) :: q7 ((dP e42 a0) :: (dI ((a0.length : Int))) :: (dI v9) :: q13 [])), [(.cells [(dI 0), (dI 0)])]⟩ (by kernel_rfl) ?_
          exact hxx15 v9  hsx18
    refine Wp.loop [2, 10, 11, 12] 1 (by kernel_rfl) (subc [1, 1, 0, 1, 0, 0] C17) (by kernel_rfl) (by kernel_rfl) ⟨q2 ((.ptr 0 0) :: q7 ((dP e42 a0) :: (dI ((a0.length : Int))) :: (dI 0) :: q13 [])), [(.cells [(dI 0), (dI 0)])]⟩ (by kernel_rfl) ?_
    rcases brk_some h with ⟨r24, er24, h⟩ | ⟨y23, ey23, h⟩
    · refine hLx22 _ 0  _ er24 n (by omega) (fun r er σ hσ => ?_) (fun y  ey => by cases ey)
      cases er
      refine seqQ.r ?_
      exact fnQ.r' (X17 n) (fun z => (e25 z)) h hσ
    · refine hLx22 _ 0  _ ey23 n (by omega) (fun r er => by cases er) (fun y  ey => ?_)
      cases ey
      refine seqQ.n ?_
      refine Wp.seq (subc [1, 1, 1, 0] C17) (subc [1, 1, 1, 1] C17) (by kernel_rfl) ?_
      refine Wp.region (by kernel_rfl) ?_
      refine Ops.seg 2 2 (by kernel_rfl) ⟨q2 ((.ptr 0 0) :: q7 ((dP e42 a0) :: (dI ((a0.length : Int))) :: (dI y23) :: q12 ((.v (.agg [(vI 0), (vI 0)])) :: []))), [(.cells [(dI 0), (dI 0)])]⟩ (by kernel_rfl) ?_
      refine Ops.done (by kernel_rfl) ?_
      refine seqQ.n ?_
      refine Wp.ret (by kernel_rfl) ?_
      exact fnQ.r' (X17 n) (fun z => (e25 z)) h (RetOk.mk' (.v (.agg [(vI 0), (vI 0)])) (by kernel_rfl) (by kernel_rfl))

/-! ### 34 glosswright/twolevel.pairs -/
def f34_r1 (m : Nat) (v137 : Int) (v164 : Bool) (v202 : Bool) : Option (Stp S25 (Bool × Int)) :=
  cnd v202
  (bnd (f32 m 13 v137) fun v204 =>
  some (.ret v204))
  (some (.nxt (v164, w64 (v137 + 1))))
def f34_r2 (m : Nat) (a0 : (List S39)) (v137 : Int) (v147 : S39) (v164 : Bool) (v165 : Bool) : Option (Stp S25 (Bool × Int)) :=
  bnd (cnd v165
  (bnd (idx a0 (w64 (v137 - 1))) fun v205 =>
  cnd (decide (v205.fLexical < v147.fLexical))
  (some (!true))
  (bnd (idx a0 (w64 (v137 - 1))) fun v208 =>
  cnd (v208.fLexical == v147.fLexical)
  (bnd (idx a0 (w64 (v137 - 1))) fun v211 =>
  some (!(decide (v211.fSurface < v147.fSurface))))
  (some (!false))))
  (some false)) fun v202 =>
  f34_r1 m v137 v164 v202
def f34_r3 (m : Nat) (a0 : (List S39)) (v136 : Bool) (v137 : Int) (v147 : S39) (v156 : Bool) : Option (Stp S25 (Bool × Int)) :=
  cnd v156
  (bnd (f32 m 3 v137) fun v158 =>
  some (.ret v158))
  (cnd (((v147.fLexical == 0) && ((v147.fSurface == 0) && true)))
  (bnd (f32 m 5 v137) fun v159 =>
  some (.ret v159))
  (f34_r2 m a0 v137 v147 v136 ((v136 && (decide (v137 > 0))))))
def f34_B4 (m : Nat) (a0 : (List S39)) (v136 : Bool) (v137 : Int) : Option (Stp S25 (Bool × Int)) :=
  cnd (decide (v137 < (a0.length : Int)))
  (bnd (idx a0 v137) fun v147 =>
  bnd (f42 m v147.fLexical 0 1114111) fun v148 =>
  bnd (cnd (!v148)
  (some true)
  (bnd (f42 m v147.fSurface 0 1114111) fun v212 =>
  some (!v212))) fun v156 =>
  f34_r3 m a0 v136 v137 v147 v156)
  (some (.brk (v136, v137)))
def f34 (m : Nat) (a0 : (List S39)) (a1 : Int) (a2 : Bool) : Option S25 :=
  cnd (decide ((a0.length : Int) > a1))
  (bnd (f32 m 2 ((-2))) fun v1 =>
  some v1)
  (brk (iter (fun (y : Bool × Int) => f34_B4 m a0 y.1 y.2) m (a2, 0)) some fun y214 =>
  some ((⟨0, 0⟩ : S25)))
noncomputable abbrev X34 (n : Nat) : Cx := cxOf Proofs.Try.prog E 34 n
noncomputable def C34 : Code := bodyOf Proofs.Try.prog 34
theorem ok34 (m : Nat) (a0 : (List S39)) (a1 : Int) (a2 : Bool) (o : S25) (h : f34 m a0 a1 a2 = some o) (n : Nat) (hn : m + 2 ≤ n) : Fn Proofs.Try.prog E n 34 [(eL e39) a0, eI a1, eB a2] (e25 o) := by
  obtain ⟨n, rfl⟩ : ∃ q, n = q + 1 := ⟨n - 1, by omega⟩
  unfold f34 at h
  refine Fn.of (by kernel_rfl) (by kernel_rfl) ⟨(dP e39 a0) :: (dI a1) :: (dB a2) :: u40 (u38 []), []⟩ (by kernel_rfl) ?_
  refine Wp.seq (subc [0] C34) (subc [1] C34) (by kernel_rfl) ?_
  refine Wp.region (by kernel_rfl) ?_
  refine Ops.seg 1 1 (by kernel_rfl) ⟨(dP e39 a0) :: (dI a1) :: (dB a2) :: u3 ((.ptr 0 0) :: u40 (u34 [])), [(.cells [(dI 0), (dI 0)])]⟩ (by kernel_rfl) ?_
  refine Ops.done (by kernel_rfl) ?_
  refine seqQ.n ?_
  refine Wp.seq (subc [1, 0] C34) (subc [1, 1] C34) (by kernel_rfl) ?_
  refine Wp.seq (subc [1, 0, 0] C34) (subc [1, 0, 1] C34) (by kernel_rfl) ?_
  refine Wp.region (by kernel_rfl) ?_
  refine Ops.seg 1 1 (by kernel_rfl) ⟨(dP e39 a0) :: (dI a1) :: (dB a2) :: u3 ((.ptr 0 0) :: u2 ((dP e39 a0) :: u40 (u31 []))), [(.cells [(dI 0), (dI 0)])]⟩ (by kernel_rfl) ?_
  refine Ops.one 2 (by kernel_rfl) ((lenD (X34 n).E.T 37 (D.unt (dP e39 a0))).map (·, [(.cells [(dI 0), (dI 0)])])) (dI ((a0.length : Int))) [(.cells [(dI 0), (dI 0)])] ⟨(dP e39 a0) :: (dI a1) :: (dB a2) :: u3 ((.ptr 0 0) :: u2 ((dP e39 a0) :: (dI ((a0.length : Int))) :: u40 (u30 []))), [(.cells [(dI 0), (dI 0)])]⟩ (by kernel_rfl) (len_r _ 37 40 .plain e39 a0 (by kernel_rfl)) (by kernel_rfl) ?_
  refine Ops.seg 2 4 (by kernel_rfl) ⟨(dP e39 a0) :: (dI a1) :: (dB a2) :: u3 ((.ptr 0 0) :: u2 ((dP e39 a0) :: (dI ((a0.length : Int))) :: (dI a1) :: (dB (decide ((a0.length : Int) > a1))) :: u40 (u28 []))), [(.cells [(dI 0), (dI 0)])]⟩ (by kernel_rfl) ?_
  refine Ops.done (by kernel_rfl) ?_
  refine seqQ.n ?_
  rcases cnd_some h with ⟨hb, h⟩ | ⟨hb, h⟩
  · refine Wp.cond (decide ((a0.length : Int) > a1)) [0, 2, 6] (by kernel_rfl) 1 (by kernel_rfl) (subc [1, 0, 1, 0] C34) (subc [1, 0, 1, 1] C34) (by kernel_rfl) (by kernel_rfl) (fun _ => ?_) (fun e => nomatch (hb.symm.trans e))
    refine Wp.seq (subc [1, 0, 1, 0, 0] C34) (subc [1, 0, 1, 0, 1] C34) (by kernel_rfl) ?_
    refine Wp.region (by kernel_rfl) ?_
    obtain ⟨v1, ev1, h⟩ := bnd_some h
    refine Ops.one 1 (by kernel_rfl) (callD (X34 n).E (run Proofs.Try.prog E n) 32 [(dI 2), (dI ((-2)))] [(.cells [(dI 0), (dI 0)])]) (.v (.agg [(vI v1.fCode), (vI v1.fIndex)])) [(.cells [(dI 0), (dI 0)])] ⟨(dP e39 a0) :: (dI a1) :: (dB a2) :: u3 ((.ptr 0 0) :: u2 ((dP e39 a0) :: (dI ((a0.length : Int))) :: (dI a1) :: (dB (decide ((a0.length : Int) > a1))) :: (.v (.agg [(vI v1.fCode), (vI v1.fIndex)])) :: u40 (u27 []))), [(.cells [(dI 0), (dI 0)])]⟩ (by kernel_rfl) (call_ok (by kernel_rfl) (Args.v (vI 2) (eI 2) (by kernel_rfl) (Args.v (vI ((-2))) (eI ((-2))) (by kernel_rfl) Args.nil)) (ok32 m 2 ((-2)) v1 ev1 n (by omega))) (by kernel_rfl) ?_
    refine Ops.seg 1 2 (by kernel_rfl) ⟨(dP e39 a0) :: (dI a1) :: (dB a2) :: u3 ((.ptr 0 0) :: u2 ((dP e39 a0) :: (dI ((a0.length : Int))) :: (dI a1) :: (dB (decide ((a0.length : Int) > a1))) :: (.v (.agg [(vI v1.fCode), (vI v1.fIndex)])) :: u40 (u27 []))), [(.cells [(dI v1.fCode), (dI v1.fIndex)])]⟩ (by kernel_rfl) ?_
    refine Ops.done (by kernel_rfl) ?_
    refine seqQ.n ?_
    refine Wp.ret (by kernel_rfl) ?_
    refine sqQ.r ?_
    refine seqQ.r ?_
    exact fnQ.r' (X34 n) (fun z => (e25 z)) h (RetOk.mk' (.v (.agg [(vI v1.fCode), (vI v1.fIndex)])) (by kernel_rfl) (by kernel_rfl))
  · refine Wp.cond (decide ((a0.length : Int) > a1)) [0, 2, 6] (by kernel_rfl) 1 (by kernel_rfl) (subc [1, 0, 1, 0] C34) (subc [1, 0, 1, 1] C34) (by kernel_rfl) (by kernel_rfl) (fun e => nomatch (hb.symm.trans e)) (fun _ => ?_)
    refine Wp.skip (by kernel_rfl) ?_
    refine sqQ.n ⟨(dP e39 a0) :: (dI a1) :: (dB a2) :: u3 ((.ptr 0 0) :: u2 ((dP e39 a0) :: (dI ((a0.length : Int))) :: (dI a1) :: (dB (decide ((a0.length : Int) > a1))) :: u40 (u28 []))), [(.cells [(dI 0), (dI 0)])]⟩ (by kernel_rfl) ?_
    refine seqQ.n ?_
    refine Wp.seq (subc [1, 1, 0] C34) (subc [1, 1, 1] C34) (by kernel_rfl) ?_
    refine Wp.seq (subc [1, 1, 0, 0] C34) (subc [1, 1, 0, 1] C34) (by kernel_rfl) ?_
    refine Wp.region (by kernel_rfl) ?_
    refine Ops.seg 1 1 (by kernel_rfl) ⟨(dP e39 a0) :: (dI a1) :: (dB a2) :: u3 ((.ptr 0 0) :: u2 ((dP e39 a0) :: (dI ((a0.length : Int))) :: (dI a1) :: (dB (decide ((a0.length : Int) > a1))) :: u1 ((dP e39 a0) :: u40 (u26 [])))), [(.cells [(dI 0), (dI 0)])]⟩ (by kernel_rfl) ?_
    refine Ops.one 2 (by kernel_rfl) ((lenD (X34 n).E.T 37 (D.unt (dP e39 a0))).map (·, [(.cells [(dI 0), (dI 0)])])) (dI ((a0.length : Int))) [(.cells [(dI 0), (dI 0)])] ⟨(dP e39 a0) :: (dI a1) :: (dB a2) :: u3 ((.ptr 0 0) :: u2 ((dP e39 a0) :: (dI ((a0.length : Int))) :: (dI a1) :: (dB (decide ((a0.length : Int) > a1))) :: u1 ((dP e39 a0) :: (dI ((a0.length : Int))) :: u40 (u25 [])))), [(.cells [(dI 0), (dI 0)])]⟩ (by kernel_rfl) (len_r _ 37 40 .plain e39 a0 (by kernel_rfl)) (by kernel_rfl) ?_
    refine Ops.seg 1 3 (by kernel_rfl) ⟨(dP e39 a0) :: (dI a1) :: (dB a2) :: u3 ((.ptr 0 0) :: u2 ((dP e39 a0) :: (dI ((a0.length : Int))) :: (dI a1) :: (dB (decide ((a0.length : Int) > a1))) :: u1 ((dP e39 a0) :: (dI ((a0.length : Int))) :: (dI 0) :: u40 (u24 [])))), [(.cells [(dI 0), (dI 0)])]⟩ (by kernel_rfl) ?_
    refine Ops.done (by kernel_rfl) ?_
    refine seqQ.n ?_
    refine Wp.block (id := 0) [6] (by kernel_rfl) 1 (by kernel_rfl) (subc [1, 1, 0, 1, 0] C34) (by kernel_rfl) ?_
    have hLx213 : ∀ (kx139 : Nat) (v136 : Bool) (v137 : Int)  (ox138 : S25 ⊕ (Bool × Int)), iter (fun (y : Bool × Int) => f34_B4 m a0 y.1 y.2) kx139 (v136, v137) = some ox138 → ∀ nx140, kx139 ≤ nx140 → (∀ r, ox138 = .inl r → ∀ σ, RetOk (X34 n) (resOf Proofs.Try.prog 34) (e25 r) σ → (seqQ (X34 n) (subc [1, 1, 1] C34) (fnQ (X34 n).E.T (resOf Proofs.Try.prog 34) (e25 o))) .ret σ) → (∀ (y : Bool × Int) , ox138 = .inr y → (seqQ (X34 n) (subc [1, 1, 1] C34) (fnQ (X34 n).E.T (resOf Proofs.Try.prog 34) (e25 o))) .normal ⟨(dP e39 a0) :: q1 ((dB y.1) :: q3 ((.ptr 0 0) :: q7 ((dP e39 a0) :: (dI ((a0.length : Int))) :: (dI y.2) :: q40 (q24 [])))), [(.cells [(dI 0), (dI 0)])]⟩) → Lp (X34 n) [0, 2, 6, 14, 15, 16] 1 (subc [1, 1, 0, 1, 0, 0] C34) nx140 ⟨(dP e39 a0) :: q1 ((dB v136) :: q3 ((.ptr 0 0) :: q7 ((dP e39 a0) :: (dI ((a0.length : Int))) :: (dI v137) :: q40 (q24 [])))), [(.cells [(dI 0), (dI 0)])]⟩ (blkQ (X34 n) 0 [6] 1 (seqQ (X34 n) (subc [1, 1, 1] C34) (fnQ (X34 n).E.T (resOf Proofs.Try.prog 34) (e25 o)))) := by
      intro kx139
      induction kx139 with
      | zero => intro v136 v137  ox138 h; exact (iter_zero h).elim
      | succ kx139 ihx141 =>
        intro v136 v137  ox138 h nx140 hnx144 hrx142 hxx143
        obtain ⟨nx140, rfl⟩ : ∃ q, nx140 = q + 1 := ⟨nx140 - 1, by omega⟩
        obtain ⟨sx145, h, hsx146⟩ := iter_some h
        have h : f34_B4 m a0 v136 v137 = some sx145 := h
        unfold f34_B4 at h
        refine Lp.succ ?_
        refine Wp.seq (subc [1, 1, 0, 1, 0, 0, 0] C34) (subc [1, 1, 0, 1, 0, 0, 1] C34) (by kernel_rfl) ?_
        refine Wp.region (by kernel_rfl) ?_
        refine Ops.seg 1 1 (by kernel_rfl) ⟨(dP e39 a0) :: q1 ((dB v136) :: q3 ((.ptr 0 0) :: q7 ((dP e39 a0) :: (dI ((a0.length : Int))) :: (dI v137) :: (dB (decide (v137 < (a0.length : Int)))) :: q40 (q23 [])))), [(.cells [(dI 0), (dI 0)])]⟩ (by kernel_rfl) ?_
        refine Ops.done (by kernel_rfl) ?_
        refine seqQ.n ?_
        refine Wp.seq (subc [1, 1, 0, 1, 0, 0, 1, 0] C34) (subc [1, 1, 0, 1, 0, 0, 1, 1] C34) (by kernel_rfl) ?_
        rcases cnd_some h with ⟨hb, h⟩ | ⟨hb, h⟩
        · refine Wp.cond (decide (v137 < (a0.length : Int))) [0, 2, 6, 14, 15, 16] (by kernel_rfl) 1 (by kernel_rfl) (subc [1, 1, 0, 1, 0, 0, 1, 0, 0] C34) (subc [1, 1, 0, 1, 0, 0, 1, 0, 1] C34) (by kernel_rfl) (by kernel_rfl) (fun _ => ?_) (fun e => nomatch (hb.symm.trans e))
          refine Wp.skip (by kernel_rfl) ?_
          refine sqQ.n ⟨(dP e39 a0) :: q1 ((dB v136) :: q3 ((.ptr 0 0) :: q7 ((dP e39 a0) :: (dI ((a0.length : Int))) :: (dI v137) :: (dB (decide (v137 < (a0.length : Int)))) :: q40 (q23 [])))), [(.cells [(dI 0), (dI 0)])]⟩ (by kernel_rfl) ?_
          refine seqQ.n ?_
          refine Wp.seq (subc [1, 1, 0, 1, 0, 0, 1, 1, 0] C34) (subc [1, 1, 0, 1, 0, 0, 1, 1, 1] C34) (by kernel_rfl) ?_
          refine Wp.block (id := 1) [0, 2, 6, 14, 15, 16] (by kernel_rfl) 1 (by kernel_rfl) (subc [1, 1, 0, 1, 0, 0, 1, 1, 0, 0] C34) (by kernel_rfl) ?_
          refine Wp.seq (subc [1, 1, 0, 1, 0, 0, 1, 1, 0, 0, 0] C34) (subc [1, 1, 0, 1, 0, 0, 1, 1, 0, 0, 1] C34) (by kernel_rfl) ?_
          refine Wp.region (by kernel_rfl) ?_
          refine Ops.seg 1 1 (by kernel_rfl) ⟨(dP e39 a0) :: q1 ((dB v136) :: q3 ((.ptr 0 0) :: q7 ((dP e39 a0) :: (dI ((a0.length : Int))) :: (dI v137) :: (dB (decide (v137 < (a0.length : Int)))) :: (dI v137) :: q40 (q22 [])))), [(.cells [(dI 0), (dI 0)])]⟩ (by kernel_rfl) ?_
          obtain ⟨v147, ev147, h⟩ := bnd_some h
          refine Ops.one 2 (by kernel_rfl) ((indexAddrH (X34 n).E.T [(.cells [(dI 0), (dI 0)])] 37 (D.unt (dP e39 a0)) (dI v137)).map (·, [(.cells [(dI 0), (dI 0)])])) (.vptr [(vI v147.fLexical), (vI v147.fSurface)]) [(.cells [(dI 0), (dI 0)])] ⟨(dP e39 a0) :: q1 ((dB v136) :: q3 ((.ptr 0 0) :: q7 ((dP e39 a0) :: (dI ((a0.length : Int))) :: (dI v137) :: (dB (decide (v137 < (a0.length : Int)))) :: (dI v137) :: (.vptr [(vI v147.fLexical), (vI v147.fSurface)]) :: q40 (q21 [])))), [(.cells [(dI 0), (dI 0)])]⟩ (by kernel_rfl) (ix_r _ 37 40 2 .plain e39 a0 v137 v147 ev147 (by kernel_rfl) (by kernel_rfl) (fun _ => rfl)) (by kernel_rfl) ?_
          refine Ops.seg 4 6 (by kernel_rfl) ⟨(dP e39 a0) :: q1 ((dB v136) :: q3 ((.ptr 0 0) :: (dI v137) :: (.ptr 1 0) :: q5 ((dP e39 a0) :: (dI ((a0.length : Int))) :: (dI v137) :: (dB (decide (v137 < (a0.length : Int)))) :: (dI v137) :: (.vptr [(vI v147.fLexical), (vI v147.fSurface)]) :: (.v (.agg [(vI v147.fLexical), (vI v147.fSurface)])) :: q40 (q20 [])))), [(.cells [(dI 0), (dI 0)]), (.cells [(dI v147.fLexical), (dI v147.fSurface)])]⟩ (by kernel_rfl) ?_
          refine Ops.done (by kernel_rfl) ?_
          refine seqQ.n ?_
          refine Wp.seq (subc [1, 1, 0, 1, 0, 0, 1, 1, 0, 0, 1, 0] C34) (subc [1, 1, 0, 1, 0, 0, 1, 1, 0, 0, 1, 1] C34) (by kernel_rfl) ?_
          refine Wp.seq (subc [1, 1, 0, 1, 0, 0, 1, 1, 0, 0, 1, 0, 0] C34) (subc [1, 1, 0, 1, 0, 0, 1, 1, 0, 0, 1, 0, 1] C34) (by kernel_rfl) ?_
          refine Wp.region (by kernel_rfl) ?_
          refine Ops.seg 2 2 (by kernel_rfl) ⟨(dP e39 a0) :: q1 ((dB v136) :: q3 ((.ptr 0 0) :: (dI v137) :: (.ptr 1 0) :: q5 ((dP e39 a0) :: (dI ((a0.length : Int))) :: (dI v137) :: (dB (decide (v137 < (a0.length : Int)))) :: (dI v137) :: (.vptr [(vI v147.fLexical), (vI v147.fSurface)]) :: (.v (.agg [(vI v147.fLexical), (vI v147.fSurface)])) :: (.ptr 1 0) :: (dI v147.fLexical) :: q40 (q18 [])))), [(.cells [(dI 0), (dI 0)]), (.cells [(dI v147.fLexical), (dI v147.fSurface)])]⟩ (by kernel_rfl) ?_
          obtain ⟨v148, ev148, h⟩ := bnd_some h
          refine Ops.one 3 (by kernel_rfl) (callD (X34 n).E (run Proofs.Try.prog E n) 42 [(dI v147.fLexical), (dI 0), (dI 1114111)] [(.cells [(dI 0), (dI 0)]), (.cells [(dI v147.fLexical), (dI v147.fSurface)])]) (dB v148) [(.cells [(dI 0), (dI 0)]), (.cells [(dI v147.fLexical), (dI v147.fSurface)])] ⟨(dP e39 a0) :: q1 ((dB v136) :: q3 ((.ptr 0 0) :: (dI v137) :: (.ptr 1 0) :: q5 ((dP e39 a0) :: (dI ((a0.length : Int))) :: (dI v137) :: (dB (decide (v137 < (a0.length : Int)))) :: (dI v137) :: (.vptr [(vI v147.fLexical), (vI v147.fSurface)]) :: (.v (.agg [(vI v147.fLexical), (vI v147.fSurface)])) :: (.ptr 1 0) :: (dI v147.fLexical) :: (dB v148) :: q40 (q17 [])))), [(.cells [(dI 0), (dI 0)]), (.cells [(dI v147.fLexical), (dI v147.fSurface)])]⟩ (by kernel_rfl) (call_ok (by kernel_rfl) (Args.v (vI v147.fLexical) (eI v147.fLexical) (by kernel_rfl) (Args.v (vI 0) (eI 0) (by kernel_rfl) (Args.v (vI 1114111) (eI 1114111) (by kernel_rfl) Args.nil))) (ok42 m v147.fLexical 0 1114111 v148 ev148 n (by omega))) (by kernel_rfl) ?_
          refine Ops.seg 2 5 (by kernel_rfl) ⟨(dP e39 a0) :: q1 ((dB v136) :: q3 ((.ptr 0 0) :: (dI v137) :: (.ptr 1 0) :: q5 ((dP e39 a0) :: (dI ((a0.length : Int))) :: (dI v137) :: (dB (decide (v137 < (a0.length : Int)))) :: (dI v137) :: (.vptr [(vI v147.fLexical), (vI v147.fSurface)]) :: (.v (.agg [(vI v147.fLexical), (vI v147.fSurface)])) :: (.ptr 1 0) :: (dI v147.fLexical) :: (dB v148) :: (dB (!v148)) :: (dB (!v148)) :: q40 (q15 [])))), [(.cells [(dI 0), (dI 0)]), (.cells [(dI v147.fLexical), (dI v147.fSurface)])]⟩ (by kernel_rfl) ?_
          have J34j157 : ∀ (d151 d152 d153 d154 : D) (v155 : Bool) (v156 : Bool), f34_r3 m a0 v136 v137 v147 v156 = some sx145 → Ops (X34 n) (opl (subc [1, 1, 0, 1, 0, 0, 1, 1, 0, 0, 1, 0, 0] C34)) 10 ⟨(dP e39 a0) :: q1 ((dB v136) :: q3 ((.ptr 0 0) :: (dI v137) :: (.ptr 1 0) :: q5 ((dP e39 a0) :: (dI ((a0.length : Int))) :: (dI v137) :: (dB (decide (v137 < (a0.length : Int)))) :: (dI v137) :: (.vptr [(vI v147.fLexical), (vI v147.fSurface)]) :: (.v (.agg [(vI v147.fLexical), (vI v147.fSurface)])) :: (.ptr 1 0) :: (dI v147.fLexical) :: (dB v148) :: (dB v155) :: (dB v155) :: d151 :: d152 :: d153 :: d154 :: (dB v156) :: q40 (q10 [])))), [(.cells [(dI 0), (dI 0)]), (.cells [(dI v147.fLexical), (dI v147.fSurface)])]⟩ ((seqQ (X34 n) (subc [1, 1, 0, 1, 0, 0, 1, 1, 0, 0, 1, 0, 1] C34) (seqQ (X34 n) (subc [1, 1, 0, 1, 0, 0, 1, 1, 0, 0, 1, 1] C34) (blkQ (X34 n) 1 [0, 2, 6, 14, 15, 16] 1 (seqQ (X34 n) (subc [1, 1, 0, 1, 0, 0, 1, 1, 1] C34) (lpQ (X34 n) [0, 2, 6, 14, 15, 16] 1 (subc [1, 1, 0, 1, 0, 0] C34) nx140 (blkQ (X34 n) 0 [6] 1 (seqQ (X34 n) (subc [1, 1, 1] C34) (fnQ (X34 n).E.T (resOf Proofs.Try.prog 34) (e25 o))))))))) .normal) := by
            intro d151 d152 d153 d154 v155 v156 h
            unfold f34_r3 at h
            refine Ops.done (by kernel_rfl) ?_
            refine seqQ.n ?_
            rcases cnd_some h with ⟨hb, h⟩ | ⟨hb, h⟩
            · refine Wp.cond v156 [0, 2, 6, 7, 8, 14, 15, 16] (by kernel_rfl) 2 (by kernel_rfl) (subc [1, 1, 0, 1, 0, 0, 1, 1, 0, 0, 1, 0, 1, 0] C34) (subc [1, 1, 0, 1, 0, 0, 1, 1, 0, 0, 1, 0, 1, 1] C34) (by kernel_rfl) (by kernel_rfl) (fun _ => ?_) (fun e => nomatch (hb.symm.trans e))
              refine Wp.seq (subc [1, 1, 0, 1, 0, 0, 1, 1, 0, 0, 1, 0, 1, 0, 0] C34) (subc [1, 1, 0, 1, 0, 0, 1, 1, 0, 0, 1, 0, 1, 0, 1] C34) (by kernel_rfl) ?_
              refine Wp.region (by kernel_rfl) ?_
              refine Ops.seg 1 1 (by kernel_rfl) ⟨(dP e39 a0) :: q1 ((dB v136) :: q3 ((.ptr 0 0) :: (dI v137) :: (.ptr 1 0) :: q5 ((dP e39 a0) :: (dI ((a0.length : Int))) :: (dI v137) :: (dB (decide (v137 < (a0.length : Int)))) :: (dI v137) :: (.vptr [(vI v147.fLexical), (vI v147.fSurface)]) :: (.v (.agg [(vI v147.fLexical), (vI v147.fSurface)])) :: (.ptr 1 0) :: (dI v147.fLexical) :: (dB v148) :: (dB v155) :: (dB v155) :: d151 :: d152 :: d153 :: d154 :: (dB v156) :: (dI v137) :: q40 (q9 [])))), [(.cells [(dI 0), (dI 0)]), (.cells [(dI v147.fLexical), (dI v147.fSurface)])]⟩ (by kernel_rfl) ?_
              obtain ⟨v158, ev158, h⟩ := bnd_some h
              refine Ops.one 2 (by kernel_rfl) (callD (X34 n).E (run Proofs.Try.prog E n) 32 [(dI 3), (dI v137)] [(.cells [(dI 0), (dI 0)]), (.cells [(dI v147.fLexical), (dI v147.fSurface)])]) (.v (.agg [(vI v158.fCode), (vI v158.fIndex)])) [(.cells [(dI 0), (dI 0)]), (.cells [(dI v147.fLexical), (dI v147.fSurface)])] ⟨(dP e39 a0) :: q1 ((dB v136) :: q3 ((.ptr 0 0) :: (dI v137) :: (.ptr 1 0) :: q5 ((dP e39 a0) :: (dI ((a0.length : Int))) :: (dI v137) :: (dB (decide (v137 < (a0.length : Int)))) :: (dI v137) :: (.vptr [(vI v147.fLexical), (vI v147.fSurface)]) :: (.v (.agg [(vI v147.fLexical), (vI v147.fSurface)])) :: (.ptr 1 0) :: (dI v147.fLexical) :: (dB v148) :: (dB v155) :: (dB v155) :: d151 :: d152 :: d153 :: d154 :: (dB v156) :: (dI v137) :: (.v (.agg [(vI v158.fCode), (vI v158.fIndex)])) :: q40 (q8 [])))), [(.cells [(dI 0), (dI 0)]), (.cells [(dI v147.fLexical), (dI v147.fSurface)])]⟩ (by kernel_rfl) (call_ok (by kernel_rfl) (Args.v (vI 3) (eI 3) (by kernel_rfl) (Args.v (vI v137) (eI v137) (by kernel_rfl) Args.nil)) (ok32 m 3 v137 v158 ev158 n (by omega))) (by kernel_rfl) ?_
              refine Ops.seg 1 3 (by kernel_rfl) ⟨(dP e39 a0) :: q1 ((dB v136) :: q3 ((.ptr 0 0) :: (dI v137) :: (.ptr 1 0) :: q5 ((dP e39 a0) :: (dI ((a0.length : Int))) :: (dI v137) :: (dB (decide (v137 < (a0.length : Int)))) :: (dI v137) :: (.vptr [(vI v147.fLexical), (vI v147.fSurface)]) :: (.v (.agg [(vI v147.fLexical), (vI v147.fSurface)])) :: (.ptr 1 0) :: (dI v147.fLexical) :: (dB v148) :: (dB v155) :: (dB v155) :: d151 :: d152 :: d153 :: d154 :: (dB v156) :: (dI v137) :: (.v (.agg [(vI v158.fCode), (vI v158.fIndex)])) :: q40 (q8 [])))), [(.cells [(dI v158.fCode), (dI v158.fIndex)]), (.cells [(dI v147.fLexical), (dI v147.fSurface)])]⟩ (by kernel_rfl) ?_
              refine Ops.done (by kernel_rfl) ?_
              refine seqQ.n ?_
              refine Wp.ret (by kernel_rfl) ?_
              refine sqQ.r ?_
              refine seqQ.r ?_
              refine blkQ.r ?_
              refine seqQ.r ?_
              cases h
              refine lpQ.r ?_
              refine blkQ.r ?_
              exact hrx142 _ hsx146 _ (RetOk.forget [0, 2, 6, 14, 15, 16] (by kernel_rfl) (RetOk.mk' (.v (.agg [(vI v158.fCode), (vI v158.fIndex)])) (by kernel_rfl) (by kernel_rfl)))
            · refine Wp.cond v156 [0, 2, 6, 7, 8, 14, 15, 16] (by kernel_rfl) 2 (by kernel_rfl) (subc [1, 1, 0, 1, 0, 0, 1, 1, 0, 0, 1, 0, 1, 0] C34) (subc [1, 1, 0, 1, 0, 0, 1, 1, 0, 0, 1, 0, 1, 1] C34) (by kernel_rfl) (by kernel_rfl) (fun e => nomatch (hb.symm.trans e)) (fun _ => ?_)
              refine Wp.skip (by kernel_rfl) ?_
              refine sqQ.n ⟨(dP e39 a0) :: q1 ((dB v136) :: q3 ((.ptr 0 0) :: (dI v137) :: (.ptr 1 0) :: q5 ((dP e39 a0) :: (dI ((a0.length : Int))) :: (dI v137) :: (dB (decide (v137 < (a0.length : Int)))) :: (dI v137) :: (.vptr [(vI v147.fLexical), (vI v147.fSurface)]) :: (.v (.agg [(vI v147.fLexical), (vI v147.fSurface)])) :: (.ptr 1 0) :: (dI v147.fLexical) :: (dB v148) :: (dB v155) :: (dB v155) :: d151 :: d152 :: d153 :: d154 :: (dB v156) :: q40 (q10 [])))), [(.cells [(dI 0), (dI 0)]), (.cells [(dI v147.fLexical), (dI v147.fSurface)])]⟩ (by kernel_rfl) ?_
              refine seqQ.n ?_
              refine Wp.seq (subc [1, 1, 0, 1, 0, 0, 1, 1, 0, 0, 1, 1, 0] C34) (subc [1, 1, 0, 1, 0, 0, 1, 1, 0, 0, 1, 1, 1] C34) (by kernel_rfl) ?_
              refine Wp.seq (subc [1, 1, 0, 1, 0, 0, 1, 1, 0, 0, 1, 1, 0, 0] C34) (subc [1, 1, 0, 1, 0, 0, 1, 1, 0, 0, 1, 1, 0, 1] C34) (by kernel_rfl) ?_
              refine Wp.region (by kernel_rfl) ?_
              refine Ops.seg 3 3 (by kernel_rfl) ⟨(dP e39 a0) :: q1 ((dB v136) :: q3 ((.ptr 0 0) :: (dI v137) :: (.ptr 1 0) :: q5 ((dP e39 a0) :: (dI ((a0.length : Int))) :: (dI v137) :: (dB (decide (v137 < (a0.length : Int)))) :: (dI v137) :: (.vptr [(vI v147.fLexical), (vI v147.fSurface)]) :: (.v (.agg [(vI v147.fLexical), (vI v147.fSurface)])) :: (.ptr 1 0) :: (dI v147.fLexical) :: (dB v148) :: (dB v155) :: (dB v155) :: d151 :: d152 :: d153 :: d154 :: (dB v156) :: q2 ((.v (.agg [(vI v147.fLexical), (vI v147.fSurface)])) :: (.v (.agg [(vI 0), (vI 0)])) :: (dB (((v147.fLexical == 0) && ((v147.fSurface == 0) && true)))) :: q40 (q5 []))))), [(.cells [(dI 0), (dI 0)]), (.cells [(dI v147.fLexical), (dI v147.fSurface)])]⟩ (by kernel_rfl) ?_
              refine Ops.done (by kernel_rfl) ?_
              refine seqQ.n ?_
              rcases cnd_some h with ⟨hb, h⟩ | ⟨hb, h⟩
              · refine Wp.cond (((v147.fLexical == 0) && ((v147.fSurface == 0) && true))) [0, 2, 6, 7, 8, 14, 15, 16] (by kernel_rfl) 2 (by kernel_rfl) (subc [1, 1, 0, 1, 0, 0, 1, 1, 0, 0, 1, 1, 0, 1, 0] C34) (subc [1, 1, 0, 1, 0, 0, 1, 1, 0, 0, 1, 1, 0, 1, 1] C34) (by kernel_rfl) (by kernel_rfl) (fun _ => ?_) (fun e => nomatch (hb.symm.trans e))
                refine Wp.seq (subc [1, 1, 0, 1, 0, 0, 1, 1, 0, 0, 1, 1, 0, 1, 0, 0] C34) (subc [1, 1, 0, 1, 0, 0, 1, 1, 0, 0, 1, 1, 0, 1, 0, 1] C34) (by kernel_rfl) ?_
                refine Wp.region (by kernel_rfl) ?_
                refine Ops.seg 1 1 (by kernel_rfl) ⟨(dP e39 a0) :: q1 ((dB v136) :: q3 ((.ptr 0 0) :: (dI v137) :: (.ptr 1 0) :: q5 ((dP e39 a0) :: (dI ((a0.length : Int))) :: (dI v137) :: (dB (decide (v137 < (a0.length : Int)))) :: (dI v137) :: (.vptr [(vI v147.fLexical), (vI v147.fSurface)]) :: (.v (.agg [(vI v147.fLexical), (vI v147.fSurface)])) :: (.ptr 1 0) :: (dI v147.fLexical) :: (dB v148) :: (dB v155) :: (dB v155) :: d151 :: d152 :: d153 :: d154 :: (dB v156) :: q2 ((.v (.agg [(vI v147.fLexical), (vI v147.fSurface)])) :: (.v (.agg [(vI 0), (vI 0)])) :: (dB (((v147.fLexical == 0) && ((v147.fSurface == 0) && true)))) :: (dI v137) :: q40 (q4 []))))), [(.cells [(dI 0), (dI 0)]), (.cells [(dI v147.fLexical), (dI v147.fSurface)])]⟩ (by kernel_rfl) ?_
                obtain ⟨v159, ev159, h⟩ := bnd_some h
                refine Ops.one 2 (by kernel_rfl) (callD (X34 n).E (run Proofs.Try.prog E n) 32 [(dI 5), (dI v137)] [(.cells [(dI 0), (dI 0)]), (.cells [(dI v147.fLexical), (dI v147.fSurface)])]) (.v (.agg [(vI v159.fCode), (vI v159.fIndex)])) [(.cells [(dI 0), (dI 0)]), (.cells [(dI v147.fLexical), (dI v147.fSurface)])] ⟨(dP e39 a0) :: q1 ((dB v136) :: q3 ((.ptr 0 0) :: (dI v137) :: (.ptr 1 0) :: q5 ((dP e39 a0) :: (dI ((a0.length : Int))) :: (dI v137) :: (dB (decide (v137 < (a0.length : Int)))) :: (dI v137) :: (.vptr [(vI v147.fLexical), (vI v147.fSurface)]) :: (.v (.agg [(vI v147.fLexical), (vI v147.fSurface)])) :: (.ptr 1 0) :: (dI v147.fLexical) :: (dB v148) :: (dB v155) :: (dB v155) :: d151 :: d152 :: d153 :: d154 :: (dB v156) :: q2 ((.v (.agg [(vI v147.fLexical), (vI v147.fSurface)])) :: (.v (.agg [(vI 0), (vI 0)])) :: (dB (((v147.fLexical == 0) && ((v147.fSurface == 0) && true)))) :: (dI v137) :: (.v (.agg [(vI v159.fCode), (vI v159.fIndex)])) :: q40 (q3 []))))), [(.cells [(dI 0), (dI 0)]), (.cells [(dI v147.fLexical), (dI v147.fSurface)])]⟩ (by kernel_rfl) (call_ok (by kernel_rfl) (Args.v (vI 5) (eI 5) (by kernel_rfl) (Args.v (vI v137) (eI v137) (by kernel_rfl) Args.nil)) (ok32 m 5 v137 v159 ev159 n (by omega))) (by kernel_rfl) ?_
                refine Ops.seg 1 3 (by kernel_rfl) ⟨(dP e39 a0) :: q1 ((dB v136) :: q3 ((.ptr 0 0) :: (dI v137) :: (.ptr 1 0) :: q5 ((dP e39 a0) :: (dI ((a0.length : Int))) :: (dI v137) :: (dB (decide (v137 < (a0.length : Int)))) :: (dI v137) :: (.vptr [(vI v147.fLexical), (vI v147.fSurface)]) :: (.v (.agg [(vI v147.fLexical), (vI v147.fSurface)])) :: (.ptr 1 0) :: (dI v147.fLexical) :: (dB v148) :: (dB v155) :: (dB v155) :: d151 :: d152 :: d153 :: d154 :: (dB v156) :: q2 ((.v (.agg [(vI v147.fLexical), (vI v147.fSurface)])) :: (.v (.agg [(vI 0), (vI 0)])) :: (dB (((v147.fLexical == 0) && ((v147.fSurface == 0) && true)))) :: (dI v137) :: (.v (.agg [(vI v159.fCode), (vI v159.fIndex)])) :: q40 (q3 []))))), [(.cells [(dI v159.fCode), (dI v159.fIndex)]), (.cells [(dI v147.fLexical), (dI v147.fSurface)])]⟩ (by kernel_rfl) ?_
                refine Ops.done (by kernel_rfl) ?_
                refine seqQ.n ?_
                refine Wp.ret (by kernel_rfl) ?_
                refine sqQ.r ?_
                refine seqQ.r ?_
                refine blkQ.r ?_
                refine seqQ.r ?_
                cases h
                refine lpQ.r ?_
                refine blkQ.r ?_
                exact hrx142 _ hsx146 _ (RetOk.forget [0, 2, 6, 14, 15, 16] (by kernel_rfl) (RetOk.mk' (.v (.agg [(vI v159.fCode), (vI v159.fIndex)])) (by kernel_rfl) (by kernel_rfl)))
              · refine Wp.cond (((v147.fLexical == 0) && ((v147.fSurface == 0) && true))) [0, 2, 6, 7, 8, 14, 15, 16] (by kernel_rfl) 2 (by kernel_rfl) (subc [1, 1, 0, 1, 0, 0, 1, 1, 0, 0, 1, 1, 0, 1, 0] C34) (subc [1, 1, 0, 1, 0, 0, 1, 1, 0, 0, 1, 1, 0, 1, 1] C34) (by kernel_rfl) (by kernel_rfl) (fun e => nomatch (hb.symm.trans e)) (fun _ => ?_)
                refine Wp.skip (by kernel_rfl) ?_
                refine sqQ.n ⟨(dP e39 a0) :: q1 ((dB v136) :: q3 ((.ptr 0 0) :: (dI v137) :: (.ptr 1 0) :: q5 ((dP e39 a0) :: (dI ((a0.length : Int))) :: (dI v137) :: (dB (decide (v137 < (a0.length : Int)))) :: (dI v137) :: (.vptr [(vI v147.fLexical), (vI v147.fSurface)]) :: (.v (.agg [(vI v147.fLexical), (vI v147.fSurface)])) :: (.ptr 1 0) :: (dI v147.fLexical) :: (dB v148) :: (dB v155) :: (dB v155) :: d151 :: d152 :: d153 :: d154 :: (dB v156) :: q2 ((.v (.agg [(vI v147.fLexical), (vI v147.fSurface)])) :: (.v (.agg [(vI 0), (vI 0)])) :: (dB (((v147.fLexical == 0) && ((v147.fSurface == 0) && true)))) :: q40 (q5 []))))), [(.cells [(dI 0), (dI 0)]), (.cells [(dI v147.fLexical), (dI v147.fSurface)])]⟩ (by kernel_rfl) ?_
                refine seqQ.n ?_
                refine Wp.seq (subc [1, 1, 0, 1, 0, 0, 1, 1, 0, 0, 1, 1, 1, 0] C34) (subc [1, 1, 0, 1, 0, 0, 1, 1, 0, 0, 1, 1, 1, 1] C34) (by kernel_rfl) ?_
                refine Wp.region (by kernel_rfl) ?_
                refine Ops.seg 2 2 (by kernel_rfl) ⟨(dP e39 a0) :: q1 ((dB v136) :: q3 ((.ptr 0 0) :: (dI v137) :: (.ptr 1 0) :: q5 ((dP e39 a0) :: (dI ((a0.length : Int))) :: (dI v137) :: (dB (decide (v137 < (a0.length : Int)))) :: (dI v137) :: (.vptr [(vI v147.fLexical), (vI v147.fSurface)]) :: (.v (.agg [(vI v147.fLexical), (vI v147.fSurface)])) :: (.ptr 1 0) :: (dI v147.fLexical) :: (dB v148) :: (dB v155) :: (dB v155) :: d151 :: d152 :: d153 :: d154 :: (dB v156) :: q2 ((.v (.agg [(vI v147.fLexical), (vI v147.fSurface)])) :: (.v (.agg [(vI 0), (vI 0)])) :: (dB (((v147.fLexical == 0) && ((v147.fSurface == 0) && true)))) :: q2 ((dB v136) :: (dB v136) :: q40 (q1 [])))))), [(.cells [(dI 0), (dI 0)]), (.cells [(dI v147.fLexical), (dI v147.fSurface)])]⟩ (by kernel_rfl) ?_
                have J34j166 : ∀ (d162 d163 : D) (v164 : Bool) (v165 : Bool), f34_r2 m a0 v137 v147 v164 v165 = some sx145 → Ops (X34 n) (opl (subc [1, 1, 0, 1, 0, 0, 1, 1, 0, 0, 1, 1, 1, 0] C34)) 5 ⟨(dP e39 a0) :: q1 ((dB v164) :: q3 ((.ptr 0 0) :: (dI v137) :: (.ptr 1 0) :: q5 ((dP e39 a0) :: (dI ((a0.length : Int))) :: (dI v137) :: (dB (decide (v137 < (a0.length : Int)))) :: (dI v137) :: (.vptr [(vI v147.fLexical), (vI v147.fSurface)]) :: (.v (.agg [(vI v147.fLexical), (vI v147.fSurface)])) :: (.ptr 1 0) :: (dI v147.fLexical) :: (dB v148) :: (dB v155) :: (dB v155) :: d151 :: d152 :: d153 :: d154 :: (dB v156) :: q2 ((.v (.agg [(vI v147.fLexical), (vI v147.fSurface)])) :: (.v (.agg [(vI 0), (vI 0)])) :: (dB (((v147.fLexical == 0) && ((v147.fSurface == 0) && true)))) :: q2 ((dB v164) :: (dB v164) :: d162 :: d163 :: (dB v165) :: q38 []))))), [(.cells [(dI 0), (dI 0)]), (.cells [(dI v147.fLexical), (dI v147.fSurface)])]⟩ ((seqQ (X34 n) (subc [1, 1, 0, 1, 0, 0, 1, 1, 0, 0, 1, 1, 1, 1] C34) (blkQ (X34 n) 1 [0, 2, 6, 14, 15, 16] 1 (seqQ (X34 n) (subc [1, 1, 0, 1, 0, 0, 1, 1, 1] C34) (lpQ (X34 n) [0, 2, 6, 14, 15, 16] 1 (subc [1, 1, 0, 1, 0, 0] C34) nx140 (blkQ (X34 n) 0 [6] 1 (seqQ (X34 n) (subc [1, 1, 1] C34) (fnQ (X34 n).E.T (resOf Proofs.Try.prog 34) (e25 o)))))))) .normal) := by
                  intro d162 d163 v164 v165 h
                  unfold f34_r2 at h
                  refine Ops.seg 1 6 (by kernel_rfl) ⟨(dP e39 a0) :: q1 ((dB v164) :: q3 ((.ptr 0 0) :: (dI v137) :: (.ptr 1 0) :: q5 ((dP e39 a0) :: (dI ((a0.length : Int))) :: (dI v137) :: (dB (decide (v137 < (a0.length : Int)))) :: (dI v137) :: (.vptr [(vI v147.fLexical), (vI v147.fSurface)]) :: (.v (.agg [(vI v147.fLexical), (vI v147.fSurface)])) :: (.ptr 1 0) :: (dI v147.fLexical) :: (dB v148) :: (dB v155) :: (dB v155) :: d151 :: d152 :: d153 :: d154 :: (dB v156) :: q2 ((.v (.agg [(vI v147.fLexical), (vI v147.fSurface)])) :: (.v (.agg [(vI 0), (vI 0)])) :: (dB (((v147.fLexical == 0) && ((v147.fSurface == 0) && true)))) :: q2 ((dB v164) :: (dB v164) :: d162 :: d163 :: (dB v165) :: (dB v165) :: q37 []))))), [(.cells [(dI 0), (dI 0)]), (.cells [(dI v147.fLexical), (dI v147.fSurface)])]⟩ (by kernel_rfl) ?_
                  have J34j203 : ∀ (d169 d170 d171 d172 d173 d174 d175 d176 d177 d178 d179 d180 d181 d182 d183 d184 d185 d186 d187 d188 d189 d190 d191 d192 d193 d194 d195 d196 d197 d198 d199 d200 : D) (v201 : Bool) (v202 : Bool), f34_r1 m v137 v164 v202 = some sx145 → Ops (X34 n) (opl (subc [1, 1, 0, 1, 0, 0, 1, 1, 0, 0, 1, 1, 1, 0] C34)) 39 ⟨(dP e39 a0) :: q1 ((dB v164) :: q3 ((.ptr 0 0) :: (dI v137) :: (.ptr 1 0) :: q5 ((dP e39 a0) :: (dI ((a0.length : Int))) :: (dI v137) :: (dB (decide (v137 < (a0.length : Int)))) :: (dI v137) :: (.vptr [(vI v147.fLexical), (vI v147.fSurface)]) :: (.v (.agg [(vI v147.fLexical), (vI v147.fSurface)])) :: (.ptr 1 0) :: (dI v147.fLexical) :: (dB v148) :: (dB v155) :: (dB v155) :: d151 :: d152 :: d153 :: d154 :: (dB v156) :: q2 ((.v (.agg [(vI v147.fLexical), (vI v147.fSurface)])) :: (.v (.agg [(vI 0), (vI 0)])) :: (dB (((v147.fLexical == 0) && ((v147.fSurface == 0) && true)))) :: q2 ((dB v164) :: (dB v164) :: d162 :: d163 :: (dB v201) :: (dB v201) :: d169 :: d170 :: d171 :: d172 :: d173 :: d174 :: d175 :: d176 :: d177 :: d178 :: d179 :: d180 :: d181 :: d182 :: d183 :: d184 :: d185 :: d186 :: d187 :: d188 :: d189 :: d190 :: d191 :: d192 :: d193 :: d194 :: d195 :: d196 :: d197 :: d198 :: d199 :: d200 :: (dB v202) :: q4 []))))), [(.cells [(dI 0), (dI 0)]), (.cells [(dI v147.fLexical), (dI v147.fSurface)])]⟩ ((seqQ (X34 n) (subc [1, 1, 0, 1, 0, 0, 1, 1, 0, 0, 1, 1, 1, 1] C34) (blkQ (X34 n) 1 [0, 2, 6, 14, 15, 16] 1 (seqQ (X34 n) (subc [1, 1, 0, 1, 0, 0, 1, 1, 1] C34) (lpQ (X34 n) [0, 2, 6, 14, 15, 16] 1 (subc [1, 1, 0, 1, 0, 0] C34) nx140 (blkQ (X34 n) 0 [6] 1 (seqQ (X34 n) (subc [1, 1, 1] C34) (fnQ (X34 n).E.T (resOf Proofs.Try.prog 34) (e25 o)))))))) .normal) := by
                    intro d169 d170 d171 d172 d173 d174 d175 d176 d177 d178 d179 d180 d181 d182 d183 d184 d185 d186 d187 d188 d189 d190 d191 d192 d193 d194 d195 d196 d197 d198 d199 d200 v201 v202 h
                    unfold f34_r1 at h
                    refine Ops.done (by kernel_rfl) ?_
                    refine seqQ.n ?_
                    rcases cnd_some h with ⟨hb, h⟩ | ⟨hb, h⟩
                    · refine Wp.cond v202 [0, 2, 6, 14, 15, 16] (by kernel_rfl) 2 (by kernel_rfl) (subc [1, 1, 0, 1, 0, 0, 1, 1, 0, 0, 1, 1, 1, 1, 0] C34) (subc [1, 1, 0, 1, 0, 0, 1, 1, 0, 0, 1, 1, 1, 1, 1] C34) (by kernel_rfl) (by kernel_rfl) (fun _ => ?_) (fun e => nomatch (hb.symm.trans e))
                      refine Wp.seq (subc [1, 1, 0, 1, 0, 0, 1, 1, 0, 0, 1, 1, 1, 1, 0, 0] C34) (subc [1, 1, 0, 1, 0, 0, 1, 1, 0, 0, 1, 1, 1, 1, 0, 1] C34) (by kernel_rfl) ?_
                      refine Wp.region (by kernel_rfl) ?_
                      refine Ops.seg 1 1 (by kernel_rfl) ⟨(dP e39 a0) :: q1 ((dB v164) :: q3 ((.ptr 0 0) :: (dI v137) :: (.ptr 1 0) :: q5 ((dP e39 a0) :: (dI ((a0.length : Int))) :: (dI v137) :: (dB (decide (v137 < (a0.length : Int)))) :: (dI v137) :: (.vptr [(vI v147.fLexical), (vI v147.fSurface)]) :: (.v (.agg [(vI v147.fLexical), (vI v147.fSurface)])) :: (.ptr 1 0) :: (dI v147.fLexical) :: (dB v148) :: (dB v155) :: (dB v155) :: d151 :: d152 :: d153 :: d154 :: (dB v156) :: q2 ((.v (.agg [(vI v147.fLexical), (vI v147.fSurface)])) :: (.v (.agg [(vI 0), (vI 0)])) :: (dB (((v147.fLexical == 0) && ((v147.fSurface == 0) && true)))) :: q2 ((dB v164) :: (dB v164) :: d162 :: d163 :: (dB v201) :: (dB v201) :: d169 :: d170 :: d171 :: d172 :: d173 :: d174 :: d175 :: d176 :: d177 :: d178 :: d179 :: d180 :: d181 :: d182 :: d183 :: d184 :: d185 :: d186 :: d187 :: d188 :: d189 :: d190 :: d191 :: d192 :: d193 :: d194 :: d195 :: d196 :: d197 :: d198 :: d199 :: d200 :: (dB v202) :: (dI v137) :: q3 []))))), [(.cells [(dI 0), (dI 0)]), (.cells [(dI v147.fLexical), (dI v147.fSurface)])]⟩ (by kernel_rfl) ?_
                      obtain ⟨v204, ev204, h⟩ := bnd_some h
                      refine Ops.one 2 (by kernel_rfl) (callD (X34 n).E (run Proofs.Try.prog E n) 32 [(dI 13), (dI v137)] [(.cells [(dI 0), (dI 0)]), (.cells [(dI v147.fLexical), (dI v147.fSurface)])]) (.v (.agg [(vI v204.fCode), (vI v204.fIndex)])) [(.cells [(dI 0), (dI 0)]), (.cells [(dI v147.fLexical), (dI v147.fSurface)])] ⟨(dP e39 a0) :: q1 ((dB v164) :: q3 ((.ptr 0 0) :: (dI v137) :: (.ptr 1 0) :: q5 ((dP e39 a0) :: (dI ((a0.length : Int))) :: (dI v137) :: (dB (decide (v137 < (a0.length : Int)))) :: (dI v137) :: (.vptr [(vI v147.fLexical), (vI v147.fSurface)]) :: (.v (.agg [(vI v147.fLexical), (vI v147.fSurface)])) :: (.ptr 1 0) :: (dI v147.fLexical) :: (dB v148) :: (dB v155) :: (dB v155) :: d151 :: d152 :: d153 :: d154 :: (dB v156) :: q2 ((.v (.agg [(vI v147.fLexical), (vI v147.fSurface)])) :: (.v (.agg [(vI 0), (vI 0)])) :: (dB (((v147.fLexical == 0) && ((v147.fSurface == 0) && true)))) :: q2 ((dB v164) :: (dB v164) :: d162 :: d163 :: (dB v201) :: (dB v201) :: d169 :: d170 :: d171 :: d172 :: d173 :: d174 :: d175 :: d176 :: d177 :: d178 :: d179 :: d180 :: d181 :: d182 :: d183 :: d184 :: d185 :: d186 :: d187 :: d188 :: d189 :: d190 :: d191 :: d192 :: d193 :: d194 :: d195 :: d196 :: d197 :: d198 :: d199 :: d200 :: (dB v202) :: (dI v137) :: (.v (.agg [(vI v204.fCode), (vI v204.fIndex)])) :: q2 []))))), [(.cells [(dI 0), (dI 0)]), (.cells [(dI v147.fLexical), (dI v147.fSurface)])]⟩ (by kernel_rfl) (call_ok (by kernel_rfl) (Args.v (vI 13) (eI 13) (by kernel_rfl) (Args.v (vI v137) (eI v137) (by kernel_rfl) Args.nil)) (ok32 m 13 v137 v204 ev204 n (by omega))) (by kernel_rfl) ?_
                      refine Ops.seg 1 3 (by kernel_rfl) ⟨(dP e39 a0) :: q1 ((dB v164) :: q3 ((.ptr 0 0) :: (dI v137) :: (.ptr 1 0) :: q5 ((dP e39 a0) :: (dI ((a0.length : Int))) :: (dI v137) :: (dB (decide (v137 < (a0.length : Int)))) :: (dI v137) :: (.vptr [(vI v147.fLexical), (vI v147.fSurface)]) :: (.v (.agg [(vI v147.fLexical), (vI v147.fSurface)])) :: (.ptr 1 0) :: (dI v147.fLexical) :: (dB v148) :: (dB v155) :: (dB v155) :: d151 :: d152 :: d153 :: d154 :: (dB v156) :: q2 ((.v (.agg [(vI v147.fLexical), (vI v147.fSurface)])) :: (.v (.agg [(vI 0), (vI 0)])) :: (dB (((v147.fLexical == 0) && ((v147.fSurface == 0) && true)))) :: q2 ((dB v164) :: (dB v164) :: d162 :: d163 :: (dB v201) :: (dB v201) :: d169 :: d170 :: d171 :: d172 :: d173 :: d174 :: d175 :: d176 :: d177 :: d178 :: d179 :: d180 :: d181 :: d182 :: d183 :: d184 :: d185 :: d186 :: d187 :: d188 :: d189 :: d190 :: d191 :: d192 :: d193 :: d194 :: d195 :: d196 :: d197 :: d198 :: d199 :: d200 :: (dB v202) :: (dI v137) :: (.v (.agg [(vI v204.fCode), (vI v204.fIndex)])) :: q2 []))))), [(.cells [(dI v204.fCode), (dI v204.fIndex)]), (.cells [(dI v147.fLexical), (dI v147.fSurface)])]⟩ (by kernel_rfl) ?_
                      refine Ops.done (by kernel_rfl) ?_
                      refine seqQ.n ?_
                      refine Wp.ret (by kernel_rfl) ?_
                      refine sqQ.r ?_
                      refine blkQ.r ?_
                      refine seqQ.r ?_
                      cases h
                      refine lpQ.r ?_
                      refine blkQ.r ?_
                      exact hrx142 _ hsx146 _ (RetOk.forget [0, 2, 6, 14, 15, 16] (by kernel_rfl) (RetOk.mk' (.v (.agg [(vI v204.fCode), (vI v204.fIndex)])) (by kernel_rfl) (by kernel_rfl)))
                    · refine Wp.cond v202 [0, 2, 6, 14, 15, 16] (by kernel_rfl) 2 (by kernel_rfl) (subc [1, 1, 0, 1, 0, 0, 1, 1, 0, 0, 1, 1, 1, 1, 0] C34) (subc [1, 1, 0, 1, 0, 0, 1, 1, 0, 0, 1, 1, 1, 1, 1] C34) (by kernel_rfl) (by kernel_rfl) (fun e => nomatch (hb.symm.trans e)) (fun _ => ?_)
                      refine Wp.skip (by kernel_rfl) ?_
                      refine sqQ.n ⟨(dP e39 a0) :: q1 ((dB v164) :: q3 ((.ptr 0 0) :: (dI v137) :: (.ptr 1 0) :: q5 ((dP e39 a0) :: (dI ((a0.length : Int))) :: (dI v137) :: (dB (decide (v137 < (a0.length : Int)))) :: (dI v137) :: (.vptr [(vI v147.fLexical), (vI v147.fSurface)]) :: (.v (.agg [(vI v147.fLexical), (vI v147.fSurface)])) :: (.ptr 1 0) :: (dI v147.fLexical) :: (dB v148) :: (dB v155) :: (dB v155) :: d151 :: d152 :: d153 :: d154 :: (dB v156) :: q2 ((.v (.agg [(vI v147.fLexical), (vI v147.fSurface)])) :: (.v (.agg [(vI 0), (vI 0)])) :: (dB (((v147.fLexical == 0) && ((v147.fSurface == 0) && true)))) :: q2 ((dB v164) :: (dB v164) :: d162 :: d163 :: (dB v201) :: (dB v201) :: d169 :: d170 :: d171 :: d172 :: d173 :: d174 :: d175 :: d176 :: d177 :: d178 :: d179 :: d180 :: d181 :: d182 :: d183 :: d184 :: d185 :: d186 :: d187 :: d188 :: d189 :: d190 :: d191 :: d192 :: d193 :: d194 :: d195 :: d196 :: d197 :: d198 :: d199 :: d200 :: (dB v202) :: q4 []))))), [(.cells [(dI 0), (dI 0)]), (.cells [(dI v147.fLexical), (dI v147.fSurface)])]⟩ (by kernel_rfl) ?_
                      refine blkQ.n ⟨(dP e39 a0) :: q1 ((dB v164) :: q3 ((.ptr 0 0) :: q7 ((dP e39 a0) :: (dI ((a0.length : Int))) :: (dI v137) :: q40 (q24 [])))), [(.cells [(dI 0), (dI 0)])]⟩ (by kernel_rfl) ?_
                      refine seqQ.n ?_
                      refine Wp.region (by kernel_rfl) ?_
                      refine Ops.seg 2 2 (by kernel_rfl) ⟨(dP e39 a0) :: q1 ((dB v164) :: q3 ((.ptr 0 0) :: q7 ((dP e39 a0) :: (dI ((a0.length : Int))) :: (dI (w64 (v137 + 1))) :: q40 (q22 ((dI (w64 (v137 + 1))) :: q1 []))))), [(.cells [(dI 0), (dI 0)])]⟩ (by kernel_rfl) ?_
                      refine Ops.done (by kernel_rfl) ?_
                      refine lpQ.n ⟨(dP e39 a0) :: q1 ((dB v164) :: q3 ((.ptr 0 0) :: q7 ((dP e39 a0) :: (dI ((a0.length : Int))) :: (dI (w64 (v137 + 1))) :: q40 (q24 [])))), [(.cells [(dI 0), (dI 0)])]⟩ (by kernel_rfl) ?_
                      cases h
                      exact ihx141 v164 (w64 (v137 + 1))  _ hsx146 _ (by omega) hrx142 hxx143
                  obtain ⟨v202, ev202, h⟩ := bnd_some h
                  have G34g168 : ∀ v167 : Bool, (cnd v167 (bnd (idx a0 (w64 (v137 - 1))) fun v205 => cnd (decide (v205.fLexical < v147.fLexical)) (some (!true)) (bnd (idx a0 (w64 (v137 - 1))) fun v208 => cnd (v208.fLexical == v147.fLexical) (bnd (idx a0 (w64 (v137 - 1))) fun v211 => some (!(decide (v211.fSurface < v147.fSurface)))) (some (!false)))) (some false)) = some v202 → Ops (X34 n) (opl (subc [1, 1, 0, 1, 0, 0, 1, 1, 0, 0, 1, 1, 1, 0] C34)) 6 ⟨(dP e39 a0) :: q1 ((dB v164) :: q3 ((.ptr 0 0) :: (dI v137) :: (.ptr 1 0) :: q5 ((dP e39 a0) :: (dI ((a0.length : Int))) :: (dI v137) :: (dB (decide (v137 < (a0.length : Int)))) :: (dI v137) :: (.vptr [(vI v147.fLexical), (vI v147.fSurface)]) :: (.v (.agg [(vI v147.fLexical), (vI v147.fSurface)])) :: (.ptr 1 0) :: (dI v147.fLexical) :: (dB v148) :: (dB v155) :: (dB v155) :: d151 :: d152 :: d153 :: d154 :: (dB v156) :: q2 ((.v (.agg [(vI v147.fLexical), (vI v147.fSurface)])) :: (.v (.agg [(vI 0), (vI 0)])) :: (dB (((v147.fLexical == 0) && ((v147.fSurface == 0) && true)))) :: q2 ((dB v164) :: (dB v164) :: d162 :: d163 :: (dB v167) :: (dB v167) :: q37 []))))), [(.cells [(dI 0), (dI 0)]), (.cells [(dI v147.fLexical), (dI v147.fSurface)])]⟩ ((seqQ (X34 n) (subc [1, 1, 0, 1, 0, 0, 1, 1, 0, 0, 1, 1, 1, 1] C34) (blkQ (X34 n) 1 [0, 2, 6, 14, 15, 16] 1 (seqQ (X34 n) (subc [1, 1, 0, 1, 0, 0, 1, 1, 1] C34) (lpQ (X34 n) [0, 2, 6, 14, 15, 16] 1 (subc [1, 1, 0, 1, 0, 0] C34) nx140 (blkQ (X34 n) 0 [6] 1 (seqQ (X34 n) (subc [1, 1, 1] C34) (fnQ (X34 n).E.T (resOf Proofs.Try.prog 34) (e25 o)))))))) .normal) := by
                    intro v167 ev202
                    cases v167
                    · have ev202 := cnd_f ev202
                      refine Ops.seg 33 39 (by kernel_rfl) ⟨(dP e39 a0) :: q1 ((dB v164) :: q3 ((.ptr 0 0) :: (dI v137) :: (.ptr 1 0) :: q5 ((dP e39 a0) :: (dI ((a0.length : Int))) :: (dI v137) :: (dB (decide (v137 < (a0.length : Int)))) :: (dI v137) :: (.vptr [(vI v147.fLexical), (vI v147.fSurface)]) :: (.v (.agg [(vI v147.fLexical), (vI v147.fSurface)])) :: (.ptr 1 0) :: (dI v147.fLexical) :: (dB v148) :: (dB v155) :: (dB v155) :: d151 :: d152 :: d153 :: d154 :: (dB v156) :: q2 ((.v (.agg [(vI v147.fLexical), (vI v147.fSurface)])) :: (.v (.agg [(vI 0), (vI 0)])) :: (dB (((v147.fLexical == 0) && ((v147.fSurface == 0) && true)))) :: q2 ((dB v164) :: (dB v164) :: d162 :: d163 :: (dB false) :: (dB false) :: u32 ((dB false) :: q4 [])))))), [(.cells [(dI 0), (dI 0)]), (.cells [(dI v147.fLexical), (dI v147.fSurface)])]⟩ (by kernel_rfl) ?_
                      exact J34j203 _ _ _ _ _ _ _ _ _ _ _ _ _ _ _ _ _ _ _ _ _ _ _ _ _ _ _ _ _ _ _ _ _ _ (some_sub (fun v202 => f34_r1 m v137 v164 v202 = some sx145) ev202 h)
                    · have ev202 := cnd_t ev202
                      refine Ops.seg 3 9 (by kernel_rfl) ⟨(dP e39 a0) :: q1 ((dB v164) :: q3 ((.ptr 0 0) :: (dI v137) :: (.ptr 1 0) :: q5 ((dP e39 a0) :: (dI ((a0.length : Int))) :: (dI v137) :: (dB (decide (v137 < (a0.length : Int)))) :: (dI v137) :: (.vptr [(vI v147.fLexical), (vI v147.fSurface)]) :: (.v (.agg [(vI v147.fLexical), (vI v147.fSurface)])) :: (.ptr 1 0) :: (dI v147.fLexical) :: (dB v148) :: (dB v155) :: (dB v155) :: d151 :: d152 :: d153 :: d154 :: (dB v156) :: q2 ((.v (.agg [(vI v147.fLexical), (vI v147.fSurface)])) :: (.v (.agg [(vI 0), (vI 0)])) :: (dB (((v147.fLexical == 0) && ((v147.fSurface == 0) && true)))) :: q2 ((dB v164) :: (dB v164) :: d162 :: d163 :: (dB true) :: (dB true) :: (dP e39 a0) :: (dI v137) :: (dI (w64 (v137 - 1))) :: q34 []))))), [(.cells [(dI 0), (dI 0)]), (.cells [(dI v147.fLexical), (dI v147.fSurface)])]⟩ (by kernel_rfl) ?_
                      obtain ⟨v205, ev205, ev202⟩ := bnd_some ev202
                      refine Ops.one 10 (by kernel_rfl) ((indexAddrH (X34 n).E.T [(.cells [(dI 0), (dI 0)]), (.cells [(dI v147.fLexical), (dI v147.fSurface)])] 37 (D.unt (dP e39 a0)) (dI (w64 (v137 - 1)))).map (·, [(.cells [(dI 0), (dI 0)]), (.cells [(dI v147.fLexical), (dI v147.fSurface)])])) (.vptr [(vI v205.fLexical), (vI v205.fSurface)]) [(.cells [(dI 0), (dI 0)]), (.cells [(dI v147.fLexical), (dI v147.fSurface)])] ⟨(dP e39 a0) :: q1 ((dB v164) :: q3 ((.ptr 0 0) :: (dI v137) :: (.ptr 1 0) :: q5 ((dP e39 a0) :: (dI ((a0.length : Int))) :: (dI v137) :: (dB (decide (v137 < (a0.length : Int)))) :: (dI v137) :: (.vptr [(vI v147.fLexical), (vI v147.fSurface)]) :: (.v (.agg [(vI v147.fLexical), (vI v147.fSurface)])) :: (.ptr 1 0) :: (dI v147.fLexical) :: (dB v148) :: (dB v155) :: (dB v155) :: d151 :: d152 :: d153 :: d154 :: (dB v156) :: q2 ((.v (.agg [(vI v147.fLexical), (vI v147.fSurface)])) :: (.v (.agg [(vI 0), (vI 0)])) :: (dB (((v147.fLexical == 0) && ((v147.fSurface == 0) && true)))) :: q2 ((dB v164) :: (dB v164) :: d162 :: d163 :: (dB true) :: (dB true) :: (dP e39 a0) :: (dI v137) :: (dI (w64 (v137 - 1))) :: (.vptr [(vI v205.fLexical), (vI v205.fSurface)]) :: q33 []))))), [(.cells [(dI 0), (dI 0)]), (.cells [(dI v147.fLexical), (dI v147.fSurface)])]⟩ (by kernel_rfl) (ix_r _ 37 40 2 .plain e39 a0 (w64 (v137 - 1)) v205 ev205 (by kernel_rfl) (by kernel_rfl) (fun _ => rfl)) (by kernel_rfl) ?_
                      refine Ops.seg 6 16 (by kernel_rfl) ⟨(dP e39 a0) :: q1 ((dB v164) :: q3 ((.ptr 0 0) :: (dI v137) :: (.ptr 1 0) :: q5 ((dP e39 a0) :: (dI ((a0.length : Int))) :: (dI v137) :: (dB (decide (v137 < (a0.length : Int)))) :: (dI v137) :: (.vptr [(vI v147.fLexical), (vI v147.fSurface)]) :: (.v (.agg [(vI v147.fLexical), (vI v147.fSurface)])) :: (.ptr 1 0) :: (dI v147.fLexical) :: (dB v148) :: (dB v155) :: (dB v155) :: d151 :: d152 :: d153 :: d154 :: (dB v156) :: q2 ((.v (.agg [(vI v147.fLexical), (vI v147.fSurface)])) :: (.v (.agg [(vI 0), (vI 0)])) :: (dB (((v147.fLexical == 0) && ((v147.fSurface == 0) && true)))) :: q2 ((dB v164) :: (dB v164) :: d162 :: d163 :: (dB true) :: (dB true) :: (dP e39 a0) :: (dI v137) :: (dI (w64 (v137 - 1))) :: (.vptr [(vI v205.fLexical), (vI v205.fSurface)]) :: (.vptr [(vI v205.fLexical), (vI v205.fSurface)]) :: (dI v205.fLexical) :: (.ptr 1 0) :: (dI v147.fLexical) :: (dB (decide (v205.fLexical < v147.fLexical))) :: (dB (decide (v205.fLexical < v147.fLexical))) :: q27 []))))), [(.cells [(dI 0), (dI 0)]), (.cells [(dI v147.fLexical), (dI v147.fSurface)])]⟩ (by kernel_rfl) ?_
                      have G34g207 : ∀ v206 : Bool, (cnd v206 (some (!true)) (bnd (idx a0 (w64 (v137 - 1))) fun v208 => cnd (v208.fLexical == v147.fLexical) (bnd (idx a0 (w64 (v137 - 1))) fun v211 => some (!(decide (v211.fSurface < v147.fSurface)))) (some (!false)))) = some v202 → Ops (X34 n) (opl (subc [1, 1, 0, 1, 0, 0, 1, 1, 0, 0, 1, 1, 1, 0] C34)) 16 ⟨(dP e39 a0) :: q1 ((dB v164) :: q3 ((.ptr 0 0) :: (dI v137) :: (.ptr 1 0) :: q5 ((dP e39 a0) :: (dI ((a0.length : Int))) :: (dI v137) :: (dB (decide (v137 < (a0.length : Int)))) :: (dI v137) :: (.vptr [(vI v147.fLexical), (vI v147.fSurface)]) :: (.v (.agg [(vI v147.fLexical), (vI v147.fSurface)])) :: (.ptr 1 0) :: (dI v147.fLexical) :: (dB v148) :: (dB v155) :: (dB v155) :: d151 :: d152 :: d153 :: d154 :: (dB v156) :: q2 ((.v (.agg [(vI v147.fLexical), (vI v147.fSurface)])) :: (.v (.agg [(vI 0), (vI 0)])) :: (dB (((v147.fLexical == 0) && ((v147.fSurface == 0) && true)))) :: q2 ((dB v164) :: (dB v164) :: d162 :: d163 :: (dB true) :: (dB true) :: (dP e39 a0) :: (dI v137) :: (dI (w64 (v137 - 1))) :: (.vptr [(vI v205.fLexical), (vI v205.fSurface)]) :: (.vptr [(vI v205.fLexical), (vI v205.fSurface)]) :: (dI v205.fLexical) :: (.ptr 1 0) :: (dI v147.fLexical) :: (dB v206) :: (dB v206) :: q27 []))))), [(.cells [(dI 0), (dI 0)]), (.cells [(dI v147.fLexical), (dI v147.fSurface)])]⟩ ((seqQ (X34 n) (subc [1, 1, 0, 1, 0, 0, 1, 1, 0, 0, 1, 1, 1, 1] C34) (blkQ (X34 n) 1 [0, 2, 6, 14, 15, 16] 1 (seqQ (X34 n) (subc [1, 1, 0, 1, 0, 0, 1, 1, 1] C34) (lpQ (X34 n) [0, 2, 6, 14, 15, 16] 1 (subc [1, 1, 0, 1, 0, 0] C34) nx140 (blkQ (X34 n) 0 [6] 1 (seqQ (X34 n) (subc [1, 1, 1] C34) (fnQ (X34 n).E.T (resOf Proofs.Try.prog 34) (e25 o)))))))) .normal) := by
                        intro v206 ev202
                        cases v206
                        · have ev202 := cnd_f ev202
                          refine Ops.seg 3 19 (by kernel_rfl) ⟨(dP e39 a0) :: q1 ((dB v164) :: q3 ((.ptr 0 0) :: (dI v137) :: (.ptr 1 0) :: q5 ((dP e39 a0) :: (dI ((a0.length : Int))) :: (dI v137) :: (dB (decide (v137 < (a0.length : Int)))) :: (dI v137) :: (.vptr [(vI v147.fLexical), (vI v147.fSurface)]) :: (.v (.agg [(vI v147.fLexical), (vI v147.fSurface)])) :: (.ptr 1 0) :: (dI v147.fLexical) :: (dB v148) :: (dB v155) :: (dB v155) :: d151 :: d152 :: d153 :: d154 :: (dB v156) :: q2 ((.v (.agg [(vI v147.fLexical), (vI v147.fSurface)])) :: (.v (.agg [(vI 0), (vI 0)])) :: (dB (((v147.fLexical == 0) && ((v147.fSurface == 0) && true)))) :: q2 ((dB v164) :: (dB v164) :: d162 :: d163 :: (dB true) :: (dB true) :: (dP e39 a0) :: (dI v137) :: (dI (w64 (v137 - 1))) :: (.vptr [(vI v205.fLexical), (vI v205.fSurface)]) :: (.vptr [(vI v205.fLexical), (vI v205.fSurface)]) :: (dI v205.fLexical) :: (.ptr 1 0) :: (dI v147.fLexical) :: (dB false) :: (dB false) :: (dP e39 a0) :: (dI v137) :: (dI (w64 (v137 - 1))) :: q24 []))))), [(.cells [(dI 0), (dI 0)]), (.cells [(dI v147.fLexical), (dI v147.fSurface)])]⟩ (by kernel_rfl) ?_
                          obtain ⟨v208, ev208, ev202⟩ := bnd_some ev202
                          refine Ops.one 20 (by kernel_rfl) ((indexAddrH (X34 n).E.T [(.cells [(dI 0), (dI 0)]), (.cells [(dI v147.fLexical), (dI v147.fSurface)])] 37 (D.unt (dP e39 a0)) (dI (w64 (v137 - 1)))).map (·, [(.cells [(dI 0), (dI 0)]), (.cells [(dI v147.fLexical), (dI v147.fSurface)])])) (.vptr [(vI v208.fLexical), (vI v208.fSurface)]) [(.cells [(dI 0), (dI 0)]), (.cells [(dI v147.fLexical), (dI v147.fSurface)])] ⟨(dP e39 a0) :: q1 ((dB v164) :: q3 ((.ptr 0 0) :: (dI v137) :: (.ptr 1 0) :: q5 ((dP e39 a0) :: (dI ((a0.length : Int))) :: (dI v137) :: (dB (decide (v137 < (a0.length : Int)))) :: (dI v137) :: (.vptr [(vI v147.fLexical), (vI v147.fSurface)]) :: (.v (.agg [(vI v147.fLexical), (vI v147.fSurface)])) :: (.ptr 1 0) :: (dI v147.fLexical) :: (dB v148) :: (dB v155) :: (dB v155) :: d151 :: d152 :: d153 :: d154 :: (dB v156) :: q2 ((.v (.agg [(vI v147.fLexical), (vI v147.fSurface)])) :: (.v (.agg [(vI 0), (vI 0)])) :: (dB (((v147.fLexical == 0) && ((v147.fSurface == 0) && true)))) :: q2 ((dB v164) :: (dB v164) :: d162 :: d163 :: (dB true) :: (dB true) :: (dP e39 a0) :: (dI v137) :: (dI (w64 (v137 - 1))) :: (.vptr [(vI v205.fLexical), (vI v205.fSurface)]) :: (.vptr [(vI v205.fLexical), (vI v205.fSurface)]) :: (dI v205.fLexical) :: (.ptr 1 0) :: (dI v147.fLexical) :: (dB false) :: (dB false) :: (dP e39 a0) :: (dI v137) :: (dI (w64 (v137 - 1))) :: (.vptr [(vI v208.fLexical), (vI v208.fSurface)]) :: q23 []))))), [(.cells [(dI 0), (dI 0)]), (.cells [(dI v147.fLexical), (dI v147.fSurface)])]⟩ (by kernel_rfl) (ix_r _ 37 40 2 .plain e39 a0 (w64 (v137 - 1)) v208 ev208 (by kernel_rfl) (by kernel_rfl) (fun _ => rfl)) (by kernel_rfl) ?_
                          refine Ops.seg 6 26 (by kernel_rfl) ⟨(dP e39 a0) :: q1 ((dB v164) :: q3 ((.ptr 0 0) :: (dI v137) :: (.ptr 1 0) :: q5 ((dP e39 a0) :: (dI ((a0.length : Int))) :: (dI v137) :: (dB (decide (v137 < (a0.length : Int)))) :: (dI v137) :: (.vptr [(vI v147.fLexical), (vI v147.fSurface)]) :: (.v (.agg [(vI v147.fLexical), (vI v147.fSurface)])) :: (.ptr 1 0) :: (dI v147.fLexical) :: (dB v148) :: (dB v155) :: (dB v155) :: d151 :: d152 :: d153 :: d154 :: (dB v156) :: q2 ((.v (.agg [(vI v147.fLexical), (vI v147.fSurface)])) :: (.v (.agg [(vI 0), (vI 0)])) :: (dB (((v147.fLexical == 0) && ((v147.fSurface == 0) && true)))) :: q2 ((dB v164) :: (dB v164) :: d162 :: d163 :: (dB true) :: (dB true) :: (dP e39 a0) :: (dI v137) :: (dI (w64 (v137 - 1))) :: (.vptr [(vI v205.fLexical), (vI v205.fSurface)]) :: (.vptr [(vI v205.fLexical), (vI v205.fSurface)]) :: (dI v205.fLexical) :: (.ptr 1 0) :: (dI v147.fLexical) :: (dB false) :: (dB false) :: (dP e39 a0) :: (dI v137) :: (dI (w64 (v137 - 1))) :: (.vptr [(vI v208.fLexical), (vI v208.fSurface)]) :: (.vptr [(vI v208.fLexical), (vI v208.fSurface)]) :: (dI v208.fLexical) :: (.ptr 1 0) :: (dI v147.fLexical) :: (dB (v208.fLexical == v147.fLexical)) :: (dB (v208.fLexical == v147.fLexical)) :: q17 []))))), [(.cells [(dI 0), (dI 0)]), (.cells [(dI v147.fLexical), (dI v147.fSurface)])]⟩ (by kernel_rfl) ?_
                          have G34g210 : ∀ v209 : Bool, (cnd v209 (bnd (idx a0 (w64 (v137 - 1))) fun v211 => some (!(decide (v211.fSurface < v147.fSurface)))) (some (!false))) = some v202 → Ops (X34 n) (opl (subc [1, 1, 0, 1, 0, 0, 1, 1, 0, 0, 1, 1, 1, 0] C34)) 26 ⟨(dP e39 a0) :: q1 ((dB v164) :: q3 ((.ptr 0 0) :: (dI v137) :: (.ptr 1 0) :: q5 ((dP e39 a0) :: (dI ((a0.length : Int))) :: (dI v137) :: (dB (decide (v137 < (a0.length : Int)))) :: (dI v137) :: (.vptr [(vI v147.fLexical), (vI v147.fSurface)]) :: (.v (.agg [(vI v147.fLexical), (vI v147.fSurface)])) :: (.ptr 1 0) :: (dI v147.fLexical) :: (dB v148) :: (dB v155) :: (dB v155) :: d151 :: d152 :: d153 :: d154 :: (dB v156) :: q2 ((.v (.agg [(vI v147.fLexical), (vI v147.fSurface)])) :: (.v (.agg [(vI 0), (vI 0)])) :: (dB (((v147.fLexical == 0) && ((v147.fSurface == 0) && true)))) :: q2 ((dB v164) :: (dB v164) :: d162 :: d163 :: (dB true) :: (dB true) :: (dP e39 a0) :: (dI v137) :: (dI (w64 (v137 - 1))) :: (.vptr [(vI v205.fLexical), (vI v205.fSurface)]) :: (.vptr [(vI v205.fLexical), (vI v205.fSurface)]) :: (dI v205.fLexical) :: (.ptr 1 0) :: (dI v147.fLexical) :: (dB false) :: (dB false) :: (dP e39 a0) :: (dI v137) :: (dI (w64 (v137 - 1))) :: (.vptr [(vI v208.fLexical), (vI v208.fSurface)]) :: (.vptr [(vI v208.fLexical), (vI v208.fSurface)]) :: (dI v208.fLexical) :: (.ptr 1 0) :: (dI v147.fLexical) :: (dB v209) :: (dB v209) :: q17 []))))), [(.cells [(dI 0), (dI 0)]), (.cells [(dI v147.fLexical), (dI v147.fSurface)])]⟩ ((seqQ (X34 n) (subc [1, 1, 0, 1, 0, 0, 1, 1, 0, 0, 1, 1, 1, 1] C34) (blkQ (X34 n) 1 [0, 2, 6, 14, 15, 16] 1 (seqQ (X34 n) (subc [1, 1, 0, 1, 0, 0, 1, 1, 1] C34) (lpQ (X34 n) [0, 2, 6, 14, 15, 16] 1 (subc [1, 1, 0, 1, 0, 0] C34) nx140 (blkQ (X34 n) 0 [6] 1 (seqQ (X34 n) (subc [1, 1, 1] C34) (fnQ (X34 n).E.T (resOf Proofs.Try.prog 34) (e25 o)))))))) .normal) := by
                            intro v209 ev202
                            cases v209
                            · have ev202 := cnd_f ev202
                              refine Ops.seg 13 39 (by kernel_rfl) ⟨(dP e39 a0) :: q1 ((dB v164) :: q3 ((.ptr 0 0) :: (dI v137) :: (.ptr 1 0) :: q5 ((dP e39 a0) :: (dI ((a0.length : Int))) :: (dI v137) :: (dB (decide (v137 < (a0.length : Int)))) :: (dI v137) :: (.vptr [(vI v147.fLexical), (vI v147.fSurface)]) :: (.v (.agg [(vI v147.fLexical), (vI v147.fSurface)])) :: (.ptr 1 0) :: (dI v147.fLexical) :: (dB v148) :: (dB v155) :: (dB v155) :: d151 :: d152 :: d153 :: d154 :: (dB v156) :: q2 ((.v (.agg [(vI v147.fLexical), (vI v147.fSurface)])) :: (.v (.agg [(vI 0), (vI 0)])) :: (dB (((v147.fLexical == 0) && ((v147.fSurface == 0) && true)))) :: q2 ((dB v164) :: (dB v164) :: d162 :: d163 :: (dB true) :: (dB true) :: (dP e39 a0) :: (dI v137) :: (dI (w64 (v137 - 1))) :: (.vptr [(vI v205.fLexical), (vI v205.fSurface)]) :: (.vptr [(vI v205.fLexical), (vI v205.fSurface)]) :: (dI v205.fLexical) :: (.ptr 1 0) :: (dI v147.fLexical) :: (dB false) :: (dB false) :: (dP e39 a0) :: (dI v137) :: (dI (w64 (v137 - 1))) :: (.vptr [(vI v208.fLexical), (vI v208.fSurface)]) :: (.vptr [(vI v208.fLexical), (vI v208.fSurface)]) :: (dI v208.fLexical) :: (.ptr 1 0) :: (dI v147.fLexical) :: (dB false) :: (dB false) :: u9 ((dB false) :: (dB false) :: (dB (!false)) :: (dB (!false)) :: q4 [])))))), [(.cells [(dI 0), (dI 0)]), (.cells [(dI v147.fLexical), (dI v147.fSurface)])]⟩ (by kernel_rfl) ?_
                              exact J34j203 _ _ _ _ _ _ _ _ _ _ _ _ _ _ _ _ _ _ _ _ _ _ _ _ _ _ _ _ _ _ _ _ _ _ (some_sub (fun v202 => f34_r1 m v137 v164 v202 = some sx145) ev202 h)
                            · have ev202 := cnd_t ev202
                              refine Ops.seg 3 29 (by kernel_rfl) ⟨(dP e39 a0) :: q1 ((dB v164) :: q3 ((.ptr 0 0) :: (dI v137) :: (.ptr 1 0) :: q5 ((dP e39 a0) :: (dI ((a0.length : Int))) :: (dI v137) :: (dB (decide (v137 < (a0.length : Int)))) :: (dI v137) :: (.vptr [(vI v147.fLexical), (vI v147.fSurface)]) :: (.v (.agg [(vI v147.fLexical), (vI v147.fSurface)])) :: (.ptr 1 0) :: (dI v147.fLexical) :: (dB v148) :: (dB v155) :: (dB v155) :: d151 :: d152 :: d153 :: d154 :: (dB v156) :: q2 ((.v (.agg [(vI v147.fLexical), (vI v147.fSurface)])) :: (.v (.agg [(vI 0), (vI 0)])) :: (dB (((v147.fLexical == 0) && ((v147.fSurface == 0) && true)))) :: q2 ((dB v164) :: (dB v164) :: d162 :: d163 :: (dB true) :: (dB true) :: (dP e39 a0) :: (dI v137) :: (dI (w64 (v137 - 1))) :: (.vptr [(vI v205.fLexical), (vI v205.fSurface)]) :: (.vptr [(vI v205.fLexical), (vI v205.fSurface)]) :: (dI v205.fLexical) :: (.ptr 1 0) :: (dI v147.fLexical) :: (dB false) :: (dB false) :: (dP e39 a0) :: (dI v137) :: (dI (w64 (v137 - 1))) :: (.vptr [(vI v208.fLexical), (vI v208.fSurface)]) :: (.vptr [(vI v208.fLexical), (vI v208.fSurface)]) :: (dI v208.fLexical) :: (.ptr 1 0) :: (dI v147.fLexical) :: (dB true) :: (dB true) :: (dP e39 a0) :: (dI v137) :: (dI (w64 (v137 - 1))) :: q14 []))))), [(.cells [(dI 0), (dI 0)]), (.cells [(dI v147.fLexical), (dI v147.fSurface)])]⟩ (by kernel_rfl) ?_
                              obtain ⟨v211, ev211, ev202⟩ := bnd_some ev202
                              refine Ops.one 30 (by kernel_rfl) ((indexAddrH (X34 n).E.T [(.cells [(dI 0), (dI 0)]), (.cells [(dI v147.fLexical), (dI v147.fSurface)])] 37 (D.unt (dP e39 a0)) (dI (w64 (v137 - 1)))).map (·, [(.cells [(dI 0), (dI 0)]), (.cells [(dI v147.fLexical), (dI v147.fSurface)])])) (.vptr [(vI v211.fLexical), (vI v211.fSurface)]) [(.cells [(dI 0), (dI 0)]), (.cells [(dI v147.fLexical), (dI v147.fSurface)])] ⟨(dP e39 a0) :: q1 ((dB v164) :: q3 ((.ptr 0 0) :: (dI v137) :: (.ptr 1 0) :: q5 ((dP e39 a0) :: (dI ((a0.length : Int))) :: (dI v137) :: (dB (decide (v137 < (a0.length : Int)))) :: (dI v137) :: (.vptr [(vI v147.fLexical), (vI v147.fSurface)]) :: (.v (.agg [(vI v147.fLexical), (vI v147.fSurface)])) :: (.ptr 1 0) :: (dI v147.fLexical) :: (dB v148) :: (dB v155) :: (dB v155) :: d151 :: d152 :: d153 :: d154 :: (dB v156) :: q2 ((.v (.agg [(vI v147.fLexical), (vI v147.fSurface)])) :: (.v (.agg [(vI 0), (vI 0)])) :: (dB (((v147.fLexical == 0) && ((v147.fSurface == 0) && true)))) :: q2 ((dB v164) :: (dB v164) :: d162 :: d163 :: (dB true) :: (dB true) :: (dP e39 a0) :: (dI v137) :: (dI (w64 (v137 - 1))) :: (.vptr [(vI v205.fLexical), (vI v205.fSurface)]) :: (.vptr [(vI v205.fLexical), (vI v205.fSurface)]) :: (dI v205.fLexical) :: (.ptr 1 0) :: (dI v147.fLexical) :: (dB false) :: (dB false) :: (dP e39 a0) :: (dI v137) :: (dI (w64 (v137 - 1))) :: (.vptr [(vI v208.fLexical), (vI v208.fSurface)]) :: (.vptr [(vI v208.fLexical), (vI v208.fSurface)]) :: (dI v208.fLexical) :: (.ptr 1 0) :: (dI v147.fLexical) :: (dB true) :: (dB true) :: (dP e39 a0) :: (dI v137) :: (dI (w64 (v137 - 1))) :: (.vptr [(vI v211.fLexical), (vI v211.fSurface)]) :: q13 []))))), [(.cells [(dI 0), (dI 0)]), (.cells [(dI v147.fLexical), (dI v147.fSurface)])]⟩ (by kernel_rfl) (ix_r _ 37 40 2 .plain e39 a0 (w64 (v137 - 1)) v211 ev211 (by kernel_rfl) (by kernel_rfl) (fun _ => rfl)) (by kernel_rfl) ?_
                              refine Ops.seg 9 39 (by kernel_rfl) ⟨(dP e39 a0) :: q1 ((dB v164) :: q3 ((.ptr 0 0) :: (dI v137) :: (.ptr 1 0) :: q5 ((dP e39 a0) :: (dI ((a0.length : Int))) :: (dI v137) :: (dB (decide (v137 < (a0.length : Int)))) :: (dI v137) :: (.vptr [(vI v147.fLexical), (vI v147.fSurface)]) :: (.v (.agg [(vI v147.fLexical), (vI v147.fSurface)])) :: (.ptr 1 0) :: (dI v147.fLexical) :: (dB v148) :: (dB v155) :: (dB v155) :: d151 :: d152 :: d153 :: d154 :: (dB v156) :: q2 ((.v (.agg [(vI v147.fLexical), (vI v147.fSurface)])) :: (.v (.agg [(vI 0), (vI 0)])) :: (dB (((v147.fLexical == 0) && ((v147.fSurface == 0) && true)))) :: q2 ((dB v164) :: (dB v164) :: d162 :: d163 :: (dB true) :: (dB true) :: (dP e39 a0) :: (dI v137) :: (dI (w64 (v137 - 1))) :: (.vptr [(vI v205.fLexical), (vI v205.fSurface)]) :: (.vptr [(vI v205.fLexical), (vI v205.fSurface)]) :: (dI v205.fLexical) :: (.ptr 1 0) :: (dI v147.fLexical) :: (dB false) :: (dB false) :: (dP e39 a0) :: (dI v137) :: (dI (w64 (v137 - 1))) :: (.vptr [(vI v208.fLexical), (vI v208.fSurface)]) :: (.vptr [(vI v208.fLexical), (vI v208.fSurface)]) :: (dI v208.fLexical) :: (.ptr 1 0) :: (dI v147.fLexical) :: (dB true) :: (dB true) :: (dP e39 a0) :: (dI v137) :: (dI (w64 (v137 - 1))) :: (.vptr [(vI v211.fLexical), (vI v211.fSurface)]) :: (.vptr [(vI v211.fSurface)]) :: (dI v211.fSurface) :: (.ptr 1 1) :: (dI v147.fSurface) :: (dB (decide (v211.fSurface < v147.fSurface))) :: (dB (decide (v211.fSurface < v147.fSurface))) :: (dB (decide (v211.fSurface < v147.fSurface))) :: (dB (!(decide (v211.fSurface < v147.fSurface)))) :: (dB (!(decide (v211.fSurface < v147.fSurface)))) :: q4 []))))), [(.cells [(dI 0), (dI 0)]), (.cells [(dI v147.fLexical), (dI v147.fSurface)])]⟩ (by kernel_rfl) ?_
                              exact J34j203 _ _ _ _ _ _ _ _ _ _ _ _ _ _ _ _ _ _ _ _ _ _ _ _ _ _ _ _ _ _ _ _ _ _ (some_sub (fun v202 => f34_r1 m v137 v164 v202 = some sx145) ev202 h)
                          exact G34g210 (v208.fLexical == v147.fLexical) ev202
                        · have ev202 := cnd_t ev202
                          refine Ops.seg 23 39 (by kernel_rfl) ⟨(dP e39 a0) :: q1 ((dB v164) :: q3 ((.ptr 0 0) :: (dI v137) :: (.ptr 1 0) :: q5 ((dP e39 a0) :: (dI ((a0.length : Int))) :: (dI v137) :: (dB (decide (v137 < (a0.length : Int)))) :: (dI v137) :: (.vptr [(vI v147.fLexical), (vI v147.fSurface)]) :: (.v (.agg [(vI v147.fLexical), (vI v147.fSurface)])) :: (.ptr 1 0) :: (dI v147.fLexical) :: (dB v148) :: (dB v155) :: (dB v155) :: d151 :: d152 :: d153 :: d154 :: (dB v156) :: q2 ((.v (.agg [(vI v147.fLexical), (vI v147.fSurface)])) :: (.v (.agg [(vI 0), (vI 0)])) :: (dB (((v147.fLexical == 0) && ((v147.fSurface == 0) && true)))) :: q2 ((dB v164) :: (dB v164) :: d162 :: d163 :: (dB true) :: (dB true) :: (dP e39 a0) :: (dI v137) :: (dI (w64 (v137 - 1))) :: (.vptr [(vI v205.fLexical), (vI v205.fSurface)]) :: (.vptr [(vI v205.fLexical), (vI v205.fSurface)]) :: (dI v205.fLexical) :: (.ptr 1 0) :: (dI v147.fLexical) :: (dB true) :: (dB true) :: u20 ((dB true) :: (dB (!true)) :: (dB (!true)) :: q4 [])))))), [(.cells [(dI 0), (dI 0)]), (.cells [(dI v147.fLexical), (dI v147.fSurface)])]⟩ (by kernel_rfl) ?_
                          exact J34j203 _ _ _ _ _ _ _ _ _ _ _ _ _ _ _ _ _ _ _ _ _ _ _ _ _ _ _ _ _ _ _ _ _ _ (some_sub (fun v202 => f34_r1 m v137 v164 v202 = some sx145) ev202 h)
                      exact G34g207 (decide (v205.fLexical < v147.fLexical)) ev202
                  exact G34g168 v165 ev202
                have G34g161 : ∀ v160 : Bool, f34_r2 m a0 v137 v147 v160 ((v160 && (decide (v137 > 0)))) = some sx145 → Ops (X34 n) (opl (subc [1, 1, 0, 1, 0, 0, 1, 1, 0, 0, 1, 1, 1, 0] C34)) 2 ⟨(dP e39 a0) :: q1 ((dB v160) :: q3 ((.ptr 0 0) :: (dI v137) :: (.ptr 1 0) :: q5 ((dP e39 a0) :: (dI ((a0.length : Int))) :: (dI v137) :: (dB (decide (v137 < (a0.length : Int)))) :: (dI v137) :: (.vptr [(vI v147.fLexical), (vI v147.fSurface)]) :: (.v (.agg [(vI v147.fLexical), (vI v147.fSurface)])) :: (.ptr 1 0) :: (dI v147.fLexical) :: (dB v148) :: (dB v155) :: (dB v155) :: d151 :: d152 :: d153 :: d154 :: (dB v156) :: q2 ((.v (.agg [(vI v147.fLexical), (vI v147.fSurface)])) :: (.v (.agg [(vI 0), (vI 0)])) :: (dB (((v147.fLexical == 0) && ((v147.fSurface == 0) && true)))) :: q2 ((dB v160) :: (dB v160) :: q40 (q1 [])))))), [(.cells [(dI 0), (dI 0)]), (.cells [(dI v147.fLexical), (dI v147.fSurface)])]⟩ ((seqQ (X34 n) (subc [1, 1, 0, 1, 0, 0, 1, 1, 0, 0, 1, 1, 1, 1] C34) (blkQ (X34 n) 1 [0, 2, 6, 14, 15, 16] 1 (seqQ (X34 n) (subc [1, 1, 0, 1, 0, 0, 1, 1, 1] C34) (lpQ (X34 n) [0, 2, 6, 14, 15, 16] 1 (subc [1, 1, 0, 1, 0, 0] C34) nx140 (blkQ (X34 n) 0 [6] 1 (seqQ (X34 n) (subc [1, 1, 1] C34) (fnQ (X34 n).E.T (resOf Proofs.Try.prog 34) (e25 o)))))))) .normal) := by
                  intro v160 h
                  cases v160
                  · refine Ops.seg 3 5 (by kernel_rfl) ⟨(dP e39 a0) :: q1 ((dB false) :: q3 ((.ptr 0 0) :: (dI v137) :: (.ptr 1 0) :: q5 ((dP e39 a0) :: (dI ((a0.length : Int))) :: (dI v137) :: (dB (decide (v137 < (a0.length : Int)))) :: (dI v137) :: (.vptr [(vI v147.fLexical), (vI v147.fSurface)]) :: (.v (.agg [(vI v147.fLexical), (vI v147.fSurface)])) :: (.ptr 1 0) :: (dI v147.fLexical) :: (dB v148) :: (dB v155) :: (dB v155) :: d151 :: d152 :: d153 :: d154 :: (dB v156) :: q2 ((.v (.agg [(vI v147.fLexical), (vI v147.fSurface)])) :: (.v (.agg [(vI 0), (vI 0)])) :: (dB (((v147.fLexical == 0) && ((v147.fSurface == 0) && true)))) :: q2 ((dB false) :: (dB false) :: u2 ((dB false) :: q38 [])))))), [(.cells [(dI 0), (dI 0)]), (.cells [(dI v147.fLexical), (dI v147.fSurface)])]⟩ (by kernel_rfl) ?_
                    exact J34j166 _ _ _ _ h
                  · refine Ops.seg 3 5 (by kernel_rfl) ⟨(dP e39 a0) :: q1 ((dB true) :: q3 ((.ptr 0 0) :: (dI v137) :: (.ptr 1 0) :: q5 ((dP e39 a0) :: (dI ((a0.length : Int))) :: (dI v137) :: (dB (decide (v137 < (a0.length : Int)))) :: (dI v137) :: (.vptr [(vI v147.fLexical), (vI v147.fSurface)]) :: (.v (.agg [(vI v147.fLexical), (vI v147.fSurface)])) :: (.ptr 1 0) :: (dI v147.fLexical) :: (dB v148) :: (dB v155) :: (dB v155) :: d151 :: d152 :: d153 :: d154 :: (dB v156) :: q2 ((.v (.agg [(vI v147.fLexical), (vI v147.fSurface)])) :: (.v (.agg [(vI 0), (vI 0)])) :: (dB (((v147.fLexical == 0) && ((v147.fSurface == 0) && true)))) :: q2 ((dB true) :: (dB true) :: (dI v137) :: (dB (decide (v137 > 0))) :: (dB (decide (v137 > 0))) :: q38 []))))), [(.cells [(dI 0), (dI 0)]), (.cells [(dI v147.fLexical), (dI v147.fSurface)])]⟩ (by kernel_rfl) ?_
                    exact J34j166 _ _ _ _ h
                exact G34g161 v136 h
          obtain ⟨v156, ev156, h⟩ := bnd_some h
          have G34g150 : ∀ v149 : Bool, (cnd v149 (some true) (bnd (f42 m v147.fSurface 0 1114111) fun v212 => some (!v212))) = some v156 → Ops (X34 n) (opl (subc [1, 1, 0, 1, 0, 0, 1, 1, 0, 0, 1, 0, 0] C34)) 5 ⟨(dP e39 a0) :: q1 ((dB v136) :: q3 ((.ptr 0 0) :: (dI v137) :: (.ptr 1 0) :: q5 ((dP e39 a0) :: (dI ((a0.length : Int))) :: (dI v137) :: (dB (decide (v137 < (a0.length : Int)))) :: (dI v137) :: (.vptr [(vI v147.fLexical), (vI v147.fSurface)]) :: (.v (.agg [(vI v147.fLexical), (vI v147.fSurface)])) :: (.ptr 1 0) :: (dI v147.fLexical) :: (dB v148) :: (dB v149) :: (dB v149) :: q40 (q15 [])))), [(.cells [(dI 0), (dI 0)]), (.cells [(dI v147.fLexical), (dI v147.fSurface)])]⟩ ((seqQ (X34 n) (subc [1, 1, 0, 1, 0, 0, 1, 1, 0, 0, 1, 0, 1] C34) (seqQ (X34 n) (subc [1, 1, 0, 1, 0, 0, 1, 1, 0, 0, 1, 1] C34) (blkQ (X34 n) 1 [0, 2, 6, 14, 15, 16] 1 (seqQ (X34 n) (subc [1, 1, 0, 1, 0, 0, 1, 1, 1] C34) (lpQ (X34 n) [0, 2, 6, 14, 15, 16] 1 (subc [1, 1, 0, 1, 0, 0] C34) nx140 (blkQ (X34 n) 0 [6] 1 (seqQ (X34 n) (subc [1, 1, 1] C34) (fnQ (X34 n).E.T (resOf Proofs.Try.prog 34) (e25 o))))))))) .normal) := by
            intro v149 ev156
            cases v149
            · have ev156 := cnd_f ev156
              refine Ops.seg 2 7 (by kernel_rfl) ⟨(dP e39 a0) :: q1 ((dB v136) :: q3 ((.ptr 0 0) :: (dI v137) :: (.ptr 1 0) :: q5 ((dP e39 a0) :: (dI ((a0.length : Int))) :: (dI v137) :: (dB (decide (v137 < (a0.length : Int)))) :: (dI v137) :: (.vptr [(vI v147.fLexical), (vI v147.fSurface)]) :: (.v (.agg [(vI v147.fLexical), (vI v147.fSurface)])) :: (.ptr 1 0) :: (dI v147.fLexical) :: (dB v148) :: (dB false) :: (dB false) :: (.ptr 1 1) :: (dI v147.fSurface) :: q40 (q13 [])))), [(.cells [(dI 0), (dI 0)]), (.cells [(dI v147.fLexical), (dI v147.fSurface)])]⟩ (by kernel_rfl) ?_
              obtain ⟨v212, ev212, ev156⟩ := bnd_some ev156
              refine Ops.one 8 (by kernel_rfl) (callD (X34 n).E (run Proofs.Try.prog E n) 42 [(dI v147.fSurface), (dI 0), (dI 1114111)] [(.cells [(dI 0), (dI 0)]), (.cells [(dI v147.fLexical), (dI v147.fSurface)])]) (dB v212) [(.cells [(dI 0), (dI 0)]), (.cells [(dI v147.fLexical), (dI v147.fSurface)])] ⟨(dP e39 a0) :: q1 ((dB v136) :: q3 ((.ptr 0 0) :: (dI v137) :: (.ptr 1 0) :: q5 ((dP e39 a0) :: (dI ((a0.length : Int))) :: (dI v137) :: (dB (decide (v137 < (a0.length : Int)))) :: (dI v137) :: (.vptr [(vI v147.fLexical), (vI v147.fSurface)]) :: (.v (.agg [(vI v147.fLexical), (vI v147.fSurface)])) :: (.ptr 1 0) :: (dI v147.fLexical) :: (dB v148) :: (dB false) :: (dB false) :: (.ptr 1 1) :: (dI v147.fSurface) :: (dB v212) :: q40 (q12 [])))), [(.cells [(dI 0), (dI 0)]), (.cells [(dI v147.fLexical), (dI v147.fSurface)])]⟩ (by kernel_rfl) (call_ok (by kernel_rfl) (Args.v (vI v147.fSurface) (eI v147.fSurface) (by kernel_rfl) (Args.v (vI 0) (eI 0) (by kernel_rfl) (Args.v (vI 1114111) (eI 1114111) (by kernel_rfl) Args.nil))) (ok42 m v147.fSurface 0 1114111 v212 ev212 n (by omega))) (by kernel_rfl) ?_
              refine Ops.seg 2 10 (by kernel_rfl) ⟨(dP e39 a0) :: q1 ((dB v136) :: q3 ((.ptr 0 0) :: (dI v137) :: (.ptr 1 0) :: q5 ((dP e39 a0) :: (dI ((a0.length : Int))) :: (dI v137) :: (dB (decide (v137 < (a0.length : Int)))) :: (dI v137) :: (.vptr [(vI v147.fLexical), (vI v147.fSurface)]) :: (.v (.agg [(vI v147.fLexical), (vI v147.fSurface)])) :: (.ptr 1 0) :: (dI v147.fLexical) :: (dB v148) :: (dB false) :: (dB false) :: (.ptr 1 1) :: (dI v147.fSurface) :: (dB v212) :: (dB (!v212)) :: (dB (!v212)) :: q40 (q10 [])))), [(.cells [(dI 0), (dI 0)]), (.cells [(dI v147.fLexical), (dI v147.fSurface)])]⟩ (by kernel_rfl) ?_
              exact J34j157 _ _ _ _ _ _ (some_sub (fun v156 => f34_r3 m a0 v136 v137 v147 v156 = some sx145) ev156 h)
            · have ev156 := cnd_t ev156
              refine Ops.seg 5 10 (by kernel_rfl) ⟨(dP e39 a0) :: q1 ((dB v136) :: q3 ((.ptr 0 0) :: (dI v137) :: (.ptr 1 0) :: q5 ((dP e39 a0) :: (dI ((a0.length : Int))) :: (dI v137) :: (dB (decide (v137 < (a0.length : Int)))) :: (dI v137) :: (.vptr [(vI v147.fLexical), (vI v147.fSurface)]) :: (.v (.agg [(vI v147.fLexical), (vI v147.fSurface)])) :: (.ptr 1 0) :: (dI v147.fLexical) :: (dB v148) :: (dB true) :: (dB true) :: u4 ((dB true) :: q40 (q10 []))))), [(.cells [(dI 0), (dI 0)]), (.cells [(dI v147.fLexical), (dI v147.fSurface)])]⟩ (by kernel_rfl) ?_
              exact J34j157 _ _ _ _ _ _ (some_sub (fun v156 => f34_r3 m a0 v136 v137 v147 v156 = some sx145) ev156 h)
          exact G34g150 (!v148) ev156
        · refine Wp.cond (decide (v137 < (a0.length : Int))) [0, 2, 6, 14, 15, 16] (by kernel_rfl) 1 (by kernel_rfl) (subc [1, 1, 0, 1, 0, 0, 1, 0, 0] C34) (subc [1, 1, 0, 1, 0, 0, 1, 0, 1] C34) (by kernel_rfl) (by kernel_rfl) (fun e => nomatch (hb.symm.trans e)) (fun _ => ?_)
          refine Wp.exit (id := 0) (by kernel_rfl) ?_
          refine sqQ.x ?_
          refine seqQ.x ?_
          cases h
          refine lpQ.x ?_
          refine blkQ.x ⟨(dP e39 a0) :: q1 ((dB v136) :: q3 ((.ptr 0 0) :: q7 ((dP e39 a0) :: (dI ((a0.length : Int))) :: (dI v137) :: q40 (q24 [])))), [(.cells [(dI 0), (dI 0)])]⟩ (by kernel_rfl) ?_
          exact hxx143 (v136, v137)  hsx146
    refine Wp.loop [0, 2, 6, 14, 15, 16] 1 (by kernel_rfl) (subc [1, 1, 0, 1, 0, 0] C34) (by kernel_rfl) (by kernel_rfl) ⟨(dP e39 a0) :: q1 ((dB a2) :: q3 ((.ptr 0 0) :: q7 ((dP e39 a0) :: (dI ((a0.length : Int))) :: (dI 0) :: q40 (q24 [])))), [(.cells [(dI 0), (dI 0)])]⟩ (by kernel_rfl) ?_
    rcases brk_some h with ⟨r215, er215, h⟩ | ⟨y214, ey214, h⟩
    · refine hLx213 _ a2 0  _ er215 n (by omega) (fun r er σ hσ => ?_) (fun y  ey => by cases ey)
      cases er
      refine seqQ.r ?_
      exact fnQ.r' (X34 n) (fun z => (e25 z)) h hσ
    · refine hLx213 _ a2 0  _ ey214 n (by omega) (fun r er => by cases er) (fun y  ey => ?_)
      cases ey
      refine seqQ.n ?_
      refine Wp.seq (subc [1, 1, 1, 0] C34) (subc [1, 1, 1, 1] C34) (by kernel_rfl) ?_
      refine Wp.region (by kernel_rfl) ?_
      refine Ops.seg 2 2 (by kernel_rfl) ⟨(dP e39 a0) :: q1 ((dB y214.1) :: q3 ((.ptr 0 0) :: q7 ((dP e39 a0) :: (dI ((a0.length : Int))) :: (dI y214.2) :: q40 (q23 ((.v (.agg [(vI 0), (vI 0)])) :: []))))), [(.cells [(dI 0), (dI 0)])]⟩ (by kernel_rfl) ?_
      refine Ops.done (by kernel_rfl) ?_
      refine seqQ.n ?_
      refine Wp.ret (by kernel_rfl) ?_
      exact fnQ.r' (X34 n) (fun z => (e25 z)) h (RetOk.mk' (.v (.agg [(vI 0), (vI 0)])) (by kernel_rfl) (by kernel_rfl))

/-! ### 46 glosswright/twolevel.fits -/
def f46_r1 (m : Nat) (v24 : Bool) : Option Bool :=
  some v24
def f46_r2 (m : Nat) (a0 : S39) (a1 : S39) (v9 : Bool) : Option Bool :=
  f46_r1 m ((v9 && (((a0.fSurface == ((-1))) || (a0.fSurface == a1.fSurface)))))
def f46 (m : Nat) (a0 : S39) (a1 : S39) : Option Bool :=
  f46_r2 m a0 a1 (((a0.fLexical == ((-1))) || (a0.fLexical == a1.fLexical)))
noncomputable abbrev X46 (n : Nat) : Cx := cxOf Proofs.Try.prog E 46 n
noncomputable def C46 : Code := bodyOf Proofs.Try.prog 46
theorem ok46 (m : Nat) (a0 : S39) (a1 : S39) (o : Bool) (h : f46 m a0 a1 = some o) (n : Nat) (hn : m + 1 ≤ n) : Fn Proofs.Try.prog E n 46 [e39 a0, e39 a1] (eB o) := by
  obtain ⟨n, rfl⟩ : ∃ q, n = q + 1 := ⟨n - 1, by omega⟩
  unfold f46 at h
  refine Fn.of (by kernel_rfl) (by kernel_rfl) ⟨(.v (.agg [(vI a0.fLexical), (vI a0.fSurface)])) :: (.v (.agg [(vI a1.fLexical), (vI a1.fSurface)])) :: u25 [], []⟩ (by kernel_rfl) ?_
  refine Wp.seq (subc [0] C46) (subc [1] C46) (by kernel_rfl) ?_
  refine Wp.region (by kernel_rfl) ?_
  refine Ops.seg 3 3 (by kernel_rfl) ⟨(.v (.agg [(vI a0.fLexical), (vI a0.fSurface)])) :: (.v (.agg [(vI a1.fLexical), (vI a1.fSurface)])) :: (.ptr 0 0) :: (.ptr 1 0) :: (dB false) :: u22 [], [(.cells [(dI a0.fLexical), (dI a0.fSurface)]), (.cells [(dI a1.fLexical), (dI a1.fSurface)])]⟩ (by kernel_rfl) ?_
  refine Ops.done (by kernel_rfl) ?_
  refine seqQ.n ?_
  refine Wp.seq (subc [1, 0] C46) (subc [1, 1] C46) (by kernel_rfl) ?_
  refine Wp.region (by kernel_rfl) ?_
  refine Ops.seg 4 4 (by kernel_rfl) ⟨(.v (.agg [(vI a0.fLexical), (vI a0.fSurface)])) :: (.v (.agg [(vI a1.fLexical), (vI a1.fSurface)])) :: (.ptr 0 0) :: (.ptr 1 0) :: (dB false) :: (.ptr 0 0) :: (dI a0.fLexical) :: (dB (a0.fLexical == ((-1)))) :: (dB (a0.fLexical == ((-1)))) :: u18 [], [(.cells [(dI a0.fLexical), (dI a0.fSurface)]), (.cells [(dI a1.fLexical), (dI a1.fSurface)])]⟩ (by kernel_rfl) ?_
  have J46j10 : ∀ (d3 d4 d5 d6 d7 : D) (v8 : Bool) (v9 : Bool), f46_r2 m a0 a1 v9 = some o → Ops (X46 n) (opl (subc [1, 0] C46)) 10 ⟨(.v (.agg [(vI a0.fLexical), (vI a0.fSurface)])) :: (.v (.agg [(vI a1.fLexical), (vI a1.fSurface)])) :: (.ptr 0 0) :: (.ptr 1 0) :: (dB false) :: (.ptr 0 0) :: (dI a0.fLexical) :: (dB v8) :: (dB v8) :: d3 :: d4 :: d5 :: d6 :: d7 :: (dB v9) :: u12 [], [(.cells [(dI a0.fLexical), (dI a0.fSurface)]), (.cells [(dI a1.fLexical), (dI a1.fSurface)])]⟩ ((seqQ (X46 n) (subc [1, 1] C46) (fnQ (X46 n).E.T (resOf Proofs.Try.prog 46) (eB o))) .normal) := by
    intro d3 d4 d5 d6 d7 v8 v9 h
    unfold f46_r2 at h
    refine Ops.seg 1 11 (by kernel_rfl) ⟨(.v (.agg [(vI a0.fLexical), (vI a0.fSurface)])) :: (.v (.agg [(vI a1.fLexical), (vI a1.fSurface)])) :: (.ptr 0 0) :: (.ptr 1 0) :: (dB false) :: (.ptr 0 0) :: (dI a0.fLexical) :: (dB v8) :: (dB v8) :: d3 :: d4 :: d5 :: d6 :: d7 :: (dB v9) :: (dB v9) :: u11 [], [(.cells [(dI a0.fLexical), (dI a0.fSurface)]), (.cells [(dI a1.fLexical), (dI a1.fSurface)])]⟩ (by kernel_rfl) ?_
    have J46j25 : ∀ (d13 d14 d15 d16 d17 d18 d19 d20 d21 d22 : D) (v23 : Bool) (v24 : Bool), f46_r1 m v24 = some o → Ops (X46 n) (opl (subc [1, 0] C46)) 22 ⟨(.v (.agg [(vI a0.fLexical), (vI a0.fSurface)])) :: (.v (.agg [(vI a1.fLexical), (vI a1.fSurface)])) :: (.ptr 0 0) :: (.ptr 1 0) :: (dB false) :: (.ptr 0 0) :: (dI a0.fLexical) :: (dB v8) :: (dB v8) :: d3 :: d4 :: d5 :: d6 :: d7 :: (dB v23) :: (dB v23) :: d13 :: d14 :: d15 :: d16 :: d17 :: d18 :: d19 :: d20 :: d21 :: d22 :: (dB v24) :: [], [(.cells [(dI a0.fLexical), (dI a0.fSurface)]), (.cells [(dI a1.fLexical), (dI a1.fSurface)])]⟩ ((seqQ (X46 n) (subc [1, 1] C46) (fnQ (X46 n).E.T (resOf Proofs.Try.prog 46) (eB o))) .normal) := by
      intro d13 d14 d15 d16 d17 d18 d19 d20 d21 d22 v23 v24 h
      unfold f46_r1 at h
      refine Ops.seg 1 23 (by kernel_rfl) ⟨(.v (.agg [(vI a0.fLexical), (vI a0.fSurface)])) :: (.v (.agg [(vI a1.fLexical), (vI a1.fSurface)])) :: (.ptr 0 0) :: (.ptr 1 0) :: (dB v24) :: (.ptr 0 0) :: (dI a0.fLexical) :: (dB v8) :: (dB v8) :: d3 :: d4 :: d5 :: d6 :: d7 :: (dB v23) :: (dB v23) :: d13 :: d14 :: d15 :: d16 :: d17 :: d18 :: d19 :: d20 :: d21 :: d22 :: (dB v24) :: [], [(.cells [(dI a0.fLexical), (dI a0.fSurface)]), (.cells [(dI a1.fLexical), (dI a1.fSurface)])]⟩ (by kernel_rfl) ?_
      refine Ops.done (by kernel_rfl) ?_
      refine seqQ.n ?_
      refine Wp.ret (by kernel_rfl) ?_
      exact fnQ.r' (X46 n) (fun z => (eB z)) h (RetOk.mk' (dB v24) (by kernel_rfl) (by kernel_rfl))
    have G46g12 : ∀ v11 : Bool, f46_r1 m ((v11 && (((a0.fSurface == ((-1))) || (a0.fSurface == a1.fSurface))))) = some o → Ops (X46 n) (opl (subc [1, 0] C46)) 11 ⟨(.v (.agg [(vI a0.fLexical), (vI a0.fSurface)])) :: (.v (.agg [(vI a1.fLexical), (vI a1.fSurface)])) :: (.ptr 0 0) :: (.ptr 1 0) :: (dB false) :: (.ptr 0 0) :: (dI a0.fLexical) :: (dB v8) :: (dB v8) :: d3 :: d4 :: d5 :: d6 :: d7 :: (dB v11) :: (dB v11) :: u11 [], [(.cells [(dI a0.fLexical), (dI a0.fSurface)]), (.cells [(dI a1.fLexical), (dI a1.fSurface)])]⟩ ((seqQ (X46 n) (subc [1, 1] C46) (fnQ (X46 n).E.T (resOf Proofs.Try.prog 46) (eB o))) .normal) := by
      intro v11 h
      cases v11
      · refine Ops.seg 11 22 (by kernel_rfl) ⟨(.v (.agg [(vI a0.fLexical), (vI a0.fSurface)])) :: (.v (.agg [(vI a1.fLexical), (vI a1.fSurface)])) :: (.ptr 0 0) :: (.ptr 1 0) :: (dB false) :: (.ptr 0 0) :: (dI a0.fLexical) :: (dB v8) :: (dB v8) :: d3 :: d4 :: d5 :: d6 :: d7 :: (dB false) :: (dB false) :: u10 ((dB false) :: []), [(.cells [(dI a0.fLexical), (dI a0.fSurface)]), (.cells [(dI a1.fLexical), (dI a1.fSurface)])]⟩ (by kernel_rfl) ?_
        exact J46j25 _ _ _ _ _ _ _ _ _ _ _ _ h
      · refine Ops.seg 4 15 (by kernel_rfl) ⟨(.v (.agg [(vI a0.fLexical), (vI a0.fSurface)])) :: (.v (.agg [(vI a1.fLexical), (vI a1.fSurface)])) :: (.ptr 0 0) :: (.ptr 1 0) :: (dB false) :: (.ptr 0 0) :: (dI a0.fLexical) :: (dB v8) :: (dB v8) :: d3 :: d4 :: d5 :: d6 :: d7 :: (dB true) :: (dB true) :: (.ptr 0 1) :: (dI a0.fSurface) :: (dB (a0.fSurface == ((-1)))) :: (dB (a0.fSurface == ((-1)))) :: u7 [], [(.cells [(dI a0.fLexical), (dI a0.fSurface)]), (.cells [(dI a1.fLexical), (dI a1.fSurface)])]⟩ (by kernel_rfl) ?_
        have G46g27 : ∀ v26 : Bool, (f46_r1 m ((true && ((v26 || (a0.fSurface == a1.fSurface)))))) = some o → Ops (X46 n) (opl (subc [1, 0] C46)) 15 ⟨(.v (.agg [(vI a0.fLexical), (vI a0.fSurface)])) :: (.v (.agg [(vI a1.fLexical), (vI a1.fSurface)])) :: (.ptr 0 0) :: (.ptr 1 0) :: (dB false) :: (.ptr 0 0) :: (dI a0.fLexical) :: (dB v8) :: (dB v8) :: d3 :: d4 :: d5 :: d6 :: d7 :: (dB true) :: (dB true) :: (.ptr 0 1) :: (dI a0.fSurface) :: (dB v26) :: (dB v26) :: u7 [], [(.cells [(dI a0.fLexical), (dI a0.fSurface)]), (.cells [(dI a1.fLexical), (dI a1.fSurface)])]⟩ ((seqQ (X46 n) (subc [1, 1] C46) (fnQ (X46 n).E.T (resOf Proofs.Try.prog 46) (eB o))) .normal) := by
          intro v26 h
          cases v26
          · refine Ops.seg 7 22 (by kernel_rfl) ⟨(.v (.agg [(vI a0.fLexical), (vI a0.fSurface)])) :: (.v (.agg [(vI a1.fLexical), (vI a1.fSurface)])) :: (.ptr 0 0) :: (.ptr 1 0) :: (dB false) :: (.ptr 0 0) :: (dI a0.fLexical) :: (dB v8) :: (dB v8) :: d3 :: d4 :: d5 :: d6 :: d7 :: (dB true) :: (dB true) :: (.ptr 0 1) :: (dI a0.fSurface) :: (dB false) :: (dB false) :: (.ptr 0 1) :: (dI a0.fSurface) :: (.ptr 1 1) :: (dI a1.fSurface) :: (dB (a0.fSurface == a1.fSurface)) :: (dB (a0.fSurface == a1.fSurface)) :: (dB (a0.fSurface == a1.fSurface)) :: [], [(.cells [(dI a0.fLexical), (dI a0.fSurface)]), (.cells [(dI a1.fLexical), (dI a1.fSurface)])]⟩ (by kernel_rfl) ?_
            exact J46j25 _ _ _ _ _ _ _ _ _ _ _ _ h
          · refine Ops.seg 7 22 (by kernel_rfl) ⟨(.v (.agg [(vI a0.fLexical), (vI a0.fSurface)])) :: (.v (.agg [(vI a1.fLexical), (vI a1.fSurface)])) :: (.ptr 0 0) :: (.ptr 1 0) :: (dB false) :: (.ptr 0 0) :: (dI a0.fLexical) :: (dB v8) :: (dB v8) :: d3 :: d4 :: d5 :: d6 :: d7 :: (dB true) :: (dB true) :: (.ptr 0 1) :: (dI a0.fSurface) :: (dB true) :: (dB true) :: u5 ((dB true) :: (dB true) :: []), [(.cells [(dI a0.fLexical), (dI a0.fSurface)]), (.cells [(dI a1.fLexical), (dI a1.fSurface)])]⟩ (by kernel_rfl) ?_
            exact J46j25 _ _ _ _ _ _ _ _ _ _ _ _ h
        exact G46g27 (a0.fSurface == ((-1))) h
    exact G46g12 v9 h
  have G46g2 : ∀ v1 : Bool, f46_r2 m a0 a1 ((v1 || (a0.fLexical == a1.fLexical))) = some o → Ops (X46 n) (opl (subc [1, 0] C46)) 4 ⟨(.v (.agg [(vI a0.fLexical), (vI a0.fSurface)])) :: (.v (.agg [(vI a1.fLexical), (vI a1.fSurface)])) :: (.ptr 0 0) :: (.ptr 1 0) :: (dB false) :: (.ptr 0 0) :: (dI a0.fLexical) :: (dB v1) :: (dB v1) :: u18 [], [(.cells [(dI a0.fLexical), (dI a0.fSurface)]), (.cells [(dI a1.fLexical), (dI a1.fSurface)])]⟩ ((seqQ (X46 n) (subc [1, 1] C46) (fnQ (X46 n).E.T (resOf Proofs.Try.prog 46) (eB o))) .normal) := by
    intro v1 h
    cases v1
    · refine Ops.seg 6 10 (by kernel_rfl) ⟨(.v (.agg [(vI a0.fLexical), (vI a0.fSurface)])) :: (.v (.agg [(vI a1.fLexical), (vI a1.fSurface)])) :: (.ptr 0 0) :: (.ptr 1 0) :: (dB false) :: (.ptr 0 0) :: (dI a0.fLexical) :: (dB false) :: (dB false) :: (.ptr 0 0) :: (dI a0.fLexical) :: (.ptr 1 0) :: (dI a1.fLexical) :: (dB (a0.fLexical == a1.fLexical)) :: (dB (a0.fLexical == a1.fLexical)) :: u12 [], [(.cells [(dI a0.fLexical), (dI a0.fSurface)]), (.cells [(dI a1.fLexical), (dI a1.fSurface)])]⟩ (by kernel_rfl) ?_
      exact J46j10 _ _ _ _ _ _ _ h
    · refine Ops.seg 6 10 (by kernel_rfl) ⟨(.v (.agg [(vI a0.fLexical), (vI a0.fSurface)])) :: (.v (.agg [(vI a1.fLexical), (vI a1.fSurface)])) :: (.ptr 0 0) :: (.ptr 1 0) :: (dB false) :: (.ptr 0 0) :: (dI a0.fLexical) :: (dB true) :: (dB true) :: u5 ((dB true) :: u12 []), [(.cells [(dI a0.fLexical), (dI a0.fSurface)]), (.cells [(dI a1.fLexical), (dI a1.fSurface)])]⟩ (by kernel_rfl) ?_
      exact J46j10 _ _ _ _ _ _ _ h
  exact G46g2 (a0.fLexical == ((-1))) h

/-! ### 44 glosswright/twolevel.around -/
def f44_B1 (m : Nat) (a0 : S64) (a1 : (List S39)) (a2 : Int) (v41 : Int) : Option (Stp Bool (Int)) :=
  cnd (decide (v41 < (a0.fLeft.length : Int)))
  (bnd (idx a0.fLeft v41) fun v51 =>
  bnd (idx a1 (w64 (w64 (a2 - (a0.fLeft.length : Int)) + v41))) fun v52 =>
  bnd (f46 m v51 v52) fun v53 =>
  cnd (!v53)
  (some (.ret false))
  (some (.nxt (w64 (v41 + 1)))))
  (some (.brk v41))
def f44_B2 (m : Nat) (a0 : S64) (a1 : (List S39)) (a2 : Int) (v64 : Int) : Option (Stp Bool (Int)) :=
  cnd (decide (v64 < (a0.fRight.length : Int)))
  (bnd (idx a0.fRight v64) fun v74 =>
  bnd (idx a1 (w64 (w64 (a2 + 1) + v64))) fun v75 =>
  bnd (f46 m v74 v75) fun v76 =>
  cnd (!v76)
  (some (.ret false))
  (some (.nxt (w64 (v64 + 1)))))
  (some (.brk v64))
def f44_r3 (m : Nat) (a0 : S64) (a1 : (List S39)) (a2 : Int) (v32 : Bool) : Option Bool :=
  cnd v32
  (some false)
  (brk (iter (fun (y : Int) => f44_B1 m a0 a1 a2 y) m 0) some fun y55 =>
  brk (iter (fun (y : Int) => f44_B2 m a0 a1 a2 y) m 0) some fun y78 =>
  some true)
def f44_r4 (m : Nat) (a0 : S64) (a1 : (List S39)) (a2 : Int) (v19 : Bool) : Option Bool :=
  f44_r3 m a0 a1 a2 ((v19 || ((a0.fEnd && ((w64 (w64 (a2 + 1) + (a0.fRight.length : Int))) != ((a1.length : Int)))))))
def f44_r5 (m : Nat) (a0 : S64) (a1 : (List S39)) (a2 : Int) (v8 : Bool) : Option Bool :=
  f44_r4 m a0 a1 a2 ((v8 || ((a0.fBegin && ((w64 (a2 - (a0.fLeft.length : Int))) != 0)))))
def f44 (m : Nat) (a0 : S64) (a1 : (List S39)) (a2 : Int) : Option Bool :=
  f44_r5 m a0 a1 a2 (((decide (w64 (a2 - (a0.fLeft.length : Int)) < 0)) || (decide (w64 (w64 (a2 + 1) + (a0.fRight.length : Int)) > (a1.length : Int)))))
noncomputable abbrev X44 (n : Nat) : Cx := cxOf Proofs.Try.prog E 44 n
noncomputable def C44 : Code := bodyOf Proofs.Try.prog 44
theorem ok44 (m : Nat) (a0 : S64) (a1 : (List S39)) (a2 : Int) (o : Bool) (h : f44 m a0 a1 a2 = some o) (n : Nat) (hn : m + 2 ≤ n) : Fn Proofs.Try.prog E n 44 [e64 a0, (eL e39) a1, eI a2] (eB o) := by
  obtain ⟨n, rfl⟩ : ∃ q, n = q + 1 := ⟨n - 1, by omega⟩
  unfold f44 at h
  refine Fn.of (by kernel_rfl) (by kernel_rfl) ⟨(.v (.agg [(vP e39 a0.fLeft), (vP e39 a0.fRight), (vB a0.fBegin), (vB a0.fEnd)])) :: (dP e39 a1) :: (dI a2) :: u40 (u40 (u4 [])), []⟩ (by kernel_rfl) ?_
  refine Wp.seq (subc [0] C44) (subc [1] C44) (by kernel_rfl) ?_
  refine Wp.region (by kernel_rfl) ?_
  refine Ops.seg 2 2 (by kernel_rfl) ⟨(.v (.agg [(vP e39 a0.fLeft), (vP e39 a0.fRight), (vB a0.fBegin), (vB a0.fEnd)])) :: (dP e39 a1) :: (dI a2) :: (.ptr 0 0) :: u2 ((dB false) :: u40 (u40 [])), [(.cells [(dP e39 a0.fLeft), (dP e39 a0.fRight), (dB a0.fBegin), (dB a0.fEnd)])]⟩ (by kernel_rfl) ?_
  refine Ops.done (by kernel_rfl) ?_
  refine seqQ.n ?_
  refine Wp.seq (subc [1, 0] C44) (subc [1, 1] C44) (by kernel_rfl) ?_
  refine Wp.region (by kernel_rfl) ?_
  refine Ops.seg 3 3 (by kernel_rfl) ⟨(.v (.agg [(vP e39 a0.fLeft), (vP e39 a0.fRight), (vB a0.fBegin), (vB a0.fEnd)])) :: (dP e39 a1) :: (dI a2) :: (.ptr 0 0) :: u2 ((dB false) :: u6 ((dI a2) :: (.ptr 0 0) :: (dP e39 a0.fLeft) :: u40 (u31 []))), [(.cells [(dP e39 a0.fLeft), (dP e39 a0.fRight), (dB a0.fBegin), (dB a0.fEnd)])]⟩ (by kernel_rfl) ?_
  refine Ops.one 4 (by kernel_rfl) ((lenD (X44 n).E.T 37 (D.unt (dP e39 a0.fLeft))).map (·, [(.cells [(dP e39 a0.fLeft), (dP e39 a0.fRight), (dB a0.fBegin), (dB a0.fEnd)])])) (dI ((a0.fLeft.length : Int))) [(.cells [(dP e39 a0.fLeft), (dP e39 a0.fRight), (dB a0.fBegin), (dB a0.fEnd)])] ⟨(.v (.agg [(vP e39 a0.fLeft), (vP e39 a0.fRight), (vB a0.fBegin), (vB a0.fEnd)])) :: (dP e39 a1) :: (dI a2) :: (.ptr 0 0) :: u2 ((dB false) :: u6 ((dI a2) :: (.ptr 0 0) :: (dP e39 a0.fLeft) :: (dI ((a0.fLeft.length : Int))) :: u40 (u30 []))), [(.cells [(dP e39 a0.fLeft), (dP e39 a0.fRight), (dB a0.fBegin), (dB a0.fEnd)])]⟩ (by kernel_rfl) (len_r _ 37 40 .plain e39 a0.fLeft (by kernel_rfl)) (by kernel_rfl) ?_
  refine Ops.seg 5 9 (by kernel_rfl) ⟨(.v (.agg [(vP e39 a0.fLeft), (vP e39 a0.fRight), (vB a0.fBegin), (vB a0.fEnd)])) :: (dP e39 a1) :: (dI a2) :: (.ptr 0 0) :: u2 ((dB false) :: u6 ((dI a2) :: (.ptr 0 0) :: (dP e39 a0.fLeft) :: (dI ((a0.fLeft.length : Int))) :: (dI (w64 (a2 - (a0.fLeft.length : Int)))) :: (dI a2) :: (dI (w64 (a2 + 1))) :: (.ptr 0 1) :: (dP e39 a0.fRight) :: u40 (u25 []))), [(.cells [(dP e39 a0.fLeft), (dP e39 a0.fRight), (dB a0.fBegin), (dB a0.fEnd)])]⟩ (by kernel_rfl) ?_
  refine Ops.one 10 (by kernel_rfl) ((lenD (X44 n).E.T 37 (D.unt (dP e39 a0.fRight))).map (·, [(.cells [(dP e39 a0.fLeft), (dP e39 a0.fRight), (dB a0.fBegin), (dB a0.fEnd)])])) (dI ((a0.fRight.length : Int))) [(.cells [(dP e39 a0.fLeft), (dP e39 a0.fRight), (dB a0.fBegin), (dB a0.fEnd)])] ⟨(.v (.agg [(vP e39 a0.fLeft), (vP e39 a0.fRight), (vB a0.fBegin), (vB a0.fEnd)])) :: (dP e39 a1) :: (dI a2) :: (.ptr 0 0) :: u2 ((dB false) :: u6 ((dI a2) :: (.ptr 0 0) :: (dP e39 a0.fLeft) :: (dI ((a0.fLeft.length : Int))) :: (dI (w64 (a2 - (a0.fLeft.length : Int)))) :: (dI a2) :: (dI (w64 (a2 + 1))) :: (.ptr 0 1) :: (dP e39 a0.fRight) :: (dI ((a0.fRight.length : Int))) :: u40 (u24 []))), [(.cells [(dP e39 a0.fLeft), (dP e39 a0.fRight), (dB a0.fBegin), (dB a0.fEnd)])]⟩ (by kernel_rfl) (len_r _ 37 40 .plain e39 a0.fRight (by kernel_rfl)) (by kernel_rfl) ?_
  refine Ops.seg 3 13 (by kernel_rfl) ⟨(.v (.agg [(vP e39 a0.fLeft), (vP e39 a0.fRight), (vB a0.fBegin), (vB a0.fEnd)])) :: (dP e39 a1) :: (dI a2) :: (.ptr 0 0) :: u2 ((dB false) :: (dI (w64 (a2 - (a0.fLeft.length : Int)))) :: (dI (w64 (w64 (a2 + 1) + (a0.fRight.length : Int)))) :: u4 ((dI a2) :: (.ptr 0 0) :: (dP e39 a0.fLeft) :: (dI ((a0.fLeft.length : Int))) :: (dI (w64 (a2 - (a0.fLeft.length : Int)))) :: (dI a2) :: (dI (w64 (a2 + 1))) :: (.ptr 0 1) :: (dP e39 a0.fRight) :: (dI ((a0.fRight.length : Int))) :: (dI (w64 (w64 (a2 + 1) + (a0.fRight.length : Int)))) :: u40 (u23 []))), [(.cells [(dP e39 a0.fLeft), (dP e39 a0.fRight), (dB a0.fBegin), (dB a0.fEnd)])]⟩ (by kernel_rfl) ?_
  refine Ops.done (by kernel_rfl) ?_
  refine seqQ.n ?_
  refine Wp.seq (subc [1, 1, 0] C44) (subc [1, 1, 1] C44) (by kernel_rfl) ?_
  refine Wp.seq (subc [1, 1, 0, 0] C44) (subc [1, 1, 0, 1] C44) (by kernel_rfl) ?_
  refine Wp.region (by kernel_rfl) ?_
  refine Ops.seg 3 3 (by kernel_rfl) ⟨(.v (.agg [(vP e39 a0.fLeft), (vP e39 a0.fRight), (vB a0.fBegin), (vB a0.fEnd)])) :: (dP e39 a1) :: (dI a2) :: (.ptr 0 0) :: u2 ((dB false) :: (dI (w64 (a2 - (a0.fLeft.length : Int)))) :: (dI (w64 (w64 (a2 + 1) + (a0.fRight.length : Int)))) :: u4 ((dI a2) :: (.ptr 0 0) :: (dP e39 a0.fLeft) :: (dI ((a0.fLeft.length : Int))) :: (dI (w64 (a2 - (a0.fLeft.length : Int)))) :: (dI a2) :: (dI (w64 (a2 + 1))) :: (.ptr 0 1) :: (dP e39 a0.fRight) :: (dI ((a0.fRight.length : Int))) :: (dI (w64 (w64 (a2 + 1) + (a0.fRight.length : Int)))) :: (dI (w64 (a2 - (a0.fLeft.length : Int)))) :: (dB (decide (w64 (a2 - (a0.fLeft.length : Int)) < 0))) :: (dB (decide (w64 (a2 - (a0.fLeft.length : Int)) < 0))) :: u40 (u20 []))), [(.cells [(dP e39 a0.fLeft), (dP e39 a0.fRight), (dB a0.fBegin), (dB a0.fEnd)])]⟩ (by kernel_rfl) ?_
  have J44j9 : ∀ (d3 d4 d5 d6 : D) (v7 : Bool) (v8 : Bool), f44_r5 m a0 a1 a2 v8 = some o → Ops (X44 n) (opl (subc [1, 1, 0, 0] C44)) 8 ⟨(.v (.agg [(vP e39 a0.fLeft), (vP e39 a0.fRight), (vB a0.fBegin), (vB a0.fEnd)])) :: (dP e39 a1) :: (dI a2) :: (.ptr 0 0) :: u2 ((dB false) :: (dI (w64 (a2 - (a0.fLeft.length : Int)))) :: (dI (w64 (w64 (a2 + 1) + (a0.fRight.length : Int)))) :: u4 ((dI a2) :: (.ptr 0 0) :: (dP e39 a0.fLeft) :: (dI ((a0.fLeft.length : Int))) :: (dI (w64 (a2 - (a0.fLeft.length : Int)))) :: (dI a2) :: (dI (w64 (a2 + 1))) :: (.ptr 0 1) :: (dP e39 a0.fRight) :: (dI ((a0.fRight.length : Int))) :: (dI (w64 (w64 (a2 + 1) + (a0.fRight.length : Int)))) :: (dI (w64 (a2 - (a0.fLeft.length : Int)))) :: (dB v7) :: (dB v7) :: d3 :: d4 :: d5 :: d6 :: (dB v8) :: u40 (u15 []))), [(.cells [(dP e39 a0.fLeft), (dP e39 a0.fRight), (dB a0.fBegin), (dB a0.fEnd)])]⟩ ((seqQ (X44 n) (subc [1, 1, 0, 1] C44) (seqQ (X44 n) (subc [1, 1, 1] C44) (fnQ (X44 n).E.T (resOf Proofs.Try.prog 44) (eB o)))) .normal) := by
    intro d3 d4 d5 d6 v7 v8 h
    unfold f44_r5 at h
    refine Ops.seg 1 9 (by kernel_rfl) ⟨(.v (.agg [(vP e39 a0.fLeft), (vP e39 a0.fRight), (vB a0.fBegin), (vB a0.fEnd)])) :: (dP e39 a1) :: (dI a2) :: (.ptr 0 0) :: u2 ((dB false) :: (dI (w64 (a2 - (a0.fLeft.length : Int)))) :: (dI (w64 (w64 (a2 + 1) + (a0.fRight.length : Int)))) :: u4 ((dI a2) :: (.ptr 0 0) :: (dP e39 a0.fLeft) :: (dI ((a0.fLeft.length : Int))) :: (dI (w64 (a2 - (a0.fLeft.length : Int)))) :: (dI a2) :: (dI (w64 (a2 + 1))) :: (.ptr 0 1) :: (dP e39 a0.fRight) :: (dI ((a0.fRight.length : Int))) :: (dI (w64 (w64 (a2 + 1) + (a0.fRight.length : Int)))) :: (dI (w64 (a2 - (a0.fLeft.length : Int)))) :: (dB v7) :: (dB v7) :: d3 :: d4 :: d5 :: d6 :: (dB v8) :: (dB v8) :: u40 (u14 []))), [(.cells [(dP e39 a0.fLeft), (dP e39 a0.fRight), (dB a0.fBegin), (dB a0.fEnd)])]⟩ (by kernel_rfl) ?_
    have J44j20 : ∀ (d12 d13 d14 d15 d16 d17 : D) (v18 : Bool) (v19 : Bool), f44_r4 m a0 a1 a2 v19 = some o → Ops (X44 n) (opl (subc [1, 1, 0, 0] C44)) 16 ⟨(.v (.agg [(vP e39 a0.fLeft), (vP e39 a0.fRight), (vB a0.fBegin), (vB a0.fEnd)])) :: (dP e39 a1) :: (dI a2) :: (.ptr 0 0) :: u2 ((dB false) :: (dI (w64 (a2 - (a0.fLeft.length : Int)))) :: (dI (w64 (w64 (a2 + 1) + (a0.fRight.length : Int)))) :: u4 ((dI a2) :: (.ptr 0 0) :: (dP e39 a0.fLeft) :: (dI ((a0.fLeft.length : Int))) :: (dI (w64 (a2 - (a0.fLeft.length : Int)))) :: (dI a2) :: (dI (w64 (a2 + 1))) :: (.ptr 0 1) :: (dP e39 a0.fRight) :: (dI ((a0.fRight.length : Int))) :: (dI (w64 (w64 (a2 + 1) + (a0.fRight.length : Int)))) :: (dI (w64 (a2 - (a0.fLeft.length : Int)))) :: (dB v7) :: (dB v7) :: d3 :: d4 :: d5 :: d6 :: (dB v18) :: (dB v18) :: d12 :: d13 :: d14 :: d15 :: d16 :: d17 :: (dB v19) :: u40 (u7 []))), [(.cells [(dP e39 a0.fLeft), (dP e39 a0.fRight), (dB a0.fBegin), (dB a0.fEnd)])]⟩ ((seqQ (X44 n) (subc [1, 1, 0, 1] C44) (seqQ (X44 n) (subc [1, 1, 1] C44) (fnQ (X44 n).E.T (resOf Proofs.Try.prog 44) (eB o)))) .normal) := by
      intro d12 d13 d14 d15 d16 d17 v18 v19 h
      unfold f44_r4 at h
      refine Ops.seg 1 17 (by kernel_rfl) ⟨(.v (.agg [(vP e39 a0.fLeft), (vP e39 a0.fRight), (vB a0.fBegin), (vB a0.fEnd)])) :: (dP e39 a1) :: (dI a2) :: (.ptr 0 0) :: u2 ((dB false) :: (dI (w64 (a2 - (a0.fLeft.length : Int)))) :: (dI (w64 (w64 (a2 + 1) + (a0.fRight.length : Int)))) :: u4 ((dI a2) :: (.ptr 0 0) :: (dP e39 a0.fLeft) :: (dI ((a0.fLeft.length : Int))) :: (dI (w64 (a2 - (a0.fLeft.length : Int)))) :: (dI a2) :: (dI (w64 (a2 + 1))) :: (.ptr 0 1) :: (dP e39 a0.fRight) :: (dI ((a0.fRight.length : Int))) :: (dI (w64 (w64 (a2 + 1) + (a0.fRight.length : Int)))) :: (dI (w64 (a2 - (a0.fLeft.length : Int)))) :: (dB v7) :: (dB v7) :: d3 :: d4 :: d5 :: d6 :: (dB v18) :: (dB v18) :: d12 :: d13 :: d14 :: d15 :: d16 :: d17 :: (dB v19) :: (dB v19) :: u40 (u6 []))), [(.cells [(dP e39 a0.fLeft), (dP e39 a0.fRight), (dB a0.fBegin), (dB a0.fEnd)])]⟩ (by kernel_rfl) ?_
      have J44j33 : ∀ (d23 d24 d25 d26 d27 d28 d29 d30 : D) (v31 : Bool) (v32 : Bool), f44_r3 m a0 a1 a2 v32 = some o → Ops (X44 n) (opl (subc [1, 1, 0, 0] C44)) 26 ⟨(.v (.agg [(vP e39 a0.fLeft), (vP e39 a0.fRight), (vB a0.fBegin), (vB a0.fEnd)])) :: (dP e39 a1) :: (dI a2) :: (.ptr 0 0) :: u2 ((dB false) :: (dI (w64 (a2 - (a0.fLeft.length : Int)))) :: (dI (w64 (w64 (a2 + 1) + (a0.fRight.length : Int)))) :: u4 ((dI a2) :: (.ptr 0 0) :: (dP e39 a0.fLeft) :: (dI ((a0.fLeft.length : Int))) :: (dI (w64 (a2 - (a0.fLeft.length : Int)))) :: (dI a2) :: (dI (w64 (a2 + 1))) :: (.ptr 0 1) :: (dP e39 a0.fRight) :: (dI ((a0.fRight.length : Int))) :: (dI (w64 (w64 (a2 + 1) + (a0.fRight.length : Int)))) :: (dI (w64 (a2 - (a0.fLeft.length : Int)))) :: (dB v7) :: (dB v7) :: d3 :: d4 :: d5 :: d6 :: (dB v18) :: (dB v18) :: d12 :: d13 :: d14 :: d15 :: d16 :: d17 :: (dB v31) :: (dB v31) :: d23 :: d24 :: d25 :: d26 :: d27 :: d28 :: d29 :: d30 :: (dB v32) :: u37 [])), [(.cells [(dP e39 a0.fLeft), (dP e39 a0.fRight), (dB a0.fBegin), (dB a0.fEnd)])]⟩ ((seqQ (X44 n) (subc [1, 1, 0, 1] C44) (seqQ (X44 n) (subc [1, 1, 1] C44) (fnQ (X44 n).E.T (resOf Proofs.Try.prog 44) (eB o)))) .normal) := by
        intro d23 d24 d25 d26 d27 d28 d29 d30 v31 v32 h
        unfold f44_r3 at h
        refine Ops.done (by kernel_rfl) ?_
        refine seqQ.n ?_
        rcases cnd_some h with ⟨hb, h⟩ | ⟨hb, h⟩
        · refine Wp.cond v32 [1, 2, 3, 6, 7] (by kernel_rfl) 1 (by kernel_rfl) (subc [1, 1, 0, 1, 0] C44) (subc [1, 1, 0, 1, 1] C44) (by kernel_rfl) (by kernel_rfl) (fun _ => ?_) (fun e => nomatch (hb.symm.trans e))
          refine Wp.seq (subc [1, 1, 0, 1, 0, 0] C44) (subc [1, 1, 0, 1, 0, 1] C44) (by kernel_rfl) ?_
          refine Wp.region (by kernel_rfl) ?_
          refine Ops.seg 1 1 (by kernel_rfl) ⟨(.v (.agg [(vP e39 a0.fLeft), (vP e39 a0.fRight), (vB a0.fBegin), (vB a0.fEnd)])) :: (dP e39 a1) :: (dI a2) :: (.ptr 0 0) :: u2 ((dB false) :: (dI (w64 (a2 - (a0.fLeft.length : Int)))) :: (dI (w64 (w64 (a2 + 1) + (a0.fRight.length : Int)))) :: u4 ((dI a2) :: (.ptr 0 0) :: (dP e39 a0.fLeft) :: (dI ((a0.fLeft.length : Int))) :: (dI (w64 (a2 - (a0.fLeft.length : Int)))) :: (dI a2) :: (dI (w64 (a2 + 1))) :: (.ptr 0 1) :: (dP e39 a0.fRight) :: (dI ((a0.fRight.length : Int))) :: (dI (w64 (w64 (a2 + 1) + (a0.fRight.length : Int)))) :: (dI (w64 (a2 - (a0.fLeft.length : Int)))) :: (dB v7) :: (dB v7) :: d3 :: d4 :: d5 :: d6 :: (dB v18) :: (dB v18) :: d12 :: d13 :: d14 :: d15 :: d16 :: d17 :: (dB v31) :: (dB v31) :: d23 :: d24 :: d25 :: d26 :: d27 :: d28 :: d29 :: d30 :: (dB v32) :: u37 [])), [(.cells [(dP e39 a0.fLeft), (dP e39 a0.fRight), (dB a0.fBegin), (dB a0.fEnd)])]⟩ (by kernel_rfl) ?_
          refine Ops.done (by kernel_rfl) ?_
          refine seqQ.n ?_
          refine Wp.ret (by kernel_rfl) ?_
          refine sqQ.r ?_
          refine seqQ.r ?_
          exact fnQ.r' (X44 n) (fun z => (eB z)) h (RetOk.mk' (dB false) (by kernel_rfl) (by kernel_rfl))
        · refine Wp.cond v32 [1, 2, 3, 6, 7] (by kernel_rfl) 1 (by kernel_rfl) (subc [1, 1, 0, 1, 0] C44) (subc [1, 1, 0, 1, 1] C44) (by kernel_rfl) (by kernel_rfl) (fun e => nomatch (hb.symm.trans e)) (fun _ => ?_)
          refine Wp.skip (by kernel_rfl) ?_
          refine sqQ.n ⟨(.v (.agg [(vP e39 a0.fLeft), (vP e39 a0.fRight), (vB a0.fBegin), (vB a0.fEnd)])) :: (dP e39 a1) :: (dI a2) :: (.ptr 0 0) :: u2 ((dB false) :: (dI (w64 (a2 - (a0.fLeft.length : Int)))) :: (dI (w64 (w64 (a2 + 1) + (a0.fRight.length : Int)))) :: u4 ((dI a2) :: (.ptr 0 0) :: (dP e39 a0.fLeft) :: (dI ((a0.fLeft.length : Int))) :: (dI (w64 (a2 - (a0.fLeft.length : Int)))) :: (dI a2) :: (dI (w64 (a2 + 1))) :: (.ptr 0 1) :: (dP e39 a0.fRight) :: (dI ((a0.fRight.length : Int))) :: (dI (w64 (w64 (a2 + 1) + (a0.fRight.length : Int)))) :: (dI (w64 (a2 - (a0.fLeft.length : Int)))) :: (dB v7) :: (dB v7) :: d3 :: d4 :: d5 :: d6 :: (dB v18) :: (dB v18) :: d12 :: d13 :: d14 :: d15 :: d16 :: d17 :: (dB v31) :: (dB v31) :: d23 :: d24 :: d25 :: d26 :: d27 :: d28 :: d29 :: d30 :: (dB v32) :: u37 [])), [(.cells [(dP e39 a0.fLeft), (dP e39 a0.fRight), (dB a0.fBegin), (dB a0.fEnd)])]⟩ (by kernel_rfl) ?_
          refine seqQ.n ?_
          refine Wp.seq (subc [1, 1, 1, 0] C44) (subc [1, 1, 1, 1] C44) (by kernel_rfl) ?_
          refine Wp.seq (subc [1, 1, 1, 0, 0] C44) (subc [1, 1, 1, 0, 1] C44) (by kernel_rfl) ?_
          refine Wp.region (by kernel_rfl) ?_
          refine Ops.seg 2 2 (by kernel_rfl) ⟨(.v (.agg [(vP e39 a0.fLeft), (vP e39 a0.fRight), (vB a0.fBegin), (vB a0.fEnd)])) :: (dP e39 a1) :: (dI a2) :: (.ptr 0 0) :: u2 ((dB false) :: (dI (w64 (a2 - (a0.fLeft.length : Int)))) :: (dI (w64 (w64 (a2 + 1) + (a0.fRight.length : Int)))) :: u4 ((dI a2) :: (.ptr 0 0) :: (dP e39 a0.fLeft) :: (dI ((a0.fLeft.length : Int))) :: (dI (w64 (a2 - (a0.fLeft.length : Int)))) :: (dI a2) :: (dI (w64 (a2 + 1))) :: (.ptr 0 1) :: (dP e39 a0.fRight) :: (dI ((a0.fRight.length : Int))) :: (dI (w64 (w64 (a2 + 1) + (a0.fRight.length : Int)))) :: (dI (w64 (a2 - (a0.fLeft.length : Int)))) :: (dB v7) :: (dB v7) :: d3 :: d4 :: d5 :: d6 :: (dB v18) :: (dB v18) :: d12 :: d13 :: d14 :: d15 :: d16 :: d17 :: (dB v31) :: (dB v31) :: d23 :: d24 :: d25 :: d26 :: d27 :: d28 :: d29 :: d30 :: (dB v32) :: (.ptr 0 0) :: (dP e39 a0.fLeft) :: u35 [])), [(.cells [(dP e39 a0.fLeft), (dP e39 a0.fRight), (dB a0.fBegin), (dB a0.fEnd)])]⟩ (by kernel_rfl) ?_
          refine Ops.one 3 (by kernel_rfl) ((lenD (X44 n).E.T 37 (D.unt (dP e39 a0.fLeft))).map (·, [(.cells [(dP e39 a0.fLeft), (dP e39 a0.fRight), (dB a0.fBegin), (dB a0.fEnd)])])) (dI ((a0.fLeft.length : Int))) [(.cells [(dP e39 a0.fLeft), (dP e39 a0.fRight), (dB a0.fBegin), (dB a0.fEnd)])] ⟨(.v (.agg [(vP e39 a0.fLeft), (vP e39 a0.fRight), (vB a0.fBegin), (vB a0.fEnd)])) :: (dP e39 a1) :: (dI a2) :: (.ptr 0 0) :: u2 ((dB false) :: (dI (w64 (a2 - (a0.fLeft.length : Int)))) :: (dI (w64 (w64 (a2 + 1) + (a0.fRight.length : Int)))) :: u4 ((dI a2) :: (.ptr 0 0) :: (dP e39 a0.fLeft) :: (dI ((a0.fLeft.length : Int))) :: (dI (w64 (a2 - (a0.fLeft.length : Int)))) :: (dI a2) :: (dI (w64 (a2 + 1))) :: (.ptr 0 1) :: (dP e39 a0.fRight) :: (dI ((a0.fRight.length : Int))) :: (dI (w64 (w64 (a2 + 1) + (a0.fRight.length : Int)))) :: (dI (w64 (a2 - (a0.fLeft.length : Int)))) :: (dB v7) :: (dB v7) :: d3 :: d4 :: d5 :: d6 :: (dB v18) :: (dB v18) :: d12 :: d13 :: d14 :: d15 :: d16 :: d17 :: (dB v31) :: (dB v31) :: d23 :: d24 :: d25 :: d26 :: d27 :: d28 :: d29 :: d30 :: (dB v32) :: (.ptr 0 0) :: (dP e39 a0.fLeft) :: (dI ((a0.fLeft.length : Int))) :: u34 [])), [(.cells [(dP e39 a0.fLeft), (dP e39 a0.fRight), (dB a0.fBegin), (dB a0.fEnd)])]⟩ (by kernel_rfl) (len_r _ 37 40 .plain e39 a0.fLeft (by kernel_rfl)) (by kernel_rfl) ?_
          refine Ops.seg 1 4 (by kernel_rfl) ⟨(.v (.agg [(vP e39 a0.fLeft), (vP e39 a0.fRight), (vB a0.fBegin), (vB a0.fEnd)])) :: (dP e39 a1) :: (dI a2) :: (.ptr 0 0) :: u2 ((dB false) :: (dI (w64 (a2 - (a0.fLeft.length : Int)))) :: (dI (w64 (w64 (a2 + 1) + (a0.fRight.length : Int)))) :: u4 ((dI a2) :: (.ptr 0 0) :: (dP e39 a0.fLeft) :: (dI ((a0.fLeft.length : Int))) :: (dI (w64 (a2 - (a0.fLeft.length : Int)))) :: (dI a2) :: (dI (w64 (a2 + 1))) :: (.ptr 0 1) :: (dP e39 a0.fRight) :: (dI ((a0.fRight.length : Int))) :: (dI (w64 (w64 (a2 + 1) + (a0.fRight.length : Int)))) :: (dI (w64 (a2 - (a0.fLeft.length : Int)))) :: (dB v7) :: (dB v7) :: d3 :: d4 :: d5 :: d6 :: (dB v18) :: (dB v18) :: d12 :: d13 :: d14 :: d15 :: d16 :: d17 :: (dB v31) :: (dB v31) :: d23 :: d24 :: d25 :: d26 :: d27 :: d28 :: d29 :: d30 :: (dB v32) :: (.ptr 0 0) :: (dP e39 a0.fLeft) :: (dI ((a0.fLeft.length : Int))) :: (dI 0) :: u33 [])), [(.cells [(dP e39 a0.fLeft), (dP e39 a0.fRight), (dB a0.fBegin), (dB a0.fEnd)])]⟩ (by kernel_rfl) ?_
          refine Ops.done (by kernel_rfl) ?_
          refine seqQ.n ?_
          refine Wp.block (id := 0) [1, 2, 3, 6] (by kernel_rfl) 1 (by kernel_rfl) (subc [1, 1, 1, 0, 1, 0] C44) (by kernel_rfl) ?_
          have hLx54 : ∀ (kx43 : Nat) (v41 : Int)  (ox42 : Bool ⊕ (Int)), iter (fun (y : Int) => f44_B1 m a0 a1 a2 y) kx43 v41 = some ox42 → ∀ nx44, kx43 ≤ nx44 → (∀ r, ox42 = .inl r → ∀ σ, RetOk (X44 n) (resOf Proofs.Try.prog 44) (eB r) σ → (seqQ (X44 n) (subc [1, 1, 1, 1] C44) (fnQ (X44 n).E.T (resOf Proofs.Try.prog 44) (eB o))) .ret σ) → (∀ (y : Int) , ox42 = .inr y → (seqQ (X44 n) (subc [1, 1, 1, 1] C44) (fnQ (X44 n).E.T (resOf Proofs.Try.prog 44) (eB o))) .normal ⟨q1 ((dP e39 a1) :: (dI a2) :: (.ptr 0 0) :: q2 ((dB false) :: (dI (w64 (a2 - (a0.fLeft.length : Int)))) :: q40 (q3 ((dP e39 a0.fLeft) :: (dI ((a0.fLeft.length : Int))) :: (dI y) :: q33 [])))), [(.cells [(dP e39 a0.fLeft), (dP e39 a0.fRight), (dB a0.fBegin), (dB a0.fEnd)])]⟩) → Lp (X44 n) [1, 2, 3, 6, 7, 51, 52, 53] 1 (subc [1, 1, 1, 0, 1, 0, 0] C44) nx44 ⟨q1 ((dP e39 a1) :: (dI a2) :: (.ptr 0 0) :: q2 ((dB false) :: (dI (w64 (a2 - (a0.fLeft.length : Int)))) :: q40 (q3 ((dP e39 a0.fLeft) :: (dI ((a0.fLeft.length : Int))) :: (dI v41) :: q33 [])))), [(.cells [(dP e39 a0.fLeft), (dP e39 a0.fRight), (dB a0.fBegin), (dB a0.fEnd)])]⟩ (blkQ (X44 n) 0 [1, 2, 3, 6] 1 (seqQ (X44 n) (subc [1, 1, 1, 1] C44) (fnQ (X44 n).E.T (resOf Proofs.Try.prog 44) (eB o)))) := by
            intro kx43
            induction kx43 with
            | zero => intro v41  ox42 h; exact (iter_zero h).elim
            | succ kx43 ihx45 =>
              intro v41  ox42 h nx44 hnx48 hrx46 hxx47
              obtain ⟨nx44, rfl⟩ : ∃ q, nx44 = q + 1 := ⟨nx44 - 1, by omega⟩
              obtain ⟨sx49, h, hsx50⟩ := iter_some h
              have h : f44_B1 m a0 a1 a2 v41 = some sx49 := h
              unfold f44_B1 at h
              refine Lp.succ ?_
              refine Wp.seq (subc [1, 1, 1, 0, 1, 0, 0, 0] C44) (subc [1, 1, 1, 0, 1, 0, 0, 1] C44) (by kernel_rfl) ?_
              refine Wp.region (by kernel_rfl) ?_
              refine Ops.seg 1 1 (by kernel_rfl) ⟨q1 ((dP e39 a1) :: (dI a2) :: (.ptr 0 0) :: q2 ((dB false) :: (dI (w64 (a2 - (a0.fLeft.length : Int)))) :: q40 (q3 ((dP e39 a0.fLeft) :: (dI ((a0.fLeft.length : Int))) :: (dI v41) :: (dB (decide (v41 < (a0.fLeft.length : Int)))) :: q32 [])))), [(.cells [(dP e39 a0.fLeft), (dP e39 a0.fRight), (dB a0.fBegin), (dB a0.fEnd)])]⟩ (by kernel_rfl) ?_
              refine Ops.done (by kernel_rfl) ?_
              refine seqQ.n ?_
              refine Wp.seq (subc [1, 1, 1, 0, 1, 0, 0, 1, 0] C44) (subc [1, 1, 1, 0, 1, 0, 0, 1, 1] C44) (by kernel_rfl) ?_
              rcases cnd_some h with ⟨hb, h⟩ | ⟨hb, h⟩
              · refine Wp.cond (decide (v41 < (a0.fLeft.length : Int))) [1, 2, 3, 6, 7, 51, 52, 53] (by kernel_rfl) 1 (by kernel_rfl) (subc [1, 1, 1, 0, 1, 0, 0, 1, 0, 0] C44) (subc [1, 1, 1, 0, 1, 0, 0, 1, 0, 1] C44) (by kernel_rfl) (by kernel_rfl) (fun _ => ?_) (fun e => nomatch (hb.symm.trans e))
                refine Wp.skip (by kernel_rfl) ?_
                refine sqQ.n ⟨q1 ((dP e39 a1) :: (dI a2) :: (.ptr 0 0) :: q2 ((dB false) :: (dI (w64 (a2 - (a0.fLeft.length : Int)))) :: q40 (q3 ((dP e39 a0.fLeft) :: (dI ((a0.fLeft.length : Int))) :: (dI v41) :: (dB (decide (v41 < (a0.fLeft.length : Int)))) :: q32 [])))), [(.cells [(dP e39 a0.fLeft), (dP e39 a0.fRight), (dB a0.fBegin), (dB a0.fEnd)])]⟩ (by kernel_rfl) ?_
                refine seqQ.n ?_
                refine Wp.seq (subc [1, 1, 1, 0, 1, 0, 0, 1, 1, 0] C44) (subc [1, 1, 1, 0, 1, 0, 0, 1, 1, 1] C44) (by kernel_rfl) ?_
                refine Wp.block (id := 1) [1, 2, 3, 6, 7, 51, 52, 53] (by kernel_rfl) 1 (by kernel_rfl) (subc [1, 1, 1, 0, 1, 0, 0, 1, 1, 0, 0] C44) (by kernel_rfl) ?_
                refine Wp.seq (subc [1, 1, 1, 0, 1, 0, 0, 1, 1, 0, 0, 0] C44) (subc [1, 1, 1, 0, 1, 0, 0, 1, 1, 0, 0, 1] C44) (by kernel_rfl) ?_
                refine Wp.region (by kernel_rfl) ?_
                refine Ops.seg 1 1 (by kernel_rfl) ⟨q1 ((dP e39 a1) :: (dI a2) :: (.ptr 0 0) :: q2 ((dB false) :: (dI (w64 (a2 - (a0.fLeft.length : Int)))) :: q40 (q3 ((dP e39 a0.fLeft) :: (dI ((a0.fLeft.length : Int))) :: (dI v41) :: (dB (decide (v41 < (a0.fLeft.length : Int)))) :: (dI v41) :: q31 [])))), [(.cells [(dP e39 a0.fLeft), (dP e39 a0.fRight), (dB a0.fBegin), (dB a0.fEnd)])]⟩ (by kernel_rfl) ?_
                obtain ⟨v51, ev51, h⟩ := bnd_some h
                refine Ops.one 2 (by kernel_rfl) ((indexAddrH (X44 n).E.T [(.cells [(dP e39 a0.fLeft), (dP e39 a0.fRight), (dB a0.fBegin), (dB a0.fEnd)])] 37 (D.unt (dP e39 a0.fLeft)) (dI v41)).map (·, [(.cells [(dP e39 a0.fLeft), (dP e39 a0.fRight), (dB a0.fBegin), (dB a0.fEnd)])])) (.vptr [(vI v51.fLexical), (vI v51.fSurface)]) [(.cells [(dP e39 a0.fLeft), (dP e39 a0.fRight), (dB a0.fBegin), (dB a0.fEnd)])] ⟨q1 ((dP e39 a1) :: (dI a2) :: (.ptr 0 0) :: q2 ((dB false) :: (dI (w64 (a2 - (a0.fLeft.length : Int)))) :: q40 (q3 ((dP e39 a0.fLeft) :: (dI ((a0.fLeft.length : Int))) :: (dI v41) :: (dB (decide (v41 < (a0.fLeft.length : Int)))) :: (dI v41) :: (.vptr [(vI v51.fLexical), (vI v51.fSurface)]) :: q30 [])))), [(.cells [(dP e39 a0.fLeft), (dP e39 a0.fRight), (dB a0.fBegin), (dB a0.fEnd)])]⟩ (by kernel_rfl) (ix_r _ 37 40 2 .plain e39 a0.fLeft v41 v51 ev51 (by kernel_rfl) (by kernel_rfl) (fun _ => rfl)) (by kernel_rfl) ?_
                refine Ops.seg 4 6 (by kernel_rfl) ⟨q1 ((dP e39 a1) :: (dI a2) :: (.ptr 0 0) :: q2 ((dB false) :: (dI (w64 (a2 - (a0.fLeft.length : Int)))) :: q1 ((dI v41) :: (.ptr 1 0) :: q40 ((dP e39 a0.fLeft) :: (dI ((a0.fLeft.length : Int))) :: (dI v41) :: (dB (decide (v41 < (a0.fLeft.length : Int)))) :: (dI v41) :: (.vptr [(vI v51.fLexical), (vI v51.fSurface)]) :: (.v (.agg [(vI v51.fLexical), (vI v51.fSurface)])) :: q29 [])))), [(.cells [(dP e39 a0.fLeft), (dP e39 a0.fRight), (dB a0.fBegin), (dB a0.fEnd)]), (.cells [(dI v51.fLexical), (dI v51.fSurface)])]⟩ (by kernel_rfl) ?_
                refine Ops.done (by kernel_rfl) ?_
                refine seqQ.n ?_
                refine Wp.seq (subc [1, 1, 1, 0, 1, 0, 0, 1, 1, 0, 0, 1, 0] C44) (subc [1, 1, 1, 0, 1, 0, 0, 1, 1, 0, 0, 1, 1] C44) (by kernel_rfl) ?_
                refine Wp.region (by kernel_rfl) ?_
                refine Ops.seg 5 5 (by kernel_rfl) ⟨q1 ((dP e39 a1) :: (dI a2) :: (.ptr 0 0) :: q2 ((dB false) :: (dI (w64 (a2 - (a0.fLeft.length : Int)))) :: q1 ((dI v41) :: (.ptr 1 0) :: q40 ((dP e39 a0.fLeft) :: (dI ((a0.fLeft.length : Int))) :: (dI v41) :: (dB (decide (v41 < (a0.fLeft.length : Int)))) :: (dI v41) :: (.vptr [(vI v51.fLexical), (vI v51.fSurface)]) :: (.v (.agg [(vI v51.fLexical), (vI v51.fSurface)])) :: (.v (.agg [(vI v51.fLexical), (vI v51.fSurface)])) :: (dP e39 a1) :: (dI (w64 (a2 - (a0.fLeft.length : Int)))) :: (dI v41) :: (dI (w64 (w64 (a2 - (a0.fLeft.length : Int)) + v41))) :: q24 [])))), [(.cells [(dP e39 a0.fLeft), (dP e39 a0.fRight), (dB a0.fBegin), (dB a0.fEnd)]), (.cells [(dI v51.fLexical), (dI v51.fSurface)])]⟩ (by kernel_rfl) ?_
                obtain ⟨v52, ev52, h⟩ := bnd_some h
                refine Ops.one 6 (by kernel_rfl) ((indexAddrH (X44 n).E.T [(.cells [(dP e39 a0.fLeft), (dP e39 a0.fRight), (dB a0.fBegin), (dB a0.fEnd)]), (.cells [(dI v51.fLexical), (dI v51.fSurface)])] 37 (D.unt (dP e39 a1)) (dI (w64 (w64 (a2 - (a0.fLeft.length : Int)) + v41)))).map (·, [(.cells [(dP e39 a0.fLeft), (dP e39 a0.fRight), (dB a0.fBegin), (dB a0.fEnd)]), (.cells [(dI v51.fLexical), (dI v51.fSurface)])])) (.vptr [(vI v52.fLexical), (vI v52.fSurface)]) [(.cells [(dP e39 a0.fLeft), (dP e39 a0.fRight), (dB a0.fBegin), (dB a0.fEnd)]), (.cells [(dI v51.fLexical), (dI v51.fSurface)])] ⟨q1 ((dP e39 a1) :: (dI a2) :: (.ptr 0 0) :: q2 ((dB false) :: (dI (w64 (a2 - (a0.fLeft.length : Int)))) :: q1 ((dI v41) :: (.ptr 1 0) :: q40 ((dP e39 a0.fLeft) :: (dI ((a0.fLeft.length : Int))) :: (dI v41) :: (dB (decide (v41 < (a0.fLeft.length : Int)))) :: (dI v41) :: (.vptr [(vI v51.fLexical), (vI v51.fSurface)]) :: (.v (.agg [(vI v51.fLexical), (vI v51.fSurface)])) :: (.v (.agg [(vI v51.fLexical), (vI v51.fSurface)])) :: (dP e39 a1) :: (dI (w64 (a2 - (a0.fLeft.length : Int)))) :: (dI v41) :: (dI (w64 (w64 (a2 - (a0.fLeft.length : Int)) + v41))) :: (.vptr [(vI v52.fLexical), (vI v52.fSurface)]) :: q23 [])))), [(.cells [(dP e39 a0.fLeft), (dP e39 a0.fRight), (dB a0.fBegin), (dB a0.fEnd)]), (.cells [(dI v51.fLexical), (dI v51.fSurface)])]⟩ (by kernel_rfl) (ix_r _ 37 40 2 .plain e39 a1 (w64 (w64 (a2 - (a0.fLeft.length : Int)) + v41)) v52 ev52 (by kernel_rfl) (by kernel_rfl) (fun _ => rfl)) (by kernel_rfl) ?_
                refine Ops.seg 1 7 (by kernel_rfl) ⟨q1 ((dP e39 a1) :: (dI a2) :: (.ptr 0 0) :: q2 ((dB false) :: (dI (w64 (a2 - (a0.fLeft.length : Int)))) :: q1 ((dI v41) :: (.ptr 1 0) :: q40 ((dP e39 a0.fLeft) :: (dI ((a0.fLeft.length : Int))) :: (dI v41) :: (dB (decide (v41 < (a0.fLeft.length : Int)))) :: (dI v41) :: (.vptr [(vI v51.fLexical), (vI v51.fSurface)]) :: (.v (.agg [(vI v51.fLexical), (vI v51.fSurface)])) :: (.v (.agg [(vI v51.fLexical), (vI v51.fSurface)])) :: (dP e39 a1) :: (dI (w64 (a2 - (a0.fLeft.length : Int)))) :: (dI v41) :: (dI (w64 (w64 (a2 - (a0.fLeft.length : Int)) + v41))) :: (.vptr [(vI v52.fLexical), (vI v52.fSurface)]) :: (.v (.agg [(vI v52.fLexical), (vI v52.fSurface)])) :: q22 [])))), [(.cells [(dP e39 a0.fLeft), (dP e39 a0.fRight), (dB a0.fBegin), (dB a0.fEnd)]), (.cells [(dI v51.fLexical), (dI v51.fSurface)])]⟩ (by kernel_rfl) ?_
                obtain ⟨v53, ev53, h⟩ := bnd_some h
                refine Ops.one 8 (by kernel_rfl) (callD (X44 n).E (run Proofs.Try.prog E n) 46 [(.v (.agg [(vI v51.fLexical), (vI v51.fSurface)])), (.v (.agg [(vI v52.fLexical), (vI v52.fSurface)]))] [(.cells [(dP e39 a0.fLeft), (dP e39 a0.fRight), (dB a0.fBegin), (dB a0.fEnd)]), (.cells [(dI v51.fLexical), (dI v51.fSurface)])]) (dB v53) [(.cells [(dP e39 a0.fLeft), (dP e39 a0.fRight), (dB a0.fBegin), (dB a0.fEnd)]), (.cells [(dI v51.fLexical), (dI v51.fSurface)])] ⟨q1 ((dP e39 a1) :: (dI a2) :: (.ptr 0 0) :: q2 ((dB false) :: (dI (w64 (a2 - (a0.fLeft.length : Int)))) :: q1 ((dI v41) :: (.ptr 1 0) :: q40 ((dP e39 a0.fLeft) :: (dI ((a0.fLeft.length : Int))) :: (dI v41) :: (dB (decide (v41 < (a0.fLeft.length : Int)))) :: (dI v41) :: (.vptr [(vI v51.fLexical), (vI v51.fSurface)]) :: (.v (.agg [(vI v51.fLexical), (vI v51.fSurface)])) :: (.v (.agg [(vI v51.fLexical), (vI v51.fSurface)])) :: (dP e39 a1) :: (dI (w64 (a2 - (a0.fLeft.length : Int)))) :: (dI v41) :: (dI (w64 (w64 (a2 - (a0.fLeft.length : Int)) + v41))) :: (.vptr [(vI v52.fLexical), (vI v52.fSurface)]) :: (.v (.agg [(vI v52.fLexical), (vI v52.fSurface)])) :: (dB v53) :: q21 [])))), [(.cells [(dP e39 a0.fLeft), (dP e39 a0.fRight), (dB a0.fBegin), (dB a0.fEnd)]), (.cells [(dI v51.fLexical), (dI v51.fSurface)])]⟩ (by kernel_rfl) (call_ok (by kernel_rfl) (Args.v (.agg [(vI v51.fLexical), (vI v51.fSurface)]) (e39 v51) (by kernel_rfl) (Args.v (.agg [(vI v52.fLexical), (vI v52.fSurface)]) (e39 v52) (by kernel_rfl) Args.nil)) (ok46 m v51 v52 v53 ev53 n (by omega))) (by kernel_rfl) ?_
                refine Ops.seg 1 9 (by kernel_rfl) ⟨q1 ((dP e39 a1) :: (dI a2) :: (.ptr 0 0) :: q2 ((dB false) :: (dI (w64 (a2 - (a0.fLeft.length : Int)))) :: q1 ((dI v41) :: (.ptr 1 0) :: q40 ((dP e39 a0.fLeft) :: (dI ((a0.fLeft.length : Int))) :: (dI v41) :: (dB (decide (v41 < (a0.fLeft.length : Int)))) :: (dI v41) :: (.vptr [(vI v51.fLexical), (vI v51.fSurface)]) :: (.v (.agg [(vI v51.fLexical), (vI v51.fSurface)])) :: (.v (.agg [(vI v51.fLexical), (vI v51.fSurface)])) :: (dP e39 a1) :: (dI (w64 (a2 - (a0.fLeft.length : Int)))) :: (dI v41) :: (dI (w64 (w64 (a2 - (a0.fLeft.length : Int)) + v41))) :: (.vptr [(vI v52.fLexical), (vI v52.fSurface)]) :: (.v (.agg [(vI v52.fLexical), (vI v52.fSurface)])) :: (dB v53) :: (dB (!v53)) :: q20 [])))), [(.cells [(dP e39 a0.fLeft), (dP e39 a0.fRight), (dB a0.fBegin), (dB a0.fEnd)]), (.cells [(dI v51.fLexical), (dI v51.fSurface)])]⟩ (by kernel_rfl) ?_
                refine Ops.done (by kernel_rfl) ?_
                refine seqQ.n ?_
                rcases cnd_some h with ⟨hb, h⟩ | ⟨hb, h⟩
                · refine Wp.cond (!v53) [1, 2, 3, 6, 7, 51, 52, 53] (by kernel_rfl) 2 (by kernel_rfl) (subc [1, 1, 1, 0, 1, 0, 0, 1, 1, 0, 0, 1, 1, 0] C44) (subc [1, 1, 1, 0, 1, 0, 0, 1, 1, 0, 0, 1, 1, 1] C44) (by kernel_rfl) (by kernel_rfl) (fun _ => ?_) (fun e => nomatch (hb.symm.trans e))
                  refine Wp.seq (subc [1, 1, 1, 0, 1, 0, 0, 1, 1, 0, 0, 1, 1, 0, 0] C44) (subc [1, 1, 1, 0, 1, 0, 0, 1, 1, 0, 0, 1, 1, 0, 1] C44) (by kernel_rfl) ?_
                  refine Wp.region (by kernel_rfl) ?_
                  refine Ops.seg 1 1 (by kernel_rfl) ⟨q1 ((dP e39 a1) :: (dI a2) :: (.ptr 0 0) :: q2 ((dB false) :: (dI (w64 (a2 - (a0.fLeft.length : Int)))) :: q1 ((dI v41) :: (.ptr 1 0) :: q40 ((dP e39 a0.fLeft) :: (dI ((a0.fLeft.length : Int))) :: (dI v41) :: (dB (decide (v41 < (a0.fLeft.length : Int)))) :: (dI v41) :: (.vptr [(vI v51.fLexical), (vI v51.fSurface)]) :: (.v (.agg [(vI v51.fLexical), (vI v51.fSurface)])) :: (.v (.agg [(vI v51.fLexical), (vI v51.fSurface)])) :: (dP e39 a1) :: (dI (w64 (a2 - (a0.fLeft.length : Int)))) :: (dI v41) :: (dI (w64 (w64 (a2 - (a0.fLeft.length : Int)) + v41))) :: (.vptr [(vI v52.fLexical), (vI v52.fSurface)]) :: (.v (.agg [(vI v52.fLexical), (vI v52.fSurface)])) :: (dB v53) :: (dB (!v53)) :: q20 [])))), [(.cells [(dP e39 a0.fLeft), (dP e39 a0.fRight), (dB a0.fBegin), (dB a0.fEnd)]), (.cells [(dI v51.fLexical), (dI v51.fSurface)])]⟩ (by kernel_rfl) ?_
                  refine Ops.done (by kernel_rfl) ?_
                  refine seqQ.n ?_
                  refine Wp.ret (by kernel_rfl) ?_
                  refine sqQ.r ?_
                  refine blkQ.r ?_
                  refine seqQ.r ?_
                  cases h
                  refine lpQ.r ?_
                  refine blkQ.r ?_
                  exact hrx46 _ hsx50 _ (RetOk.forget [1, 2, 3, 6, 7, 51, 52, 53] (by kernel_rfl) (RetOk.mk' (dB false) (by kernel_rfl) (by kernel_rfl)))
                · refine Wp.cond (!v53) [1, 2, 3, 6, 7, 51, 52, 53] (by kernel_rfl) 2 (by kernel_rfl) (subc [1, 1, 1, 0, 1, 0, 0, 1, 1, 0, 0, 1, 1, 0] C44) (subc [1, 1, 1, 0, 1, 0, 0, 1, 1, 0, 0, 1, 1, 1] C44) (by kernel_rfl) (by kernel_rfl) (fun e => nomatch (hb.symm.trans e)) (fun _ => ?_)
                  refine Wp.skip (by kernel_rfl) ?_
                  refine sqQ.n ⟨q1 ((dP e39 a1) :: (dI a2) :: (.ptr 0 0) :: q2 ((dB false) :: (dI (w64 (a2 - (a0.fLeft.length : Int)))) :: q1 ((dI v41) :: (.ptr 1 0) :: q40 ((dP e39 a0.fLeft) :: (dI ((a0.fLeft.length : Int))) :: (dI v41) :: (dB (decide (v41 < (a0.fLeft.length : Int)))) :: (dI v41) :: (.vptr [(vI v51.fLexical), (vI v51.fSurface)]) :: (.v (.agg [(vI v51.fLexical), (vI v51.fSurface)])) :: (.v (.agg [(vI v51.fLexical), (vI v51.fSurface)])) :: (dP e39 a1) :: (dI (w64 (a2 - (a0.fLeft.length : Int)))) :: (dI v41) :: (dI (w64 (w64 (a2 - (a0.fLeft.length : Int)) + v41))) :: (.vptr [(vI v52.fLexical), (vI v52.fSurface)]) :: (.v (.agg [(vI v52.fLexical), (vI v52.fSurface)])) :: (dB v53) :: (dB (!v53)) :: q20 [])))), [(.cells [(dP e39 a0.fLeft), (dP e39 a0.fRight), (dB a0.fBegin), (dB a0.fEnd)]), (.cells [(dI v51.fLexical), (dI v51.fSurface)])]⟩ (by kernel_rfl) ?_
                  refine blkQ.n ⟨q1 ((dP e39 a1) :: (dI a2) :: (.ptr 0 0) :: q2 ((dB false) :: (dI (w64 (a2 - (a0.fLeft.length : Int)))) :: q40 (q3 ((dP e39 a0.fLeft) :: (dI ((a0.fLeft.length : Int))) :: (dI v41) :: q33 [])))), [(.cells [(dP e39 a0.fLeft), (dP e39 a0.fRight), (dB a0.fBegin), (dB a0.fEnd)])]⟩ (by kernel_rfl) ?_
                  refine seqQ.n ?_
                  refine Wp.region (by kernel_rfl) ?_
                  refine Ops.seg 2 2 (by kernel_rfl) ⟨q1 ((dP e39 a1) :: (dI a2) :: (.ptr 0 0) :: q2 ((dB false) :: (dI (w64 (a2 - (a0.fLeft.length : Int)))) :: q40 (q3 ((dP e39 a0.fLeft) :: (dI ((a0.fLeft.length : Int))) :: (dI (w64 (v41 + 1))) :: q13 ((dI (w64 (v41 + 1))) :: q19 []))))), [(.cells [(dP e39 a0.fLeft), (dP e39 a0.fRight), (dB a0.fBegin), (dB a0.fEnd)])]⟩ (by kernel_rfl) ?_
                  refine Ops.done (by kernel_rfl) ?_
                  refine lpQ.n ⟨q1 ((dP e39 a1) :: (dI a2) :: (.ptr 0 0) :: q2 ((dB false) :: (dI (w64 (a2 - (a0.fLeft.length : Int)))) :: q40 (q3 ((dP e39 a0.fLeft) :: (dI ((a0.fLeft.length : Int))) :: (dI (w64 (v41 + 1))) :: q33 [])))), [(.cells [(dP e39 a0.fLeft), (dP e39 a0.fRight), (dB a0.fBegin), (dB a0.fEnd)])]⟩ (by kernel_rfl) ?_
                  cases h
                  exact ihx45 (w64 (v41 + 1))  _ hsx50 _ (by omega) hrx46 hxx47
              · refine Wp.cond (decide (v41 < (a0.fLeft.length : Int))) [1, 2, 3, 6, 7, 51, 52, 53] (by kernel_rfl) 1 (by kernel_rfl) (subc [1, 1, 1, 0, 1, 0, 0, 1, 0, 0] C44) (subc [1, 1, 1, 0, 1, 0, 0, 1, 0, 1] C44) (by kernel_rfl) (by kernel_rfl) (fun e => nomatch (hb.symm.trans e)) (fun _ => ?_)
                refine Wp.exit (id := 0) (by kernel_rfl) ?_
                refine sqQ.x ?_
                refine seqQ.x ?_
                cases h
                refine lpQ.x ?_
                refine blkQ.x ⟨q1 ((dP e39 a1) :: (dI a2) :: (.ptr 0 0) :: q2 ((dB false) :: (dI (w64 (a2 - (a0.fLeft.length : Int)))) :: q40 (q3 ((dP e39 a0.fLeft) :: (dI ((a0.fLeft.length : Int))) :: (dI v41) :: q33 [])))), [(.cells [(dP e39 a0.fLeft), (dP e39 a0.fRight), (dB a0.fBegin), (dB a0.fEnd)])]⟩ (by kernel_rfl) ?_
                exact hxx47 v41  hsx50
          refine Wp.loop [1, 2, 3, 6, 7, 51, 52, 53] 1 (by kernel_rfl) (subc [1, 1, 1, 0, 1, 0, 0] C44) (by kernel_rfl) (by kernel_rfl) ⟨q1 ((dP e39 a1) :: (dI a2) :: (.ptr 0 0) :: q2 ((dB false) :: (dI (w64 (a2 - (a0.fLeft.length : Int)))) :: q40 (q3 ((dP e39 a0.fLeft) :: (dI ((a0.fLeft.length : Int))) :: (dI 0) :: q33 [])))), [(.cells [(dP e39 a0.fLeft), (dP e39 a0.fRight), (dB a0.fBegin), (dB a0.fEnd)])]⟩ (by kernel_rfl) ?_
          rcases brk_some h with ⟨r56, er56, h⟩ | ⟨y55, ey55, h⟩
          · refine hLx54 _ 0  _ er56 n (by omega) (fun r er σ hσ => ?_) (fun y  ey => by cases ey)
            cases er
            refine seqQ.r ?_
            exact fnQ.r' (X44 n) (fun z => (eB z)) h hσ
          · refine hLx54 _ 0  _ ey55 n (by omega) (fun r er => by cases er) (fun y  ey => ?_)
            cases ey
            refine seqQ.n ?_
            refine Wp.seq (subc [1, 1, 1, 1, 0] C44) (subc [1, 1, 1, 1, 1] C44) (by kernel_rfl) ?_
            refine Wp.seq (subc [1, 1, 1, 1, 0, 0] C44) (subc [1, 1, 1, 1, 0, 1] C44) (by kernel_rfl) ?_
            refine Wp.region (by kernel_rfl) ?_
            refine Ops.seg 2 2 (by kernel_rfl) ⟨q1 ((dP e39 a1) :: (dI a2) :: (.ptr 0 0) :: q2 ((dB false) :: (dI (w64 (a2 - (a0.fLeft.length : Int)))) :: q40 (q3 ((dP e39 a0.fLeft) :: (dI ((a0.fLeft.length : Int))) :: (dI y55) :: q14 ((.ptr 0 1) :: (dP e39 a0.fRight) :: q17 []))))), [(.cells [(dP e39 a0.fLeft), (dP e39 a0.fRight), (dB a0.fBegin), (dB a0.fEnd)])]⟩ (by kernel_rfl) ?_
            refine Ops.one 3 (by kernel_rfl) ((lenD (X44 n).E.T 37 (D.unt (dP e39 a0.fRight))).map (·, [(.cells [(dP e39 a0.fLeft), (dP e39 a0.fRight), (dB a0.fBegin), (dB a0.fEnd)])])) (dI ((a0.fRight.length : Int))) [(.cells [(dP e39 a0.fLeft), (dP e39 a0.fRight), (dB a0.fBegin), (dB a0.fEnd)])] ⟨q1 ((dP e39 a1) :: (dI a2) :: (.ptr 0 0) :: q2 ((dB false) :: (dI (w64 (a2 - (a0.fLeft.length : Int)))) :: q40 (q3 ((dP e39 a0.fLeft) :: (dI ((a0.fLeft.length : Int))) :: (dI y55) :: q14 ((.ptr 0 1) :: (dP e39 a0.fRight) :: (dI ((a0.fRight.length : Int))) :: q16 []))))), [(.cells [(dP e39 a0.fLeft), (dP e39 a0.fRight), (dB a0.fBegin), (dB a0.fEnd)])]⟩ (by kernel_rfl) (len_r _ 37 40 .plain e39 a0.fRight (by kernel_rfl)) (by kernel_rfl) ?_
            refine Ops.seg 1 4 (by kernel_rfl) ⟨q1 ((dP e39 a1) :: (dI a2) :: (.ptr 0 0) :: q2 ((dB false) :: (dI (w64 (a2 - (a0.fLeft.length : Int)))) :: q40 (q3 ((dP e39 a0.fLeft) :: (dI ((a0.fLeft.length : Int))) :: (dI y55) :: q14 ((.ptr 0 1) :: (dP e39 a0.fRight) :: (dI ((a0.fRight.length : Int))) :: (dI 0) :: q15 []))))), [(.cells [(dP e39 a0.fLeft), (dP e39 a0.fRight), (dB a0.fBegin), (dB a0.fEnd)])]⟩ (by kernel_rfl) ?_
            refine Ops.done (by kernel_rfl) ?_
            refine seqQ.n ?_
            refine Wp.block (id := 2) [6] (by kernel_rfl) 1 (by kernel_rfl) (subc [1, 1, 1, 1, 0, 1, 0] C44) (by kernel_rfl) ?_
            have hLx77 : ∀ (kx66 : Nat) (v64 : Int)  (ox65 : Bool ⊕ (Int)), iter (fun (y : Int) => f44_B2 m a0 a1 a2 y) kx66 v64 = some ox65 → ∀ nx67, kx66 ≤ nx67 → (∀ r, ox65 = .inl r → ∀ σ, RetOk (X44 n) (resOf Proofs.Try.prog 44) (eB r) σ → (seqQ (X44 n) (subc [1, 1, 1, 1, 1] C44) (fnQ (X44 n).E.T (resOf Proofs.Try.prog 44) (eB o))) .ret σ) → (∀ (y : Int) , ox65 = .inr y → (seqQ (X44 n) (subc [1, 1, 1, 1, 1] C44) (fnQ (X44 n).E.T (resOf Proofs.Try.prog 44) (eB o))) .normal ⟨q1 ((dP e39 a1) :: (dI a2) :: q3 ((dB false) :: q40 (q22 ((dP e39 a0.fRight) :: (dI ((a0.fRight.length : Int))) :: (dI y) :: q15 [])))), [(.cells [(dP e39 a0.fLeft), (dP e39 a0.fRight), (dB a0.fBegin), (dB a0.fEnd)])]⟩) → Lp (X44 n) [1, 2, 6, 69, 70, 71] 1 (subc [1, 1, 1, 1, 0, 1, 0, 0] C44) nx67 ⟨q1 ((dP e39 a1) :: (dI a2) :: q3 ((dB false) :: q40 (q22 ((dP e39 a0.fRight) :: (dI ((a0.fRight.length : Int))) :: (dI v64) :: q15 [])))), [(.cells [(dP e39 a0.fLeft), (dP e39 a0.fRight), (dB a0.fBegin), (dB a0.fEnd)])]⟩ (blkQ (X44 n) 2 [6] 1 (seqQ (X44 n) (subc [1, 1, 1, 1, 1] C44) (fnQ (X44 n).E.T (resOf Proofs.Try.prog 44) (eB o)))) := by
              intro kx66
              induction kx66 with
              | zero => intro v64  ox65 h; exact (iter_zero h).elim
              | succ kx66 ihx68 =>
                intro v64  ox65 h nx67 hnx71 hrx69 hxx70
                obtain ⟨nx67, rfl⟩ : ∃ q, nx67 = q + 1 := ⟨nx67 - 1, by omega⟩
                obtain ⟨sx72, h, hsx73⟩ := iter_some h
                have h : f44_B2 m a0 a1 a2 v64 = some sx72 := h
                unfold f44_B2 at h
                refine Lp.succ ?_
                refine Wp.seq (subc [1, 1, 1, 1, 0, 1, 0, 0, 0] C44) (subc [1, 1, 1, 1, 0, 1, 0, 0, 1] C44) (by kernel_rfl) ?_
                refine Wp.region (by kernel_rfl) ?_
                refine Ops.seg 1 1 (by kernel_rfl) ⟨q1 ((dP e39 a1) :: (dI a2) :: q3 ((dB false) :: q40 (q22 ((dP e39 a0.fRight) :: (dI ((a0.fRight.length : Int))) :: (dI v64) :: (dB (decide (v64 < (a0.fRight.length : Int)))) :: q14 [])))), [(.cells [(dP e39 a0.fLeft), (dP e39 a0.fRight), (dB a0.fBegin), (dB a0.fEnd)])]⟩ (by kernel_rfl) ?_
                refine Ops.done (by kernel_rfl) ?_
                refine seqQ.n ?_
                refine Wp.seq (subc [1, 1, 1, 1, 0, 1, 0, 0, 1, 0] C44) (subc [1, 1, 1, 1, 0, 1, 0, 0, 1, 1] C44) (by kernel_rfl) ?_
                rcases cnd_some h with ⟨hb, h⟩ | ⟨hb, h⟩
                · refine Wp.cond (decide (v64 < (a0.fRight.length : Int))) [1, 2, 6, 69, 70, 71] (by kernel_rfl) 1 (by kernel_rfl) (subc [1, 1, 1, 1, 0, 1, 0, 0, 1, 0, 0] C44) (subc [1, 1, 1, 1, 0, 1, 0, 0, 1, 0, 1] C44) (by kernel_rfl) (by kernel_rfl) (fun _ => ?_) (fun e => nomatch (hb.symm.trans e))
                  refine Wp.skip (by kernel_rfl) ?_
                  refine sqQ.n ⟨q1 ((dP e39 a1) :: (dI a2) :: q3 ((dB false) :: q40 (q22 ((dP e39 a0.fRight) :: (dI ((a0.fRight.length : Int))) :: (dI v64) :: (dB (decide (v64 < (a0.fRight.length : Int)))) :: q14 [])))), [(.cells [(dP e39 a0.fLeft), (dP e39 a0.fRight), (dB a0.fBegin), (dB a0.fEnd)])]⟩ (by kernel_rfl) ?_
                  refine seqQ.n ?_
                  refine Wp.seq (subc [1, 1, 1, 1, 0, 1, 0, 0, 1, 1, 0] C44) (subc [1, 1, 1, 1, 0, 1, 0, 0, 1, 1, 1] C44) (by kernel_rfl) ?_
                  refine Wp.block (id := 3) [1, 2, 6, 69, 70, 71] (by kernel_rfl) 1 (by kernel_rfl) (subc [1, 1, 1, 1, 0, 1, 0, 0, 1, 1, 0, 0] C44) (by kernel_rfl) ?_
                  refine Wp.seq (subc [1, 1, 1, 1, 0, 1, 0, 0, 1, 1, 0, 0, 0] C44) (subc [1, 1, 1, 1, 0, 1, 0, 0, 1, 1, 0, 0, 1] C44) (by kernel_rfl) ?_
                  refine Wp.region (by kernel_rfl) ?_
                  refine Ops.seg 1 1 (by kernel_rfl) ⟨q1 ((dP e39 a1) :: (dI a2) :: q3 ((dB false) :: q40 (q22 ((dP e39 a0.fRight) :: (dI ((a0.fRight.length : Int))) :: (dI v64) :: (dB (decide (v64 < (a0.fRight.length : Int)))) :: (dI v64) :: q13 [])))), [(.cells [(dP e39 a0.fLeft), (dP e39 a0.fRight), (dB a0.fBegin), (dB a0.fEnd)])]⟩ (by kernel_rfl) ?_
                  obtain ⟨v74, ev74, h⟩ := bnd_some h
                  refine Ops.one 2 (by kernel_rfl) ((indexAddrH (X44 n).E.T [(.cells [(dP e39 a0.fLeft), (dP e39 a0.fRight), (dB a0.fBegin), (dB a0.fEnd)])] 37 (D.unt (dP e39 a0.fRight)) (dI v64)).map (·, [(.cells [(dP e39 a0.fLeft), (dP e39 a0.fRight), (dB a0.fBegin), (dB a0.fEnd)])])) (.vptr [(vI v74.fLexical), (vI v74.fSurface)]) [(.cells [(dP e39 a0.fLeft), (dP e39 a0.fRight), (dB a0.fBegin), (dB a0.fEnd)])] ⟨q1 ((dP e39 a1) :: (dI a2) :: q3 ((dB false) :: q40 (q22 ((dP e39 a0.fRight) :: (dI ((a0.fRight.length : Int))) :: (dI v64) :: (dB (decide (v64 < (a0.fRight.length : Int)))) :: (dI v64) :: (.vptr [(vI v74.fLexical), (vI v74.fSurface)]) :: q12 [])))), [(.cells [(dP e39 a0.fLeft), (dP e39 a0.fRight), (dB a0.fBegin), (dB a0.fEnd)])]⟩ (by kernel_rfl) (ix_r _ 37 40 2 .plain e39 a0.fRight v64 v74 ev74 (by kernel_rfl) (by kernel_rfl) (fun _ => rfl)) (by kernel_rfl) ?_
                  refine Ops.seg 4 6 (by kernel_rfl) ⟨q1 ((dP e39 a1) :: (dI a2) :: q3 ((dB false) :: q4 ((dI v64) :: (.ptr 1 0) :: q40 (q16 ((dP e39 a0.fRight) :: (dI ((a0.fRight.length : Int))) :: (dI v64) :: (dB (decide (v64 < (a0.fRight.length : Int)))) :: (dI v64) :: (.vptr [(vI v74.fLexical), (vI v74.fSurface)]) :: (.v (.agg [(vI v74.fLexical), (vI v74.fSurface)])) :: q11 []))))), [(.cells [(dP e39 a0.fLeft), (dP e39 a0.fRight), (dB a0.fBegin), (dB a0.fEnd)]), (.cells [(dI v74.fLexical), (dI v74.fSurface)])]⟩ (by kernel_rfl) ?_
                  refine Ops.done (by kernel_rfl) ?_
                  refine seqQ.n ?_
                  refine Wp.seq (subc [1, 1, 1, 1, 0, 1, 0, 0, 1, 1, 0, 0, 1, 0] C44) (subc [1, 1, 1, 1, 0, 1, 0, 0, 1, 1, 0, 0, 1, 1] C44) (by kernel_rfl) ?_
                  refine Wp.region (by kernel_rfl) ?_
                  refine Ops.seg 6 6 (by kernel_rfl) ⟨q1 ((dP e39 a1) :: (dI a2) :: q3 ((dB false) :: q4 ((dI v64) :: (.ptr 1 0) :: q40 (q16 ((dP e39 a0.fRight) :: (dI ((a0.fRight.length : Int))) :: (dI v64) :: (dB (decide (v64 < (a0.fRight.length : Int)))) :: (dI v64) :: (.vptr [(vI v74.fLexical), (vI v74.fSurface)]) :: (.v (.agg [(vI v74.fLexical), (vI v74.fSurface)])) :: (.v (.agg [(vI v74.fLexical), (vI v74.fSurface)])) :: (dP e39 a1) :: (dI a2) :: (dI (w64 (a2 + 1))) :: (dI v64) :: (dI (w64 (w64 (a2 + 1) + v64))) :: q5 []))))), [(.cells [(dP e39 a0.fLeft), (dP e39 a0.fRight), (dB a0.fBegin), (dB a0.fEnd)]), (.cells [(dI v74.fLexical), (dI v74.fSurface)])]⟩ (by kernel_rfl) ?_
                  obtain ⟨v75, ev75, h⟩ := bnd_some h
                  refine Ops.one 7 (by kernel_rfl) ((indexAddrH (X44 n).E.T [(.cells [(dP e39 a0.fLeft), (dP e39 a0.fRight), (dB a0.fBegin), (dB a0.fEnd)]), (.cells [(dI v74.fLexical), (dI v74.fSurface)])] 37 (D.unt (dP e39 a1)) (dI (w64 (w64 (a2 + 1) + v64)))).map (·, [(.cells [(dP e39 a0.fLeft), (dP e39 a0.fRight), (dB a0.fBegin), (dB a0.fEnd)]), (.cells [(dI v74.fLexical), (dI v74.fSurface)])])) (.vptr [(vI v75.fLexical), (vI v75.fSurface)]) [(.cells [(dP e39 a0.fLeft), (dP e39 a0.fRight), (dB a0.fBegin), (dB a0.fEnd)]), (.cells [(dI v74.fLexical), (dI v74.fSurface)])] ⟨q1 ((dP e39 a1) :: (dI a2) :: q3 ((dB false) :: q4 ((dI v64) :: (.ptr 1 0) :: q40 (q16 ((dP e39 a0.fRight) :: (dI ((a0.fRight.length : Int))) :: (dI v64) :: (dB (decide (v64 < (a0.fRight.length : Int)))) :: (dI v64) :: (.vptr [(vI v74.fLexical), (vI v74.fSurface)]) :: (.v (.agg [(vI v74.fLexical), (vI v74.fSurface)])) :: (.v (.agg [(vI v74.fLexical), (vI v74.fSurface)])) :: (dP e39 a1) :: (dI a2) :: (dI (w64 (a2 + 1))) :: (dI v64) :: (dI (w64 (w64 (a2 + 1) + v64))) :: (.vptr [(vI v75.fLexical), (vI v75.fSurface)]) :: q4 []))))), [(.cells [(dP e39 a0.fLeft), (dP e39 a0.fRight), (dB a0.fBegin), (dB a0.fEnd)]), (.cells [(dI v74.fLexical), (dI v74.fSurface)])]⟩ (by kernel_rfl) (ix_r _ 37 40 2 .plain e39 a1 (w64 (w64 (a2 + 1) + v64)) v75 ev75 (by kernel_rfl) (by kernel_rfl) (fun _ => rfl)) (by kernel_rfl) ?_
                  refine Ops.seg 1 8 (by kernel_rfl) ⟨q1 ((dP e39 a1) :: (dI a2) :: q3 ((dB false) :: q4 ((dI v64) :: (.ptr 1 0) :: q40 (q16 ((dP e39 a0.fRight) :: (dI ((a0.fRight.length : Int))) :: (dI v64) :: (dB (decide (v64 < (a0.fRight.length : Int)))) :: (dI v64) :: (.vptr [(vI v74.fLexical), (vI v74.fSurface)]) :: (.v (.agg [(vI v74.fLexical), (vI v74.fSurface)])) :: (.v (.agg [(vI v74.fLexical), (vI v74.fSurface)])) :: (dP e39 a1) :: (dI a2) :: (dI (w64 (a2 + 1))) :: (dI v64) :: (dI (w64 (w64 (a2 + 1) + v64))) :: (.vptr [(vI v75.fLexical), (vI v75.fSurface)]) :: (.v (.agg [(vI v75.fLexical), (vI v75.fSurface)])) :: q3 []))))), [(.cells [(dP e39 a0.fLeft), (dP e39 a0.fRight), (dB a0.fBegin), (dB a0.fEnd)]), (.cells [(dI v74.fLexical), (dI v74.fSurface)])]⟩ (by kernel_rfl) ?_
                  obtain ⟨v76, ev76, h⟩ := bnd_some h
                  refine Ops.one 9 (by kernel_rfl) (callD (X44 n).E (run Proofs.Try.prog E n) 46 [(.v (.agg [(vI v74.fLexical), (vI v74.fSurface)])), (.v (.agg [(vI v75.fLexical), (vI v75.fSurface)]))] [(.cells [(dP e39 a0.fLeft), (dP e39 a0.fRight), (dB a0.fBegin), (dB a0.fEnd)]), (.cells [(dI v74.fLexical), (dI v74.fSurface)])]) (dB v76) [(.cells [(dP e39 a0.fLeft), (dP e39 a0.fRight), (dB a0.fBegin), (dB a0.fEnd)]), (.cells [(dI v74.fLexical), (dI v74.fSurface)])] ⟨q1 ((dP e39 a1) :: (dI a2) :: q3 ((dB false) :: q4 ((dI v64) :: (.ptr 1 0) :: q40 (q16 ((dP e39 a0.fRight) :: (dI ((a0.fRight.length : Int))) :: (dI v64) :: (dB (decide (v64 < (a0.fRight.length : Int)))) :: (dI v64) :: (.vptr [(vI v74.fLexical), (vI v74.fSurface)]) :: (.v (.agg [(vI v74.fLexical), (vI v74.fSurface)])) :: (.v (.agg [(vI v74.fLexical), (vI v74.fSurface)])) :: (dP e39 a1) :: (dI a2) :: (dI (w64 (a2 + 1))) :: (dI v64) :: (dI (w64 (w64 (a2 + 1) + v64))) :: (.vptr [(vI v75.fLexical), (vI v75.fSurface)]) :: (.v (.agg [(vI v75.fLexical), (vI v75.fSurface)])) :: (dB v76) :: q2 []))))), [(.cells [(dP e39 a0.fLeft), (dP e39 a0.fRight), (dB a0.fBegin), (dB a0.fEnd)]), (.cells [(dI v74.fLexical), (dI v74.fSurface)])]⟩ (by kernel_rfl) (call_ok (by kernel_rfl) (Args.v (.agg [(vI v74.fLexical), (vI v74.fSurface)]) (e39 v74) (by kernel_rfl) (Args.v (.agg [(vI v75.fLexical), (vI v75.fSurface)]) (e39 v75) (by kernel_rfl) Args.nil)) (ok46 m v74 v75 v76 ev76 n (by omega))) (by kernel_rfl) ?_
                  refine Ops.seg 1 10 (by kernel_rfl) ⟨q1 ((dP e39 a1) :: (dI a2) :: q3 ((dB false) :: q4 ((dI v64) :: (.ptr 1 0) :: q40 (q16 ((dP e39 a0.fRight) :: (dI ((a0.fRight.length : Int))) :: (dI v64) :: (dB (decide (v64 < (a0.fRight.length : Int)))) :: (dI v64) :: (.vptr [(vI v74.fLexical), (vI v74.fSurface)]) :: (.v (.agg [(vI v74.fLexical), (vI v74.fSurface)])) :: (.v (.agg [(vI v74.fLexical), (vI v74.fSurface)])) :: (dP e39 a1) :: (dI a2) :: (dI (w64 (a2 + 1))) :: (dI v64) :: (dI (w64 (w64 (a2 + 1) + v64))) :: (.vptr [(vI v75.fLexical), (vI v75.fSurface)]) :: (.v (.agg [(vI v75.fLexical), (vI v75.fSurface)])) :: (dB v76) :: (dB (!v76)) :: q1 []))))), [(.cells [(dP e39 a0.fLeft), (dP e39 a0.fRight), (dB a0.fBegin), (dB a0.fEnd)]), (.cells [(dI v74.fLexical), (dI v74.fSurface)])]⟩ (by kernel_rfl) ?_
                  refine Ops.done (by kernel_rfl) ?_
                  refine seqQ.n ?_
                  rcases cnd_some h with ⟨hb, h⟩ | ⟨hb, h⟩
                  · refine Wp.cond (!v76) [1, 2, 6, 69, 70, 71] (by kernel_rfl) 2 (by kernel_rfl) (subc [1, 1, 1, 1, 0, 1, 0, 0, 1, 1, 0, 0, 1, 1, 0] C44) (subc [1, 1, 1, 1, 0, 1, 0, 0, 1, 1, 0, 0, 1, 1, 1] C44) (by kernel_rfl) (by kernel_rfl) (fun _ => ?_) (fun e => nomatch (hb.symm.trans e))
                    refine Wp.seq (subc [1, 1, 1, 1, 0, 1, 0, 0, 1, 1, 0, 0, 1, 1, 0, 0] C44) (subc [1, 1, 1, 1, 0, 1, 0, 0, 1, 1, 0, 0, 1, 1, 0, 1] C44) (by kernel_rfl) ?_
                    refine Wp.region (by kernel_rfl) ?_
                    refine Ops.seg 1 1 (by kernel_rfl) ⟨q1 ((dP e39 a1) :: (dI a2) :: q3 ((dB false) :: q4 ((dI v64) :: (.ptr 1 0) :: q40 (q16 ((dP e39 a0.fRight) :: (dI ((a0.fRight.length : Int))) :: (dI v64) :: (dB (decide (v64 < (a0.fRight.length : Int)))) :: (dI v64) :: (.vptr [(vI v74.fLexical), (vI v74.fSurface)]) :: (.v (.agg [(vI v74.fLexical), (vI v74.fSurface)])) :: (.v (.agg [(vI v74.fLexical), (vI v74.fSurface)])) :: (dP e39 a1) :: (dI a2) :: (dI (w64 (a2 + 1))) :: (dI v64) :: (dI (w64 (w64 (a2 + 1) + v64))) :: (.vptr [(vI v75.fLexical), (vI v75.fSurface)]) :: (.v (.agg [(vI v75.fLexical), (vI v75.fSurface)])) :: (dB v76) :: (dB (!v76)) :: q1 []))))), [(.cells [(dP e39 a0.fLeft), (dP e39 a0.fRight), (dB a0.fBegin), (dB a0.fEnd)]), (.cells [(dI v74.fLexical), (dI v74.fSurface)])]⟩ (by kernel_rfl) ?_
                    refine Ops.done (by kernel_rfl) ?_
                    refine seqQ.n ?_
                    refine Wp.ret (by kernel_rfl) ?_
                    refine sqQ.r ?_
                    refine blkQ.r ?_
                    refine seqQ.r ?_
                    cases h
                    refine lpQ.r ?_
                    refine blkQ.r ?_
                    exact hrx69 _ hsx73 _ (RetOk.forget [1, 2, 6, 69, 70, 71] (by kernel_rfl) (RetOk.mk' (dB false) (by kernel_rfl) (by kernel_rfl)))
                  · refine Wp.cond (!v76) [1, 2, 6, 69, 70, 71] (by kernel_rfl) 2 (by kernel_rfl) (subc [1, 1, 1, 1, 0, 1, 0, 0, 1, 1, 0, 0, 1, 1, 0] C44) (subc [1, 1, 1, 1, 0, 1, 0, 0, 1, 1, 0, 0, 1, 1, 1] C44) (by kernel_rfl) (by kernel_rfl) (fun e => nomatch (hb.symm.trans e)) (fun _ => ?_)
                    refine Wp.skip (by kernel_rfl) ?_
                    refine sqQ.n ⟨q1 ((dP e39 a1) :: (dI a2) :: q3 ((dB false) :: q4 ((dI v64) :: (.ptr 1 0) :: q40 (q16 ((dP e39 a0.fRight) :: (dI ((a0.fRight.length : Int))) :: (dI v64) :: (dB (decide (v64 < (a0.fRight.length : Int)))) :: (dI v64) :: (.vptr [(vI v74.fLexical), (vI v74.fSurface)]) :: (.v (.agg [(vI v74.fLexical), (vI v74.fSurface)])) :: (.v (.agg [(vI v74.fLexical), (vI v74.fSurface)])) :: (dP e39 a1) :: (dI a2) :: (dI (w64 (a2 + 1))) :: (dI v64) :: (dI (w64 (w64 (a2 + 1) + v64))) :: (.vptr [(vI v75.fLexical), (vI v75.fSurface)]) :: (.v (.agg [(vI v75.fLexical), (vI v75.fSurface)])) :: (dB v76) :: (dB (!v76)) :: q1 []))))), [(.cells [(dP e39 a0.fLeft), (dP e39 a0.fRight), (dB a0.fBegin), (dB a0.fEnd)]), (.cells [(dI v74.fLexical), (dI v74.fSurface)])]⟩ (by kernel_rfl) ?_
                    refine blkQ.n ⟨q1 ((dP e39 a1) :: (dI a2) :: q3 ((dB false) :: q40 (q22 ((dP e39 a0.fRight) :: (dI ((a0.fRight.length : Int))) :: (dI v64) :: q15 [])))), [(.cells [(dP e39 a0.fLeft), (dP e39 a0.fRight), (dB a0.fBegin), (dB a0.fEnd)])]⟩ (by kernel_rfl) ?_
                    refine seqQ.n ?_
                    refine Wp.region (by kernel_rfl) ?_
                    refine Ops.seg 2 2 (by kernel_rfl) ⟨q1 ((dP e39 a1) :: (dI a2) :: q3 ((dB false) :: q40 (q22 ((dP e39 a0.fRight) :: (dI ((a0.fRight.length : Int))) :: (dI (w64 (v64 + 1))) :: q14 ((dI (w64 (v64 + 1))) :: []))))), [(.cells [(dP e39 a0.fLeft), (dP e39 a0.fRight), (dB a0.fBegin), (dB a0.fEnd)])]⟩ (by kernel_rfl) ?_
                    refine Ops.done (by kernel_rfl) ?_
                    refine lpQ.n ⟨q1 ((dP e39 a1) :: (dI a2) :: q3 ((dB false) :: q40 (q22 ((dP e39 a0.fRight) :: (dI ((a0.fRight.length : Int))) :: (dI (w64 (v64 + 1))) :: q15 [])))), [(.cells [(dP e39 a0.fLeft), (dP e39 a0.fRight), (dB a0.fBegin), (dB a0.fEnd)])]⟩ (by kernel_rfl) ?_
                    cases h
                    exact ihx68 (w64 (v64 + 1))  _ hsx73 _ (by omega) hrx69 hxx70
                · refine Wp.cond (decide (v64 < (a0.fRight.length : Int))) [1, 2, 6, 69, 70, 71] (by kernel_rfl) 1 (by kernel_rfl) (subc [1, 1, 1, 1, 0, 1, 0, 0, 1, 0, 0] C44) (subc [1, 1, 1, 1, 0, 1, 0, 0, 1, 0, 1] C44) (by kernel_rfl) (by kernel_rfl) (fun e => nomatch (hb.symm.trans e)) (fun _ => ?_)
                  refine Wp.exit (id := 2) (by kernel_rfl) ?_
                  refine sqQ.x ?_
                  refine seqQ.x ?_
                  cases h
                  refine lpQ.x ?_
                  refine blkQ.x ⟨q1 ((dP e39 a1) :: (dI a2) :: q3 ((dB false) :: q40 (q22 ((dP e39 a0.fRight) :: (dI ((a0.fRight.length : Int))) :: (dI v64) :: q15 [])))), [(.cells [(dP e39 a0.fLeft), (dP e39 a0.fRight), (dB a0.fBegin), (dB a0.fEnd)])]⟩ (by kernel_rfl) ?_
                  exact hxx70 v64  hsx73
            refine Wp.loop [1, 2, 6, 69, 70, 71] 1 (by kernel_rfl) (subc [1, 1, 1, 1, 0, 1, 0, 0] C44) (by kernel_rfl) (by kernel_rfl) ⟨q1 ((dP e39 a1) :: (dI a2) :: q3 ((dB false) :: q40 (q22 ((dP e39 a0.fRight) :: (dI ((a0.fRight.length : Int))) :: (dI 0) :: q15 [])))), [(.cells [(dP e39 a0.fLeft), (dP e39 a0.fRight), (dB a0.fBegin), (dB a0.fEnd)])]⟩ (by kernel_rfl) ?_
            rcases brk_some h with ⟨r79, er79, h⟩ | ⟨y78, ey78, h⟩
            · refine hLx77 _ 0  _ er79 n (by omega) (fun r er σ hσ => ?_) (fun y  ey => by cases ey)
              cases er
              refine seqQ.r ?_
              exact fnQ.r' (X44 n) (fun z => (eB z)) h hσ
            · refine hLx77 _ 0  _ ey78 n (by omega) (fun r er => by cases er) (fun y  ey => ?_)
              cases ey
              refine seqQ.n ?_
              refine Wp.seq (subc [1, 1, 1, 1, 1, 0] C44) (subc [1, 1, 1, 1, 1, 1] C44) (by kernel_rfl) ?_
              refine Wp.region (by kernel_rfl) ?_
              refine Ops.seg 1 1 (by kernel_rfl) ⟨q1 ((dP e39 a1) :: (dI a2) :: q3 ((dB true) :: q40 (q22 ((dP e39 a0.fRight) :: (dI ((a0.fRight.length : Int))) :: (dI y78) :: q15 [])))), [(.cells [(dP e39 a0.fLeft), (dP e39 a0.fRight), (dB a0.fBegin), (dB a0.fEnd)])]⟩ (by kernel_rfl) ?_
              refine Ops.done (by kernel_rfl) ?_
              refine seqQ.n ?_
              refine Wp.ret (by kernel_rfl) ?_
              exact fnQ.r' (X44 n) (fun z => (eB z)) h (RetOk.mk' (dB true) (by kernel_rfl) (by kernel_rfl))
      have G44g22 : ∀ v21 : Bool, f44_r3 m a0 a1 a2 ((v21 || ((a0.fEnd && ((w64 (w64 (a2 + 1) + (a0.fRight.length : Int))) != ((a1.length : Int))))))) = some o → Ops (X44 n) (opl (subc [1, 1, 0, 0] C44)) 17 ⟨(.v (.agg [(vP e39 a0.fLeft), (vP e39 a0.fRight), (vB a0.fBegin), (vB a0.fEnd)])) :: (dP e39 a1) :: (dI a2) :: (.ptr 0 0) :: u2 ((dB false) :: (dI (w64 (a2 - (a0.fLeft.length : Int)))) :: (dI (w64 (w64 (a2 + 1) + (a0.fRight.length : Int)))) :: u4 ((dI a2) :: (.ptr 0 0) :: (dP e39 a0.fLeft) :: (dI ((a0.fLeft.length : Int))) :: (dI (w64 (a2 - (a0.fLeft.length : Int)))) :: (dI a2) :: (dI (w64 (a2 + 1))) :: (.ptr 0 1) :: (dP e39 a0.fRight) :: (dI ((a0.fRight.length : Int))) :: (dI (w64 (w64 (a2 + 1) + (a0.fRight.length : Int)))) :: (dI (w64 (a2 - (a0.fLeft.length : Int)))) :: (dB v7) :: (dB v7) :: d3 :: d4 :: d5 :: d6 :: (dB v18) :: (dB v18) :: d12 :: d13 :: d14 :: d15 :: d16 :: d17 :: (dB v21) :: (dB v21) :: u40 (u6 []))), [(.cells [(dP e39 a0.fLeft), (dP e39 a0.fRight), (dB a0.fBegin), (dB a0.fEnd)])]⟩ ((seqQ (X44 n) (subc [1, 1, 0, 1] C44) (seqQ (X44 n) (subc [1, 1, 1] C44) (fnQ (X44 n).E.T (resOf Proofs.Try.prog 44) (eB o)))) .normal) := by
        intro v21 h
        cases v21
        · refine Ops.seg 3 20 (by kernel_rfl) ⟨(.v (.agg [(vP e39 a0.fLeft), (vP e39 a0.fRight), (vB a0.fBegin), (vB a0.fEnd)])) :: (dP e39 a1) :: (dI a2) :: (.ptr 0 0) :: u2 ((dB false) :: (dI (w64 (a2 - (a0.fLeft.length : Int)))) :: (dI (w64 (w64 (a2 + 1) + (a0.fRight.length : Int)))) :: u4 ((dI a2) :: (.ptr 0 0) :: (dP e39 a0.fLeft) :: (dI ((a0.fLeft.length : Int))) :: (dI (w64 (a2 - (a0.fLeft.length : Int)))) :: (dI a2) :: (dI (w64 (a2 + 1))) :: (.ptr 0 1) :: (dP e39 a0.fRight) :: (dI ((a0.fRight.length : Int))) :: (dI (w64 (w64 (a2 + 1) + (a0.fRight.length : Int)))) :: (dI (w64 (a2 - (a0.fLeft.length : Int)))) :: (dB v7) :: (dB v7) :: d3 :: d4 :: d5 :: d6 :: (dB v18) :: (dB v18) :: d12 :: d13 :: d14 :: d15 :: d16 :: d17 :: (dB false) :: (dB false) :: (.ptr 0 3) :: (dB a0.fEnd) :: (dB a0.fEnd) :: u40 (u3 []))), [(.cells [(dP e39 a0.fLeft), (dP e39 a0.fRight), (dB a0.fBegin), (dB a0.fEnd)])]⟩ (by kernel_rfl) ?_
          have G44g81 : ∀ v80 : Bool, (f44_r3 m a0 a1 a2 ((false || ((v80 && ((w64 (w64 (a2 + 1) + (a0.fRight.length : Int))) != ((a1.length : Int)))))))) = some o → Ops (X44 n) (opl (subc [1, 1, 0, 0] C44)) 20 ⟨(.v (.agg [(vP e39 a0.fLeft), (vP e39 a0.fRight), (vB a0.fBegin), (vB a0.fEnd)])) :: (dP e39 a1) :: (dI a2) :: (.ptr 0 0) :: u2 ((dB false) :: (dI (w64 (a2 - (a0.fLeft.length : Int)))) :: (dI (w64 (w64 (a2 + 1) + (a0.fRight.length : Int)))) :: u4 ((dI a2) :: (.ptr 0 0) :: (dP e39 a0.fLeft) :: (dI ((a0.fLeft.length : Int))) :: (dI (w64 (a2 - (a0.fLeft.length : Int)))) :: (dI a2) :: (dI (w64 (a2 + 1))) :: (.ptr 0 1) :: (dP e39 a0.fRight) :: (dI ((a0.fRight.length : Int))) :: (dI (w64 (w64 (a2 + 1) + (a0.fRight.length : Int)))) :: (dI (w64 (a2 - (a0.fLeft.length : Int)))) :: (dB v7) :: (dB v7) :: d3 :: d4 :: d5 :: d6 :: (dB v18) :: (dB v18) :: d12 :: d13 :: d14 :: d15 :: d16 :: d17 :: (dB false) :: (dB false) :: (.ptr 0 3) :: (dB v80) :: (dB v80) :: u40 (u3 []))), [(.cells [(dP e39 a0.fLeft), (dP e39 a0.fRight), (dB a0.fBegin), (dB a0.fEnd)])]⟩ ((seqQ (X44 n) (subc [1, 1, 0, 1] C44) (seqQ (X44 n) (subc [1, 1, 1] C44) (fnQ (X44 n).E.T (resOf Proofs.Try.prog 44) (eB o)))) .normal) := by
            intro v80 h
            cases v80
            · refine Ops.seg 6 26 (by kernel_rfl) ⟨(.v (.agg [(vP e39 a0.fLeft), (vP e39 a0.fRight), (vB a0.fBegin), (vB a0.fEnd)])) :: (dP e39 a1) :: (dI a2) :: (.ptr 0 0) :: u2 ((dB false) :: (dI (w64 (a2 - (a0.fLeft.length : Int)))) :: (dI (w64 (w64 (a2 + 1) + (a0.fRight.length : Int)))) :: u4 ((dI a2) :: (.ptr 0 0) :: (dP e39 a0.fLeft) :: (dI ((a0.fLeft.length : Int))) :: (dI (w64 (a2 - (a0.fLeft.length : Int)))) :: (dI a2) :: (dI (w64 (a2 + 1))) :: (.ptr 0 1) :: (dP e39 a0.fRight) :: (dI ((a0.fRight.length : Int))) :: (dI (w64 (w64 (a2 + 1) + (a0.fRight.length : Int)))) :: (dI (w64 (a2 - (a0.fLeft.length : Int)))) :: (dB v7) :: (dB v7) :: d3 :: d4 :: d5 :: d6 :: (dB v18) :: (dB v18) :: d12 :: d13 :: d14 :: d15 :: d16 :: d17 :: (dB false) :: (dB false) :: (.ptr 0 3) :: (dB false) :: (dB false) :: u4 ((dB false) :: (dB false) :: u37 []))), [(.cells [(dP e39 a0.fLeft), (dP e39 a0.fRight), (dB a0.fBegin), (dB a0.fEnd)])]⟩ (by kernel_rfl) ?_
              exact J44j33 _ _ _ _ _ _ _ _ _ _ h
            · refine Ops.seg 2 22 (by kernel_rfl) ⟨(.v (.agg [(vP e39 a0.fLeft), (vP e39 a0.fRight), (vB a0.fBegin), (vB a0.fEnd)])) :: (dP e39 a1) :: (dI a2) :: (.ptr 0 0) :: u2 ((dB false) :: (dI (w64 (a2 - (a0.fLeft.length : Int)))) :: (dI (w64 (w64 (a2 + 1) + (a0.fRight.length : Int)))) :: u4 ((dI a2) :: (.ptr 0 0) :: (dP e39 a0.fLeft) :: (dI ((a0.fLeft.length : Int))) :: (dI (w64 (a2 - (a0.fLeft.length : Int)))) :: (dI a2) :: (dI (w64 (a2 + 1))) :: (.ptr 0 1) :: (dP e39 a0.fRight) :: (dI ((a0.fRight.length : Int))) :: (dI (w64 (w64 (a2 + 1) + (a0.fRight.length : Int)))) :: (dI (w64 (a2 - (a0.fLeft.length : Int)))) :: (dB v7) :: (dB v7) :: d3 :: d4 :: d5 :: d6 :: (dB v18) :: (dB v18) :: d12 :: d13 :: d14 :: d15 :: d16 :: d17 :: (dB false) :: (dB false) :: (.ptr 0 3) :: (dB true) :: (dB true) :: (dI (w64 (w64 (a2 + 1) + (a0.fRight.length : Int)))) :: (dP e39 a1) :: u40 (u1 []))), [(.cells [(dP e39 a0.fLeft), (dP e39 a0.fRight), (dB a0.fBegin), (dB a0.fEnd)])]⟩ (by kernel_rfl) ?_
              refine Ops.one 23 (by kernel_rfl) ((lenD (X44 n).E.T 37 (D.unt (dP e39 a1))).map (·, [(.cells [(dP e39 a0.fLeft), (dP e39 a0.fRight), (dB a0.fBegin), (dB a0.fEnd)])])) (dI ((a1.length : Int))) [(.cells [(dP e39 a0.fLeft), (dP e39 a0.fRight), (dB a0.fBegin), (dB a0.fEnd)])] ⟨(.v (.agg [(vP e39 a0.fLeft), (vP e39 a0.fRight), (vB a0.fBegin), (vB a0.fEnd)])) :: (dP e39 a1) :: (dI a2) :: (.ptr 0 0) :: u2 ((dB false) :: (dI (w64 (a2 - (a0.fLeft.length : Int)))) :: (dI (w64 (w64 (a2 + 1) + (a0.fRight.length : Int)))) :: u4 ((dI a2) :: (.ptr 0 0) :: (dP e39 a0.fLeft) :: (dI ((a0.fLeft.length : Int))) :: (dI (w64 (a2 - (a0.fLeft.length : Int)))) :: (dI a2) :: (dI (w64 (a2 + 1))) :: (.ptr 0 1) :: (dP e39 a0.fRight) :: (dI ((a0.fRight.length : Int))) :: (dI (w64 (w64 (a2 + 1) + (a0.fRight.length : Int)))) :: (dI (w64 (a2 - (a0.fLeft.length : Int)))) :: (dB v7) :: (dB v7) :: d3 :: d4 :: d5 :: d6 :: (dB v18) :: (dB v18) :: d12 :: d13 :: d14 :: d15 :: d16 :: d17 :: (dB false) :: (dB false) :: (.ptr 0 3) :: (dB true) :: (dB true) :: (dI (w64 (w64 (a2 + 1) + (a0.fRight.length : Int)))) :: (dP e39 a1) :: (dI ((a1.length : Int))) :: u40 [])), [(.cells [(dP e39 a0.fLeft), (dP e39 a0.fRight), (dB a0.fBegin), (dB a0.fEnd)])]⟩ (by kernel_rfl) (len_r _ 37 40 .plain e39 a1 (by kernel_rfl)) (by kernel_rfl) ?_
              refine Ops.seg 3 26 (by kernel_rfl) ⟨(.v (.agg [(vP e39 a0.fLeft), (vP e39 a0.fRight), (vB a0.fBegin), (vB a0.fEnd)])) :: (dP e39 a1) :: (dI a2) :: (.ptr 0 0) :: u2 ((dB false) :: (dI (w64 (a2 - (a0.fLeft.length : Int)))) :: (dI (w64 (w64 (a2 + 1) + (a0.fRight.length : Int)))) :: u4 ((dI a2) :: (.ptr 0 0) :: (dP e39 a0.fLeft) :: (dI ((a0.fLeft.length : Int))) :: (dI (w64 (a2 - (a0.fLeft.length : Int)))) :: (dI a2) :: (dI (w64 (a2 + 1))) :: (.ptr 0 1) :: (dP e39 a0.fRight) :: (dI ((a0.fRight.length : Int))) :: (dI (w64 (w64 (a2 + 1) + (a0.fRight.length : Int)))) :: (dI (w64 (a2 - (a0.fLeft.length : Int)))) :: (dB v7) :: (dB v7) :: d3 :: d4 :: d5 :: d6 :: (dB v18) :: (dB v18) :: d12 :: d13 :: d14 :: d15 :: d16 :: d17 :: (dB false) :: (dB false) :: (.ptr 0 3) :: (dB true) :: (dB true) :: (dI (w64 (w64 (a2 + 1) + (a0.fRight.length : Int)))) :: (dP e39 a1) :: (dI ((a1.length : Int))) :: (dB ((w64 (w64 (a2 + 1) + (a0.fRight.length : Int))) != ((a1.length : Int)))) :: (dB ((w64 (w64 (a2 + 1) + (a0.fRight.length : Int))) != ((a1.length : Int)))) :: (dB ((w64 (w64 (a2 + 1) + (a0.fRight.length : Int))) != ((a1.length : Int)))) :: u37 [])), [(.cells [(dP e39 a0.fLeft), (dP e39 a0.fRight), (dB a0.fBegin), (dB a0.fEnd)])]⟩ (by kernel_rfl) ?_
              exact J44j33 _ _ _ _ _ _ _ _ _ _ h
          exact G44g81 a0.fEnd h
        · refine Ops.seg 9 26 (by kernel_rfl) ⟨(.v (.agg [(vP e39 a0.fLeft), (vP e39 a0.fRight), (vB a0.fBegin), (vB a0.fEnd)])) :: (dP e39 a1) :: (dI a2) :: (.ptr 0 0) :: u2 ((dB false) :: (dI (w64 (a2 - (a0.fLeft.length : Int)))) :: (dI (w64 (w64 (a2 + 1) + (a0.fRight.length : Int)))) :: u4 ((dI a2) :: (.ptr 0 0) :: (dP e39 a0.fLeft) :: (dI ((a0.fLeft.length : Int))) :: (dI (w64 (a2 - (a0.fLeft.length : Int)))) :: (dI a2) :: (dI (w64 (a2 + 1))) :: (.ptr 0 1) :: (dP e39 a0.fRight) :: (dI ((a0.fRight.length : Int))) :: (dI (w64 (w64 (a2 + 1) + (a0.fRight.length : Int)))) :: (dI (w64 (a2 - (a0.fLeft.length : Int)))) :: (dB v7) :: (dB v7) :: d3 :: d4 :: d5 :: d6 :: (dB v18) :: (dB v18) :: d12 :: d13 :: d14 :: d15 :: d16 :: d17 :: (dB true) :: (dB true) :: u8 ((dB true) :: u37 []))), [(.cells [(dP e39 a0.fLeft), (dP e39 a0.fRight), (dB a0.fBegin), (dB a0.fEnd)])]⟩ (by kernel_rfl) ?_
          exact J44j33 _ _ _ _ _ _ _ _ _ _ h
      exact G44g22 v19 h
    have G44g11 : ∀ v10 : Bool, f44_r4 m a0 a1 a2 ((v10 || ((a0.fBegin && ((w64 (a2 - (a0.fLeft.length : Int))) != 0))))) = some o → Ops (X44 n) (opl (subc [1, 1, 0, 0] C44)) 9 ⟨(.v (.agg [(vP e39 a0.fLeft), (vP e39 a0.fRight), (vB a0.fBegin), (vB a0.fEnd)])) :: (dP e39 a1) :: (dI a2) :: (.ptr 0 0) :: u2 ((dB false) :: (dI (w64 (a2 - (a0.fLeft.length : Int)))) :: (dI (w64 (w64 (a2 + 1) + (a0.fRight.length : Int)))) :: u4 ((dI a2) :: (.ptr 0 0) :: (dP e39 a0.fLeft) :: (dI ((a0.fLeft.length : Int))) :: (dI (w64 (a2 - (a0.fLeft.length : Int)))) :: (dI a2) :: (dI (w64 (a2 + 1))) :: (.ptr 0 1) :: (dP e39 a0.fRight) :: (dI ((a0.fRight.length : Int))) :: (dI (w64 (w64 (a2 + 1) + (a0.fRight.length : Int)))) :: (dI (w64 (a2 - (a0.fLeft.length : Int)))) :: (dB v7) :: (dB v7) :: d3 :: d4 :: d5 :: d6 :: (dB v10) :: (dB v10) :: u40 (u14 []))), [(.cells [(dP e39 a0.fLeft), (dP e39 a0.fRight), (dB a0.fBegin), (dB a0.fEnd)])]⟩ ((seqQ (X44 n) (subc [1, 1, 0, 1] C44) (seqQ (X44 n) (subc [1, 1, 1] C44) (fnQ (X44 n).E.T (resOf Proofs.Try.prog 44) (eB o)))) .normal) := by
      intro v10 h
      cases v10
      · refine Ops.seg 3 12 (by kernel_rfl) ⟨(.v (.agg [(vP e39 a0.fLeft), (vP e39 a0.fRight), (vB a0.fBegin), (vB a0.fEnd)])) :: (dP e39 a1) :: (dI a2) :: (.ptr 0 0) :: u2 ((dB false) :: (dI (w64 (a2 - (a0.fLeft.length : Int)))) :: (dI (w64 (w64 (a2 + 1) + (a0.fRight.length : Int)))) :: u4 ((dI a2) :: (.ptr 0 0) :: (dP e39 a0.fLeft) :: (dI ((a0.fLeft.length : Int))) :: (dI (w64 (a2 - (a0.fLeft.length : Int)))) :: (dI a2) :: (dI (w64 (a2 + 1))) :: (.ptr 0 1) :: (dP e39 a0.fRight) :: (dI ((a0.fRight.length : Int))) :: (dI (w64 (w64 (a2 + 1) + (a0.fRight.length : Int)))) :: (dI (w64 (a2 - (a0.fLeft.length : Int)))) :: (dB v7) :: (dB v7) :: d3 :: d4 :: d5 :: d6 :: (dB false) :: (dB false) :: (.ptr 0 2) :: (dB a0.fBegin) :: (dB a0.fBegin) :: u40 (u11 []))), [(.cells [(dP e39 a0.fLeft), (dP e39 a0.fRight), (dB a0.fBegin), (dB a0.fEnd)])]⟩ (by kernel_rfl) ?_
        have G44g83 : ∀ v82 : Bool, (f44_r4 m a0 a1 a2 ((false || ((v82 && ((w64 (a2 - (a0.fLeft.length : Int))) != 0)))))) = some o → Ops (X44 n) (opl (subc [1, 1, 0, 0] C44)) 12 ⟨(.v (.agg [(vP e39 a0.fLeft), (vP e39 a0.fRight), (vB a0.fBegin), (vB a0.fEnd)])) :: (dP e39 a1) :: (dI a2) :: (.ptr 0 0) :: u2 ((dB false) :: (dI (w64 (a2 - (a0.fLeft.length : Int)))) :: (dI (w64 (w64 (a2 + 1) + (a0.fRight.length : Int)))) :: u4 ((dI a2) :: (.ptr 0 0) :: (dP e39 a0.fLeft) :: (dI ((a0.fLeft.length : Int))) :: (dI (w64 (a2 - (a0.fLeft.length : Int)))) :: (dI a2) :: (dI (w64 (a2 + 1))) :: (.ptr 0 1) :: (dP e39 a0.fRight) :: (dI ((a0.fRight.length : Int))) :: (dI (w64 (w64 (a2 + 1) + (a0.fRight.length : Int)))) :: (dI (w64 (a2 - (a0.fLeft.length : Int)))) :: (dB v7) :: (dB v7) :: d3 :: d4 :: d5 :: d6 :: (dB false) :: (dB false) :: (.ptr 0 2) :: (dB v82) :: (dB v82) :: u40 (u11 []))), [(.cells [(dP e39 a0.fLeft), (dP e39 a0.fRight), (dB a0.fBegin), (dB a0.fEnd)])]⟩ ((seqQ (X44 n) (subc [1, 1, 0, 1] C44) (seqQ (X44 n) (subc [1, 1, 1] C44) (fnQ (X44 n).E.T (resOf Proofs.Try.prog 44) (eB o)))) .normal) := by
          intro v82 h
          cases v82
          · refine Ops.seg 4 16 (by kernel_rfl) ⟨(.v (.agg [(vP e39 a0.fLeft), (vP e39 a0.fRight), (vB a0.fBegin), (vB a0.fEnd)])) :: (dP e39 a1) :: (dI a2) :: (.ptr 0 0) :: u2 ((dB false) :: (dI (w64 (a2 - (a0.fLeft.length : Int)))) :: (dI (w64 (w64 (a2 + 1) + (a0.fRight.length : Int)))) :: u4 ((dI a2) :: (.ptr 0 0) :: (dP e39 a0.fLeft) :: (dI ((a0.fLeft.length : Int))) :: (dI (w64 (a2 - (a0.fLeft.length : Int)))) :: (dI a2) :: (dI (w64 (a2 + 1))) :: (.ptr 0 1) :: (dP e39 a0.fRight) :: (dI ((a0.fRight.length : Int))) :: (dI (w64 (w64 (a2 + 1) + (a0.fRight.length : Int)))) :: (dI (w64 (a2 - (a0.fLeft.length : Int)))) :: (dB v7) :: (dB v7) :: d3 :: d4 :: d5 :: d6 :: (dB false) :: (dB false) :: (.ptr 0 2) :: (dB false) :: (dB false) :: u2 ((dB false) :: (dB false) :: u40 (u7 [])))), [(.cells [(dP e39 a0.fLeft), (dP e39 a0.fRight), (dB a0.fBegin), (dB a0.fEnd)])]⟩ (by kernel_rfl) ?_
            exact J44j20 _ _ _ _ _ _ _ _ h
          · refine Ops.seg 4 16 (by kernel_rfl) ⟨(.v (.agg [(vP e39 a0.fLeft), (vP e39 a0.fRight), (vB a0.fBegin), (vB a0.fEnd)])) :: (dP e39 a1) :: (dI a2) :: (.ptr 0 0) :: u2 ((dB false) :: (dI (w64 (a2 - (a0.fLeft.length : Int)))) :: (dI (w64 (w64 (a2 + 1) + (a0.fRight.length : Int)))) :: u4 ((dI a2) :: (.ptr 0 0) :: (dP e39 a0.fLeft) :: (dI ((a0.fLeft.length : Int))) :: (dI (w64 (a2 - (a0.fLeft.length : Int)))) :: (dI a2) :: (dI (w64 (a2 + 1))) :: (.ptr 0 1) :: (dP e39 a0.fRight) :: (dI ((a0.fRight.length : Int))) :: (dI (w64 (w64 (a2 + 1) + (a0.fRight.length : Int)))) :: (dI (w64 (a2 - (a0.fLeft.length : Int)))) :: (dB v7) :: (dB v7) :: d3 :: d4 :: d5 :: d6 :: (dB false) :: (dB false) :: (.ptr 0 2) :: (dB true) :: (dB true) :: (dI (w64 (a2 - (a0.fLeft.length : Int)))) :: (dB ((w64 (a2 - (a0.fLeft.length : Int))) != 0)) :: (dB ((w64 (a2 - (a0.fLeft.length : Int))) != 0)) :: (dB ((w64 (a2 - (a0.fLeft.length : Int))) != 0)) :: u40 (u7 []))), [(.cells [(dP e39 a0.fLeft), (dP e39 a0.fRight), (dB a0.fBegin), (dB a0.fEnd)])]⟩ (by kernel_rfl) ?_
            exact J44j20 _ _ _ _ _ _ _ _ h
        exact G44g83 a0.fBegin h
      · refine Ops.seg 7 16 (by kernel_rfl) ⟨(.v (.agg [(vP e39 a0.fLeft), (vP e39 a0.fRight), (vB a0.fBegin), (vB a0.fEnd)])) :: (dP e39 a1) :: (dI a2) :: (.ptr 0 0) :: u2 ((dB false) :: (dI (w64 (a2 - (a0.fLeft.length : Int)))) :: (dI (w64 (w64 (a2 + 1) + (a0.fRight.length : Int)))) :: u4 ((dI a2) :: (.ptr 0 0) :: (dP e39 a0.fLeft) :: (dI ((a0.fLeft.length : Int))) :: (dI (w64 (a2 - (a0.fLeft.length : Int)))) :: (dI a2) :: (dI (w64 (a2 + 1))) :: (.ptr 0 1) :: (dP e39 a0.fRight) :: (dI ((a0.fRight.length : Int))) :: (dI (w64 (w64 (a2 + 1) + (a0.fRight.length : Int)))) :: (dI (w64 (a2 - (a0.fLeft.length : Int)))) :: (dB v7) :: (dB v7) :: d3 :: d4 :: d5 :: d6 :: (dB true) :: (dB true) :: u6 ((dB true) :: u40 (u7 [])))), [(.cells [(dP e39 a0.fLeft), (dP e39 a0.fRight), (dB a0.fBegin), (dB a0.fEnd)])]⟩ (by kernel_rfl) ?_
        exact J44j20 _ _ _ _ _ _ _ _ h
    exact G44g11 v8 h
  have G44g2 : ∀ v1 : Bool, f44_r5 m a0 a1 a2 ((v1 || (decide (w64 (w64 (a2 + 1) + (a0.fRight.length : Int)) > (a1.length : Int))))) = some o → Ops (X44 n) (opl (subc [1, 1, 0, 0] C44)) 3 ⟨(.v (.agg [(vP e39 a0.fLeft), (vP e39 a0.fRight), (vB a0.fBegin), (vB a0.fEnd)])) :: (dP e39 a1) :: (dI a2) :: (.ptr 0 0) :: u2 ((dB false) :: (dI (w64 (a2 - (a0.fLeft.length : Int)))) :: (dI (w64 (w64 (a2 + 1) + (a0.fRight.length : Int)))) :: u4 ((dI a2) :: (.ptr 0 0) :: (dP e39 a0.fLeft) :: (dI ((a0.fLeft.length : Int))) :: (dI (w64 (a2 - (a0.fLeft.length : Int)))) :: (dI a2) :: (dI (w64 (a2 + 1))) :: (.ptr 0 1) :: (dP e39 a0.fRight) :: (dI ((a0.fRight.length : Int))) :: (dI (w64 (w64 (a2 + 1) + (a0.fRight.length : Int)))) :: (dI (w64 (a2 - (a0.fLeft.length : Int)))) :: (dB v1) :: (dB v1) :: u40 (u20 []))), [(.cells [(dP e39 a0.fLeft), (dP e39 a0.fRight), (dB a0.fBegin), (dB a0.fEnd)])]⟩ ((seqQ (X44 n) (subc [1, 1, 0, 1] C44) (seqQ (X44 n) (subc [1, 1, 1] C44) (fnQ (X44 n).E.T (resOf Proofs.Try.prog 44) (eB o)))) .normal) := by
    intro v1 h
    cases v1
    · refine Ops.seg 2 5 (by kernel_rfl) ⟨(.v (.agg [(vP e39 a0.fLeft), (vP e39 a0.fRight), (vB a0.fBegin), (vB a0.fEnd)])) :: (dP e39 a1) :: (dI a2) :: (.ptr 0 0) :: u2 ((dB false) :: (dI (w64 (a2 - (a0.fLeft.length : Int)))) :: (dI (w64 (w64 (a2 + 1) + (a0.fRight.length : Int)))) :: u4 ((dI a2) :: (.ptr 0 0) :: (dP e39 a0.fLeft) :: (dI ((a0.fLeft.length : Int))) :: (dI (w64 (a2 - (a0.fLeft.length : Int)))) :: (dI a2) :: (dI (w64 (a2 + 1))) :: (.ptr 0 1) :: (dP e39 a0.fRight) :: (dI ((a0.fRight.length : Int))) :: (dI (w64 (w64 (a2 + 1) + (a0.fRight.length : Int)))) :: (dI (w64 (a2 - (a0.fLeft.length : Int)))) :: (dB false) :: (dB false) :: (dI (w64 (w64 (a2 + 1) + (a0.fRight.length : Int)))) :: (dP e39 a1) :: u40 (u18 []))), [(.cells [(dP e39 a0.fLeft), (dP e39 a0.fRight), (dB a0.fBegin), (dB a0.fEnd)])]⟩ (by kernel_rfl) ?_
      refine Ops.one 6 (by kernel_rfl) ((lenD (X44 n).E.T 37 (D.unt (dP e39 a1))).map (·, [(.cells [(dP e39 a0.fLeft), (dP e39 a0.fRight), (dB a0.fBegin), (dB a0.fEnd)])])) (dI ((a1.length : Int))) [(.cells [(dP e39 a0.fLeft), (dP e39 a0.fRight), (dB a0.fBegin), (dB a0.fEnd)])] ⟨(.v (.agg [(vP e39 a0.fLeft), (vP e39 a0.fRight), (vB a0.fBegin), (vB a0.fEnd)])) :: (dP e39 a1) :: (dI a2) :: (.ptr 0 0) :: u2 ((dB false) :: (dI (w64 (a2 - (a0.fLeft.length : Int)))) :: (dI (w64 (w64 (a2 + 1) + (a0.fRight.length : Int)))) :: u4 ((dI a2) :: (.ptr 0 0) :: (dP e39 a0.fLeft) :: (dI ((a0.fLeft.length : Int))) :: (dI (w64 (a2 - (a0.fLeft.length : Int)))) :: (dI a2) :: (dI (w64 (a2 + 1))) :: (.ptr 0 1) :: (dP e39 a0.fRight) :: (dI ((a0.fRight.length : Int))) :: (dI (w64 (w64 (a2 + 1) + (a0.fRight.length : Int)))) :: (dI (w64 (a2 - (a0.fLeft.length : Int)))) :: (dB false) :: (dB false) :: (dI (w64 (w64 (a2 + 1) + (a0.fRight.length : Int)))) :: (dP e39 a1) :: (dI ((a1.length : Int))) :: u40 (u17 []))), [(.cells [(dP e39 a0.fLeft), (dP e39 a0.fRight), (dB a0.fBegin), (dB a0.fEnd)])]⟩ (by kernel_rfl) (len_r _ 37 40 .plain e39 a1 (by kernel_rfl)) (by kernel_rfl) ?_
      refine Ops.seg 2 8 (by kernel_rfl) ⟨(.v (.agg [(vP e39 a0.fLeft), (vP e39 a0.fRight), (vB a0.fBegin), (vB a0.fEnd)])) :: (dP e39 a1) :: (dI a2) :: (.ptr 0 0) :: u2 ((dB false) :: (dI (w64 (a2 - (a0.fLeft.length : Int)))) :: (dI (w64 (w64 (a2 + 1) + (a0.fRight.length : Int)))) :: u4 ((dI a2) :: (.ptr 0 0) :: (dP e39 a0.fLeft) :: (dI ((a0.fLeft.length : Int))) :: (dI (w64 (a2 - (a0.fLeft.length : Int)))) :: (dI a2) :: (dI (w64 (a2 + 1))) :: (.ptr 0 1) :: (dP e39 a0.fRight) :: (dI ((a0.fRight.length : Int))) :: (dI (w64 (w64 (a2 + 1) + (a0.fRight.length : Int)))) :: (dI (w64 (a2 - (a0.fLeft.length : Int)))) :: (dB false) :: (dB false) :: (dI (w64 (w64 (a2 + 1) + (a0.fRight.length : Int)))) :: (dP e39 a1) :: (dI ((a1.length : Int))) :: (dB (decide (w64 (w64 (a2 + 1) + (a0.fRight.length : Int)) > (a1.length : Int)))) :: (dB (decide (w64 (w64 (a2 + 1) + (a0.fRight.length : Int)) > (a1.length : Int)))) :: u40 (u15 []))), [(.cells [(dP e39 a0.fLeft), (dP e39 a0.fRight), (dB a0.fBegin), (dB a0.fEnd)])]⟩ (by kernel_rfl) ?_
      exact J44j9 _ _ _ _ _ _ h
    · refine Ops.seg 5 8 (by kernel_rfl) ⟨(.v (.agg [(vP e39 a0.fLeft), (vP e39 a0.fRight), (vB a0.fBegin), (vB a0.fEnd)])) :: (dP e39 a1) :: (dI a2) :: (.ptr 0 0) :: u2 ((dB false) :: (dI (w64 (a2 - (a0.fLeft.length : Int)))) :: (dI (w64 (w64 (a2 + 1) + (a0.fRight.length : Int)))) :: u4 ((dI a2) :: (.ptr 0 0) :: (dP e39 a0.fLeft) :: (dI ((a0.fLeft.length : Int))) :: (dI (w64 (a2 - (a0.fLeft.length : Int)))) :: (dI a2) :: (dI (w64 (a2 + 1))) :: (.ptr 0 1) :: (dP e39 a0.fRight) :: (dI ((a0.fRight.length : Int))) :: (dI (w64 (w64 (a2 + 1) + (a0.fRight.length : Int)))) :: (dI (w64 (a2 - (a0.fLeft.length : Int)))) :: (dB true) :: (dB true) :: u4 ((dB true) :: u40 (u15 [])))), [(.cells [(dP e39 a0.fLeft), (dP e39 a0.fRight), (dB a0.fBegin), (dB a0.fEnd)])]⟩ (by kernel_rfl) ?_
      exact J44j9 _ _ _ _ _ _ h
  exact G44g2 (decide (w64 (a2 - (a0.fLeft.length : Int)) < 0)) h

end Go.Abs
