import Derived.Test.YtppipllchjpfmaaWEnv
namespace Go.Abs
set_option linter.unusedVariables false
set_option maxRecDepth 100000

/-! ### 22 glosswright/rewrite.fault -/
def f22 (m : Nat) (a0 : Int) (a1 : Int) : Option S25 :=
  some ((⟨a0, a1⟩ : S25))
noncomputable abbrev X22 (n : Nat) : Cx := cxOf Proofs.Try.prog E 22 n
noncomputable def C22 : Code := bodyOf Proofs.Try.prog 22
theorem ok22 (m : Nat) (a0 : Int) (a1 : Int) (o : S25) (h : f22 m a0 a1 = some o) (n : Nat) (hn : m + 1 ≤ n) : Fn Proofs.Try.prog E n 22 [eI a0, eI a1] (e25 o) := by
  obtain ⟨n, rfl⟩ : ∃ q, n = q + 1 := ⟨n - 1, by omega⟩
  unfold f22 at h
  refine Fn.of (by kernel_rfl) (by kernel_rfl) ⟨(dI a0) :: (dI a1) :: u6 [], []⟩ (by kernel_rfl) ?_
  refine Wp.seq (subc [0] C22) (subc [1] C22) (by kernel_rfl) ?_
  refine Wp.region (by kernel_rfl) ?_
  refine Ops.seg 1 1 (by kernel_rfl) ⟨(dI a0) :: (dI a1) :: u2 ((.ptr 0 0) :: u3 []), [(.cells [(dI 0), (dI 0)])]⟩ (by kernel_rfl) ?_
  refine Ops.done (by kernel_rfl) ?_
  refine seqQ.n ?_
  refine Wp.seq (subc [1, 0] C22) (subc [1, 1] C22) (by kernel_rfl) ?_
  refine Wp.region (by kernel_rfl) ?_
  refine Ops.seg 4 4 (by kernel_rfl) ⟨(dI a0) :: (dI a1) :: u2 ((.ptr 0 0) :: (dI a0) :: (dI a1) :: (.v (.agg [(vI a0), (vI a1)])) :: []), [(.cells [(dI a0), (dI a1)])]⟩ (by kernel_rfl) ?_
  refine Ops.done (by kernel_rfl) ?_
  refine seqQ.n ?_
  refine Wp.ret (by kernel_rfl) ?_
  exact fnQ.r' (X22 n) (fun z => (e25 z)) h (RetOk.mk' (.v (.agg [(vI a0), (vI a1)])) (by kernel_rfl) (by kernel_rfl))

/-! ### 24 glosswright/rewrite.right -/
def f24_r1 (m : Nat) (v18 : Int) (v34 : Bool) : Option (Stp Bool (Int)) :=
  cnd v34
  (some (.ret false))
  (some (.nxt (w64 (v18 + 1))))
def f24_B2 (m : Nat) (a0 : (List Int)) (v18 : Int) : Option (Stp Bool (Int)) :=
  cnd (decide (v18 < (a0.length : Int)))
  (bnd (idx a0 v18) fun v28 =>
  f24_r1 m v18 (((decide (v28 < 1)) || (decide (v28 > 1114111)))))
  (some (.brk v18))
def f24 (m : Nat) (a0 : (List Int)) : Option Bool :=
  brk (iter (fun (y : Int) => f24_B2 m a0 y) m 0) some fun y37 =>
  some true
noncomputable abbrev X24 (n : Nat) : Cx := cxOf Proofs.Try.prog E 24 n
noncomputable def C24 : Code := bodyOf Proofs.Try.prog 24
theorem ok24 (m : Nat) (a0 : (List Int)) (o : Bool) (h : f24 m a0 = some o) (n : Nat) (hn : m + 1 ≤ n) : Fn Proofs.Try.prog E n 24 [(eL eI) a0] (eB o) := by
  obtain ⟨n, rfl⟩ : ∃ q, n = q + 1 := ⟨n - 1, by omega⟩
  unfold f24 at h
  refine Fn.of (by kernel_rfl) (by kernel_rfl) ⟨(dP eI a0) :: u17 [], []⟩ (by kernel_rfl) ?_
  refine Wp.seq (subc [0] C24) (subc [1] C24) (by kernel_rfl) ?_
  refine Wp.region (by kernel_rfl) ?_
  refine Ops.seg 1 1 (by kernel_rfl) ⟨(dP eI a0) :: u1 ((dB false) :: u15 []), []⟩ (by kernel_rfl) ?_
  refine Ops.done (by kernel_rfl) ?_
  refine seqQ.n ?_
  refine Wp.seq (subc [1, 0] C24) (subc [1, 1] C24) (by kernel_rfl) ?_
  refine Wp.seq (subc [1, 0, 0] C24) (subc [1, 0, 1] C24) (by kernel_rfl) ?_
  refine Wp.region (by kernel_rfl) ?_
  refine Ops.seg 1 1 (by kernel_rfl) ⟨(dP eI a0) :: u1 ((dB false) :: u2 ((dP eI a0) :: u12 [])), []⟩ (by kernel_rfl) ?_
  refine Ops.one 2 (by kernel_rfl) ((lenD (X24 n).E.T 23 (D.unt (dP eI a0))).map (·, [])) (dI ((a0.length : Int))) [] ⟨(dP eI a0) :: u1 ((dB false) :: u2 ((dP eI a0) :: (dI ((a0.length : Int))) :: u11 [])), []⟩ (by kernel_rfl) (len_r _ 23 3 .plain eI a0 (by kernel_rfl)) (by kernel_rfl) ?_
  refine Ops.seg 1 3 (by kernel_rfl) ⟨(dP eI a0) :: u1 ((dB false) :: u2 ((dP eI a0) :: (dI ((a0.length : Int))) :: (dI 0) :: u10 [])), []⟩ (by kernel_rfl) ?_
  refine Ops.done (by kernel_rfl) ?_
  refine seqQ.n ?_
  refine Wp.block (id := 0) [2] (by kernel_rfl) 0 (by kernel_rfl) (subc [1, 0, 1, 0] C24) (by kernel_rfl) ?_
  have hLx36 : ∀ (kx20 : Nat) (v18 : Int)  (ox19 : Bool ⊕ (Int)), iter (fun (y : Int) => f24_B2 m a0 y) kx20 v18 = some ox19 → ∀ nx21, kx20 ≤ nx21 → (∀ r, ox19 = .inl r → ∀ σ, RetOk (X24 n) (resOf Proofs.Try.prog 24) (eB r) σ → (seqQ (X24 n) (subc [1, 1] C24) (fnQ (X24 n).E.T (resOf Proofs.Try.prog 24) (eB o))) .ret σ) → (∀ (y : Int) , ox19 = .inr y → (seqQ (X24 n) (subc [1, 1] C24) (fnQ (X24 n).E.T (resOf Proofs.Try.prog 24) (eB o))) .normal ⟨q2 ((dB false) :: q2 ((dP eI a0) :: (dI ((a0.length : Int))) :: (dI y) :: q10 [])), []⟩) → Lp (X24 n) [2, 5, 6, 7] 0 (subc [1, 0, 1, 0, 0] C24) nx21 ⟨q2 ((dB false) :: q2 ((dP eI a0) :: (dI ((a0.length : Int))) :: (dI v18) :: q10 [])), []⟩ (blkQ (X24 n) 0 [2] 0 (seqQ (X24 n) (subc [1, 1] C24) (fnQ (X24 n).E.T (resOf Proofs.Try.prog 24) (eB o)))) := by
    intro kx20
    induction kx20 with
    | zero => intro v18  ox19 h; exact (iter_zero h).elim
    | succ kx20 ihx22 =>
      intro v18  ox19 h nx21 hnx25 hrx23 hxx24
      obtain ⟨nx21, rfl⟩ : ∃ q, nx21 = q + 1 := ⟨nx21 - 1, by omega⟩
      obtain ⟨sx26, h, hsx27⟩ := iter_some h
      have h : f24_B2 m a0 v18 = some sx26 := h
      unfold f24_B2 at h
      refine Lp.succ ?_
      refine Wp.seq (subc [1, 0, 1, 0, 0, 0] C24) (subc [1, 0, 1, 0, 0, 1] C24) (by kernel_rfl) ?_
      refine Wp.region (by kernel_rfl) ?_
      refine Ops.seg 1 1 (by kernel_rfl) ⟨q2 ((dB false) :: q2 ((dP eI a0) :: (dI ((a0.length : Int))) :: (dI v18) :: (dB (decide (v18 < (a0.length : Int)))) :: q9 [])), []⟩ (by kernel_rfl) ?_
      refine Ops.done (by kernel_rfl) ?_
      refine seqQ.n ?_
      refine Wp.seq (subc [1, 0, 1, 0, 0, 1, 0] C24) (subc [1, 0, 1, 0, 0, 1, 1] C24) (by kernel_rfl) ?_
      rcases cnd_some h with ⟨hb, h⟩ | ⟨hb, h⟩
      · refine Wp.cond (decide (v18 < (a0.length : Int))) [2, 5, 6, 7] (by kernel_rfl) 0 (by kernel_rfl) (subc [1, 0, 1, 0, 0, 1, 0, 0] C24) (subc [1, 0, 1, 0, 0, 1, 0, 1] C24) (by kernel_rfl) (by kernel_rfl) (fun _ => ?_) (fun e => nomatch (hb.symm.trans e))
        refine Wp.skip (by kernel_rfl) ?_
        refine sqQ.n ⟨q2 ((dB false) :: q2 ((dP eI a0) :: (dI ((a0.length : Int))) :: (dI v18) :: (dB (decide (v18 < (a0.length : Int)))) :: q9 [])), []⟩ (by kernel_rfl) ?_
        refine seqQ.n ?_
        refine Wp.seq (subc [1, 0, 1, 0, 0, 1, 1, 0] C24) (subc [1, 0, 1, 0, 0, 1, 1, 1] C24) (by kernel_rfl) ?_
        refine Wp.block (id := 1) [2, 5, 6, 7] (by kernel_rfl) 0 (by kernel_rfl) (subc [1, 0, 1, 0, 0, 1, 1, 0, 0] C24) (by kernel_rfl) ?_
        refine Wp.seq (subc [1, 0, 1, 0, 0, 1, 1, 0, 0, 0] C24) (subc [1, 0, 1, 0, 0, 1, 1, 0, 0, 1] C24) (by kernel_rfl) ?_
        refine Wp.region (by kernel_rfl) ?_
        obtain ⟨v28, ev28, h⟩ := bnd_some h
        refine Ops.one 1 (by kernel_rfl) ((indexAddrH (X24 n).E.T [] 23 (D.unt (dP eI a0)) (dI v18)).map (·, [])) (.vptr [(vI v28)]) [] ⟨q2 ((dB false) :: q2 ((dP eI a0) :: (dI ((a0.length : Int))) :: (dI v18) :: (dB (decide (v18 < (a0.length : Int)))) :: (.vptr [(vI v28)]) :: q8 [])), []⟩ (by kernel_rfl) (ix_r _ 23 3 1 .plain eI a0 v18 v28 ev28 (by kernel_rfl) (by kernel_rfl) (fun _ => rfl)) (by kernel_rfl) ?_
        refine Ops.seg 2 3 (by kernel_rfl) ⟨q2 ((dB false) :: q1 ((dI v28) :: (dP eI a0) :: (dI ((a0.length : Int))) :: (dI v18) :: (dB (decide (v18 < (a0.length : Int)))) :: (.vptr [(vI v28)]) :: (dI v28) :: q7 [])), []⟩ (by kernel_rfl) ?_
        refine Ops.done (by kernel_rfl) ?_
        refine seqQ.n ?_
        refine Wp.seq (subc [1, 0, 1, 0, 0, 1, 1, 0, 0, 1, 0] C24) (subc [1, 0, 1, 0, 0, 1, 1, 0, 0, 1, 1] C24) (by kernel_rfl) ?_
        refine Wp.region (by kernel_rfl) ?_
        refine Ops.seg 3 3 (by kernel_rfl) ⟨q2 ((dB false) :: q1 ((dI v28) :: (dP eI a0) :: (dI ((a0.length : Int))) :: (dI v18) :: (dB (decide (v18 < (a0.length : Int)))) :: (.vptr [(vI v28)]) :: (dI v28) :: (dI v28) :: (dB (decide (v28 < 1))) :: (dB (decide (v28 < 1))) :: q4 [])), []⟩ (by kernel_rfl) ?_
        have J24j35 : ∀ (d31 d32 : D) (v33 : Bool) (v34 : Bool), f24_r1 m v18 v34 = some sx26 → Ops (X24 n) (opl (subc [1, 0, 1, 0, 0, 1, 1, 0, 0, 1, 0] C24)) 6 ⟨q2 ((dB false) :: q1 ((dI v28) :: (dP eI a0) :: (dI ((a0.length : Int))) :: (dI v18) :: (dB (decide (v18 < (a0.length : Int)))) :: (.vptr [(vI v28)]) :: (dI v28) :: (dI v28) :: (dB v33) :: (dB v33) :: d31 :: d32 :: (dB v34) :: q1 [])), []⟩ ((seqQ (X24 n) (subc [1, 0, 1, 0, 0, 1, 1, 0, 0, 1, 1] C24) (blkQ (X24 n) 1 [2, 5, 6, 7] 0 (seqQ (X24 n) (subc [1, 0, 1, 0, 0, 1, 1, 1] C24) (lpQ (X24 n) [2, 5, 6, 7] 0 (subc [1, 0, 1, 0, 0] C24) nx21 (blkQ (X24 n) 0 [2] 0 (seqQ (X24 n) (subc [1, 1] C24) (fnQ (X24 n).E.T (resOf Proofs.Try.prog 24) (eB o)))))))) .normal) := by
          intro d31 d32 v33 v34 h
          unfold f24_r1 at h
          refine Ops.done (by kernel_rfl) ?_
          refine seqQ.n ?_
          rcases cnd_some h with ⟨hb, h⟩ | ⟨hb, h⟩
          · refine Wp.cond v34 [2, 5, 6, 7] (by kernel_rfl) 0 (by kernel_rfl) (subc [1, 0, 1, 0, 0, 1, 1, 0, 0, 1, 1, 0] C24) (subc [1, 0, 1, 0, 0, 1, 1, 0, 0, 1, 1, 1] C24) (by kernel_rfl) (by kernel_rfl) (fun _ => ?_) (fun e => nomatch (hb.symm.trans e))
            refine Wp.seq (subc [1, 0, 1, 0, 0, 1, 1, 0, 0, 1, 1, 0, 0] C24) (subc [1, 0, 1, 0, 0, 1, 1, 0, 0, 1, 1, 0, 1] C24) (by kernel_rfl) ?_
            refine Wp.region (by kernel_rfl) ?_
            refine Ops.seg 1 1 (by kernel_rfl) ⟨q2 ((dB false) :: q1 ((dI v28) :: (dP eI a0) :: (dI ((a0.length : Int))) :: (dI v18) :: (dB (decide (v18 < (a0.length : Int)))) :: (.vptr [(vI v28)]) :: (dI v28) :: (dI v28) :: (dB v33) :: (dB v33) :: d31 :: d32 :: (dB v34) :: q1 [])), []⟩ (by kernel_rfl) ?_
            refine Ops.done (by kernel_rfl) ?_
            refine seqQ.n ?_
            refine Wp.ret (by kernel_rfl) ?_
            refine sqQ.r ?_
            refine blkQ.r ?_
            refine seqQ.r ?_
            cases h
            refine lpQ.r ?_
            refine blkQ.r ?_
            exact hrx23 _ hsx27 _ (RetOk.forget [2, 5, 6, 7] (by kernel_rfl) (RetOk.mk' (dB false) (by kernel_rfl) (by kernel_rfl)))
          · refine Wp.cond v34 [2, 5, 6, 7] (by kernel_rfl) 0 (by kernel_rfl) (subc [1, 0, 1, 0, 0, 1, 1, 0, 0, 1, 1, 0] C24) (subc [1, 0, 1, 0, 0, 1, 1, 0, 0, 1, 1, 1] C24) (by kernel_rfl) (by kernel_rfl) (fun e => nomatch (hb.symm.trans e)) (fun _ => ?_)
            refine Wp.skip (by kernel_rfl) ?_
            refine sqQ.n ⟨q2 ((dB false) :: q1 ((dI v28) :: (dP eI a0) :: (dI ((a0.length : Int))) :: (dI v18) :: (dB (decide (v18 < (a0.length : Int)))) :: (.vptr [(vI v28)]) :: (dI v28) :: (dI v28) :: (dB v33) :: (dB v33) :: d31 :: d32 :: (dB v34) :: q1 [])), []⟩ (by kernel_rfl) ?_
            refine blkQ.n ⟨q2 ((dB false) :: q1 ((dI v28) :: (dP eI a0) :: (dI ((a0.length : Int))) :: (dI v18) :: (dB (decide (v18 < (a0.length : Int)))) :: (.vptr [(vI v28)]) :: (dI v28) :: (dI v28) :: (dB v33) :: (dB v33) :: d31 :: d32 :: (dB v34) :: q1 [])), []⟩ (by kernel_rfl) ?_
            refine seqQ.n ?_
            refine Wp.region (by kernel_rfl) ?_
            refine Ops.seg 2 2 (by kernel_rfl) ⟨q2 ((dB false) :: q1 ((dI v28) :: (dP eI a0) :: (dI ((a0.length : Int))) :: (dI (w64 (v18 + 1))) :: (dB (decide (v18 < (a0.length : Int)))) :: (.vptr [(vI v28)]) :: (dI v28) :: (dI v28) :: (dB v33) :: (dB v33) :: d31 :: d32 :: (dB v34) :: (dI (w64 (v18 + 1))) :: [])), []⟩ (by kernel_rfl) ?_
            refine Ops.done (by kernel_rfl) ?_
            refine lpQ.n ⟨q2 ((dB false) :: q2 ((dP eI a0) :: (dI ((a0.length : Int))) :: (dI (w64 (v18 + 1))) :: q10 [])), []⟩ (by kernel_rfl) ?_
            cases h
            exact ihx22 (w64 (v18 + 1))  _ hsx27 _ (by omega) hrx23 hxx24
        have G24g30 : ∀ v29 : Bool, f24_r1 m v18 ((v29 || (decide (v28 > 1114111)))) = some sx26 → Ops (X24 n) (opl (subc [1, 0, 1, 0, 0, 1, 1, 0, 0, 1, 0] C24)) 3 ⟨q2 ((dB false) :: q1 ((dI v28) :: (dP eI a0) :: (dI ((a0.length : Int))) :: (dI v18) :: (dB (decide (v18 < (a0.length : Int)))) :: (.vptr [(vI v28)]) :: (dI v28) :: (dI v28) :: (dB v29) :: (dB v29) :: q4 [])), []⟩ ((seqQ (X24 n) (subc [1, 0, 1, 0, 0, 1, 1, 0, 0, 1, 1] C24) (blkQ (X24 n) 1 [2, 5, 6, 7] 0 (seqQ (X24 n) (subc [1, 0, 1, 0, 0, 1, 1, 1] C24) (lpQ (X24 n) [2, 5, 6, 7] 0 (subc [1, 0, 1, 0, 0] C24) nx21 (blkQ (X24 n) 0 [2] 0 (seqQ (X24 n) (subc [1, 1] C24) (fnQ (X24 n).E.T (resOf Proofs.Try.prog 24) (eB o)))))))) .normal) := by
          intro v29 h
          cases v29
          · refine Ops.seg 3 6 (by kernel_rfl) ⟨q2 ((dB false) :: q1 ((dI v28) :: (dP eI a0) :: (dI ((a0.length : Int))) :: (dI v18) :: (dB (decide (v18 < (a0.length : Int)))) :: (.vptr [(vI v28)]) :: (dI v28) :: (dI v28) :: (dB false) :: (dB false) :: (dI v28) :: (dB (decide (v28 > 1114111))) :: (dB (decide (v28 > 1114111))) :: q1 [])), []⟩ (by kernel_rfl) ?_
            exact J24j35 _ _ _ _ h
          · refine Ops.seg 3 6 (by kernel_rfl) ⟨q2 ((dB false) :: q1 ((dI v28) :: (dP eI a0) :: (dI ((a0.length : Int))) :: (dI v18) :: (dB (decide (v18 < (a0.length : Int)))) :: (.vptr [(vI v28)]) :: (dI v28) :: (dI v28) :: (dB true) :: (dB true) :: u2 ((dB true) :: q1 []))), []⟩ (by kernel_rfl) ?_
            exact J24j35 _ _ _ _ h
        exact G24g30 (decide (v28 < 1)) h
      · refine Wp.cond (decide (v18 < (a0.length : Int))) [2, 5, 6, 7] (by kernel_rfl) 0 (by kernel_rfl) (subc [1, 0, 1, 0, 0, 1, 0, 0] C24) (subc [1, 0, 1, 0, 0, 1, 0, 1] C24) (by kernel_rfl) (by kernel_rfl) (fun e => nomatch (hb.symm.trans e)) (fun _ => ?_)
        refine Wp.exit (id := 0) (by kernel_rfl) ?_
        refine sqQ.x ?_
        refine seqQ.x ?_
        cases h
        refine lpQ.x ?_
        refine blkQ.x ⟨q2 ((dB false) :: q2 ((dP eI a0) :: (dI ((a0.length : Int))) :: (dI v18) :: q10 [])), []⟩ (by kernel_rfl) ?_
        exact hxx24 v18  hsx27
  refine Wp.loop [2, 5, 6, 7] 0 (by kernel_rfl) (subc [1, 0, 1, 0, 0] C24) (by kernel_rfl) (by kernel_rfl) ⟨q2 ((dB false) :: q2 ((dP eI a0) :: (dI ((a0.length : Int))) :: (dI 0) :: q10 [])), []⟩ (by kernel_rfl) ?_
  rcases brk_some h with ⟨r38, er38, h⟩ | ⟨y37, ey37, h⟩
  · refine hLx36 _ 0  _ er38 n (by omega) (fun r er σ hσ => ?_) (fun y  ey => by cases ey)
    cases er
    refine seqQ.r ?_
    exact fnQ.r' (X24 n) (fun z => (eB z)) h hσ
  · refine hLx36 _ 0  _ ey37 n (by omega) (fun r er => by cases er) (fun y  ey => ?_)
    cases ey
    refine seqQ.n ?_
    refine Wp.seq (subc [1, 1, 0] C24) (subc [1, 1, 1] C24) (by kernel_rfl) ?_
    refine Wp.region (by kernel_rfl) ?_
    refine Ops.seg 1 1 (by kernel_rfl) ⟨q2 ((dB true) :: q2 ((dP eI a0) :: (dI ((a0.length : Int))) :: (dI y37) :: q10 [])), []⟩ (by kernel_rfl) ?_
    refine Ops.done (by kernel_rfl) ?_
    refine seqQ.n ?_
    refine Wp.ret (by kernel_rfl) ?_
    exact fnQ.r' (X24 n) (fun z => (eB z)) h (RetOk.mk' (dB true) (by kernel_rfl) (by kernel_rfl))

/-! ### 23 glosswright/rewrite.validate -/
def f23_r1 (m : Nat) (v63 : Bool) : Option Int :=
  cnd v63
  (some 3)
  (some 0)
def f23_r2 (m : Nat) (a0 : S28) (v54 : Bool) : Option Int :=
  bnd (cnd v54
  (some true)
  (bnd (f24 m a0.fRight) fun v65 =>
  some (!v65))) fun v63 =>
  f23_r1 m v63
def f23_r3 (m : Nat) (a0 : S28) (v45 : Bool) : Option Int :=
  bnd (cnd v45
  (some true)
  (bnd (f24 m a0.fLeft) fun v66 =>
  some (!v66))) fun v54 =>
  f23_r2 m a0 v54
def f23_r4 (m : Nat) (a0 : S28) (v35 : Bool) : Option Int :=
  cnd v35
  (some 9)
  (bnd (f24 m a0.fFrom) fun v37 =>
  bnd (cnd (!v37)
  (some true)
  (bnd (f24 m a0.fTo) fun v67 =>
  some (!v67))) fun v45 =>
  f23_r3 m a0 v45)
def f23_r5 (m : Nat) (a0 : S28) (v26 : Bool) : Option Int :=
  f23_r4 m a0 ((v26 || (decide ((a0.fRight.length : Int) > 3))))
def f23_r6 (m : Nat) (a0 : S28) (v17 : Bool) : Option Int :=
  f23_r5 m a0 ((v17 || (decide ((a0.fLeft.length : Int) > 3))))
def f23_r7 (m : Nat) (a0 : S28) (v8 : Bool) : Option Int :=
  f23_r6 m a0 ((v8 || (decide ((a0.fTo.length : Int) > 3))))
def f23 (m : Nat) (a0 : S28) : Option Int :=
  f23_r7 m a0 (((decide ((a0.fFrom.length : Int) < 1)) || (decide ((a0.fFrom.length : Int) > 3))))
noncomputable abbrev X23 (n : Nat) : Cx := cxOf Proofs.Try.prog E 23 n
noncomputable def C23 : Code := bodyOf Proofs.Try.prog 23
theorem ok23 (m : Nat) (a0 : S28) (o : Int) (h : f23 m a0 = some o) (n : Nat) (hn : m + 2 ≤ n) : Fn Proofs.Try.prog E n 23 [e28 a0] (eI o) := by
  obtain ⟨n, rfl⟩ : ∃ q, n = q + 1 := ⟨n - 1, by omega⟩
  unfold f23 at h
  refine Fn.of (by kernel_rfl) (by kernel_rfl) ⟨(.v (.agg [(vP eI a0.fFrom), (vP eI a0.fTo), (vP eI a0.fLeft), (vP eI a0.fRight)])) :: u40 (u12 []), []⟩ (by kernel_rfl) ?_
  refine Wp.seq (subc [0] C23) (subc [1] C23) (by kernel_rfl) ?_
  refine Wp.region (by kernel_rfl) ?_
  refine Ops.seg 2 2 (by kernel_rfl) ⟨(.v (.agg [(vP eI a0.fFrom), (vP eI a0.fTo), (vP eI a0.fLeft), (vP eI a0.fRight)])) :: (.ptr 0 0) :: (dI 0) :: u40 (u10 []), [(.cells [(dP eI a0.fFrom), (dP eI a0.fTo), (dP eI a0.fLeft), (dP eI a0.fRight)])]⟩ (by kernel_rfl) ?_
  refine Ops.done (by kernel_rfl) ?_
  refine seqQ.n ?_
  refine Wp.seq (subc [1, 0] C23) (subc [1, 1] C23) (by kernel_rfl) ?_
  refine Wp.seq (subc [1, 0, 0] C23) (subc [1, 0, 1] C23) (by kernel_rfl) ?_
  refine Wp.region (by kernel_rfl) ?_
  refine Ops.seg 2 2 (by kernel_rfl) ⟨(.v (.agg [(vP eI a0.fFrom), (vP eI a0.fTo), (vP eI a0.fLeft), (vP eI a0.fRight)])) :: (.ptr 0 0) :: (dI 0) :: (.ptr 0 0) :: (dP eI a0.fFrom) :: u40 (u8 []), [(.cells [(dP eI a0.fFrom), (dP eI a0.fTo), (dP eI a0.fLeft), (dP eI a0.fRight)])]⟩ (by kernel_rfl) ?_
  refine Ops.one 3 (by kernel_rfl) ((lenD (X23 n).E.T 23 (D.unt (dP eI a0.fFrom))).map (·, [(.cells [(dP eI a0.fFrom), (dP eI a0.fTo), (dP eI a0.fLeft), (dP eI a0.fRight)])])) (dI ((a0.fFrom.length : Int))) [(.cells [(dP eI a0.fFrom), (dP eI a0.fTo), (dP eI a0.fLeft), (dP eI a0.fRight)])] ⟨(.v (.agg [(vP eI a0.fFrom), (vP eI a0.fTo), (vP eI a0.fLeft), (vP eI a0.fRight)])) :: (.ptr 0 0) :: (dI 0) :: (.ptr 0 0) :: (dP eI a0.fFrom) :: (dI ((a0.fFrom.length : Int))) :: u40 (u7 []), [(.cells [(dP eI a0.fFrom), (dP eI a0.fTo), (dP eI a0.fLeft), (dP eI a0.fRight)])]⟩ (by kernel_rfl) (len_r _ 23 3 .plain eI a0.fFrom (by kernel_rfl)) (by kernel_rfl) ?_
  refine Ops.seg 2 5 (by kernel_rfl) ⟨(.v (.agg [(vP eI a0.fFrom), (vP eI a0.fTo), (vP eI a0.fLeft), (vP eI a0.fRight)])) :: (.ptr 0 0) :: (dI 0) :: (.ptr 0 0) :: (dP eI a0.fFrom) :: (dI ((a0.fFrom.length : Int))) :: (dB (decide ((a0.fFrom.length : Int) < 1))) :: (dB (decide ((a0.fFrom.length : Int) < 1))) :: u40 (u5 []), [(.cells [(dP eI a0.fFrom), (dP eI a0.fTo), (dP eI a0.fLeft), (dP eI a0.fRight)])]⟩ (by kernel_rfl) ?_
  have J23j9 : ∀ (d3 d4 d5 d6 : D) (v7 : Bool) (v8 : Bool), f23_r7 m a0 v8 = some o → Ops (X23 n) (opl (subc [1, 0, 0] C23)) 10 ⟨(.v (.agg [(vP eI a0.fFrom), (vP eI a0.fTo), (vP eI a0.fLeft), (vP eI a0.fRight)])) :: (.ptr 0 0) :: (dI 0) :: (.ptr 0 0) :: (dP eI a0.fFrom) :: (dI ((a0.fFrom.length : Int))) :: (dB v7) :: (dB v7) :: d3 :: d4 :: d5 :: d6 :: (dB v8) :: u40 [], [(.cells [(dP eI a0.fFrom), (dP eI a0.fTo), (dP eI a0.fLeft), (dP eI a0.fRight)])]⟩ ((seqQ (X23 n) (subc [1, 0, 1] C23) (seqQ (X23 n) (subc [1, 1] C23) (fnQ (X23 n).E.T (resOf Proofs.Try.prog 23) (eI o)))) .normal) := by
    intro d3 d4 d5 d6 v7 v8 h
    unfold f23_r7 at h
    refine Ops.seg 1 11 (by kernel_rfl) ⟨(.v (.agg [(vP eI a0.fFrom), (vP eI a0.fTo), (vP eI a0.fLeft), (vP eI a0.fRight)])) :: (.ptr 0 0) :: (dI 0) :: (.ptr 0 0) :: (dP eI a0.fFrom) :: (dI ((a0.fFrom.length : Int))) :: (dB v7) :: (dB v7) :: d3 :: d4 :: d5 :: d6 :: (dB v8) :: (dB v8) :: u39 [], [(.cells [(dP eI a0.fFrom), (dP eI a0.fTo), (dP eI a0.fLeft), (dP eI a0.fRight)])]⟩ (by kernel_rfl) ?_
    have J23j18 : ∀ (d12 d13 d14 d15 : D) (v16 : Bool) (v17 : Bool), f23_r6 m a0 v17 = some o → Ops (X23 n) (opl (subc [1, 0, 0] C23)) 16 ⟨(.v (.agg [(vP eI a0.fFrom), (vP eI a0.fTo), (vP eI a0.fLeft), (vP eI a0.fRight)])) :: (.ptr 0 0) :: (dI 0) :: (.ptr 0 0) :: (dP eI a0.fFrom) :: (dI ((a0.fFrom.length : Int))) :: (dB v7) :: (dB v7) :: d3 :: d4 :: d5 :: d6 :: (dB v16) :: (dB v16) :: d12 :: d13 :: d14 :: d15 :: (dB v17) :: u34 [], [(.cells [(dP eI a0.fFrom), (dP eI a0.fTo), (dP eI a0.fLeft), (dP eI a0.fRight)])]⟩ ((seqQ (X23 n) (subc [1, 0, 1] C23) (seqQ (X23 n) (subc [1, 1] C23) (fnQ (X23 n).E.T (resOf Proofs.Try.prog 23) (eI o)))) .normal) := by
      intro d12 d13 d14 d15 v16 v17 h
      unfold f23_r6 at h
      refine Ops.seg 1 17 (by kernel_rfl) ⟨(.v (.agg [(vP eI a0.fFrom), (vP eI a0.fTo), (vP eI a0.fLeft), (vP eI a0.fRight)])) :: (.ptr 0 0) :: (dI 0) :: (.ptr 0 0) :: (dP eI a0.fFrom) :: (dI ((a0.fFrom.length : Int))) :: (dB v7) :: (dB v7) :: d3 :: d4 :: d5 :: d6 :: (dB v16) :: (dB v16) :: d12 :: d13 :: d14 :: d15 :: (dB v17) :: (dB v17) :: u33 [], [(.cells [(dP eI a0.fFrom), (dP eI a0.fTo), (dP eI a0.fLeft), (dP eI a0.fRight)])]⟩ (by kernel_rfl) ?_
      have J23j27 : ∀ (d21 d22 d23 d24 : D) (v25 : Bool) (v26 : Bool), f23_r5 m a0 v26 = some o → Ops (X23 n) (opl (subc [1, 0, 0] C23)) 22 ⟨(.v (.agg [(vP eI a0.fFrom), (vP eI a0.fTo), (vP eI a0.fLeft), (vP eI a0.fRight)])) :: (.ptr 0 0) :: (dI 0) :: (.ptr 0 0) :: (dP eI a0.fFrom) :: (dI ((a0.fFrom.length : Int))) :: (dB v7) :: (dB v7) :: d3 :: d4 :: d5 :: d6 :: (dB v16) :: (dB v16) :: d12 :: d13 :: d14 :: d15 :: (dB v25) :: (dB v25) :: d21 :: d22 :: d23 :: d24 :: (dB v26) :: u28 [], [(.cells [(dP eI a0.fFrom), (dP eI a0.fTo), (dP eI a0.fLeft), (dP eI a0.fRight)])]⟩ ((seqQ (X23 n) (subc [1, 0, 1] C23) (seqQ (X23 n) (subc [1, 1] C23) (fnQ (X23 n).E.T (resOf Proofs.Try.prog 23) (eI o)))) .normal) := by
        intro d21 d22 d23 d24 v25 v26 h
        unfold f23_r5 at h
        refine Ops.seg 1 23 (by kernel_rfl) ⟨(.v (.agg [(vP eI a0.fFrom), (vP eI a0.fTo), (vP eI a0.fLeft), (vP eI a0.fRight)])) :: (.ptr 0 0) :: (dI 0) :: (.ptr 0 0) :: (dP eI a0.fFrom) :: (dI ((a0.fFrom.length : Int))) :: (dB v7) :: (dB v7) :: d3 :: d4 :: d5 :: d6 :: (dB v16) :: (dB v16) :: d12 :: d13 :: d14 :: d15 :: (dB v25) :: (dB v25) :: d21 :: d22 :: d23 :: d24 :: (dB v26) :: (dB v26) :: u27 [], [(.cells [(dP eI a0.fFrom), (dP eI a0.fTo), (dP eI a0.fLeft), (dP eI a0.fRight)])]⟩ (by kernel_rfl) ?_
        have J23j36 : ∀ (d30 d31 d32 d33 : D) (v34 : Bool) (v35 : Bool), f23_r4 m a0 v35 = some o → Ops (X23 n) (opl (subc [1, 0, 0] C23)) 28 ⟨(.v (.agg [(vP eI a0.fFrom), (vP eI a0.fTo), (vP eI a0.fLeft), (vP eI a0.fRight)])) :: (.ptr 0 0) :: (dI 0) :: (.ptr 0 0) :: (dP eI a0.fFrom) :: (dI ((a0.fFrom.length : Int))) :: (dB v7) :: (dB v7) :: d3 :: d4 :: d5 :: d6 :: (dB v16) :: (dB v16) :: d12 :: d13 :: d14 :: d15 :: (dB v25) :: (dB v25) :: d21 :: d22 :: d23 :: d24 :: (dB v34) :: (dB v34) :: d30 :: d31 :: d32 :: d33 :: (dB v35) :: u22 [], [(.cells [(dP eI a0.fFrom), (dP eI a0.fTo), (dP eI a0.fLeft), (dP eI a0.fRight)])]⟩ ((seqQ (X23 n) (subc [1, 0, 1] C23) (seqQ (X23 n) (subc [1, 1] C23) (fnQ (X23 n).E.T (resOf Proofs.Try.prog 23) (eI o)))) .normal) := by
          intro d30 d31 d32 d33 v34 v35 h
          unfold f23_r4 at h
          refine Ops.done (by kernel_rfl) ?_
          refine seqQ.n ?_
          rcases cnd_some h with ⟨hb, h⟩ | ⟨hb, h⟩
          · refine Wp.cond v35 [1, 2] (by kernel_rfl) 1 (by kernel_rfl) (subc [1, 0, 1, 0] C23) (subc [1, 0, 1, 1] C23) (by kernel_rfl) (by kernel_rfl) (fun _ => ?_) (fun e => nomatch (hb.symm.trans e))
            refine Wp.seq (subc [1, 0, 1, 0, 0] C23) (subc [1, 0, 1, 0, 1] C23) (by kernel_rfl) ?_
            refine Wp.region (by kernel_rfl) ?_
            refine Ops.seg 1 1 (by kernel_rfl) ⟨(.v (.agg [(vP eI a0.fFrom), (vP eI a0.fTo), (vP eI a0.fLeft), (vP eI a0.fRight)])) :: (.ptr 0 0) :: (dI 9) :: (.ptr 0 0) :: (dP eI a0.fFrom) :: (dI ((a0.fFrom.length : Int))) :: (dB v7) :: (dB v7) :: d3 :: d4 :: d5 :: d6 :: (dB v16) :: (dB v16) :: d12 :: d13 :: d14 :: d15 :: (dB v25) :: (dB v25) :: d21 :: d22 :: d23 :: d24 :: (dB v34) :: (dB v34) :: d30 :: d31 :: d32 :: d33 :: (dB v35) :: u22 [], [(.cells [(dP eI a0.fFrom), (dP eI a0.fTo), (dP eI a0.fLeft), (dP eI a0.fRight)])]⟩ (by kernel_rfl) ?_
            refine Ops.done (by kernel_rfl) ?_
            refine seqQ.n ?_
            refine Wp.ret (by kernel_rfl) ?_
            refine sqQ.r ?_
            refine seqQ.r ?_
            exact fnQ.r' (X23 n) (fun z => (eI z)) h (RetOk.mk' (dI 9) (by kernel_rfl) (by kernel_rfl))
          · refine Wp.cond v35 [1, 2] (by kernel_rfl) 1 (by kernel_rfl) (subc [1, 0, 1, 0] C23) (subc [1, 0, 1, 1] C23) (by kernel_rfl) (by kernel_rfl) (fun e => nomatch (hb.symm.trans e)) (fun _ => ?_)
            refine Wp.skip (by kernel_rfl) ?_
            refine sqQ.n ⟨(.v (.agg [(vP eI a0.fFrom), (vP eI a0.fTo), (vP eI a0.fLeft), (vP eI a0.fRight)])) :: (.ptr 0 0) :: (dI 0) :: (.ptr 0 0) :: (dP eI a0.fFrom) :: (dI ((a0.fFrom.length : Int))) :: (dB v7) :: (dB v7) :: d3 :: d4 :: d5 :: d6 :: (dB v16) :: (dB v16) :: d12 :: d13 :: d14 :: d15 :: (dB v25) :: (dB v25) :: d21 :: d22 :: d23 :: d24 :: (dB v34) :: (dB v34) :: d30 :: d31 :: d32 :: d33 :: (dB v35) :: u22 [], [(.cells [(dP eI a0.fFrom), (dP eI a0.fTo), (dP eI a0.fLeft), (dP eI a0.fRight)])]⟩ (by kernel_rfl) ?_
            refine seqQ.n ?_
            refine Wp.seq (subc [1, 1, 0] C23) (subc [1, 1, 1] C23) (by kernel_rfl) ?_
            refine Wp.seq (subc [1, 1, 0, 0] C23) (subc [1, 1, 0, 1] C23) (by kernel_rfl) ?_
            refine Wp.region (by kernel_rfl) ?_
            refine Ops.seg 2 2 (by kernel_rfl) ⟨(.v (.agg [(vP eI a0.fFrom), (vP eI a0.fTo), (vP eI a0.fLeft), (vP eI a0.fRight)])) :: (.ptr 0 0) :: (dI 0) :: (.ptr 0 0) :: (dP eI a0.fFrom) :: (dI ((a0.fFrom.length : Int))) :: (dB v7) :: (dB v7) :: d3 :: d4 :: d5 :: d6 :: (dB v16) :: (dB v16) :: d12 :: d13 :: d14 :: d15 :: (dB v25) :: (dB v25) :: d21 :: d22 :: d23 :: d24 :: (dB v34) :: (dB v34) :: d30 :: d31 :: d32 :: d33 :: (dB v35) :: (.ptr 0 0) :: (dP eI a0.fFrom) :: u20 [], [(.cells [(dP eI a0.fFrom), (dP eI a0.fTo), (dP eI a0.fLeft), (dP eI a0.fRight)])]⟩ (by kernel_rfl) ?_
            obtain ⟨v37, ev37, h⟩ := bnd_some h
            refine Ops.one 3 (by kernel_rfl) (callD (X23 n).E (run Proofs.Try.prog E n) 24 [(dP eI a0.fFrom)] [(.cells [(dP eI a0.fFrom), (dP eI a0.fTo), (dP eI a0.fLeft), (dP eI a0.fRight)])]) (dB v37) [(.cells [(dP eI a0.fFrom), (dP eI a0.fTo), (dP eI a0.fLeft), (dP eI a0.fRight)])] ⟨(.v (.agg [(vP eI a0.fFrom), (vP eI a0.fTo), (vP eI a0.fLeft), (vP eI a0.fRight)])) :: (.ptr 0 0) :: (dI 0) :: (.ptr 0 0) :: (dP eI a0.fFrom) :: (dI ((a0.fFrom.length : Int))) :: (dB v7) :: (dB v7) :: d3 :: d4 :: d5 :: d6 :: (dB v16) :: (dB v16) :: d12 :: d13 :: d14 :: d15 :: (dB v25) :: (dB v25) :: d21 :: d22 :: d23 :: d24 :: (dB v34) :: (dB v34) :: d30 :: d31 :: d32 :: d33 :: (dB v35) :: (.ptr 0 0) :: (dP eI a0.fFrom) :: (dB v37) :: u19 [], [(.cells [(dP eI a0.fFrom), (dP eI a0.fTo), (dP eI a0.fLeft), (dP eI a0.fRight)])]⟩ (by kernel_rfl) (call_ok (by kernel_rfl) (Args.v (vP eI a0.fFrom) ((eL eI) a0.fFrom) (by kernel_rfl) Args.nil) (ok24 m a0.fFrom v37 ev37 n (by omega))) (by kernel_rfl) ?_
            refine Ops.seg 2 5 (by kernel_rfl) ⟨(.v (.agg [(vP eI a0.fFrom), (vP eI a0.fTo), (vP eI a0.fLeft), (vP eI a0.fRight)])) :: (.ptr 0 0) :: (dI 0) :: (.ptr 0 0) :: (dP eI a0.fFrom) :: (dI ((a0.fFrom.length : Int))) :: (dB v7) :: (dB v7) :: d3 :: d4 :: d5 :: d6 :: (dB v16) :: (dB v16) :: d12 :: d13 :: d14 :: d15 :: (dB v25) :: (dB v25) :: d21 :: d22 :: d23 :: d24 :: (dB v34) :: (dB v34) :: d30 :: d31 :: d32 :: d33 :: (dB v35) :: (.ptr 0 0) :: (dP eI a0.fFrom) :: (dB v37) :: (dB (!v37)) :: (dB (!v37)) :: u17 [], [(.cells [(dP eI a0.fFrom), (dP eI a0.fTo), (dP eI a0.fLeft), (dP eI a0.fRight)])]⟩ (by kernel_rfl) ?_
            have J23j46 : ∀ (d40 d41 d42 d43 : D) (v44 : Bool) (v45 : Bool), f23_r3 m a0 v45 = some o → Ops (X23 n) (opl (subc [1, 1, 0, 0] C23)) 10 ⟨(.v (.agg [(vP eI a0.fFrom), (vP eI a0.fTo), (vP eI a0.fLeft), (vP eI a0.fRight)])) :: (.ptr 0 0) :: (dI 0) :: (.ptr 0 0) :: (dP eI a0.fFrom) :: (dI ((a0.fFrom.length : Int))) :: (dB v7) :: (dB v7) :: d3 :: d4 :: d5 :: d6 :: (dB v16) :: (dB v16) :: d12 :: d13 :: d14 :: d15 :: (dB v25) :: (dB v25) :: d21 :: d22 :: d23 :: d24 :: (dB v34) :: (dB v34) :: d30 :: d31 :: d32 :: d33 :: (dB v35) :: (.ptr 0 0) :: (dP eI a0.fFrom) :: (dB v37) :: (dB v44) :: (dB v44) :: d40 :: d41 :: d42 :: d43 :: (dB v45) :: u12 [], [(.cells [(dP eI a0.fFrom), (dP eI a0.fTo), (dP eI a0.fLeft), (dP eI a0.fRight)])]⟩ ((seqQ (X23 n) (subc [1, 1, 0, 1] C23) (seqQ (X23 n) (subc [1, 1, 1] C23) (fnQ (X23 n).E.T (resOf Proofs.Try.prog 23) (eI o)))) .normal) := by
              intro d40 d41 d42 d43 v44 v45 h
              unfold f23_r3 at h
              refine Ops.seg 1 11 (by kernel_rfl) ⟨(.v (.agg [(vP eI a0.fFrom), (vP eI a0.fTo), (vP eI a0.fLeft), (vP eI a0.fRight)])) :: (.ptr 0 0) :: (dI 0) :: (.ptr 0 0) :: (dP eI a0.fFrom) :: (dI ((a0.fFrom.length : Int))) :: (dB v7) :: (dB v7) :: d3 :: d4 :: d5 :: d6 :: (dB v16) :: (dB v16) :: d12 :: d13 :: d14 :: d15 :: (dB v25) :: (dB v25) :: d21 :: d22 :: d23 :: d24 :: (dB v34) :: (dB v34) :: d30 :: d31 :: d32 :: d33 :: (dB v35) :: (.ptr 0 0) :: (dP eI a0.fFrom) :: (dB v37) :: (dB v44) :: (dB v44) :: d40 :: d41 :: d42 :: d43 :: (dB v45) :: (dB v45) :: u11 [], [(.cells [(dP eI a0.fFrom), (dP eI a0.fTo), (dP eI a0.fLeft), (dP eI a0.fRight)])]⟩ (by kernel_rfl) ?_
              have J23j55 : ∀ (d49 d50 d51 d52 : D) (v53 : Bool) (v54 : Bool), f23_r2 m a0 v54 = some o → Ops (X23 n) (opl (subc [1, 1, 0, 0] C23)) 16 ⟨(.v (.agg [(vP eI a0.fFrom), (vP eI a0.fTo), (vP eI a0.fLeft), (vP eI a0.fRight)])) :: (.ptr 0 0) :: (dI 0) :: (.ptr 0 0) :: (dP eI a0.fFrom) :: (dI ((a0.fFrom.length : Int))) :: (dB v7) :: (dB v7) :: d3 :: d4 :: d5 :: d6 :: (dB v16) :: (dB v16) :: d12 :: d13 :: d14 :: d15 :: (dB v25) :: (dB v25) :: d21 :: d22 :: d23 :: d24 :: (dB v34) :: (dB v34) :: d30 :: d31 :: d32 :: d33 :: (dB v35) :: (.ptr 0 0) :: (dP eI a0.fFrom) :: (dB v37) :: (dB v44) :: (dB v44) :: d40 :: d41 :: d42 :: d43 :: (dB v53) :: (dB v53) :: d49 :: d50 :: d51 :: d52 :: (dB v54) :: u6 [], [(.cells [(dP eI a0.fFrom), (dP eI a0.fTo), (dP eI a0.fLeft), (dP eI a0.fRight)])]⟩ ((seqQ (X23 n) (subc [1, 1, 0, 1] C23) (seqQ (X23 n) (subc [1, 1, 1] C23) (fnQ (X23 n).E.T (resOf Proofs.Try.prog 23) (eI o)))) .normal) := by
                intro d49 d50 d51 d52 v53 v54 h
                unfold f23_r2 at h
                refine Ops.seg 1 17 (by kernel_rfl) ⟨(.v (.agg [(vP eI a0.fFrom), (vP eI a0.fTo), (vP eI a0.fLeft), (vP eI a0.fRight)])) :: (.ptr 0 0) :: (dI 0) :: (.ptr 0 0) :: (dP eI a0.fFrom) :: (dI ((a0.fFrom.length : Int))) :: (dB v7) :: (dB v7) :: d3 :: d4 :: d5 :: d6 :: (dB v16) :: (dB v16) :: d12 :: d13 :: d14 :: d15 :: (dB v25) :: (dB v25) :: d21 :: d22 :: d23 :: d24 :: (dB v34) :: (dB v34) :: d30 :: d31 :: d32 :: d33 :: (dB v35) :: (.ptr 0 0) :: (dP eI a0.fFrom) :: (dB v37) :: (dB v44) :: (dB v44) :: d40 :: d41 :: d42 :: d43 :: (dB v53) :: (dB v53) :: d49 :: d50 :: d51 :: d52 :: (dB v54) :: (dB v54) :: u5 [], [(.cells [(dP eI a0.fFrom), (dP eI a0.fTo), (dP eI a0.fLeft), (dP eI a0.fRight)])]⟩ (by kernel_rfl) ?_
                have J23j64 : ∀ (d58 d59 d60 d61 : D) (v62 : Bool) (v63 : Bool), f23_r1 m v63 = some o → Ops (X23 n) (opl (subc [1, 1, 0, 0] C23)) 22 ⟨(.v (.agg [(vP eI a0.fFrom), (vP eI a0.fTo), (vP eI a0.fLeft), (vP eI a0.fRight)])) :: (.ptr 0 0) :: (dI 0) :: (.ptr 0 0) :: (dP eI a0.fFrom) :: (dI ((a0.fFrom.length : Int))) :: (dB v7) :: (dB v7) :: d3 :: d4 :: d5 :: d6 :: (dB v16) :: (dB v16) :: d12 :: d13 :: d14 :: d15 :: (dB v25) :: (dB v25) :: d21 :: d22 :: d23 :: d24 :: (dB v34) :: (dB v34) :: d30 :: d31 :: d32 :: d33 :: (dB v35) :: (.ptr 0 0) :: (dP eI a0.fFrom) :: (dB v37) :: (dB v44) :: (dB v44) :: d40 :: d41 :: d42 :: d43 :: (dB v53) :: (dB v53) :: d49 :: d50 :: d51 :: d52 :: (dB v62) :: (dB v62) :: d58 :: d59 :: d60 :: d61 :: (dB v63) :: [], [(.cells [(dP eI a0.fFrom), (dP eI a0.fTo), (dP eI a0.fLeft), (dP eI a0.fRight)])]⟩ ((seqQ (X23 n) (subc [1, 1, 0, 1] C23) (seqQ (X23 n) (subc [1, 1, 1] C23) (fnQ (X23 n).E.T (resOf Proofs.Try.prog 23) (eI o)))) .normal) := by
                  intro d58 d59 d60 d61 v62 v63 h
                  unfold f23_r1 at h
                  refine Ops.done (by kernel_rfl) ?_
                  refine seqQ.n ?_
                  rcases cnd_some h with ⟨hb, h⟩ | ⟨hb, h⟩
                  · refine Wp.cond v63 [2] (by kernel_rfl) 1 (by kernel_rfl) (subc [1, 1, 0, 1, 0] C23) (subc [1, 1, 0, 1, 1] C23) (by kernel_rfl) (by kernel_rfl) (fun _ => ?_) (fun e => nomatch (hb.symm.trans e))
                    refine Wp.seq (subc [1, 1, 0, 1, 0, 0] C23) (subc [1, 1, 0, 1, 0, 1] C23) (by kernel_rfl) ?_
                    refine Wp.region (by kernel_rfl) ?_
                    refine Ops.seg 1 1 (by kernel_rfl) ⟨(.v (.agg [(vP eI a0.fFrom), (vP eI a0.fTo), (vP eI a0.fLeft), (vP eI a0.fRight)])) :: (.ptr 0 0) :: (dI 3) :: (.ptr 0 0) :: (dP eI a0.fFrom) :: (dI ((a0.fFrom.length : Int))) :: (dB v7) :: (dB v7) :: d3 :: d4 :: d5 :: d6 :: (dB v16) :: (dB v16) :: d12 :: d13 :: d14 :: d15 :: (dB v25) :: (dB v25) :: d21 :: d22 :: d23 :: d24 :: (dB v34) :: (dB v34) :: d30 :: d31 :: d32 :: d33 :: (dB v35) :: (.ptr 0 0) :: (dP eI a0.fFrom) :: (dB v37) :: (dB v44) :: (dB v44) :: d40 :: d41 :: d42 :: d43 :: (dB v53) :: (dB v53) :: d49 :: d50 :: d51 :: d52 :: (dB v62) :: (dB v62) :: d58 :: d59 :: d60 :: d61 :: (dB v63) :: [], [(.cells [(dP eI a0.fFrom), (dP eI a0.fTo), (dP eI a0.fLeft), (dP eI a0.fRight)])]⟩ (by kernel_rfl) ?_
                    refine Ops.done (by kernel_rfl) ?_
                    refine seqQ.n ?_
                    refine Wp.ret (by kernel_rfl) ?_
                    refine sqQ.r ?_
                    refine seqQ.r ?_
                    exact fnQ.r' (X23 n) (fun z => (eI z)) h (RetOk.mk' (dI 3) (by kernel_rfl) (by kernel_rfl))
                  · refine Wp.cond v63 [2] (by kernel_rfl) 1 (by kernel_rfl) (subc [1, 1, 0, 1, 0] C23) (subc [1, 1, 0, 1, 1] C23) (by kernel_rfl) (by kernel_rfl) (fun e => nomatch (hb.symm.trans e)) (fun _ => ?_)
                    refine Wp.skip (by kernel_rfl) ?_
                    refine sqQ.n ⟨(.v (.agg [(vP eI a0.fFrom), (vP eI a0.fTo), (vP eI a0.fLeft), (vP eI a0.fRight)])) :: (.ptr 0 0) :: (dI 0) :: (.ptr 0 0) :: (dP eI a0.fFrom) :: (dI ((a0.fFrom.length : Int))) :: (dB v7) :: (dB v7) :: d3 :: d4 :: d5 :: d6 :: (dB v16) :: (dB v16) :: d12 :: d13 :: d14 :: d15 :: (dB v25) :: (dB v25) :: d21 :: d22 :: d23 :: d24 :: (dB v34) :: (dB v34) :: d30 :: d31 :: d32 :: d33 :: (dB v35) :: (.ptr 0 0) :: (dP eI a0.fFrom) :: (dB v37) :: (dB v44) :: (dB v44) :: d40 :: d41 :: d42 :: d43 :: (dB v53) :: (dB v53) :: d49 :: d50 :: d51 :: d52 :: (dB v62) :: (dB v62) :: d58 :: d59 :: d60 :: d61 :: (dB v63) :: [], [(.cells [(dP eI a0.fFrom), (dP eI a0.fTo), (dP eI a0.fLeft), (dP eI a0.fRight)])]⟩ (by kernel_rfl) ?_
                    refine seqQ.n ?_
                    refine Wp.seq (subc [1, 1, 1, 0] C23) (subc [1, 1, 1, 1] C23) (by kernel_rfl) ?_
                    refine Wp.region (by kernel_rfl) ?_
                    refine Ops.seg 1 1 (by kernel_rfl) ⟨(.v (.agg [(vP eI a0.fFrom), (vP eI a0.fTo), (vP eI a0.fLeft), (vP eI a0.fRight)])) :: (.ptr 0 0) :: (dI 0) :: (.ptr 0 0) :: (dP eI a0.fFrom) :: (dI ((a0.fFrom.length : Int))) :: (dB v7) :: (dB v7) :: d3 :: d4 :: d5 :: d6 :: (dB v16) :: (dB v16) :: d12 :: d13 :: d14 :: d15 :: (dB v25) :: (dB v25) :: d21 :: d22 :: d23 :: d24 :: (dB v34) :: (dB v34) :: d30 :: d31 :: d32 :: d33 :: (dB v35) :: (.ptr 0 0) :: (dP eI a0.fFrom) :: (dB v37) :: (dB v44) :: (dB v44) :: d40 :: d41 :: d42 :: d43 :: (dB v53) :: (dB v53) :: d49 :: d50 :: d51 :: d52 :: (dB v62) :: (dB v62) :: d58 :: d59 :: d60 :: d61 :: (dB v63) :: [], [(.cells [(dP eI a0.fFrom), (dP eI a0.fTo), (dP eI a0.fLeft), (dP eI a0.fRight)])]⟩ (by kernel_rfl) ?_
                    refine Ops.done (by kernel_rfl) ?_
                    refine seqQ.n ?_
                    refine Wp.ret (by kernel_rfl) ?_
                    exact fnQ.r' (X23 n) (fun z => (eI z)) h (RetOk.mk' (dI 0) (by kernel_rfl) (by kernel_rfl))
                obtain ⟨v63, ev63, h⟩ := bnd_some h
                have G23g57 : ∀ v56 : Bool, (cnd v56 (some true) (bnd (f24 m a0.fRight) fun v65 => some (!v65))) = some v63 → Ops (X23 n) (opl (subc [1, 1, 0, 0] C23)) 17 ⟨(.v (.agg [(vP eI a0.fFrom), (vP eI a0.fTo), (vP eI a0.fLeft), (vP eI a0.fRight)])) :: (.ptr 0 0) :: (dI 0) :: (.ptr 0 0) :: (dP eI a0.fFrom) :: (dI ((a0.fFrom.length : Int))) :: (dB v7) :: (dB v7) :: d3 :: d4 :: d5 :: d6 :: (dB v16) :: (dB v16) :: d12 :: d13 :: d14 :: d15 :: (dB v25) :: (dB v25) :: d21 :: d22 :: d23 :: d24 :: (dB v34) :: (dB v34) :: d30 :: d31 :: d32 :: d33 :: (dB v35) :: (.ptr 0 0) :: (dP eI a0.fFrom) :: (dB v37) :: (dB v44) :: (dB v44) :: d40 :: d41 :: d42 :: d43 :: (dB v53) :: (dB v53) :: d49 :: d50 :: d51 :: d52 :: (dB v56) :: (dB v56) :: u5 [], [(.cells [(dP eI a0.fFrom), (dP eI a0.fTo), (dP eI a0.fLeft), (dP eI a0.fRight)])]⟩ ((seqQ (X23 n) (subc [1, 1, 0, 1] C23) (seqQ (X23 n) (subc [1, 1, 1] C23) (fnQ (X23 n).E.T (resOf Proofs.Try.prog 23) (eI o)))) .normal) := by
                  intro v56 ev63
                  cases v56
                  · have ev63 := cnd_f ev63
                    refine Ops.seg 2 19 (by kernel_rfl) ⟨(.v (.agg [(vP eI a0.fFrom), (vP eI a0.fTo), (vP eI a0.fLeft), (vP eI a0.fRight)])) :: (.ptr 0 0) :: (dI 0) :: (.ptr 0 0) :: (dP eI a0.fFrom) :: (dI ((a0.fFrom.length : Int))) :: (dB v7) :: (dB v7) :: d3 :: d4 :: d5 :: d6 :: (dB v16) :: (dB v16) :: d12 :: d13 :: d14 :: d15 :: (dB v25) :: (dB v25) :: d21 :: d22 :: d23 :: d24 :: (dB v34) :: (dB v34) :: d30 :: d31 :: d32 :: d33 :: (dB v35) :: (.ptr 0 0) :: (dP eI a0.fFrom) :: (dB v37) :: (dB v44) :: (dB v44) :: d40 :: d41 :: d42 :: d43 :: (dB v53) :: (dB v53) :: d49 :: d50 :: d51 :: d52 :: (dB false) :: (dB false) :: (.ptr 0 3) :: (dP eI a0.fRight) :: u3 [], [(.cells [(dP eI a0.fFrom), (dP eI a0.fTo), (dP eI a0.fLeft), (dP eI a0.fRight)])]⟩ (by kernel_rfl) ?_
                    obtain ⟨v65, ev65, ev63⟩ := bnd_some ev63
                    refine Ops.one 20 (by kernel_rfl) (callD (X23 n).E (run Proofs.Try.prog E n) 24 [(dP eI a0.fRight)] [(.cells [(dP eI a0.fFrom), (dP eI a0.fTo), (dP eI a0.fLeft), (dP eI a0.fRight)])]) (dB v65) [(.cells [(dP eI a0.fFrom), (dP eI a0.fTo), (dP eI a0.fLeft), (dP eI a0.fRight)])] ⟨(.v (.agg [(vP eI a0.fFrom), (vP eI a0.fTo), (vP eI a0.fLeft), (vP eI a0.fRight)])) :: (.ptr 0 0) :: (dI 0) :: (.ptr 0 0) :: (dP eI a0.fFrom) :: (dI ((a0.fFrom.length : Int))) :: (dB v7) :: (dB v7) :: d3 :: d4 :: d5 :: d6 :: (dB v16) :: (dB v16) :: d12 :: d13 :: d14 :: d15 :: (dB v25) :: (dB v25) :: d21 :: d22 :: d23 :: d24 :: (dB v34) :: (dB v34) :: d30 :: d31 :: d32 :: d33 :: (dB v35) :: (.ptr 0 0) :: (dP eI a0.fFrom) :: (dB v37) :: (dB v44) :: (dB v44) :: d40 :: d41 :: d42 :: d43 :: (dB v53) :: (dB v53) :: d49 :: d50 :: d51 :: d52 :: (dB false) :: (dB false) :: (.ptr 0 3) :: (dP eI a0.fRight) :: (dB v65) :: u2 [], [(.cells [(dP eI a0.fFrom), (dP eI a0.fTo), (dP eI a0.fLeft), (dP eI a0.fRight)])]⟩ (by kernel_rfl) (call_ok (by kernel_rfl) (Args.v (vP eI a0.fRight) ((eL eI) a0.fRight) (by kernel_rfl) Args.nil) (ok24 m a0.fRight v65 ev65 n (by omega))) (by kernel_rfl) ?_
                    refine Ops.seg 2 22 (by kernel_rfl) ⟨(.v (.agg [(vP eI a0.fFrom), (vP eI a0.fTo), (vP eI a0.fLeft), (vP eI a0.fRight)])) :: (.ptr 0 0) :: (dI 0) :: (.ptr 0 0) :: (dP eI a0.fFrom) :: (dI ((a0.fFrom.length : Int))) :: (dB v7) :: (dB v7) :: d3 :: d4 :: d5 :: d6 :: (dB v16) :: (dB v16) :: d12 :: d13 :: d14 :: d15 :: (dB v25) :: (dB v25) :: d21 :: d22 :: d23 :: d24 :: (dB v34) :: (dB v34) :: d30 :: d31 :: d32 :: d33 :: (dB v35) :: (.ptr 0 0) :: (dP eI a0.fFrom) :: (dB v37) :: (dB v44) :: (dB v44) :: d40 :: d41 :: d42 :: d43 :: (dB v53) :: (dB v53) :: d49 :: d50 :: d51 :: d52 :: (dB false) :: (dB false) :: (.ptr 0 3) :: (dP eI a0.fRight) :: (dB v65) :: (dB (!v65)) :: (dB (!v65)) :: [], [(.cells [(dP eI a0.fFrom), (dP eI a0.fTo), (dP eI a0.fLeft), (dP eI a0.fRight)])]⟩ (by kernel_rfl) ?_
                    exact J23j64 _ _ _ _ _ _ (some_sub (fun v63 => f23_r1 m v63 = some o) ev63 h)
                  · have ev63 := cnd_t ev63
                    refine Ops.seg 5 22 (by kernel_rfl) ⟨(.v (.agg [(vP eI a0.fFrom), (vP eI a0.fTo), (vP eI a0.fLeft), (vP eI a0.fRight)])) :: (.ptr 0 0) :: (dI 0) :: (.ptr 0 0) :: (dP eI a0.fFrom) :: (dI ((a0.fFrom.length : Int))) :: (dB v7) :: (dB v7) :: d3 :: d4 :: d5 :: d6 :: (dB v16) :: (dB v16) :: d12 :: d13 :: d14 :: d15 :: (dB v25) :: (dB v25) :: d21 :: d22 :: d23 :: d24 :: (dB v34) :: (dB v34) :: d30 :: d31 :: d32 :: d33 :: (dB v35) :: (.ptr 0 0) :: (dP eI a0.fFrom) :: (dB v37) :: (dB v44) :: (dB v44) :: d40 :: d41 :: d42 :: d43 :: (dB v53) :: (dB v53) :: d49 :: d50 :: d51 :: d52 :: (dB true) :: (dB true) :: u4 ((dB true) :: []), [(.cells [(dP eI a0.fFrom), (dP eI a0.fTo), (dP eI a0.fLeft), (dP eI a0.fRight)])]⟩ (by kernel_rfl) ?_
                    exact J23j64 _ _ _ _ _ _ (some_sub (fun v63 => f23_r1 m v63 = some o) ev63 h)
                exact G23g57 v54 ev63
              obtain ⟨v54, ev54, h⟩ := bnd_some h
              have G23g48 : ∀ v47 : Bool, (cnd v47 (some true) (bnd (f24 m a0.fLeft) fun v66 => some (!v66))) = some v54 → Ops (X23 n) (opl (subc [1, 1, 0, 0] C23)) 11 ⟨(.v (.agg [(vP eI a0.fFrom), (vP eI a0.fTo), (vP eI a0.fLeft), (vP eI a0.fRight)])) :: (.ptr 0 0) :: (dI 0) :: (.ptr 0 0) :: (dP eI a0.fFrom) :: (dI ((a0.fFrom.length : Int))) :: (dB v7) :: (dB v7) :: d3 :: d4 :: d5 :: d6 :: (dB v16) :: (dB v16) :: d12 :: d13 :: d14 :: d15 :: (dB v25) :: (dB v25) :: d21 :: d22 :: d23 :: d24 :: (dB v34) :: (dB v34) :: d30 :: d31 :: d32 :: d33 :: (dB v35) :: (.ptr 0 0) :: (dP eI a0.fFrom) :: (dB v37) :: (dB v44) :: (dB v44) :: d40 :: d41 :: d42 :: d43 :: (dB v47) :: (dB v47) :: u11 [], [(.cells [(dP eI a0.fFrom), (dP eI a0.fTo), (dP eI a0.fLeft), (dP eI a0.fRight)])]⟩ ((seqQ (X23 n) (subc [1, 1, 0, 1] C23) (seqQ (X23 n) (subc [1, 1, 1] C23) (fnQ (X23 n).E.T (resOf Proofs.Try.prog 23) (eI o)))) .normal) := by
                intro v47 ev54
                cases v47
                · have ev54 := cnd_f ev54
                  refine Ops.seg 2 13 (by kernel_rfl) ⟨(.v (.agg [(vP eI a0.fFrom), (vP eI a0.fTo), (vP eI a0.fLeft), (vP eI a0.fRight)])) :: (.ptr 0 0) :: (dI 0) :: (.ptr 0 0) :: (dP eI a0.fFrom) :: (dI ((a0.fFrom.length : Int))) :: (dB v7) :: (dB v7) :: d3 :: d4 :: d5 :: d6 :: (dB v16) :: (dB v16) :: d12 :: d13 :: d14 :: d15 :: (dB v25) :: (dB v25) :: d21 :: d22 :: d23 :: d24 :: (dB v34) :: (dB v34) :: d30 :: d31 :: d32 :: d33 :: (dB v35) :: (.ptr 0 0) :: (dP eI a0.fFrom) :: (dB v37) :: (dB v44) :: (dB v44) :: d40 :: d41 :: d42 :: d43 :: (dB false) :: (dB false) :: (.ptr 0 2) :: (dP eI a0.fLeft) :: u9 [], [(.cells [(dP eI a0.fFrom), (dP eI a0.fTo), (dP eI a0.fLeft), (dP eI a0.fRight)])]⟩ (by kernel_rfl) ?_
                  obtain ⟨v66, ev66, ev54⟩ := bnd_some ev54
                  refine Ops.one 14 (by kernel_rfl) (callD (X23 n).E (run Proofs.Try.prog E n) 24 [(dP eI a0.fLeft)] [(.cells [(dP eI a0.fFrom), (dP eI a0.fTo), (dP eI a0.fLeft), (dP eI a0.fRight)])]) (dB v66) [(.cells [(dP eI a0.fFrom), (dP eI a0.fTo), (dP eI a0.fLeft), (dP eI a0.fRight)])] ⟨(.v (.agg [(vP eI a0.fFrom), (vP eI a0.fTo), (vP eI a0.fLeft), (vP eI a0.fRight)])) :: (.ptr 0 0) :: (dI 0) :: (.ptr 0 0) :: (dP eI a0.fFrom) :: (dI ((a0.fFrom.length : Int))) :: (dB v7) :: (dB v7) :: d3 :: d4 :: d5 :: d6 :: (dB v16) :: (dB v16) :: d12 :: d13 :: d14 :: d15 :: (dB v25) :: (dB v25) :: d21 :: d22 :: d23 :: d24 :: (dB v34) :: (dB v34) :: d30 :: d31 :: d32 :: d33 :: (dB v35) :: (.ptr 0 0) :: (dP eI a0.fFrom) :: (dB v37) :: (dB v44) :: (dB v44) :: d40 :: d41 :: d42 :: d43 :: (dB false) :: (dB false) :: (.ptr 0 2) :: (dP eI a0.fLeft) :: (dB v66) :: u8 [], [(.cells [(dP eI a0.fFrom), (dP eI a0.fTo), (dP eI a0.fLeft), (dP eI a0.fRight)])]⟩ (by kernel_rfl) (call_ok (by kernel_rfl) (Args.v (vP eI a0.fLeft) ((eL eI) a0.fLeft) (by kernel_rfl) Args.nil) (ok24 m a0.fLeft v66 ev66 n (by omega))) (by kernel_rfl) ?_
                  refine Ops.seg 2 16 (by kernel_rfl) ⟨(.v (.agg [(vP eI a0.fFrom), (vP eI a0.fTo), (vP eI a0.fLeft), (vP eI a0.fRight)])) :: (.ptr 0 0) :: (dI 0) :: (.ptr 0 0) :: (dP eI a0.fFrom) :: (dI ((a0.fFrom.length : Int))) :: (dB v7) :: (dB v7) :: d3 :: d4 :: d5 :: d6 :: (dB v16) :: (dB v16) :: d12 :: d13 :: d14 :: d15 :: (dB v25) :: (dB v25) :: d21 :: d22 :: d23 :: d24 :: (dB v34) :: (dB v34) :: d30 :: d31 :: d32 :: d33 :: (dB v35) :: (.ptr 0 0) :: (dP eI a0.fFrom) :: (dB v37) :: (dB v44) :: (dB v44) :: d40 :: d41 :: d42 :: d43 :: (dB false) :: (dB false) :: (.ptr 0 2) :: (dP eI a0.fLeft) :: (dB v66) :: (dB (!v66)) :: (dB (!v66)) :: u6 [], [(.cells [(dP eI a0.fFrom), (dP eI a0.fTo), (dP eI a0.fLeft), (dP eI a0.fRight)])]⟩ (by kernel_rfl) ?_
                  exact J23j55 _ _ _ _ _ _ (some_sub (fun v54 => f23_r2 m a0 v54 = some o) ev54 h)
                · have ev54 := cnd_t ev54
                  refine Ops.seg 5 16 (by kernel_rfl) ⟨(.v (.agg [(vP eI a0.fFrom), (vP eI a0.fTo), (vP eI a0.fLeft), (vP eI a0.fRight)])) :: (.ptr 0 0) :: (dI 0) :: (.ptr 0 0) :: (dP eI a0.fFrom) :: (dI ((a0.fFrom.length : Int))) :: (dB v7) :: (dB v7) :: d3 :: d4 :: d5 :: d6 :: (dB v16) :: (dB v16) :: d12 :: d13 :: d14 :: d15 :: (dB v25) :: (dB v25) :: d21 :: d22 :: d23 :: d24 :: (dB v34) :: (dB v34) :: d30 :: d31 :: d32 :: d33 :: (dB v35) :: (.ptr 0 0) :: (dP eI a0.fFrom) :: (dB v37) :: (dB v44) :: (dB v44) :: d40 :: d41 :: d42 :: d43 :: (dB true) :: (dB true) :: u4 ((dB true) :: u6 []), [(.cells [(dP eI a0.fFrom), (dP eI a0.fTo), (dP eI a0.fLeft), (dP eI a0.fRight)])]⟩ (by kernel_rfl) ?_
                  exact J23j55 _ _ _ _ _ _ (some_sub (fun v54 => f23_r2 m a0 v54 = some o) ev54 h)
              exact G23g48 v45 ev54
            obtain ⟨v45, ev45, h⟩ := bnd_some h
            have G23g39 : ∀ v38 : Bool, (cnd v38 (some true) (bnd (f24 m a0.fTo) fun v67 => some (!v67))) = some v45 → Ops (X23 n) (opl (subc [1, 1, 0, 0] C23)) 5 ⟨(.v (.agg [(vP eI a0.fFrom), (vP eI a0.fTo), (vP eI a0.fLeft), (vP eI a0.fRight)])) :: (.ptr 0 0) :: (dI 0) :: (.ptr 0 0) :: (dP eI a0.fFrom) :: (dI ((a0.fFrom.length : Int))) :: (dB v7) :: (dB v7) :: d3 :: d4 :: d5 :: d6 :: (dB v16) :: (dB v16) :: d12 :: d13 :: d14 :: d15 :: (dB v25) :: (dB v25) :: d21 :: d22 :: d23 :: d24 :: (dB v34) :: (dB v34) :: d30 :: d31 :: d32 :: d33 :: (dB v35) :: (.ptr 0 0) :: (dP eI a0.fFrom) :: (dB v37) :: (dB v38) :: (dB v38) :: u17 [], [(.cells [(dP eI a0.fFrom), (dP eI a0.fTo), (dP eI a0.fLeft), (dP eI a0.fRight)])]⟩ ((seqQ (X23 n) (subc [1, 1, 0, 1] C23) (seqQ (X23 n) (subc [1, 1, 1] C23) (fnQ (X23 n).E.T (resOf Proofs.Try.prog 23) (eI o)))) .normal) := by
              intro v38 ev45
              cases v38
              · have ev45 := cnd_f ev45
                refine Ops.seg 2 7 (by kernel_rfl) ⟨(.v (.agg [(vP eI a0.fFrom), (vP eI a0.fTo), (vP eI a0.fLeft), (vP eI a0.fRight)])) :: (.ptr 0 0) :: (dI 0) :: (.ptr 0 0) :: (dP eI a0.fFrom) :: (dI ((a0.fFrom.length : Int))) :: (dB v7) :: (dB v7) :: d3 :: d4 :: d5 :: d6 :: (dB v16) :: (dB v16) :: d12 :: d13 :: d14 :: d15 :: (dB v25) :: (dB v25) :: d21 :: d22 :: d23 :: d24 :: (dB v34) :: (dB v34) :: d30 :: d31 :: d32 :: d33 :: (dB v35) :: (.ptr 0 0) :: (dP eI a0.fFrom) :: (dB v37) :: (dB false) :: (dB false) :: (.ptr 0 1) :: (dP eI a0.fTo) :: u15 [], [(.cells [(dP eI a0.fFrom), (dP eI a0.fTo), (dP eI a0.fLeft), (dP eI a0.fRight)])]⟩ (by kernel_rfl) ?_
                obtain ⟨v67, ev67, ev45⟩ := bnd_some ev45
                refine Ops.one 8 (by kernel_rfl) (callD (X23 n).E (run Proofs.Try.prog E n) 24 [(dP eI a0.fTo)] [(.cells [(dP eI a0.fFrom), (dP eI a0.fTo), (dP eI a0.fLeft), (dP eI a0.fRight)])]) (dB v67) [(.cells [(dP eI a0.fFrom), (dP eI a0.fTo), (dP eI a0.fLeft), (dP eI a0.fRight)])] ⟨(.v (.agg [(vP eI a0.fFrom), (vP eI a0.fTo), (vP eI a0.fLeft), (vP eI a0.fRight)])) :: (.ptr 0 0) :: (dI 0) :: (.ptr 0 0) :: (dP eI a0.fFrom) :: (dI ((a0.fFrom.length : Int))) :: (dB v7) :: (dB v7) :: d3 :: d4 :: d5 :: d6 :: (dB v16) :: (dB v16) :: d12 :: d13 :: d14 :: d15 :: (dB v25) :: (dB v25) :: d21 :: d22 :: d23 :: d24 :: (dB v34) :: (dB v34) :: d30 :: d31 :: d32 :: d33 :: (dB v35) :: (.ptr 0 0) :: (dP eI a0.fFrom) :: (dB v37) :: (dB false) :: (dB false) :: (.ptr 0 1) :: (dP eI a0.fTo) :: (dB v67) :: u14 [], [(.cells [(dP eI a0.fFrom), (dP eI a0.fTo), (dP eI a0.fLeft), (dP eI a0.fRight)])]⟩ (by kernel_rfl) (call_ok (by kernel_rfl) (Args.v (vP eI a0.fTo) ((eL eI) a0.fTo) (by kernel_rfl) Args.nil) (ok24 m a0.fTo v67 ev67 n (by omega))) (by kernel_rfl) ?_
                refine Ops.seg 2 10 (by kernel_rfl) ⟨(.v (.agg [(vP eI a0.fFrom), (vP eI a0.fTo), (vP eI a0.fLeft), (vP eI a0.fRight)])) :: (.ptr 0 0) :: (dI 0) :: (.ptr 0 0) :: (dP eI a0.fFrom) :: (dI ((a0.fFrom.length : Int))) :: (dB v7) :: (dB v7) :: d3 :: d4 :: d5 :: d6 :: (dB v16) :: (dB v16) :: d12 :: d13 :: d14 :: d15 :: (dB v25) :: (dB v25) :: d21 :: d22 :: d23 :: d24 :: (dB v34) :: (dB v34) :: d30 :: d31 :: d32 :: d33 :: (dB v35) :: (.ptr 0 0) :: (dP eI a0.fFrom) :: (dB v37) :: (dB false) :: (dB false) :: (.ptr 0 1) :: (dP eI a0.fTo) :: (dB v67) :: (dB (!v67)) :: (dB (!v67)) :: u12 [], [(.cells [(dP eI a0.fFrom), (dP eI a0.fTo), (dP eI a0.fLeft), (dP eI a0.fRight)])]⟩ (by kernel_rfl) ?_
                exact J23j46 _ _ _ _ _ _ (some_sub (fun v45 => f23_r3 m a0 v45 = some o) ev45 h)
              · have ev45 := cnd_t ev45
                refine Ops.seg 5 10 (by kernel_rfl) ⟨(.v (.agg [(vP eI a0.fFrom), (vP eI a0.fTo), (vP eI a0.fLeft), (vP eI a0.fRight)])) :: (.ptr 0 0) :: (dI 0) :: (.ptr 0 0) :: (dP eI a0.fFrom) :: (dI ((a0.fFrom.length : Int))) :: (dB v7) :: (dB v7) :: d3 :: d4 :: d5 :: d6 :: (dB v16) :: (dB v16) :: d12 :: d13 :: d14 :: d15 :: (dB v25) :: (dB v25) :: d21 :: d22 :: d23 :: d24 :: (dB v34) :: (dB v34) :: d30 :: d31 :: d32 :: d33 :: (dB v35) :: (.ptr 0 0) :: (dP eI a0.fFrom) :: (dB v37) :: (dB true) :: (dB true) :: u4 ((dB true) :: u12 []), [(.cells [(dP eI a0.fFrom), (dP eI a0.fTo), (dP eI a0.fLeft), (dP eI a0.fRight)])]⟩ (by kernel_rfl) ?_
                exact J23j46 _ _ _ _ _ _ (some_sub (fun v45 => f23_r3 m a0 v45 = some o) ev45 h)
            exact G23g39 (!v37) ev45
        have G23g29 : ∀ v28 : Bool, f23_r4 m a0 ((v28 || (decide ((a0.fRight.length : Int) > 3)))) = some o → Ops (X23 n) (opl (subc [1, 0, 0] C23)) 23 ⟨(.v (.agg [(vP eI a0.fFrom), (vP eI a0.fTo), (vP eI a0.fLeft), (vP eI a0.fRight)])) :: (.ptr 0 0) :: (dI 0) :: (.ptr 0 0) :: (dP eI a0.fFrom) :: (dI ((a0.fFrom.length : Int))) :: (dB v7) :: (dB v7) :: d3 :: d4 :: d5 :: d6 :: (dB v16) :: (dB v16) :: d12 :: d13 :: d14 :: d15 :: (dB v25) :: (dB v25) :: d21 :: d22 :: d23 :: d24 :: (dB v28) :: (dB v28) :: u27 [], [(.cells [(dP eI a0.fFrom), (dP eI a0.fTo), (dP eI a0.fLeft), (dP eI a0.fRight)])]⟩ ((seqQ (X23 n) (subc [1, 0, 1] C23) (seqQ (X23 n) (subc [1, 1] C23) (fnQ (X23 n).E.T (resOf Proofs.Try.prog 23) (eI o)))) .normal) := by
          intro v28 h
          cases v28
          · refine Ops.seg 2 25 (by kernel_rfl) ⟨(.v (.agg [(vP eI a0.fFrom), (vP eI a0.fTo), (vP eI a0.fLeft), (vP eI a0.fRight)])) :: (.ptr 0 0) :: (dI 0) :: (.ptr 0 0) :: (dP eI a0.fFrom) :: (dI ((a0.fFrom.length : Int))) :: (dB v7) :: (dB v7) :: d3 :: d4 :: d5 :: d6 :: (dB v16) :: (dB v16) :: d12 :: d13 :: d14 :: d15 :: (dB v25) :: (dB v25) :: d21 :: d22 :: d23 :: d24 :: (dB false) :: (dB false) :: (.ptr 0 3) :: (dP eI a0.fRight) :: u25 [], [(.cells [(dP eI a0.fFrom), (dP eI a0.fTo), (dP eI a0.fLeft), (dP eI a0.fRight)])]⟩ (by kernel_rfl) ?_
            refine Ops.one 26 (by kernel_rfl) ((lenD (X23 n).E.T 23 (D.unt (dP eI a0.fRight))).map (·, [(.cells [(dP eI a0.fFrom), (dP eI a0.fTo), (dP eI a0.fLeft), (dP eI a0.fRight)])])) (dI ((a0.fRight.length : Int))) [(.cells [(dP eI a0.fFrom), (dP eI a0.fTo), (dP eI a0.fLeft), (dP eI a0.fRight)])] ⟨(.v (.agg [(vP eI a0.fFrom), (vP eI a0.fTo), (vP eI a0.fLeft), (vP eI a0.fRight)])) :: (.ptr 0 0) :: (dI 0) :: (.ptr 0 0) :: (dP eI a0.fFrom) :: (dI ((a0.fFrom.length : Int))) :: (dB v7) :: (dB v7) :: d3 :: d4 :: d5 :: d6 :: (dB v16) :: (dB v16) :: d12 :: d13 :: d14 :: d15 :: (dB v25) :: (dB v25) :: d21 :: d22 :: d23 :: d24 :: (dB false) :: (dB false) :: (.ptr 0 3) :: (dP eI a0.fRight) :: (dI ((a0.fRight.length : Int))) :: u24 [], [(.cells [(dP eI a0.fFrom), (dP eI a0.fTo), (dP eI a0.fLeft), (dP eI a0.fRight)])]⟩ (by kernel_rfl) (len_r _ 23 3 .plain eI a0.fRight (by kernel_rfl)) (by kernel_rfl) ?_
            refine Ops.seg 2 28 (by kernel_rfl) ⟨(.v (.agg [(vP eI a0.fFrom), (vP eI a0.fTo), (vP eI a0.fLeft), (vP eI a0.fRight)])) :: (.ptr 0 0) :: (dI 0) :: (.ptr 0 0) :: (dP eI a0.fFrom) :: (dI ((a0.fFrom.length : Int))) :: (dB v7) :: (dB v7) :: d3 :: d4 :: d5 :: d6 :: (dB v16) :: (dB v16) :: d12 :: d13 :: d14 :: d15 :: (dB v25) :: (dB v25) :: d21 :: d22 :: d23 :: d24 :: (dB false) :: (dB false) :: (.ptr 0 3) :: (dP eI a0.fRight) :: (dI ((a0.fRight.length : Int))) :: (dB (decide ((a0.fRight.length : Int) > 3))) :: (dB (decide ((a0.fRight.length : Int) > 3))) :: u22 [], [(.cells [(dP eI a0.fFrom), (dP eI a0.fTo), (dP eI a0.fLeft), (dP eI a0.fRight)])]⟩ (by kernel_rfl) ?_
            exact J23j36 _ _ _ _ _ _ h
          · refine Ops.seg 5 28 (by kernel_rfl) ⟨(.v (.agg [(vP eI a0.fFrom), (vP eI a0.fTo), (vP eI a0.fLeft), (vP eI a0.fRight)])) :: (.ptr 0 0) :: (dI 0) :: (.ptr 0 0) :: (dP eI a0.fFrom) :: (dI ((a0.fFrom.length : Int))) :: (dB v7) :: (dB v7) :: d3 :: d4 :: d5 :: d6 :: (dB v16) :: (dB v16) :: d12 :: d13 :: d14 :: d15 :: (dB v25) :: (dB v25) :: d21 :: d22 :: d23 :: d24 :: (dB true) :: (dB true) :: u4 ((dB true) :: u22 []), [(.cells [(dP eI a0.fFrom), (dP eI a0.fTo), (dP eI a0.fLeft), (dP eI a0.fRight)])]⟩ (by kernel_rfl) ?_
            exact J23j36 _ _ _ _ _ _ h
        exact G23g29 v26 h
      have G23g20 : ∀ v19 : Bool, f23_r5 m a0 ((v19 || (decide ((a0.fLeft.length : Int) > 3)))) = some o → Ops (X23 n) (opl (subc [1, 0, 0] C23)) 17 ⟨(.v (.agg [(vP eI a0.fFrom), (vP eI a0.fTo), (vP eI a0.fLeft), (vP eI a0.fRight)])) :: (.ptr 0 0) :: (dI 0) :: (.ptr 0 0) :: (dP eI a0.fFrom) :: (dI ((a0.fFrom.length : Int))) :: (dB v7) :: (dB v7) :: d3 :: d4 :: d5 :: d6 :: (dB v16) :: (dB v16) :: d12 :: d13 :: d14 :: d15 :: (dB v19) :: (dB v19) :: u33 [], [(.cells [(dP eI a0.fFrom), (dP eI a0.fTo), (dP eI a0.fLeft), (dP eI a0.fRight)])]⟩ ((seqQ (X23 n) (subc [1, 0, 1] C23) (seqQ (X23 n) (subc [1, 1] C23) (fnQ (X23 n).E.T (resOf Proofs.Try.prog 23) (eI o)))) .normal) := by
        intro v19 h
        cases v19
        · refine Ops.seg 2 19 (by kernel_rfl) ⟨(.v (.agg [(vP eI a0.fFrom), (vP eI a0.fTo), (vP eI a0.fLeft), (vP eI a0.fRight)])) :: (.ptr 0 0) :: (dI 0) :: (.ptr 0 0) :: (dP eI a0.fFrom) :: (dI ((a0.fFrom.length : Int))) :: (dB v7) :: (dB v7) :: d3 :: d4 :: d5 :: d6 :: (dB v16) :: (dB v16) :: d12 :: d13 :: d14 :: d15 :: (dB false) :: (dB false) :: (.ptr 0 2) :: (dP eI a0.fLeft) :: u31 [], [(.cells [(dP eI a0.fFrom), (dP eI a0.fTo), (dP eI a0.fLeft), (dP eI a0.fRight)])]⟩ (by kernel_rfl) ?_
          refine Ops.one 20 (by kernel_rfl) ((lenD (X23 n).E.T 23 (D.unt (dP eI a0.fLeft))).map (·, [(.cells [(dP eI a0.fFrom), (dP eI a0.fTo), (dP eI a0.fLeft), (dP eI a0.fRight)])])) (dI ((a0.fLeft.length : Int))) [(.cells [(dP eI a0.fFrom), (dP eI a0.fTo), (dP eI a0.fLeft), (dP eI a0.fRight)])] ⟨(.v (.agg [(vP eI a0.fFrom), (vP eI a0.fTo), (vP eI a0.fLeft), (vP eI a0.fRight)])) :: (.ptr 0 0) :: (dI 0) :: (.ptr 0 0) :: (dP eI a0.fFrom) :: (dI ((a0.fFrom.length : Int))) :: (dB v7) :: (dB v7) :: d3 :: d4 :: d5 :: d6 :: (dB v16) :: (dB v16) :: d12 :: d13 :: d14 :: d15 :: (dB false) :: (dB false) :: (.ptr 0 2) :: (dP eI a0.fLeft) :: (dI ((a0.fLeft.length : Int))) :: u30 [], [(.cells [(dP eI a0.fFrom), (dP eI a0.fTo), (dP eI a0.fLeft), (dP eI a0.fRight)])]⟩ (by kernel_rfl) (len_r _ 23 3 .plain eI a0.fLeft (by kernel_rfl)) (by kernel_rfl) ?_
          refine Ops.seg 2 22 (by kernel_rfl) ⟨(.v (.agg [(vP eI a0.fFrom), (vP eI a0.fTo), (vP eI a0.fLeft), (vP eI a0.fRight)])) :: (.ptr 0 0) :: (dI 0) :: (.ptr 0 0) :: (dP eI a0.fFrom) :: (dI ((a0.fFrom.length : Int))) :: (dB v7) :: (dB v7) :: d3 :: d4 :: d5 :: d6 :: (dB v16) :: (dB v16) :: d12 :: d13 :: d14 :: d15 :: (dB false) :: (dB false) :: (.ptr 0 2) :: (dP eI a0.fLeft) :: (dI ((a0.fLeft.length : Int))) :: (dB (decide ((a0.fLeft.length : Int) > 3))) :: (dB (decide ((a0.fLeft.length : Int) > 3))) :: u28 [], [(.cells [(dP eI a0.fFrom), (dP eI a0.fTo), (dP eI a0.fLeft), (dP eI a0.fRight)])]⟩ (by kernel_rfl) ?_
          exact J23j27 _ _ _ _ _ _ h
        · refine Ops.seg 5 22 (by kernel_rfl) ⟨(.v (.agg [(vP eI a0.fFrom), (vP eI a0.fTo), (vP eI a0.fLeft), (vP eI a0.fRight)])) :: (.ptr 0 0) :: (dI 0) :: (.ptr 0 0) :: (dP eI a0.fFrom) :: (dI ((a0.fFrom.length : Int))) :: (dB v7) :: (dB v7) :: d3 :: d4 :: d5 :: d6 :: (dB v16) :: (dB v16) :: d12 :: d13 :: d14 :: d15 :: (dB true) :: (dB true) :: u4 ((dB true) :: u28 []), [(.cells [(dP eI a0.fFrom), (dP eI a0.fTo), (dP eI a0.fLeft), (dP eI a0.fRight)])]⟩ (by kernel_rfl) ?_
          exact J23j27 _ _ _ _ _ _ h
      exact G23g20 v17 h
    have G23g11 : ∀ v10 : Bool, f23_r6 m a0 ((v10 || (decide ((a0.fTo.length : Int) > 3)))) = some o → Ops (X23 n) (opl (subc [1, 0, 0] C23)) 11 ⟨(.v (.agg [(vP eI a0.fFrom), (vP eI a0.fTo), (vP eI a0.fLeft), (vP eI a0.fRight)])) :: (.ptr 0 0) :: (dI 0) :: (.ptr 0 0) :: (dP eI a0.fFrom) :: (dI ((a0.fFrom.length : Int))) :: (dB v7) :: (dB v7) :: d3 :: d4 :: d5 :: d6 :: (dB v10) :: (dB v10) :: u39 [], [(.cells [(dP eI a0.fFrom), (dP eI a0.fTo), (dP eI a0.fLeft), (dP eI a0.fRight)])]⟩ ((seqQ (X23 n) (subc [1, 0, 1] C23) (seqQ (X23 n) (subc [1, 1] C23) (fnQ (X23 n).E.T (resOf Proofs.Try.prog 23) (eI o)))) .normal) := by
      intro v10 h
      cases v10
      · refine Ops.seg 2 13 (by kernel_rfl) ⟨(.v (.agg [(vP eI a0.fFrom), (vP eI a0.fTo), (vP eI a0.fLeft), (vP eI a0.fRight)])) :: (.ptr 0 0) :: (dI 0) :: (.ptr 0 0) :: (dP eI a0.fFrom) :: (dI ((a0.fFrom.length : Int))) :: (dB v7) :: (dB v7) :: d3 :: d4 :: d5 :: d6 :: (dB false) :: (dB false) :: (.ptr 0 1) :: (dP eI a0.fTo) :: u37 [], [(.cells [(dP eI a0.fFrom), (dP eI a0.fTo), (dP eI a0.fLeft), (dP eI a0.fRight)])]⟩ (by kernel_rfl) ?_
        refine Ops.one 14 (by kernel_rfl) ((lenD (X23 n).E.T 23 (D.unt (dP eI a0.fTo))).map (·, [(.cells [(dP eI a0.fFrom), (dP eI a0.fTo), (dP eI a0.fLeft), (dP eI a0.fRight)])])) (dI ((a0.fTo.length : Int))) [(.cells [(dP eI a0.fFrom), (dP eI a0.fTo), (dP eI a0.fLeft), (dP eI a0.fRight)])] ⟨(.v (.agg [(vP eI a0.fFrom), (vP eI a0.fTo), (vP eI a0.fLeft), (vP eI a0.fRight)])) :: (.ptr 0 0) :: (dI 0) :: (.ptr 0 0) :: (dP eI a0.fFrom) :: (dI ((a0.fFrom.length : Int))) :: (dB v7) :: (dB v7) :: d3 :: d4 :: d5 :: d6 :: (dB false) :: (dB false) :: (.ptr 0 1) :: (dP eI a0.fTo) :: (dI ((a0.fTo.length : Int))) :: u36 [], [(.cells [(dP eI a0.fFrom), (dP eI a0.fTo), (dP eI a0.fLeft), (dP eI a0.fRight)])]⟩ (by kernel_rfl) (len_r _ 23 3 .plain eI a0.fTo (by kernel_rfl)) (by kernel_rfl) ?_
        refine Ops.seg 2 16 (by kernel_rfl) ⟨(.v (.agg [(vP eI a0.fFrom), (vP eI a0.fTo), (vP eI a0.fLeft), (vP eI a0.fRight)])) :: (.ptr 0 0) :: (dI 0) :: (.ptr 0 0) :: (dP eI a0.fFrom) :: (dI ((a0.fFrom.length : Int))) :: (dB v7) :: (dB v7) :: d3 :: d4 :: d5 :: d6 :: (dB false) :: (dB false) :: (.ptr 0 1) :: (dP eI a0.fTo) :: (dI ((a0.fTo.length : Int))) :: (dB (decide ((a0.fTo.length : Int) > 3))) :: (dB (decide ((a0.fTo.length : Int) > 3))) :: u34 [], [(.cells [(dP eI a0.fFrom), (dP eI a0.fTo), (dP eI a0.fLeft), (dP eI a0.fRight)])]⟩ (by kernel_rfl) ?_
        exact J23j18 _ _ _ _ _ _ h
      · refine Ops.seg 5 16 (by kernel_rfl) ⟨(.v (.agg [(vP eI a0.fFrom), (vP eI a0.fTo), (vP eI a0.fLeft), (vP eI a0.fRight)])) :: (.ptr 0 0) :: (dI 0) :: (.ptr 0 0) :: (dP eI a0.fFrom) :: (dI ((a0.fFrom.length : Int))) :: (dB v7) :: (dB v7) :: d3 :: d4 :: d5 :: d6 :: (dB true) :: (dB true) :: u4 ((dB true) :: u34 []), [(.cells [(dP eI a0.fFrom), (dP eI a0.fTo), (dP eI a0.fLeft), (dP eI a0.fRight)])]⟩ (by kernel_rfl) ?_
        exact J23j18 _ _ _ _ _ _ h
    exact G23g11 v8 h
  have G23g2 : ∀ v1 : Bool, f23_r7 m a0 ((v1 || (decide ((a0.fFrom.length : Int) > 3)))) = some o → Ops (X23 n) (opl (subc [1, 0, 0] C23)) 5 ⟨(.v (.agg [(vP eI a0.fFrom), (vP eI a0.fTo), (vP eI a0.fLeft), (vP eI a0.fRight)])) :: (.ptr 0 0) :: (dI 0) :: (.ptr 0 0) :: (dP eI a0.fFrom) :: (dI ((a0.fFrom.length : Int))) :: (dB v1) :: (dB v1) :: u40 (u5 []), [(.cells [(dP eI a0.fFrom), (dP eI a0.fTo), (dP eI a0.fLeft), (dP eI a0.fRight)])]⟩ ((seqQ (X23 n) (subc [1, 0, 1] C23) (seqQ (X23 n) (subc [1, 1] C23) (fnQ (X23 n).E.T (resOf Proofs.Try.prog 23) (eI o)))) .normal) := by
    intro v1 h
    cases v1
    · refine Ops.seg 2 7 (by kernel_rfl) ⟨(.v (.agg [(vP eI a0.fFrom), (vP eI a0.fTo), (vP eI a0.fLeft), (vP eI a0.fRight)])) :: (.ptr 0 0) :: (dI 0) :: (.ptr 0 0) :: (dP eI a0.fFrom) :: (dI ((a0.fFrom.length : Int))) :: (dB false) :: (dB false) :: (.ptr 0 0) :: (dP eI a0.fFrom) :: u40 (u3 []), [(.cells [(dP eI a0.fFrom), (dP eI a0.fTo), (dP eI a0.fLeft), (dP eI a0.fRight)])]⟩ (by kernel_rfl) ?_
      refine Ops.one 8 (by kernel_rfl) ((lenD (X23 n).E.T 23 (D.unt (dP eI a0.fFrom))).map (·, [(.cells [(dP eI a0.fFrom), (dP eI a0.fTo), (dP eI a0.fLeft), (dP eI a0.fRight)])])) (dI ((a0.fFrom.length : Int))) [(.cells [(dP eI a0.fFrom), (dP eI a0.fTo), (dP eI a0.fLeft), (dP eI a0.fRight)])] ⟨(.v (.agg [(vP eI a0.fFrom), (vP eI a0.fTo), (vP eI a0.fLeft), (vP eI a0.fRight)])) :: (.ptr 0 0) :: (dI 0) :: (.ptr 0 0) :: (dP eI a0.fFrom) :: (dI ((a0.fFrom.length : Int))) :: (dB false) :: (dB false) :: (.ptr 0 0) :: (dP eI a0.fFrom) :: (dI ((a0.fFrom.length : Int))) :: u40 (u2 []), [(.cells [(dP eI a0.fFrom), (dP eI a0.fTo), (dP eI a0.fLeft), (dP eI a0.fRight)])]⟩ (by kernel_rfl) (len_r _ 23 3 .plain eI a0.fFrom (by kernel_rfl)) (by kernel_rfl) ?_
      refine Ops.seg 2 10 (by kernel_rfl) ⟨(.v (.agg [(vP eI a0.fFrom), (vP eI a0.fTo), (vP eI a0.fLeft), (vP eI a0.fRight)])) :: (.ptr 0 0) :: (dI 0) :: (.ptr 0 0) :: (dP eI a0.fFrom) :: (dI ((a0.fFrom.length : Int))) :: (dB false) :: (dB false) :: (.ptr 0 0) :: (dP eI a0.fFrom) :: (dI ((a0.fFrom.length : Int))) :: (dB (decide ((a0.fFrom.length : Int) > 3))) :: (dB (decide ((a0.fFrom.length : Int) > 3))) :: u40 [], [(.cells [(dP eI a0.fFrom), (dP eI a0.fTo), (dP eI a0.fLeft), (dP eI a0.fRight)])]⟩ (by kernel_rfl) ?_
      exact J23j9 _ _ _ _ _ _ h
    · refine Ops.seg 5 10 (by kernel_rfl) ⟨(.v (.agg [(vP eI a0.fFrom), (vP eI a0.fTo), (vP eI a0.fLeft), (vP eI a0.fRight)])) :: (.ptr 0 0) :: (dI 0) :: (.ptr 0 0) :: (dP eI a0.fFrom) :: (dI ((a0.fFrom.length : Int))) :: (dB true) :: (dB true) :: u4 ((dB true) :: u40 []), [(.cells [(dP eI a0.fFrom), (dP eI a0.fTo), (dP eI a0.fLeft), (dP eI a0.fRight)])]⟩ (by kernel_rfl) ?_
      exact J23j9 _ _ _ _ _ _ h
  exact G23g2 (decide ((a0.fFrom.length : Int) < 1)) h

/-! ### 11 glosswright/rewrite.Validate -/
def f11_B1 (m : Nat) (a0 : (List S28)) (v9 : Int) : Option (Stp S25 (Int)) :=
  cnd (decide (v9 < (a0.length : Int)))
  (bnd (idx a0 v9) fun v19 =>
  bnd (f23 m v19) fun v20 =>
  cnd (v20 != 0)
  (bnd (f22 m v20 v9) fun v21 =>
  some (.ret v21))
  (some (.nxt (w64 (v9 + 1)))))
  (some (.brk v9))
def f11 (m : Nat) (a0 : (List S28)) : Option S25 :=
  cnd (decide ((a0.length : Int) > 40))
  (bnd (f22 m 2 ((-1))) fun v1 =>
  some v1)
  (brk (iter (fun (y : Int) => f11_B1 m a0 y) m 0) some fun y23 =>
  some ((⟨0, 0⟩ : S25)))
noncomputable abbrev X11 (n : Nat) : Cx := cxOf Proofs.Try.prog E 11 n
noncomputable def C11 : Code := bodyOf Proofs.Try.prog 11
theorem ok11 (m : Nat) (a0 : (List S28)) (o : S25) (h : f11 m a0 = some o) (n : Nat) (hn : m + 3 ≤ n) : Fn Proofs.Try.prog E n 11 [(eL e28) a0] (e25 o) := by
  obtain ⟨n, rfl⟩ : ∃ q, n = q + 1 := ⟨n - 1, by omega⟩
  unfold f11 at h
  refine Fn.of (by kernel_rfl) (by kernel_rfl) ⟨(dP e28 a0) :: u25 [], []⟩ (by kernel_rfl) ?_
  refine Wp.seq (subc [0] C11) (subc [1] C11) (by kernel_rfl) ?_
  refine Wp.region (by kernel_rfl) ?_
  refine Ops.seg 1 1 (by kernel_rfl) ⟨(dP e28 a0) :: u1 ((.ptr 0 0) :: u23 []), [(.cells [(dI 0), (dI 0)])]⟩ (by kernel_rfl) ?_
  refine Ops.done (by kernel_rfl) ?_
  refine seqQ.n ?_
  refine Wp.seq (subc [1, 0] C11) (subc [1, 1] C11) (by kernel_rfl) ?_
  refine Wp.seq (subc [1, 0, 0] C11) (subc [1, 0, 1] C11) (by kernel_rfl) ?_
  refine Wp.region (by kernel_rfl) ?_
  refine Ops.seg 1 1 (by kernel_rfl) ⟨(dP e28 a0) :: u1 ((.ptr 0 0) :: u3 ((dP e28 a0) :: u19 [])), [(.cells [(dI 0), (dI 0)])]⟩ (by kernel_rfl) ?_
  refine Ops.one 2 (by kernel_rfl) ((lenD (X11 n).E.T 22 (D.unt (dP e28 a0))).map (·, [(.cells [(dI 0), (dI 0)])])) (dI ((a0.length : Int))) [(.cells [(dI 0), (dI 0)])] ⟨(dP e28 a0) :: u1 ((.ptr 0 0) :: u3 ((dP e28 a0) :: (dI ((a0.length : Int))) :: u18 [])), [(.cells [(dI 0), (dI 0)])]⟩ (by kernel_rfl) (len_r _ 22 29 .plain e28 a0 (by kernel_rfl)) (by kernel_rfl) ?_
  refine Ops.seg 1 3 (by kernel_rfl) ⟨(dP e28 a0) :: u1 ((.ptr 0 0) :: u3 ((dP e28 a0) :: (dI ((a0.length : Int))) :: (dB (decide ((a0.length : Int) > 40))) :: u17 [])), [(.cells [(dI 0), (dI 0)])]⟩ (by kernel_rfl) ?_
  refine Ops.done (by kernel_rfl) ?_
  refine seqQ.n ?_
  rcases cnd_some h with ⟨hb, h⟩ | ⟨hb, h⟩
  · refine Wp.cond (decide ((a0.length : Int) > 40)) [0, 2] (by kernel_rfl) 1 (by kernel_rfl) (subc [1, 0, 1, 0] C11) (subc [1, 0, 1, 1] C11) (by kernel_rfl) (by kernel_rfl) (fun _ => ?_) (fun e => nomatch (hb.symm.trans e))
    refine Wp.seq (subc [1, 0, 1, 0, 0] C11) (subc [1, 0, 1, 0, 1] C11) (by kernel_rfl) ?_
    refine Wp.region (by kernel_rfl) ?_
    obtain ⟨v1, ev1, h⟩ := bnd_some h
    refine Ops.one 1 (by kernel_rfl) (callD (X11 n).E (run Proofs.Try.prog E n) 22 [(dI 2), (dI ((-1)))] [(.cells [(dI 0), (dI 0)])]) (.v (.agg [(vI v1.fCode), (vI v1.fIndex)])) [(.cells [(dI 0), (dI 0)])] ⟨(dP e28 a0) :: u1 ((.ptr 0 0) :: u3 ((dP e28 a0) :: (dI ((a0.length : Int))) :: (dB (decide ((a0.length : Int) > 40))) :: (.v (.agg [(vI v1.fCode), (vI v1.fIndex)])) :: u16 [])), [(.cells [(dI 0), (dI 0)])]⟩ (by kernel_rfl) (call_ok (by kernel_rfl) (Args.v (vI 2) (eI 2) (by kernel_rfl) (Args.v (vI ((-1))) (eI ((-1))) (by kernel_rfl) Args.nil)) (ok22 m 2 ((-1)) v1 ev1 n (by omega))) (by kernel_rfl) ?_
    refine Ops.seg 1 2 (by kernel_rfl) ⟨(dP e28 a0) :: u1 ((.ptr 0 0) :: u3 ((dP e28 a0) :: (dI ((a0.length : Int))) :: (dB (decide ((a0.length : Int) > 40))) :: (.v (.agg [(vI v1.fCode), (vI v1.fIndex)])) :: u16 [])), [(.cells [(dI v1.fCode), (dI v1.fIndex)])]⟩ (by kernel_rfl) ?_
    refine Ops.done (by kernel_rfl) ?_
    refine seqQ.n ?_
    refine Wp.ret (by kernel_rfl) ?_
    refine sqQ.r ?_
    refine seqQ.r ?_
    exact fnQ.r' (X11 n) (fun z => (e25 z)) h (RetOk.mk' (.v (.agg [(vI v1.fCode), (vI v1.fIndex)])) (by kernel_rfl) (by kernel_rfl))
  · refine Wp.cond (decide ((a0.length : Int) > 40)) [0, 2] (by kernel_rfl) 1 (by kernel_rfl) (subc [1, 0, 1, 0] C11) (subc [1, 0, 1, 1] C11) (by kernel_rfl) (by kernel_rfl) (fun e => nomatch (hb.symm.trans e)) (fun _ => ?_)
    refine Wp.skip (by kernel_rfl) ?_
    refine sqQ.n ⟨(dP e28 a0) :: u1 ((.ptr 0 0) :: u3 ((dP e28 a0) :: (dI ((a0.length : Int))) :: (dB (decide ((a0.length : Int) > 40))) :: u17 [])), [(.cells [(dI 0), (dI 0)])]⟩ (by kernel_rfl) ?_
    refine seqQ.n ?_
    refine Wp.seq (subc [1, 1, 0] C11) (subc [1, 1, 1] C11) (by kernel_rfl) ?_
    refine Wp.seq (subc [1, 1, 0, 0] C11) (subc [1, 1, 0, 1] C11) (by kernel_rfl) ?_
    refine Wp.region (by kernel_rfl) ?_
    refine Ops.seg 1 1 (by kernel_rfl) ⟨(dP e28 a0) :: u1 ((.ptr 0 0) :: u3 ((dP e28 a0) :: (dI ((a0.length : Int))) :: (dB (decide ((a0.length : Int) > 40))) :: u1 ((dP e28 a0) :: u15 []))), [(.cells [(dI 0), (dI 0)])]⟩ (by kernel_rfl) ?_
    refine Ops.one 2 (by kernel_rfl) ((lenD (X11 n).E.T 22 (D.unt (dP e28 a0))).map (·, [(.cells [(dI 0), (dI 0)])])) (dI ((a0.length : Int))) [(.cells [(dI 0), (dI 0)])] ⟨(dP e28 a0) :: u1 ((.ptr 0 0) :: u3 ((dP e28 a0) :: (dI ((a0.length : Int))) :: (dB (decide ((a0.length : Int) > 40))) :: u1 ((dP e28 a0) :: (dI ((a0.length : Int))) :: u14 []))), [(.cells [(dI 0), (dI 0)])]⟩ (by kernel_rfl) (len_r _ 22 29 .plain e28 a0 (by kernel_rfl)) (by kernel_rfl) ?_
    refine Ops.seg 1 3 (by kernel_rfl) ⟨(dP e28 a0) :: u1 ((.ptr 0 0) :: u3 ((dP e28 a0) :: (dI ((a0.length : Int))) :: (dB (decide ((a0.length : Int) > 40))) :: u1 ((dP e28 a0) :: (dI ((a0.length : Int))) :: (dI 0) :: u13 []))), [(.cells [(dI 0), (dI 0)])]⟩ (by kernel_rfl) ?_
    refine Ops.done (by kernel_rfl) ?_
    refine seqQ.n ?_
    refine Wp.block (id := 0) [2] (by kernel_rfl) 1 (by kernel_rfl) (subc [1, 1, 0, 1, 0] C11) (by kernel_rfl) ?_
    have hLx22 : ∀ (kx11 : Nat) (v9 : Int)  (ox10 : S25 ⊕ (Int)), iter (fun (y : Int) => f11_B1 m a0 y) kx11 v9 = some ox10 → ∀ nx12, kx11 ≤ nx12 → (∀ r, ox10 = .inl r → ∀ σ, RetOk (X11 n) (resOf Proofs.Try.prog 11) (e25 r) σ → (seqQ (X11 n) (subc [1, 1, 1] C11) (fnQ (X11 n).E.T (resOf Proofs.Try.prog 11) (e25 o))) .ret σ) → (∀ (y : Int) , ox10 = .inr y → (seqQ (X11 n) (subc [1, 1, 1] C11) (fnQ (X11 n).E.T (resOf Proofs.Try.prog 11) (e25 o))) .normal ⟨q2 ((.ptr 0 0) :: q7 ((dP e28 a0) :: (dI ((a0.length : Int))) :: (dI y) :: q13 [])), [(.cells [(dI 0), (dI 0)])]⟩) → Lp (X11 n) [2, 10, 11, 12] 1 (subc [1, 1, 0, 1, 0, 0] C11) nx12 ⟨q2 ((.ptr 0 0) :: q7 ((dP e28 a0) :: (dI ((a0.length : Int))) :: (dI v9) :: q13 [])), [(.cells [(dI 0), (dI 0)])]⟩ (blkQ (X11 n) 0 [2] 1 (seqQ (X11 n) (subc [1, 1, 1] C11) (fnQ (X11 n).E.T (resOf Proofs.Try.prog 11) (e25 o)))) := by
      intro kx11
      induction kx11 with
      | zero => intro v9  ox10 h; exact (iter_zero h).elim
      | succ kx11 ihx13 =>
        intro v9  ox10 h nx12 hnx16 hrx14 hxx15
        obtain ⟨nx12, rfl⟩ : ∃ q, nx12 = q + 1 := ⟨nx12 - 1, by omega⟩
        obtain ⟨sx17, h, hsx18⟩ := iter_some h
        have h : f11_B1 m a0 v9 = some sx17 := h
        unfold f11_B1 at h
        refine Lp.succ ?_
        refine Wp.seq (subc [1, 1, 0, 1, 0, 0, 0] C11) (subc [1, 1, 0, 1, 0, 0, 1] C11) (by kernel_rfl) ?_
        refine Wp.region (by kernel_rfl) ?_
        refine Ops.seg 1 1 (by kernel_rfl) ⟨q2 ((.ptr 0 0) :: q7 ((dP e28 a0) :: (dI ((a0.length : Int))) :: (dI v9) :: (dB (decide (v9 < (a0.length : Int)))) :: q12 [])), [(.cells [(dI 0), (dI 0)])]⟩ (by kernel_rfl) ?_
        refine Ops.done (by kernel_rfl) ?_
        refine seqQ.n ?_
        refine Wp.seq (subc [1, 1, 0, 1, 0, 0, 1, 0] C11) (subc [1, 1, 0, 1, 0, 0, 1, 1] C11) (by kernel_rfl) ?_
        rcases cnd_some h with ⟨hb, h⟩ | ⟨hb, h⟩
        · refine Wp.cond (decide (v9 < (a0.length : Int))) [2, 10, 11, 12] (by kernel_rfl) 1 (by kernel_rfl) (subc [1, 1, 0, 1, 0, 0, 1, 0, 0] C11) (subc [1, 1, 0, 1, 0, 0, 1, 0, 1] C11) (by kernel_rfl) (by kernel_rfl) (fun _ => ?_) (fun e => nomatch (hb.symm.trans e))
          refine Wp.skip (by kernel_rfl) ?_
          refine sqQ.n ⟨q2 ((.ptr 0 0) :: q7 ((dP e28 a0) :: (dI ((a0.length : Int))) :: (dI v9) :: (dB (decide (v9 < (a0.length : Int)))) :: q12 [])), [(.cells [(dI 0), (dI 0)])]⟩ (by kernel_rfl) ?_
          refine seqQ.n ?_
          refine Wp.seq (subc [1, 1, 0, 1, 0, 0, 1, 1, 0] C11) (subc [1, 1, 0, 1, 0, 0, 1, 1, 1] C11) (by kernel_rfl) ?_
          refine Wp.block (id := 1) [2, 10, 11, 12] (by kernel_rfl) 1 (by kernel_rfl) (subc [1, 1, 0, 1, 0, 0, 1, 1, 0, 0] C11) (by kernel_rfl) ?_
          refine Wp.seq (subc [1, 1, 0, 1, 0, 0, 1, 1, 0, 0, 0] C11) (subc [1, 1, 0, 1, 0, 0, 1, 1, 0, 0, 1] C11) (by kernel_rfl) ?_
          refine Wp.region (by kernel_rfl) ?_
          refine Ops.seg 1 1 (by kernel_rfl) ⟨q2 ((.ptr 0 0) :: q7 ((dP e28 a0) :: (dI ((a0.length : Int))) :: (dI v9) :: (dB (decide (v9 < (a0.length : Int)))) :: (dI v9) :: q11 [])), [(.cells [(dI 0), (dI 0)])]⟩ (by kernel_rfl) ?_
          obtain ⟨v19, ev19, h⟩ := bnd_some h
          refine Ops.one 2 (by kernel_rfl) ((indexAddrH (X11 n).E.T [(.cells [(dI 0), (dI 0)])] 22 (D.unt (dP e28 a0)) (dI v9)).map (·, [(.cells [(dI 0), (dI 0)])])) (.vptr [(vP eI v19.fFrom), (vP eI v19.fTo), (vP eI v19.fLeft), (vP eI v19.fRight)]) [(.cells [(dI 0), (dI 0)])] ⟨q2 ((.ptr 0 0) :: q7 ((dP e28 a0) :: (dI ((a0.length : Int))) :: (dI v9) :: (dB (decide (v9 < (a0.length : Int)))) :: (dI v9) :: (.vptr [(vP eI v19.fFrom), (vP eI v19.fTo), (vP eI v19.fLeft), (vP eI v19.fRight)]) :: q10 [])), [(.cells [(dI 0), (dI 0)])]⟩ (by kernel_rfl) (ix_r _ 22 29 4 .plain e28 a0 v9 v19 ev19 (by kernel_rfl) (by kernel_rfl) (fun _ => rfl)) (by kernel_rfl) ?_
          refine Ops.seg 4 6 (by kernel_rfl) ⟨q2 ((.ptr 0 0) :: (dI v9) :: (.ptr 1 0) :: q5 ((dP e28 a0) :: (dI ((a0.length : Int))) :: (dI v9) :: (dB (decide (v9 < (a0.length : Int)))) :: (dI v9) :: (.vptr [(vP eI v19.fFrom), (vP eI v19.fTo), (vP eI v19.fLeft), (vP eI v19.fRight)]) :: (.v (.agg [(vP eI v19.fFrom), (vP eI v19.fTo), (vP eI v19.fLeft), (vP eI v19.fRight)])) :: q9 [])), [(.cells [(dI 0), (dI 0)]), (.cells [(dP eI v19.fFrom), (dP eI v19.fTo), (dP eI v19.fLeft), (dP eI v19.fRight)])]⟩ (by kernel_rfl) ?_
          refine Ops.done (by kernel_rfl) ?_
          refine seqQ.n ?_
          refine Wp.seq (subc [1, 1, 0, 1, 0, 0, 1, 1, 0, 0, 1, 0] C11) (subc [1, 1, 0, 1, 0, 0, 1, 1, 0, 0, 1, 1] C11) (by kernel_rfl) ?_
          refine Wp.region (by kernel_rfl) ?_
          refine Ops.seg 1 1 (by kernel_rfl) ⟨q2 ((.ptr 0 0) :: (dI v9) :: (.ptr 1 0) :: q5 ((dP e28 a0) :: (dI ((a0.length : Int))) :: (dI v9) :: (dB (decide (v9 < (a0.length : Int)))) :: (dI v9) :: (.vptr [(vP eI v19.fFrom), (vP eI v19.fTo), (vP eI v19.fLeft), (vP eI v19.fRight)]) :: (.v (.agg [(vP eI v19.fFrom), (vP eI v19.fTo), (vP eI v19.fLeft), (vP eI v19.fRight)])) :: (.v (.agg [(vP eI v19.fFrom), (vP eI v19.fTo), (vP eI v19.fLeft), (vP eI v19.fRight)])) :: q8 [])), [(.cells [(dI 0), (dI 0)]), (.cells [(dP eI v19.fFrom), (dP eI v19.fTo), (dP eI v19.fLeft), (dP eI v19.fRight)])]⟩ (by kernel_rfl) ?_
          obtain ⟨v20, ev20, h⟩ := bnd_some h
          refine Ops.one 2 (by kernel_rfl) (callD (X11 n).E (run Proofs.Try.prog E n) 23 [(.v (.agg [(vP eI v19.fFrom), (vP eI v19.fTo), (vP eI v19.fLeft), (vP eI v19.fRight)]))] [(.cells [(dI 0), (dI 0)]), (.cells [(dP eI v19.fFrom), (dP eI v19.fTo), (dP eI v19.fLeft), (dP eI v19.fRight)])]) (dI v20) [(.cells [(dI 0), (dI 0)]), (.cells [(dP eI v19.fFrom), (dP eI v19.fTo), (dP eI v19.fLeft), (dP eI v19.fRight)])] ⟨q2 ((.ptr 0 0) :: (dI v9) :: (.ptr 1 0) :: q5 ((dP e28 a0) :: (dI ((a0.length : Int))) :: (dI v9) :: (dB (decide (v9 < (a0.length : Int)))) :: (dI v9) :: (.vptr [(vP eI v19.fFrom), (vP eI v19.fTo), (vP eI v19.fLeft), (vP eI v19.fRight)]) :: (.v (.agg [(vP eI v19.fFrom), (vP eI v19.fTo), (vP eI v19.fLeft), (vP eI v19.fRight)])) :: (.v (.agg [(vP eI v19.fFrom), (vP eI v19.fTo), (vP eI v19.fLeft), (vP eI v19.fRight)])) :: (dI v20) :: q7 [])), [(.cells [(dI 0), (dI 0)]), (.cells [(dP eI v19.fFrom), (dP eI v19.fTo), (dP eI v19.fLeft), (dP eI v19.fRight)])]⟩ (by kernel_rfl) (call_ok (by kernel_rfl) (Args.v (.agg [(vP eI v19.fFrom), (vP eI v19.fTo), (vP eI v19.fLeft), (vP eI v19.fRight)]) (e28 v19) (by kernel_rfl) Args.nil) (ok23 m v19 v20 ev20 n (by omega))) (by kernel_rfl) ?_
          refine Ops.seg 1 3 (by kernel_rfl) ⟨q2 ((.ptr 0 0) :: (dI v9) :: (.ptr 1 0) :: (dI v20) :: q4 ((dP e28 a0) :: (dI ((a0.length : Int))) :: (dI v9) :: (dB (decide (v9 < (a0.length : Int)))) :: (dI v9) :: (.vptr [(vP eI v19.fFrom), (vP eI v19.fTo), (vP eI v19.fLeft), (vP eI v19.fRight)]) :: (.v (.agg [(vP eI v19.fFrom), (vP eI v19.fTo), (vP eI v19.fLeft), (vP eI v19.fRight)])) :: (.v (.agg [(vP eI v19.fFrom), (vP eI v19.fTo), (vP eI v19.fLeft), (vP eI v19.fRight)])) :: (dI v20) :: q7 [])), [(.cells [(dI 0), (dI 0)]), (.cells [(dP eI v19.fFrom), (dP eI v19.fTo), (dP eI v19.fLeft), (dP eI v19.fRight)])]⟩ (by kernel_rfl) ?_
          refine Ops.done (by kernel_rfl) ?_
          refine seqQ.n ?_
          refine Wp.seq (subc [1, 1, 0, 1, 0, 0, 1, 1, 0, 0, 1, 1, 0] C11) (subc [1, 1, 0, 1, 0, 0, 1, 1, 0, 0, 1, 1, 1] C11) (by kernel_rfl) ?_
          refine Wp.region (by kernel_rfl) ?_
          refine Ops.seg 2 2 (by kernel_rfl) ⟨q2 ((.ptr 0 0) :: (dI v9) :: (.ptr 1 0) :: (dI v20) :: q4 ((dP e28 a0) :: (dI ((a0.length : Int))) :: (dI v9) :: (dB (decide (v9 < (a0.length : Int)))) :: (dI v9) :: (.vptr [(vP eI v19.fFrom), (vP eI v19.fTo), (vP eI v19.fLeft), (vP eI v19.fRight)]) :: (.v (.agg [(vP eI v19.fFrom), (vP eI v19.fTo), (vP eI v19.fLeft), (vP eI v19.fRight)])) :: (.v (.agg [(vP eI v19.fFrom), (vP eI v19.fTo), (vP eI v19.fLeft), (vP eI v19.fRight)])) :: (dI v20) :: (dI v20) :: (dB (v20 != 0)) :: q5 [])), [(.cells [(dI 0), (dI 0)]), (.cells [(dP eI v19.fFrom), (dP eI v19.fTo), (dP eI v19.fLeft), (dP eI v19.fRight)])]⟩ (by kernel_rfl) ?_
          refine Ops.done (by kernel_rfl) ?_
          refine seqQ.n ?_
          rcases cnd_some h with ⟨hb, h⟩ | ⟨hb, h⟩
          · refine Wp.cond (v20 != 0) [2, 10, 11, 12] (by kernel_rfl) 2 (by kernel_rfl) (subc [1, 1, 0, 1, 0, 0, 1, 1, 0, 0, 1, 1, 1, 0] C11) (subc [1, 1, 0, 1, 0, 0, 1, 1, 0, 0, 1, 1, 1, 1] C11) (by kernel_rfl) (by kernel_rfl) (fun _ => ?_) (fun e => nomatch (hb.symm.trans e))
            refine Wp.seq (subc [1, 1, 0, 1, 0, 0, 1, 1, 0, 0, 1, 1, 1, 0, 0] C11) (subc [1, 1, 0, 1, 0, 0, 1, 1, 0, 0, 1, 1, 1, 0, 1] C11) (by kernel_rfl) ?_
            refine Wp.region (by kernel_rfl) ?_
            refine Ops.seg 2 2 (by kernel_rfl) ⟨q2 ((.ptr 0 0) :: (dI v9) :: (.ptr 1 0) :: (dI v20) :: q4 ((dP e28 a0) :: (dI ((a0.length : Int))) :: (dI v9) :: (dB (decide (v9 < (a0.length : Int)))) :: (dI v9) :: (.vptr [(vP eI v19.fFrom), (vP eI v19.fTo), (vP eI v19.fLeft), (vP eI v19.fRight)]) :: (.v (.agg [(vP eI v19.fFrom), (vP eI v19.fTo), (vP eI v19.fLeft), (vP eI v19.fRight)])) :: (.v (.agg [(vP eI v19.fFrom), (vP eI v19.fTo), (vP eI v19.fLeft), (vP eI v19.fRight)])) :: (dI v20) :: (dI v20) :: (dB (v20 != 0)) :: (dI v20) :: (dI v9) :: q3 [])), [(.cells [(dI 0), (dI 0)]), (.cells [(dP eI v19.fFrom), (dP eI v19.fTo), (dP eI v19.fLeft), (dP eI v19.fRight)])]⟩ (by kernel_rfl) ?_
            obtain ⟨v21, ev21, h⟩ := bnd_some h
            refine Ops.one 3 (by kernel_rfl) (callD (X11 n).E (run Proofs.Try.prog E n) 22 [(dI v20), (dI v9)] [(.cells [(dI 0), (dI 0)]), (.cells [(dP eI v19.fFrom), (dP eI v19.fTo), (dP eI v19.fLeft), (dP eI v19.fRight)])]) (.v (.agg [(vI v21.fCode), (vI v21.fIndex)])) [(.cells [(dI 0), (dI 0)]), (.cells [(dP eI v19.fFrom), (dP eI v19.fTo), (dP eI v19.fLeft), (dP eI v19.fRight)])] ⟨q2 ((.ptr 0 0) :: (dI v9) :: (.ptr 1 0) :: (dI v20) :: q4 ((dP e28 a0) :: (dI ((a0.length : Int))) :: (dI v9) :: (dB (decide (v9 < (a0.length : Int)))) :: (dI v9) :: (.vptr [(vP eI v19.fFrom), (vP eI v19.fTo), (vP eI v19.fLeft), (vP eI v19.fRight)]) :: (.v (.agg [(vP eI v19.fFrom), (vP eI v19.fTo), (vP eI v19.fLeft), (vP eI v19.fRight)])) :: (.v (.agg [(vP eI v19.fFrom), (vP eI v19.fTo), (vP eI v19.fLeft), (vP eI v19.fRight)])) :: (dI v20) :: (dI v20) :: (dB (v20 != 0)) :: (dI v20) :: (dI v9) :: (.v (.agg [(vI v21.fCode), (vI v21.fIndex)])) :: q2 [])), [(.cells [(dI 0), (dI 0)]), (.cells [(dP eI v19.fFrom), (dP eI v19.fTo), (dP eI v19.fLeft), (dP eI v19.fRight)])]⟩ (by kernel_rfl) (call_ok (by kernel_rfl) (Args.v (vI v20) (eI v20) (by kernel_rfl) (Args.v (vI v9) (eI v9) (by kernel_rfl) Args.nil)) (ok22 m v20 v9 v21 ev21 n (by omega))) (by kernel_rfl) ?_
            refine Ops.seg 1 4 (by kernel_rfl) ⟨q2 ((.ptr 0 0) :: (dI v9) :: (.ptr 1 0) :: (dI v20) :: q4 ((dP e28 a0) :: (dI ((a0.length : Int))) :: (dI v9) :: (dB (decide (v9 < (a0.length : Int)))) :: (dI v9) :: (.vptr [(vP eI v19.fFrom), (vP eI v19.fTo), (vP eI v19.fLeft), (vP eI v19.fRight)]) :: (.v (.agg [(vP eI v19.fFrom), (vP eI v19.fTo), (vP eI v19.fLeft), (vP eI v19.fRight)])) :: (.v (.agg [(vP eI v19.fFrom), (vP eI v19.fTo), (vP eI v19.fLeft), (vP eI v19.fRight)])) :: (dI v20) :: (dI v20) :: (dB (v20 != 0)) :: (dI v20) :: (dI v9) :: (.v (.agg [(vI v21.fCode), (vI v21.fIndex)])) :: q2 [])), [(.cells [(dI v21.fCode), (dI v21.fIndex)]), (.cells [(dP eI v19.fFrom), (dP eI v19.fTo), (dP eI v19.fLeft), (dP eI v19.fRight)])]⟩ (by kernel_rfl) ?_
            refine Ops.done (by kernel_rfl) ?_
            refine seqQ.n ?_
            refine Wp.ret (by kernel_rfl) ?_
            refine sqQ.r ?_
            refine blkQ.r ?_
            refine seqQ.r ?_
            cases h
            refine lpQ.r ?_
            refine blkQ.r ?_
            exact hrx14 _ hsx18 _ (RetOk.forget [2, 10, 11, 12] (by kernel_rfl) (RetOk.mk' (.v (.agg [(vI v21.fCode), (vI v21.fIndex)])) (by kernel_rfl) (by kernel_rfl)))
          · refine Wp.cond (v20 != 0) [2, 10, 11, 12] (by kernel_rfl) 2 (by kernel_rfl) (subc [1, 1, 0, 1, 0, 0, 1, 1, 0, 0, 1, 1, 1, 0] C11) (subc [1, 1, 0, 1, 0, 0, 1, 1, 0, 0, 1, 1, 1, 1] C11) (by kernel_rfl) (by kernel_rfl) (fun e => nomatch (hb.symm.trans e)) (fun _ => ?_)
            refine Wp.skip (by kernel_rfl) ?_
            refine sqQ.n ⟨q2 ((.ptr 0 0) :: (dI v9) :: (.ptr 1 0) :: (dI v20) :: q4 ((dP e28 a0) :: (dI ((a0.length : Int))) :: (dI v9) :: (dB (decide (v9 < (a0.length : Int)))) :: (dI v9) :: (.vptr [(vP eI v19.fFrom), (vP eI v19.fTo), (vP eI v19.fLeft), (vP eI v19.fRight)]) :: (.v (.agg [(vP eI v19.fFrom), (vP eI v19.fTo), (vP eI v19.fLeft), (vP eI v19.fRight)])) :: (.v (.agg [(vP eI v19.fFrom), (vP eI v19.fTo), (vP eI v19.fLeft), (vP eI v19.fRight)])) :: (dI v20) :: (dI v20) :: (dB (v20 != 0)) :: q5 [])), [(.cells [(dI 0), (dI 0)]), (.cells [(dP eI v19.fFrom), (dP eI v19.fTo), (dP eI v19.fLeft), (dP eI v19.fRight)])]⟩ (by kernel_rfl) ?_
            refine blkQ.n ⟨q2 ((.ptr 0 0) :: q7 ((dP e28 a0) :: (dI ((a0.length : Int))) :: (dI v9) :: q13 [])), [(.cells [(dI 0), (dI 0)])]⟩ (by kernel_rfl) ?_
            refine seqQ.n ?_
            refine Wp.region (by kernel_rfl) ?_
            refine Ops.seg 2 2 (by kernel_rfl) ⟨q2 ((.ptr 0 0) :: q7 ((dP e28 a0) :: (dI ((a0.length : Int))) :: (dI (w64 (v9 + 1))) :: q11 ((dI (w64 (v9 + 1))) :: q1 []))), [(.cells [(dI 0), (dI 0)])]⟩ (by kernel_rfl) ?_
            refine Ops.done (by kernel_rfl) ?_
            refine lpQ.n ⟨q2 ((.ptr 0 0) :: q7 ((dP e28 a0) :: (dI ((a0.length : Int))) :: (dI (w64 (v9 + 1))) :: q13 [])), [(.cells [(dI 0), (dI 0)])]⟩ (by kernel_rfl) ?_
            cases h
            exact ihx13 (w64 (v9 + 1))  _ hsx18 _ (by omega) hrx14 hxx15
        · refine Wp.cond (decide (v9 < (a0.length : Int))) [2, 10, 11, 12] (by kernel_rfl) 1 (by kernel_rfl) (subc [1, 1, 0, 1, 0, 0, 1, 0, 0] C11) (subc [1, 1, 0, 1, 0, 0, 1, 0, 1] C11) (by kernel_rfl) (by kernel_rfl) (fun e => nomatch (hb.symm.trans e)) (fun _ => ?_)
          refine Wp.exit (id := 0) (by kernel_rfl) ?_
          refine sqQ.x ?_
          refine seqQ.x ?_
          cases h
          refine lpQ.x ?_
          refine blkQ.x ⟨q2 ((.ptr 0 0) :: q7 ((dP e28 a0) :: (dI ((a0.length : Int))) :: (dI v9) :: q13 [])), [(.cells [(dI 0), (dI 0)])]⟩ (by kernel_rfl) ?_
          exact hxx15 v9  hsx18
    refine Wp.loop [2, 10, 11, 12] 1 (by kernel_rfl) (subc [1, 1, 0, 1, 0, 0] C11) (by kernel_rfl) (by kernel_rfl) ⟨q2 ((.ptr 0 0) :: q7 ((dP e28 a0) :: (dI ((a0.length : Int))) :: (dI 0) :: q13 [])), [(.cells [(dI 0), (dI 0)])]⟩ (by kernel_rfl) ?_
    rcases brk_some h with ⟨r24, er24, h⟩ | ⟨y23, ey23, h⟩
    · refine hLx22 _ 0  _ er24 n (by omega) (fun r er σ hσ => ?_) (fun y  ey => by cases ey)
      cases er
      refine seqQ.r ?_
      exact fnQ.r' (X11 n) (fun z => (e25 z)) h hσ
    · refine hLx22 _ 0  _ ey23 n (by omega) (fun r er => by cases er) (fun y  ey => ?_)
      cases ey
      refine seqQ.n ?_
      refine Wp.seq (subc [1, 1, 1, 0] C11) (subc [1, 1, 1, 1] C11) (by kernel_rfl) ?_
      refine Wp.region (by kernel_rfl) ?_
      refine Ops.seg 2 2 (by kernel_rfl) ⟨q2 ((.ptr 0 0) :: q7 ((dP e28 a0) :: (dI ((a0.length : Int))) :: (dI y23) :: q12 ((.v (.agg [(vI 0), (vI 0)])) :: []))), [(.cells [(dI 0), (dI 0)])]⟩ (by kernel_rfl) ?_
      refine Ops.done (by kernel_rfl) ?_
      refine seqQ.n ?_
      refine Wp.ret (by kernel_rfl) ?_
      exact fnQ.r' (X11 n) (fun z => (e25 z)) h (RetOk.mk' (.v (.agg [(vI 0), (vI 0)])) (by kernel_rfl) (by kernel_rfl))

/-! ### 25 slices.Clone[[]int,int] -/
def f25 (m : Nat) (a0 : (List Int)) : Option (List Int) := app 8 [] a0
theorem ok25 (m : Nat) (a0 : (List Int)) (o : (List Int)) (h : f25 m a0 = some o) (n : Nat) (hn : m + 1 ≤ n) : Fn Proofs.Try.prog E n 25 [(eL eI) a0] ((eL eI) o) :=
  clone_fn (by kernel_rfl) (by kernel_rfl) (fun _ => rfl) h hn

/-! ### 39 slices.Equal[[]int,int] -/
def f39_B1 (m : Nat) (a0 : (List Int)) (a1 : (List Int)) (v6 : Int) : Option (Stp Bool (Int)) :=
  cnd (decide (v6 < (a0.length : Int)))
  (bnd (idx a0 v6) fun v16 =>
  bnd (idx a1 v6) fun v17 =>
  cnd (v16 != v17)
  (some (.ret false))
  (some (.nxt (w64 (v6 + 1)))))
  (some (.brk v6))
def f39 (m : Nat) (a0 : (List Int)) (a1 : (List Int)) : Option Bool :=
  cnd (((a0.length : Int)) != ((a1.length : Int)))
  (some false)
  (brk (iter (fun (y : Int) => f39_B1 m a0 a1 y) m 0) some fun y19 =>
  some true)
noncomputable abbrev X39 (n : Nat) : Cx := cxOf Proofs.Try.prog E 39 n
noncomputable def C39 : Code := bodyOf Proofs.Try.prog 39
theorem ok39 (m : Nat) (a0 : (List Int)) (a1 : (List Int)) (o : Bool) (h : f39 m a0 a1 = some o) (n : Nat) (hn : m + 1 ≤ n) : Fn Proofs.Try.prog E n 39 [(eL eI) a0, (eL eI) a1] (eB o) := by
  obtain ⟨n, rfl⟩ : ∃ q, n = q + 1 := ⟨n - 1, by omega⟩
  unfold f39 at h
  refine Fn.of (by kernel_rfl) (by kernel_rfl) ⟨(dP eI a0) :: (dP eI a1) :: u24 [], []⟩ (by kernel_rfl) ?_
  refine Wp.seq (subc [0] C39) (subc [1] C39) (by kernel_rfl) ?_
  refine Wp.region (by kernel_rfl) ?_
  refine Ops.seg 1 1 (by kernel_rfl) ⟨(dP eI a0) :: (dP eI a1) :: u2 ((dB false) :: u21 []), []⟩ (by kernel_rfl) ?_
  refine Ops.done (by kernel_rfl) ?_
  refine seqQ.n ?_
  refine Wp.seq (subc [1, 0] C39) (subc [1, 1] C39) (by kernel_rfl) ?_
  refine Wp.seq (subc [1, 0, 0] C39) (subc [1, 0, 1] C39) (by kernel_rfl) ?_
  refine Wp.region (by kernel_rfl) ?_
  refine Ops.seg 1 1 (by kernel_rfl) ⟨(dP eI a0) :: (dP eI a1) :: u2 ((dB false) :: u1 ((dP eI a0) :: u19 [])), []⟩ (by kernel_rfl) ?_
  refine Ops.one 2 (by kernel_rfl) ((lenD (X39 n).E.T 23 (D.unt (dP eI a0))).map (·, [])) (dI ((a0.length : Int))) [] ⟨(dP eI a0) :: (dP eI a1) :: u2 ((dB false) :: u1 ((dP eI a0) :: (dI ((a0.length : Int))) :: u18 [])), []⟩ (by kernel_rfl) (len_r _ 23 3 .plain eI a0 (by kernel_rfl)) (by kernel_rfl) ?_
  refine Ops.seg 1 3 (by kernel_rfl) ⟨(dP eI a0) :: (dP eI a1) :: u2 ((dB false) :: u1 ((dP eI a0) :: (dI ((a0.length : Int))) :: (dP eI a1) :: u17 [])), []⟩ (by kernel_rfl) ?_
  refine Ops.one 4 (by kernel_rfl) ((lenD (X39 n).E.T 23 (D.unt (dP eI a1))).map (·, [])) (dI ((a1.length : Int))) [] ⟨(dP eI a0) :: (dP eI a1) :: u2 ((dB false) :: u1 ((dP eI a0) :: (dI ((a0.length : Int))) :: (dP eI a1) :: (dI ((a1.length : Int))) :: u16 [])), []⟩ (by kernel_rfl) (len_r _ 23 3 .plain eI a1 (by kernel_rfl)) (by kernel_rfl) ?_
  refine Ops.seg 1 5 (by kernel_rfl) ⟨(dP eI a0) :: (dP eI a1) :: u2 ((dB false) :: u1 ((dP eI a0) :: (dI ((a0.length : Int))) :: (dP eI a1) :: (dI ((a1.length : Int))) :: (dB (((a0.length : Int)) != ((a1.length : Int)))) :: u15 [])), []⟩ (by kernel_rfl) ?_
  refine Ops.done (by kernel_rfl) ?_
  refine seqQ.n ?_
  rcases cnd_some h with ⟨hb, h⟩ | ⟨hb, h⟩
  · refine Wp.cond (((a0.length : Int)) != ((a1.length : Int))) [0, 1, 4] (by kernel_rfl) 0 (by kernel_rfl) (subc [1, 0, 1, 0] C39) (subc [1, 0, 1, 1] C39) (by kernel_rfl) (by kernel_rfl) (fun _ => ?_) (fun e => nomatch (hb.symm.trans e))
    refine Wp.seq (subc [1, 0, 1, 0, 0] C39) (subc [1, 0, 1, 0, 1] C39) (by kernel_rfl) ?_
    refine Wp.region (by kernel_rfl) ?_
    refine Ops.seg 1 1 (by kernel_rfl) ⟨(dP eI a0) :: (dP eI a1) :: u2 ((dB false) :: u1 ((dP eI a0) :: (dI ((a0.length : Int))) :: (dP eI a1) :: (dI ((a1.length : Int))) :: (dB (((a0.length : Int)) != ((a1.length : Int)))) :: u15 [])), []⟩ (by kernel_rfl) ?_
    refine Ops.done (by kernel_rfl) ?_
    refine seqQ.n ?_
    refine Wp.ret (by kernel_rfl) ?_
    refine sqQ.r ?_
    refine seqQ.r ?_
    exact fnQ.r' (X39 n) (fun z => (eB z)) h (RetOk.mk' (dB false) (by kernel_rfl) (by kernel_rfl))
  · refine Wp.cond (((a0.length : Int)) != ((a1.length : Int))) [0, 1, 4] (by kernel_rfl) 0 (by kernel_rfl) (subc [1, 0, 1, 0] C39) (subc [1, 0, 1, 1] C39) (by kernel_rfl) (by kernel_rfl) (fun e => nomatch (hb.symm.trans e)) (fun _ => ?_)
    refine Wp.skip (by kernel_rfl) ?_
    refine sqQ.n ⟨(dP eI a0) :: (dP eI a1) :: u2 ((dB false) :: u1 ((dP eI a0) :: (dI ((a0.length : Int))) :: (dP eI a1) :: (dI ((a1.length : Int))) :: (dB (((a0.length : Int)) != ((a1.length : Int)))) :: u15 [])), []⟩ (by kernel_rfl) ?_
    refine seqQ.n ?_
    refine Wp.seq (subc [1, 1, 0] C39) (subc [1, 1, 1] C39) (by kernel_rfl) ?_
    refine Wp.seq (subc [1, 1, 0, 0] C39) (subc [1, 1, 0, 1] C39) (by kernel_rfl) ?_
    refine Wp.region (by kernel_rfl) ?_
    refine Ops.seg 1 1 (by kernel_rfl) ⟨(dP eI a0) :: (dP eI a1) :: u2 ((dB false) :: u1 ((dP eI a0) :: (dI ((a0.length : Int))) :: (dP eI a1) :: (dI ((a1.length : Int))) :: (dB (((a0.length : Int)) != ((a1.length : Int)))) :: (dP eI a0) :: u14 [])), []⟩ (by kernel_rfl) ?_
    refine Ops.one 2 (by kernel_rfl) ((lenD (X39 n).E.T 23 (D.unt (dP eI a0))).map (·, [])) (dI ((a0.length : Int))) [] ⟨(dP eI a0) :: (dP eI a1) :: u2 ((dB false) :: u1 ((dP eI a0) :: (dI ((a0.length : Int))) :: (dP eI a1) :: (dI ((a1.length : Int))) :: (dB (((a0.length : Int)) != ((a1.length : Int)))) :: (dP eI a0) :: (dI ((a0.length : Int))) :: u13 [])), []⟩ (by kernel_rfl) (len_r _ 23 3 .plain eI a0 (by kernel_rfl)) (by kernel_rfl) ?_
    refine Ops.seg 1 3 (by kernel_rfl) ⟨(dP eI a0) :: (dP eI a1) :: u2 ((dB false) :: u1 ((dP eI a0) :: (dI ((a0.length : Int))) :: (dP eI a1) :: (dI ((a1.length : Int))) :: (dB (((a0.length : Int)) != ((a1.length : Int)))) :: (dP eI a0) :: (dI ((a0.length : Int))) :: (dI 0) :: u12 [])), []⟩ (by kernel_rfl) ?_
    refine Ops.done (by kernel_rfl) ?_
    refine seqQ.n ?_
    refine Wp.block (id := 0) [4] (by kernel_rfl) 0 (by kernel_rfl) (subc [1, 1, 0, 1, 0] C39) (by kernel_rfl) ?_
    have hLx18 : ∀ (kx8 : Nat) (v6 : Int)  (ox7 : Bool ⊕ (Int)), iter (fun (y : Int) => f39_B1 m a0 a1 y) kx8 v6 = some ox7 → ∀ nx9, kx8 ≤ nx9 → (∀ r, ox7 = .inl r → ∀ σ, RetOk (X39 n) (resOf Proofs.Try.prog 39) (eB r) σ → (seqQ (X39 n) (subc [1, 1, 1] C39) (fnQ (X39 n).E.T (resOf Proofs.Try.prog 39) (eB o))) .ret σ) → (∀ (y : Int) , ox7 = .inr y → (seqQ (X39 n) (subc [1, 1, 1] C39) (fnQ (X39 n).E.T (resOf Proofs.Try.prog 39) (eB o))) .normal ⟨(dP eI a0) :: (dP eI a1) :: q2 ((dB false) :: q7 ((dI ((a0.length : Int))) :: (dI y) :: q12 [])), []⟩) → Lp (X39 n) [0, 1, 4, 12, 13] 0 (subc [1, 1, 0, 1, 0, 0] C39) nx9 ⟨(dP eI a0) :: (dP eI a1) :: q2 ((dB false) :: q7 ((dI ((a0.length : Int))) :: (dI v6) :: q12 [])), []⟩ (blkQ (X39 n) 0 [4] 0 (seqQ (X39 n) (subc [1, 1, 1] C39) (fnQ (X39 n).E.T (resOf Proofs.Try.prog 39) (eB o)))) := by
      intro kx8
      induction kx8 with
      | zero => intro v6  ox7 h; exact (iter_zero h).elim
      | succ kx8 ihx10 =>
        intro v6  ox7 h nx9 hnx13 hrx11 hxx12
        obtain ⟨nx9, rfl⟩ : ∃ q, nx9 = q + 1 := ⟨nx9 - 1, by omega⟩
        obtain ⟨sx14, h, hsx15⟩ := iter_some h
        have h : f39_B1 m a0 a1 v6 = some sx14 := h
        unfold f39_B1 at h
        refine Lp.succ ?_
        refine Wp.seq (subc [1, 1, 0, 1, 0, 0, 0] C39) (subc [1, 1, 0, 1, 0, 0, 1] C39) (by kernel_rfl) ?_
        refine Wp.region (by kernel_rfl) ?_
        refine Ops.seg 1 1 (by kernel_rfl) ⟨(dP eI a0) :: (dP eI a1) :: q2 ((dB false) :: q7 ((dI ((a0.length : Int))) :: (dI v6) :: (dB (decide (v6 < (a0.length : Int)))) :: q11 [])), []⟩ (by kernel_rfl) ?_
        refine Ops.done (by kernel_rfl) ?_
        refine seqQ.n ?_
        refine Wp.seq (subc [1, 1, 0, 1, 0, 0, 1, 0] C39) (subc [1, 1, 0, 1, 0, 0, 1, 1] C39) (by kernel_rfl) ?_
        rcases cnd_some h with ⟨hb, h⟩ | ⟨hb, h⟩
        · refine Wp.cond (decide (v6 < (a0.length : Int))) [0, 1, 4, 12, 13] (by kernel_rfl) 0 (by kernel_rfl) (subc [1, 1, 0, 1, 0, 0, 1, 0, 0] C39) (subc [1, 1, 0, 1, 0, 0, 1, 0, 1] C39) (by kernel_rfl) (by kernel_rfl) (fun _ => ?_) (fun e => nomatch (hb.symm.trans e))
          refine Wp.skip (by kernel_rfl) ?_
          refine sqQ.n ⟨(dP eI a0) :: (dP eI a1) :: q2 ((dB false) :: q7 ((dI ((a0.length : Int))) :: (dI v6) :: (dB (decide (v6 < (a0.length : Int)))) :: q11 [])), []⟩ (by kernel_rfl) ?_
          refine seqQ.n ?_
          refine Wp.seq (subc [1, 1, 0, 1, 0, 0, 1, 1, 0] C39) (subc [1, 1, 0, 1, 0, 0, 1, 1, 1] C39) (by kernel_rfl) ?_
          refine Wp.block (id := 1) [0, 1, 4, 12, 13] (by kernel_rfl) 0 (by kernel_rfl) (subc [1, 1, 0, 1, 0, 0, 1, 1, 0, 0] C39) (by kernel_rfl) ?_
          refine Wp.seq (subc [1, 1, 0, 1, 0, 0, 1, 1, 0, 0, 0] C39) (subc [1, 1, 0, 1, 0, 0, 1, 1, 0, 0, 1] C39) (by kernel_rfl) ?_
          refine Wp.region (by kernel_rfl) ?_
          refine Ops.seg 2 2 (by kernel_rfl) ⟨(dP eI a0) :: (dP eI a1) :: q2 ((dB false) :: (dI v6) :: q6 ((dI ((a0.length : Int))) :: (dI v6) :: (dB (decide (v6 < (a0.length : Int)))) :: (dI v6) :: q10 [])), []⟩ (by kernel_rfl) ?_
          refine Ops.done (by kernel_rfl) ?_
          refine seqQ.n ?_
          refine Wp.seq (subc [1, 1, 0, 1, 0, 0, 1, 1, 0, 0, 1, 0] C39) (subc [1, 1, 0, 1, 0, 0, 1, 1, 0, 0, 1, 1] C39) (by kernel_rfl) ?_
          refine Wp.region (by kernel_rfl) ?_
          refine Ops.seg 2 2 (by kernel_rfl) ⟨(dP eI a0) :: (dP eI a1) :: q2 ((dB false) :: (dI v6) :: q6 ((dI ((a0.length : Int))) :: (dI v6) :: (dB (decide (v6 < (a0.length : Int)))) :: (dI v6) :: (dP eI a0) :: (dI v6) :: q8 [])), []⟩ (by kernel_rfl) ?_
          obtain ⟨v16, ev16, h⟩ := bnd_some h
          refine Ops.one 3 (by kernel_rfl) ((indexAddrH (X39 n).E.T [] 23 (D.unt (dP eI a0)) (dI v6)).map (·, [])) (.vptr [(vI v16)]) [] ⟨(dP eI a0) :: (dP eI a1) :: q2 ((dB false) :: (dI v6) :: q6 ((dI ((a0.length : Int))) :: (dI v6) :: (dB (decide (v6 < (a0.length : Int)))) :: (dI v6) :: (dP eI a0) :: (dI v6) :: (.vptr [(vI v16)]) :: q7 [])), []⟩ (by kernel_rfl) (ix_r _ 23 3 1 .plain eI a0 v6 v16 ev16 (by kernel_rfl) (by kernel_rfl) (fun _ => rfl)) (by kernel_rfl) ?_
          refine Ops.seg 3 6 (by kernel_rfl) ⟨(dP eI a0) :: (dP eI a1) :: q2 ((dB false) :: (dI v6) :: q6 ((dI ((a0.length : Int))) :: (dI v6) :: (dB (decide (v6 < (a0.length : Int)))) :: (dI v6) :: (dP eI a0) :: (dI v6) :: (.vptr [(vI v16)]) :: (dI v16) :: (dP eI a1) :: (dI v6) :: q4 [])), []⟩ (by kernel_rfl) ?_
          obtain ⟨v17, ev17, h⟩ := bnd_some h
          refine Ops.one 7 (by kernel_rfl) ((indexAddrH (X39 n).E.T [] 23 (D.unt (dP eI a1)) (dI v6)).map (·, [])) (.vptr [(vI v17)]) [] ⟨(dP eI a0) :: (dP eI a1) :: q2 ((dB false) :: (dI v6) :: q6 ((dI ((a0.length : Int))) :: (dI v6) :: (dB (decide (v6 < (a0.length : Int)))) :: (dI v6) :: (dP eI a0) :: (dI v6) :: (.vptr [(vI v16)]) :: (dI v16) :: (dP eI a1) :: (dI v6) :: (.vptr [(vI v17)]) :: q3 [])), []⟩ (by kernel_rfl) (ix_r _ 23 3 1 .plain eI a1 v6 v17 ev17 (by kernel_rfl) (by kernel_rfl) (fun _ => rfl)) (by kernel_rfl) ?_
          refine Ops.seg 2 9 (by kernel_rfl) ⟨(dP eI a0) :: (dP eI a1) :: q2 ((dB false) :: (dI v6) :: q6 ((dI ((a0.length : Int))) :: (dI v6) :: (dB (decide (v6 < (a0.length : Int)))) :: (dI v6) :: (dP eI a0) :: (dI v6) :: (.vptr [(vI v16)]) :: (dI v16) :: (dP eI a1) :: (dI v6) :: (.vptr [(vI v17)]) :: (dI v17) :: (dB (v16 != v17)) :: q1 [])), []⟩ (by kernel_rfl) ?_
          refine Ops.done (by kernel_rfl) ?_
          refine seqQ.n ?_
          rcases cnd_some h with ⟨hb, h⟩ | ⟨hb, h⟩
          · refine Wp.cond (v16 != v17) [0, 1, 4, 12, 13] (by kernel_rfl) 0 (by kernel_rfl) (subc [1, 1, 0, 1, 0, 0, 1, 1, 0, 0, 1, 1, 0] C39) (subc [1, 1, 0, 1, 0, 0, 1, 1, 0, 0, 1, 1, 1] C39) (by kernel_rfl) (by kernel_rfl) (fun _ => ?_) (fun e => nomatch (hb.symm.trans e))
            refine Wp.seq (subc [1, 1, 0, 1, 0, 0, 1, 1, 0, 0, 1, 1, 0, 0] C39) (subc [1, 1, 0, 1, 0, 0, 1, 1, 0, 0, 1, 1, 0, 1] C39) (by kernel_rfl) ?_
            refine Wp.region (by kernel_rfl) ?_
            refine Ops.seg 1 1 (by kernel_rfl) ⟨(dP eI a0) :: (dP eI a1) :: q2 ((dB false) :: (dI v6) :: q6 ((dI ((a0.length : Int))) :: (dI v6) :: (dB (decide (v6 < (a0.length : Int)))) :: (dI v6) :: (dP eI a0) :: (dI v6) :: (.vptr [(vI v16)]) :: (dI v16) :: (dP eI a1) :: (dI v6) :: (.vptr [(vI v17)]) :: (dI v17) :: (dB (v16 != v17)) :: q1 [])), []⟩ (by kernel_rfl) ?_
            refine Ops.done (by kernel_rfl) ?_
            refine seqQ.n ?_
            refine Wp.ret (by kernel_rfl) ?_
            refine sqQ.r ?_
            refine blkQ.r ?_
            refine seqQ.r ?_
            cases h
            refine lpQ.r ?_
            refine blkQ.r ?_
            exact hrx11 _ hsx15 _ (RetOk.forget [0, 1, 4, 12, 13] (by kernel_rfl) (RetOk.mk' (dB false) (by kernel_rfl) (by kernel_rfl)))
          · refine Wp.cond (v16 != v17) [0, 1, 4, 12, 13] (by kernel_rfl) 0 (by kernel_rfl) (subc [1, 1, 0, 1, 0, 0, 1, 1, 0, 0, 1, 1, 0] C39) (subc [1, 1, 0, 1, 0, 0, 1, 1, 0, 0, 1, 1, 1] C39) (by kernel_rfl) (by kernel_rfl) (fun e => nomatch (hb.symm.trans e)) (fun _ => ?_)
            refine Wp.skip (by kernel_rfl) ?_
            refine sqQ.n ⟨(dP eI a0) :: (dP eI a1) :: q2 ((dB false) :: (dI v6) :: q6 ((dI ((a0.length : Int))) :: (dI v6) :: (dB (decide (v6 < (a0.length : Int)))) :: (dI v6) :: (dP eI a0) :: (dI v6) :: (.vptr [(vI v16)]) :: (dI v16) :: (dP eI a1) :: (dI v6) :: (.vptr [(vI v17)]) :: (dI v17) :: (dB (v16 != v17)) :: q1 [])), []⟩ (by kernel_rfl) ?_
            refine blkQ.n ⟨(dP eI a0) :: (dP eI a1) :: q2 ((dB false) :: (dI v6) :: q6 ((dI ((a0.length : Int))) :: (dI v6) :: (dB (decide (v6 < (a0.length : Int)))) :: (dI v6) :: (dP eI a0) :: (dI v6) :: (.vptr [(vI v16)]) :: (dI v16) :: (dP eI a1) :: (dI v6) :: (.vptr [(vI v17)]) :: (dI v17) :: (dB (v16 != v17)) :: q1 [])), []⟩ (by kernel_rfl) ?_
            refine seqQ.n ?_
            refine Wp.region (by kernel_rfl) ?_
            refine Ops.seg 2 2 (by kernel_rfl) ⟨(dP eI a0) :: (dP eI a1) :: q2 ((dB false) :: (dI v6) :: q6 ((dI ((a0.length : Int))) :: (dI (w64 (v6 + 1))) :: (dB (decide (v6 < (a0.length : Int)))) :: (dI v6) :: (dP eI a0) :: (dI v6) :: (.vptr [(vI v16)]) :: (dI v16) :: (dP eI a1) :: (dI v6) :: (.vptr [(vI v17)]) :: (dI v17) :: (dB (v16 != v17)) :: (dI (w64 (v6 + 1))) :: [])), []⟩ (by kernel_rfl) ?_
            refine Ops.done (by kernel_rfl) ?_
            refine lpQ.n ⟨(dP eI a0) :: (dP eI a1) :: q2 ((dB false) :: q7 ((dI ((a0.length : Int))) :: (dI (w64 (v6 + 1))) :: q12 [])), []⟩ (by kernel_rfl) ?_
            cases h
            exact ihx10 (w64 (v6 + 1))  _ hsx15 _ (by omega) hrx11 hxx12
        · refine Wp.cond (decide (v6 < (a0.length : Int))) [0, 1, 4, 12, 13] (by kernel_rfl) 0 (by kernel_rfl) (subc [1, 1, 0, 1, 0, 0, 1, 0, 0] C39) (subc [1, 1, 0, 1, 0, 0, 1, 0, 1] C39) (by kernel_rfl) (by kernel_rfl) (fun e => nomatch (hb.symm.trans e)) (fun _ => ?_)
          refine Wp.exit (id := 0) (by kernel_rfl) ?_
          refine sqQ.x ?_
          refine seqQ.x ?_
          cases h
          refine lpQ.x ?_
          refine blkQ.x ⟨(dP eI a0) :: (dP eI a1) :: q2 ((dB false) :: q7 ((dI ((a0.length : Int))) :: (dI v6) :: q12 [])), []⟩ (by kernel_rfl) ?_
          exact hxx12 v6  hsx15
    refine Wp.loop [0, 1, 4, 12, 13] 0 (by kernel_rfl) (subc [1, 1, 0, 1, 0, 0] C39) (by kernel_rfl) (by kernel_rfl) ⟨(dP eI a0) :: (dP eI a1) :: q2 ((dB false) :: q7 ((dI ((a0.length : Int))) :: (dI 0) :: q12 [])), []⟩ (by kernel_rfl) ?_
    rcases brk_some h with ⟨r20, er20, h⟩ | ⟨y19, ey19, h⟩
    · refine hLx18 _ 0  _ er20 n (by omega) (fun r er σ hσ => ?_) (fun y  ey => by cases ey)
      cases er
      refine seqQ.r ?_
      exact fnQ.r' (X39 n) (fun z => (eB z)) h hσ
    · refine hLx18 _ 0  _ ey19 n (by omega) (fun r er => by cases er) (fun y  ey => ?_)
      cases ey
      refine seqQ.n ?_
      refine Wp.seq (subc [1, 1, 1, 0] C39) (subc [1, 1, 1, 1] C39) (by kernel_rfl) ?_
      refine Wp.region (by kernel_rfl) ?_
      refine Ops.seg 1 1 (by kernel_rfl) ⟨(dP eI a0) :: (dP eI a1) :: q2 ((dB true) :: q7 ((dI ((a0.length : Int))) :: (dI y19) :: q12 [])), []⟩ (by kernel_rfl) ?_
      refine Ops.done (by kernel_rfl) ?_
      refine seqQ.n ?_
      refine Wp.ret (by kernel_rfl) ?_
      exact fnQ.r' (X39 n) (fun z => (eB z)) h (RetOk.mk' (dB true) (by kernel_rfl) (by kernel_rfl))

/-! ### 26 glosswright/rewrite.apply -/
def f26_j1 (m : Nat) (v152 : (List Int)) (v153 : Int) : Option (Stp ((List Int)) ((List Int) × Int)) :=
  some (.nxt (v152, v153))
def f26_r2 (m : Nat) (a0 : S28) (a1 : (List Int)) (v141 : (List Int)) (v142 : Int) (v210 : Bool) : Option (Stp ((List Int)) ((List Int) × Int)) :=
  cnd v210
  (bnd (app 8 v141 a0.fTo) fun v212 =>
  f26_j1 m v212 (w64 (v142 + (a0.fFrom.length : Int))))
  (bnd (idx a1 v142) fun v213 =>
  bnd (app 8 v141 [v213]) fun v214 =>
  f26_j1 m v214 (w64 (v142 + 1)))
def f26_r3 (m : Nat) (a0 : S28) (a1 : (List Int)) (v141 : (List Int)) (v142 : Int) (v194 : Bool) : Option (Stp ((List Int)) ((List Int) × Int)) :=
  bnd (cnd v194
  (bnd (sub a1 (w64 (v142 + (a0.fFrom.length : Int))) (w64 (w64 (v142 + (a0.fFrom.length : Int)) + (a0.fRight.length : Int)))) fun v215 =>
  bnd (f39 m v215 a0.fRight) fun v216 =>
  some v216)
  (some false)) fun v210 =>
  f26_r2 m a0 a1 v141 v142 v210
def f26_r4 (m : Nat) (a0 : S28) (a1 : (List Int)) (v141 : (List Int)) (v142 : Int) (v182 : Bool) : Option (Stp ((List Int)) ((List Int) × Int)) :=
  bnd (cnd v182
  (bnd (sub a1 v142 (w64 (v142 + (a0.fFrom.length : Int)))) fun v217 =>
  bnd (f39 m v217 a0.fFrom) fun v218 =>
  some v218)
  (some false)) fun v194 =>
  f26_r3 m a0 a1 v141 v142 v194
def f26_r5 (m : Nat) (a0 : S28) (a1 : (List Int)) (v141 : (List Int)) (v142 : Int) (v166 : Bool) : Option (Stp ((List Int)) ((List Int) × Int)) :=
  bnd (cnd v166
  (bnd (sub a1 (w64 (v142 - (a0.fLeft.length : Int))) v142) fun v219 =>
  bnd (f39 m v219 a0.fLeft) fun v220 =>
  some v220)
  (some false)) fun v182 =>
  f26_r4 m a0 a1 v141 v142 v182
def f26_B6 (m : Nat) (a0 : S28) (a1 : (List Int)) (v141 : (List Int)) (v142 : Int) : Option (Stp ((List Int)) ((List Int) × Int)) :=
  cnd (decide (v142 < (a1.length : Int)))
  (f26_r5 m a0 a1 v141 v142 (((decide (v142 ≥ (a0.fLeft.length : Int))) && (decide (w64 (w64 (v142 + (a0.fFrom.length : Int)) + (a0.fRight.length : Int)) ≤ (a1.length : Int))))))
  (some (.brk (v141, v142)))
def f26 (m : Nat) (a0 : S28) (a1 : (List Int)) : Option (List Int) :=
  brk (iter (fun (y : (List Int) × Int) => f26_B6 m a0 a1 y.1 y.2) m ([], 0)) some fun y222 =>
  some y222.1
noncomputable abbrev X26 (n : Nat) : Cx := cxOf Proofs.Try.prog E 26 n
noncomputable def C26 : Code := bodyOf Proofs.Try.prog 26
theorem ok26 (m : Nat) (a0 : S28) (a1 : (List Int)) (o : (List Int)) (h : f26 m a0 a1 = some o) (n : Nat) (hn : m + 2 ≤ n) : Fn Proofs.Try.prog E n 26 [e28 a0, (eL eI) a1] ((eL eI) o) := by
  obtain ⟨n, rfl⟩ : ∃ q, n = q + 1 := ⟨n - 1, by omega⟩
  unfold f26 at h
  refine Fn.of (by kernel_rfl) (by kernel_rfl) ⟨(.v (.agg [(vP eI a0.fFrom), (vP eI a0.fTo), (vP eI a0.fLeft), (vP eI a0.fRight)])) :: (dP eI a1) :: u40 (u40 []), []⟩ (by kernel_rfl) ?_
  refine Wp.seq (subc [0] C26) (subc [1] C26) (by kernel_rfl) ?_
  refine Wp.region (by kernel_rfl) ?_
  refine Ops.seg 2 2 (by kernel_rfl) ⟨(.v (.agg [(vP eI a0.fFrom), (vP eI a0.fTo), (vP eI a0.fLeft), (vP eI a0.fRight)])) :: (dP eI a1) :: (.ptr 0 0) :: u1 ((.v (.sl .nil (List.map eI []))) :: u40 (u37 [])), [(.cells [(dP eI a0.fFrom), (dP eI a0.fTo), (dP eI a0.fLeft), (dP eI a0.fRight)])]⟩ (by kernel_rfl) ?_
  refine Ops.done (by kernel_rfl) ?_
  refine seqQ.n ?_
  refine Wp.seq (subc [1, 0] C26) (subc [1, 1] C26) (by kernel_rfl) ?_
  refine Wp.region (by kernel_rfl) ?_
  refine Ops.seg 1 1 (by kernel_rfl) ⟨(.v (.agg [(vP eI a0.fFrom), (vP eI a0.fTo), (vP eI a0.fLeft), (vP eI a0.fRight)])) :: (dP eI a1) :: (.ptr 0 0) :: u1 ((.v (.sl .nil (List.map eI []))) :: (.v (.sl .nil (List.map eI []))) :: u40 (u36 [])), [(.cells [(dP eI a0.fFrom), (dP eI a0.fTo), (dP eI a0.fLeft), (dP eI a0.fRight)])]⟩ (by kernel_rfl) ?_
  refine Ops.done (by kernel_rfl) ?_
  refine seqQ.n ?_
  refine Wp.seq (subc [1, 1, 0] C26) (subc [1, 1, 1] C26) (by kernel_rfl) ?_
  refine Wp.seq (subc [1, 1, 0, 0] C26) (subc [1, 1, 0, 1] C26) (by kernel_rfl) ?_
  refine Wp.region (by kernel_rfl) ?_
  refine Ops.seg 1 1 (by kernel_rfl) ⟨(.v (.agg [(vP eI a0.fFrom), (vP eI a0.fTo), (vP eI a0.fLeft), (vP eI a0.fRight)])) :: (dP eI a1) :: (.ptr 0 0) :: u1 ((.v (.sl .nil (List.map eI []))) :: (.v (.sl .nil (List.map eI []))) :: (dI 0) :: u40 (u35 [])), [(.cells [(dP eI a0.fFrom), (dP eI a0.fTo), (dP eI a0.fLeft), (dP eI a0.fRight)])]⟩ (by kernel_rfl) ?_
  refine Ops.done (by kernel_rfl) ?_
  refine seqQ.n ?_
  refine Wp.block (id := 0) [4, 5] (by kernel_rfl) 1 (by kernel_rfl) (subc [1, 1, 0, 1, 0] C26) (by kernel_rfl) ?_
  have hLx221 : ∀ (kx144 : Nat) (v141 : (List Int)) (v142 : Int)  (ox143 : (List Int) ⊕ ((List Int) × Int)), iter (fun (y : (List Int) × Int) => f26_B6 m a0 a1 y.1 y.2) kx144 (v141, v142) = some ox143 → ∀ nx145, kx144 ≤ nx145 → (∀ r, ox143 = .inl r → ∀ σ, RetOk (X26 n) (resOf Proofs.Try.prog 26) ((eL eI) r) σ → (seqQ (X26 n) (subc [1, 1, 1] C26) (fnQ (X26 n).E.T (resOf Proofs.Try.prog 26) ((eL eI) o))) .ret σ) → (∀ (y : (List Int) × Int) , ox143 = .inr y → (seqQ (X26 n) (subc [1, 1, 1] C26) (fnQ (X26 n).E.T (resOf Proofs.Try.prog 26) ((eL eI) o))) .normal ⟨q4 ((.v (.sl .nil (List.map eI []))) :: (appD 1 (List.map eI y.1)) :: q40 (q36 [])), [(.cells [(dP eI a0.fFrom), (dP eI a0.fTo), (dP eI a0.fLeft), (dP eI a0.fRight)]), (appO 1 (List.map eI y.1))]⟩) → Lp (X26 n) [1, 2, 4, 5, 6] 1 (subc [1, 1, 0, 1, 0, 0] C26) nx145 ⟨q1 ((dP eI a1) :: (.ptr 0 0) :: q1 ((.v (.sl .nil (List.map eI []))) :: (appD 1 (List.map eI v141)) :: (dI v142) :: q40 (q35 []))), [(.cells [(dP eI a0.fFrom), (dP eI a0.fTo), (dP eI a0.fLeft), (dP eI a0.fRight)]), (appO 1 (List.map eI v141))]⟩ (blkQ (X26 n) 0 [4, 5] 1 (seqQ (X26 n) (subc [1, 1, 1] C26) (fnQ (X26 n).E.T (resOf Proofs.Try.prog 26) ((eL eI) o)))) := by
    intro kx144
    induction kx144 with
    | zero => intro v141 v142  ox143 h; exact (iter_zero h).elim
    | succ kx144 ihx146 =>
      intro v141 v142  ox143 h nx145 hnx149 hrx147 hxx148
      obtain ⟨nx145, rfl⟩ : ∃ q, nx145 = q + 1 := ⟨nx145 - 1, by omega⟩
      obtain ⟨sx150, h, hsx151⟩ := iter_some h
      have h : f26_B6 m a0 a1 v141 v142 = some sx150 := h
      unfold f26_B6 at h
      refine Lp.succ ?_
      refine Wp.seq (subc [1, 1, 0, 1, 0, 0, 0] C26) (subc [1, 1, 0, 1, 0, 0, 1] C26) (by kernel_rfl) ?_
      refine Wp.seq (subc [1, 1, 0, 1, 0, 0, 0, 0] C26) (subc [1, 1, 0, 1, 0, 0, 0, 1] C26) (by kernel_rfl) ?_
      refine Wp.region (by kernel_rfl) ?_
      refine Ops.seg 2 2 (by kernel_rfl) ⟨q1 ((dP eI a1) :: (.ptr 0 0) :: q1 ((.v (.sl .nil (List.map eI []))) :: (appD 1 (List.map eI v141)) :: (dI v142) :: q1 ((dI v142) :: (dP eI a1) :: q40 (q32 [])))), [(.cells [(dP eI a0.fFrom), (dP eI a0.fTo), (dP eI a0.fLeft), (dP eI a0.fRight)]), (appO 1 (List.map eI v141))]⟩ (by kernel_rfl) ?_
      refine Ops.one 3 (by kernel_rfl) ((lenD (X26 n).E.T 23 (D.unt (dP eI a1))).map (·, [(.cells [(dP eI a0.fFrom), (dP eI a0.fTo), (dP eI a0.fLeft), (dP eI a0.fRight)]), (appO 1 (List.map eI v141))])) (dI ((a1.length : Int))) [(.cells [(dP eI a0.fFrom), (dP eI a0.fTo), (dP eI a0.fLeft), (dP eI a0.fRight)]), (appO 1 (List.map eI v141))] ⟨q1 ((dP eI a1) :: (.ptr 0 0) :: q1 ((.v (.sl .nil (List.map eI []))) :: (appD 1 (List.map eI v141)) :: (dI v142) :: q1 ((dI v142) :: (dP eI a1) :: (dI ((a1.length : Int))) :: q40 (q31 [])))), [(.cells [(dP eI a0.fFrom), (dP eI a0.fTo), (dP eI a0.fLeft), (dP eI a0.fRight)]), (appO 1 (List.map eI v141))]⟩ (by kernel_rfl) (len_r _ 23 3 .plain eI a1 (by kernel_rfl)) (by kernel_rfl) ?_
      refine Ops.seg 1 4 (by kernel_rfl) ⟨q1 ((dP eI a1) :: (.ptr 0 0) :: q1 ((.v (.sl .nil (List.map eI []))) :: (appD 1 (List.map eI v141)) :: (dI v142) :: q1 ((dI v142) :: (dP eI a1) :: (dI ((a1.length : Int))) :: (dB (decide (v142 < (a1.length : Int)))) :: q40 (q30 [])))), [(.cells [(dP eI a0.fFrom), (dP eI a0.fTo), (dP eI a0.fLeft), (dP eI a0.fRight)]), (appO 1 (List.map eI v141))]⟩ (by kernel_rfl) ?_
      refine Ops.done (by kernel_rfl) ?_
      refine seqQ.n ?_
      rcases cnd_some h with ⟨hb, h⟩ | ⟨hb, h⟩
      · refine Wp.cond (decide (v142 < (a1.length : Int))) [1, 2, 4, 5, 6] (by kernel_rfl) 2 (by kernel_rfl) (subc [1, 1, 0, 1, 0, 0, 0, 1, 0] C26) (subc [1, 1, 0, 1, 0, 0, 0, 1, 1] C26) (by kernel_rfl) (by kernel_rfl) (fun _ => ?_) (fun e => nomatch (hb.symm.trans e))
        refine Wp.skip (by kernel_rfl) ?_
        refine sqQ.n ⟨q1 ((dP eI a1) :: (.ptr 0 0) :: q1 ((.v (.sl .nil (List.map eI []))) :: (appD 2 (List.map eI v141)) :: (dI v142) :: q40 (q35 []))), [(.cells [(dP eI a0.fFrom), (dP eI a0.fTo), (dP eI a0.fLeft), (dP eI a0.fRight)]), .dead, (appO 1 (List.map eI v141))]⟩ (by generalize v141 = z0; cases z0 <;> kernel_rfl) ?_
        refine seqQ.n ?_
        have J26j154 : ∀ (v152 : (List Int)) (v153 : Int) , f26_j1 m v152 v153 = some sx150 → (lpQ (X26 n) [1, 2, 4, 5, 6] 1 (subc [1, 1, 0, 1, 0, 0] C26) nx145 (blkQ (X26 n) 0 [4, 5] 1 (seqQ (X26 n) (subc [1, 1, 1] C26) (fnQ (X26 n).E.T (resOf Proofs.Try.prog 26) ((eL eI) o))))) .normal ⟨q1 ((dP eI a1) :: (.ptr 0 0) :: q1 ((.v (.sl .nil (List.map eI []))) :: (appD 3 (List.map eI v152)) :: (dI v153) :: q40 (q35 []))), [(.cells [(dP eI a0.fFrom), (dP eI a0.fTo), (dP eI a0.fLeft), (dP eI a0.fRight)]), .dead, .dead, (appO 1 (List.map eI v152))]⟩ := by
          intro v152 v153  h
          unfold f26_j1 at h
          refine lpQ.n ⟨q1 ((dP eI a1) :: (.ptr 0 0) :: q1 ((.v (.sl .nil (List.map eI []))) :: (appD 1 (List.map eI v152)) :: (dI v153) :: q40 (q35 []))), [(.cells [(dP eI a0.fFrom), (dP eI a0.fTo), (dP eI a0.fLeft), (dP eI a0.fRight)]), (appO 1 (List.map eI v152))]⟩ (by generalize v152 = z0; cases z0 <;> kernel_rfl) ?_
          cases h
          exact ihx146 v152 v153  _ hsx151 _ (by omega) hrx147 hxx148
        refine Wp.block (id := 1) [1, 2, 4, 5, 6] (by kernel_rfl) 3 (by kernel_rfl) (subc [1, 1, 0, 1, 0, 0, 1, 0] C26) (by kernel_rfl) ?_
        refine Wp.seq (subc [1, 1, 0, 1, 0, 0, 1, 0, 0] C26) (subc [1, 1, 0, 1, 0, 0, 1, 0, 1] C26) (by kernel_rfl) ?_
        refine Wp.region (by kernel_rfl) ?_
        refine Ops.seg 3 3 (by kernel_rfl) ⟨q1 ((dP eI a1) :: (.ptr 0 0) :: q1 ((.v (.sl .nil (List.map eI []))) :: (appD 2 (List.map eI v141)) :: (dI v142) :: q5 ((dI v142) :: (.ptr 0 0) :: (dP eI a0.fFrom) :: q40 (q27 [])))), [(.cells [(dP eI a0.fFrom), (dP eI a0.fTo), (dP eI a0.fLeft), (dP eI a0.fRight)]), .dead, (appO 1 (List.map eI v141))]⟩ (by kernel_rfl) ?_
        refine Ops.one 4 (by kernel_rfl) ((lenD (X26 n).E.T 23 (D.unt (dP eI a0.fFrom))).map (·, [(.cells [(dP eI a0.fFrom), (dP eI a0.fTo), (dP eI a0.fLeft), (dP eI a0.fRight)]), .dead, (appO 1 (List.map eI v141))])) (dI ((a0.fFrom.length : Int))) [(.cells [(dP eI a0.fFrom), (dP eI a0.fTo), (dP eI a0.fLeft), (dP eI a0.fRight)]), .dead, (appO 1 (List.map eI v141))] ⟨q1 ((dP eI a1) :: (.ptr 0 0) :: q1 ((.v (.sl .nil (List.map eI []))) :: (appD 2 (List.map eI v141)) :: (dI v142) :: q5 ((dI v142) :: (.ptr 0 0) :: (dP eI a0.fFrom) :: (dI ((a0.fFrom.length : Int))) :: q40 (q26 [])))), [(.cells [(dP eI a0.fFrom), (dP eI a0.fTo), (dP eI a0.fLeft), (dP eI a0.fRight)]), .dead, (appO 1 (List.map eI v141))]⟩ (by kernel_rfl) (len_r _ 23 3 .plain eI a0.fFrom (by kernel_rfl)) (by kernel_rfl) ?_
        refine Ops.seg 2 6 (by kernel_rfl) ⟨q1 ((dP eI a1) :: (.ptr 0 0) :: q1 ((.v (.sl .nil (List.map eI []))) :: (appD 2 (List.map eI v141)) :: (dI v142) :: (dI (w64 (v142 + (a0.fFrom.length : Int)))) :: q4 ((dI v142) :: (.ptr 0 0) :: (dP eI a0.fFrom) :: (dI ((a0.fFrom.length : Int))) :: (dI (w64 (v142 + (a0.fFrom.length : Int)))) :: q40 (q25 [])))), [(.cells [(dP eI a0.fFrom), (dP eI a0.fTo), (dP eI a0.fLeft), (dP eI a0.fRight)]), .dead, (appO 1 (List.map eI v141))]⟩ (by kernel_rfl) ?_
        refine Ops.done (by kernel_rfl) ?_
        refine seqQ.n ?_
        refine Wp.seq (subc [1, 1, 0, 1, 0, 0, 1, 0, 1, 0] C26) (subc [1, 1, 0, 1, 0, 0, 1, 0, 1, 1] C26) (by kernel_rfl) ?_
        refine Wp.seq (subc [1, 1, 0, 1, 0, 0, 1, 0, 1, 0, 0] C26) (subc [1, 1, 0, 1, 0, 0, 1, 0, 1, 0, 1] C26) (by kernel_rfl) ?_
        refine Wp.region (by kernel_rfl) ?_
        refine Ops.seg 3 3 (by kernel_rfl) ⟨q1 ((dP eI a1) :: (.ptr 0 0) :: q1 ((.v (.sl .nil (List.map eI []))) :: (appD 2 (List.map eI v141)) :: (dI v142) :: (dI (w64 (v142 + (a0.fFrom.length : Int)))) :: q4 ((dI v142) :: (.ptr 0 0) :: (dP eI a0.fFrom) :: (dI ((a0.fFrom.length : Int))) :: (dI (w64 (v142 + (a0.fFrom.length : Int)))) :: (dI v142) :: (.ptr 0 2) :: (dP eI a0.fLeft) :: q40 (q22 [])))), [(.cells [(dP eI a0.fFrom), (dP eI a0.fTo), (dP eI a0.fLeft), (dP eI a0.fRight)]), .dead, (appO 1 (List.map eI v141))]⟩ (by kernel_rfl) ?_
        refine Ops.one 4 (by kernel_rfl) ((lenD (X26 n).E.T 23 (D.unt (dP eI a0.fLeft))).map (·, [(.cells [(dP eI a0.fFrom), (dP eI a0.fTo), (dP eI a0.fLeft), (dP eI a0.fRight)]), .dead, (appO 1 (List.map eI v141))])) (dI ((a0.fLeft.length : Int))) [(.cells [(dP eI a0.fFrom), (dP eI a0.fTo), (dP eI a0.fLeft), (dP eI a0.fRight)]), .dead, (appO 1 (List.map eI v141))] ⟨q1 ((dP eI a1) :: (.ptr 0 0) :: q1 ((.v (.sl .nil (List.map eI []))) :: (appD 2 (List.map eI v141)) :: (dI v142) :: (dI (w64 (v142 + (a0.fFrom.length : Int)))) :: q4 ((dI v142) :: (.ptr 0 0) :: (dP eI a0.fFrom) :: (dI ((a0.fFrom.length : Int))) :: (dI (w64 (v142 + (a0.fFrom.length : Int)))) :: (dI v142) :: (.ptr 0 2) :: (dP eI a0.fLeft) :: (dI ((a0.fLeft.length : Int))) :: q40 (q21 [])))), [(.cells [(dP eI a0.fFrom), (dP eI a0.fTo), (dP eI a0.fLeft), (dP eI a0.fRight)]), .dead, (appO 1 (List.map eI v141))]⟩ (by kernel_rfl) (len_r _ 23 3 .plain eI a0.fLeft (by kernel_rfl)) (by kernel_rfl) ?_
        refine Ops.seg 2 6 (by kernel_rfl) ⟨q1 ((dP eI a1) :: (.ptr 0 0) :: q1 ((.v (.sl .nil (List.map eI []))) :: (appD 2 (List.map eI v141)) :: (dI v142) :: (dI (w64 (v142 + (a0.fFrom.length : Int)))) :: q4 ((dI v142) :: (.ptr 0 0) :: (dP eI a0.fFrom) :: (dI ((a0.fFrom.length : Int))) :: (dI (w64 (v142 + (a0.fFrom.length : Int)))) :: (dI v142) :: (.ptr 0 2) :: (dP eI a0.fLeft) :: (dI ((a0.fLeft.length : Int))) :: (dB (decide (v142 ≥ (a0.fLeft.length : Int)))) :: (dB (decide (v142 ≥ (a0.fLeft.length : Int)))) :: q40 (q19 [])))), [(.cells [(dP eI a0.fFrom), (dP eI a0.fTo), (dP eI a0.fLeft), (dP eI a0.fRight)]), .dead, (appO 1 (List.map eI v141))]⟩ (by kernel_rfl) ?_
        have J26j167 : ∀ (d157 d158 d159 d160 d161 d162 d163 d164 : D) (v165 : Bool) (v166 : Bool), f26_r5 m a0 a1 v141 v142 v166 = some sx150 → Ops (X26 n) (opl (subc [1, 1, 0, 1, 0, 0, 1, 0, 1, 0, 0] C26)) 15 ⟨q1 ((dP eI a1) :: (.ptr 0 0) :: q1 ((.v (.sl .nil (List.map eI []))) :: (appD 2 (List.map eI v141)) :: (dI v142) :: (dI (w64 (v142 + (a0.fFrom.length : Int)))) :: q4 ((dI v142) :: (.ptr 0 0) :: (dP eI a0.fFrom) :: (dI ((a0.fFrom.length : Int))) :: (dI (w64 (v142 + (a0.fFrom.length : Int)))) :: (dI v142) :: (.ptr 0 2) :: (dP eI a0.fLeft) :: (dI ((a0.fLeft.length : Int))) :: (dB v165) :: (dB v165) :: d157 :: d158 :: d159 :: d160 :: d161 :: d162 :: d163 :: d164 :: (dB v166) :: q40 (q10 [])))), [(.cells [(dP eI a0.fFrom), (dP eI a0.fTo), (dP eI a0.fLeft), (dP eI a0.fRight)]), .dead, (appO 1 (List.map eI v141))]⟩ ((seqQ (X26 n) (subc [1, 1, 0, 1, 0, 0, 1, 0, 1, 0, 1] C26) (seqQ (X26 n) (subc [1, 1, 0, 1, 0, 0, 1, 0, 1, 1] C26) (blkQ (X26 n) 1 [1, 2, 4, 5, 6] 3 (lpQ (X26 n) [1, 2, 4, 5, 6] 1 (subc [1, 1, 0, 1, 0, 0] C26) nx145 (blkQ (X26 n) 0 [4, 5] 1 (seqQ (X26 n) (subc [1, 1, 1] C26) (fnQ (X26 n).E.T (resOf Proofs.Try.prog 26) ((eL eI) o)))))))) .normal) := by
          intro d157 d158 d159 d160 d161 d162 d163 d164 v165 v166 h
          unfold f26_r5 at h
          refine Ops.seg 1 16 (by kernel_rfl) ⟨q1 ((dP eI a1) :: (.ptr 0 0) :: q1 ((.v (.sl .nil (List.map eI []))) :: (appD 2 (List.map eI v141)) :: (dI v142) :: (dI (w64 (v142 + (a0.fFrom.length : Int)))) :: q4 ((dI v142) :: (.ptr 0 0) :: (dP eI a0.fFrom) :: (dI ((a0.fFrom.length : Int))) :: (dI (w64 (v142 + (a0.fFrom.length : Int)))) :: (dI v142) :: (.ptr 0 2) :: (dP eI a0.fLeft) :: (dI ((a0.fLeft.length : Int))) :: (dB v165) :: (dB v165) :: d157 :: d158 :: d159 :: d160 :: d161 :: d162 :: d163 :: d164 :: (dB v166) :: (dB v166) :: q40 (q9 [])))), [(.cells [(dP eI a0.fFrom), (dP eI a0.fTo), (dP eI a0.fLeft), (dP eI a0.fRight)]), .dead, (appO 1 (List.map eI v141))]⟩ (by kernel_rfl) ?_
          have J26j183 : ∀ (d170 d171 d172 d173 d174 d175 d176 d177 d178 d179 d180 : D) (v181 : Bool) (v182 : Bool), f26_r4 m a0 a1 v141 v142 v182 = some sx150 → Ops (X26 n) (opl (subc [1, 1, 0, 1, 0, 0, 1, 0, 1, 0, 0] C26)) 28 ⟨q1 ((dP eI a1) :: (.ptr 0 0) :: q1 ((.v (.sl .nil (List.map eI []))) :: (appD 2 (List.map eI v141)) :: (dI v142) :: (dI (w64 (v142 + (a0.fFrom.length : Int)))) :: q4 ((dI v142) :: (.ptr 0 0) :: (dP eI a0.fFrom) :: (dI ((a0.fFrom.length : Int))) :: (dI (w64 (v142 + (a0.fFrom.length : Int)))) :: (dI v142) :: (.ptr 0 2) :: (dP eI a0.fLeft) :: (dI ((a0.fLeft.length : Int))) :: (dB v165) :: (dB v165) :: d157 :: d158 :: d159 :: d160 :: d161 :: d162 :: d163 :: d164 :: (dB v181) :: (dB v181) :: d170 :: d171 :: d172 :: d173 :: d174 :: d175 :: d176 :: d177 :: d178 :: d179 :: d180 :: (dB v182) :: q37 []))), [(.cells [(dP eI a0.fFrom), (dP eI a0.fTo), (dP eI a0.fLeft), (dP eI a0.fRight)]), .dead, (appO 1 (List.map eI v141))]⟩ ((seqQ (X26 n) (subc [1, 1, 0, 1, 0, 0, 1, 0, 1, 0, 1] C26) (seqQ (X26 n) (subc [1, 1, 0, 1, 0, 0, 1, 0, 1, 1] C26) (blkQ (X26 n) 1 [1, 2, 4, 5, 6] 3 (lpQ (X26 n) [1, 2, 4, 5, 6] 1 (subc [1, 1, 0, 1, 0, 0] C26) nx145 (blkQ (X26 n) 0 [4, 5] 1 (seqQ (X26 n) (subc [1, 1, 1] C26) (fnQ (X26 n).E.T (resOf Proofs.Try.prog 26) ((eL eI) o)))))))) .normal) := by
            intro d170 d171 d172 d173 d174 d175 d176 d177 d178 d179 d180 v181 v182 h
            unfold f26_r4 at h
            refine Ops.seg 1 29 (by kernel_rfl) ⟨q1 ((dP eI a1) :: (.ptr 0 0) :: q1 ((.v (.sl .nil (List.map eI []))) :: (appD 2 (List.map eI v141)) :: (dI v142) :: (dI (w64 (v142 + (a0.fFrom.length : Int)))) :: q4 ((dI v142) :: (.ptr 0 0) :: (dP eI a0.fFrom) :: (dI ((a0.fFrom.length : Int))) :: (dI (w64 (v142 + (a0.fFrom.length : Int)))) :: (dI v142) :: (.ptr 0 2) :: (dP eI a0.fLeft) :: (dI ((a0.fLeft.length : Int))) :: (dB v165) :: (dB v165) :: d157 :: d158 :: d159 :: d160 :: d161 :: d162 :: d163 :: d164 :: (dB v181) :: (dB v181) :: d170 :: d171 :: d172 :: d173 :: d174 :: d175 :: d176 :: d177 :: d178 :: d179 :: d180 :: (dB v182) :: (dB v182) :: q36 []))), [(.cells [(dP eI a0.fFrom), (dP eI a0.fTo), (dP eI a0.fLeft), (dP eI a0.fRight)]), .dead, (appO 1 (List.map eI v141))]⟩ (by kernel_rfl) ?_
            have J26j195 : ∀ (d186 d187 d188 d189 d190 d191 d192 : D) (v193 : Bool) (v194 : Bool), f26_r3 m a0 a1 v141 v142 v194 = some sx150 → Ops (X26 n) (opl (subc [1, 1, 0, 1, 0, 0, 1, 0, 1, 0, 0] C26)) 37 ⟨q1 ((dP eI a1) :: (.ptr 0 0) :: q1 ((.v (.sl .nil (List.map eI []))) :: (appD 2 (List.map eI v141)) :: (dI v142) :: (dI (w64 (v142 + (a0.fFrom.length : Int)))) :: q4 ((dI v142) :: (.ptr 0 0) :: (dP eI a0.fFrom) :: (dI ((a0.fFrom.length : Int))) :: (dI (w64 (v142 + (a0.fFrom.length : Int)))) :: (dI v142) :: (.ptr 0 2) :: (dP eI a0.fLeft) :: (dI ((a0.fLeft.length : Int))) :: (dB v165) :: (dB v165) :: d157 :: d158 :: d159 :: d160 :: d161 :: d162 :: d163 :: d164 :: (dB v181) :: (dB v181) :: d170 :: d171 :: d172 :: d173 :: d174 :: d175 :: d176 :: d177 :: d178 :: d179 :: d180 :: (dB v193) :: (dB v193) :: d186 :: d187 :: d188 :: d189 :: d190 :: d191 :: d192 :: (dB v194) :: q28 []))), [(.cells [(dP eI a0.fFrom), (dP eI a0.fTo), (dP eI a0.fLeft), (dP eI a0.fRight)]), .dead, (appO 1 (List.map eI v141))]⟩ ((seqQ (X26 n) (subc [1, 1, 0, 1, 0, 0, 1, 0, 1, 0, 1] C26) (seqQ (X26 n) (subc [1, 1, 0, 1, 0, 0, 1, 0, 1, 1] C26) (blkQ (X26 n) 1 [1, 2, 4, 5, 6] 3 (lpQ (X26 n) [1, 2, 4, 5, 6] 1 (subc [1, 1, 0, 1, 0, 0] C26) nx145 (blkQ (X26 n) 0 [4, 5] 1 (seqQ (X26 n) (subc [1, 1, 1] C26) (fnQ (X26 n).E.T (resOf Proofs.Try.prog 26) ((eL eI) o)))))))) .normal) := by
              intro d186 d187 d188 d189 d190 d191 d192 v193 v194 h
              unfold f26_r3 at h
              refine Ops.seg 1 38 (by kernel_rfl) ⟨q1 ((dP eI a1) :: (.ptr 0 0) :: q1 ((.v (.sl .nil (List.map eI []))) :: (appD 2 (List.map eI v141)) :: (dI v142) :: (dI (w64 (v142 + (a0.fFrom.length : Int)))) :: q4 ((dI v142) :: (.ptr 0 0) :: (dP eI a0.fFrom) :: (dI ((a0.fFrom.length : Int))) :: (dI (w64 (v142 + (a0.fFrom.length : Int)))) :: (dI v142) :: (.ptr 0 2) :: (dP eI a0.fLeft) :: (dI ((a0.fLeft.length : Int))) :: (dB v165) :: (dB v165) :: d157 :: d158 :: d159 :: d160 :: d161 :: d162 :: d163 :: d164 :: (dB v181) :: (dB v181) :: d170 :: d171 :: d172 :: d173 :: d174 :: d175 :: d176 :: d177 :: d178 :: d179 :: d180 :: (dB v193) :: (dB v193) :: d186 :: d187 :: d188 :: d189 :: d190 :: d191 :: d192 :: (dB v194) :: (dB v194) :: q27 []))), [(.cells [(dP eI a0.fFrom), (dP eI a0.fTo), (dP eI a0.fLeft), (dP eI a0.fRight)]), .dead, (appO 1 (List.map eI v141))]⟩ (by kernel_rfl) ?_
              have J26j211 : ∀ (d198 d199 d200 d201 d202 d203 d204 d205 d206 d207 d208 : D) (v209 : Bool) (v210 : Bool), f26_r2 m a0 a1 v141 v142 v210 = some sx150 → Ops (X26 n) (opl (subc [1, 1, 0, 1, 0, 0, 1, 0, 1, 0, 0] C26)) 50 ⟨q1 ((dP eI a1) :: (.ptr 0 0) :: q1 ((.v (.sl .nil (List.map eI []))) :: (appD 2 (List.map eI v141)) :: (dI v142) :: (dI (w64 (v142 + (a0.fFrom.length : Int)))) :: q4 ((dI v142) :: (.ptr 0 0) :: (dP eI a0.fFrom) :: (dI ((a0.fFrom.length : Int))) :: (dI (w64 (v142 + (a0.fFrom.length : Int)))) :: (dI v142) :: (.ptr 0 2) :: (dP eI a0.fLeft) :: (dI ((a0.fLeft.length : Int))) :: (dB v165) :: (dB v165) :: d157 :: d158 :: d159 :: d160 :: d161 :: d162 :: d163 :: d164 :: (dB v181) :: (dB v181) :: d170 :: d171 :: d172 :: d173 :: d174 :: d175 :: d176 :: d177 :: d178 :: d179 :: d180 :: (dB v193) :: (dB v193) :: d186 :: d187 :: d188 :: d189 :: d190 :: d191 :: d192 :: (dB v209) :: (dB v209) :: d198 :: d199 :: d200 :: d201 :: d202 :: d203 :: d204 :: d205 :: d206 :: d207 :: d208 :: (dB v210) :: q15 []))), [(.cells [(dP eI a0.fFrom), (dP eI a0.fTo), (dP eI a0.fLeft), (dP eI a0.fRight)]), .dead, (appO 1 (List.map eI v141))]⟩ ((seqQ (X26 n) (subc [1, 1, 0, 1, 0, 0, 1, 0, 1, 0, 1] C26) (seqQ (X26 n) (subc [1, 1, 0, 1, 0, 0, 1, 0, 1, 1] C26) (blkQ (X26 n) 1 [1, 2, 4, 5, 6] 3 (lpQ (X26 n) [1, 2, 4, 5, 6] 1 (subc [1, 1, 0, 1, 0, 0] C26) nx145 (blkQ (X26 n) 0 [4, 5] 1 (seqQ (X26 n) (subc [1, 1, 1] C26) (fnQ (X26 n).E.T (resOf Proofs.Try.prog 26) ((eL eI) o)))))))) .normal) := by
                intro d198 d199 d200 d201 d202 d203 d204 d205 d206 d207 d208 v209 v210 h
                unfold f26_r2 at h
                refine Ops.done (by kernel_rfl) ?_
                refine seqQ.n ?_
                rcases cnd_some h with ⟨hb, h⟩ | ⟨hb, h⟩
                · refine Wp.cond v210 [1, 2, 4, 5, 6] (by kernel_rfl) 3 (by kernel_rfl) (subc [1, 1, 0, 1, 0, 0, 1, 0, 1, 0, 1, 0] C26) (subc [1, 1, 0, 1, 0, 0, 1, 0, 1, 0, 1, 1] C26) (by kernel_rfl) (by kernel_rfl) (fun _ => ?_) (fun e => nomatch (hb.symm.trans e))
                  refine Wp.seq (subc [1, 1, 0, 1, 0, 0, 1, 0, 1, 0, 1, 0, 0] C26) (subc [1, 1, 0, 1, 0, 0, 1, 0, 1, 0, 1, 0, 1] C26) (by kernel_rfl) ?_
                  refine Wp.region (by kernel_rfl) ?_
                  refine Ops.seg 3 3 (by kernel_rfl) ⟨q1 ((dP eI a1) :: (.ptr 0 0) :: q1 ((.v (.sl .nil (List.map eI []))) :: (appD 2 (List.map eI v141)) :: (dI v142) :: (dI (w64 (v142 + (a0.fFrom.length : Int)))) :: q4 ((dI v142) :: (.ptr 0 0) :: (dP eI a0.fFrom) :: (dI ((a0.fFrom.length : Int))) :: (dI (w64 (v142 + (a0.fFrom.length : Int)))) :: (dI v142) :: (.ptr 0 2) :: (dP eI a0.fLeft) :: (dI ((a0.fLeft.length : Int))) :: (dB v165) :: (dB v165) :: d157 :: d158 :: d159 :: d160 :: d161 :: d162 :: d163 :: d164 :: (dB v181) :: (dB v181) :: d170 :: d171 :: d172 :: d173 :: d174 :: d175 :: d176 :: d177 :: d178 :: d179 :: d180 :: (dB v193) :: (dB v193) :: d186 :: d187 :: d188 :: d189 :: d190 :: d191 :: d192 :: (dB v209) :: (dB v209) :: d198 :: d199 :: d200 :: d201 :: d202 :: d203 :: d204 :: d205 :: d206 :: d207 :: d208 :: (dB v210) :: (appD 2 (List.map eI v141)) :: (.ptr 0 1) :: (dP eI a0.fTo) :: q12 []))), [(.cells [(dP eI a0.fFrom), (dP eI a0.fTo), (dP eI a0.fLeft), (dP eI a0.fRight)]), .dead, (appO 1 (List.map eI v141))]⟩ (by kernel_rfl) ?_
                  obtain ⟨v212, ev212, h⟩ := bnd_some h
                  refine Ops.one 4 (by kernel_rfl) (appendD (X26 n).E.T false 23 [(.cells [(dP eI a0.fFrom), (dP eI a0.fTo), (dP eI a0.fLeft), (dP eI a0.fRight)]), .dead, (appO 1 (List.map eI v141))] (appD 2 (List.map eI v141)) (dP eI a0.fTo)) (appD 3 (List.map eI v212)) [(.cells [(dP eI a0.fFrom), (dP eI a0.fTo), (dP eI a0.fLeft), (dP eI a0.fRight)]), .dead, .dead, (appO 1 (List.map eI v212))] ⟨q1 ((dP eI a1) :: (.ptr 0 0) :: q1 ((.v (.sl .nil (List.map eI []))) :: (appD 2 (List.map eI v141)) :: (dI v142) :: (dI (w64 (v142 + (a0.fFrom.length : Int)))) :: q4 ((dI v142) :: (.ptr 0 0) :: (dP eI a0.fFrom) :: (dI ((a0.fFrom.length : Int))) :: (dI (w64 (v142 + (a0.fFrom.length : Int)))) :: (dI v142) :: (.ptr 0 2) :: (dP eI a0.fLeft) :: (dI ((a0.fLeft.length : Int))) :: (dB v165) :: (dB v165) :: d157 :: d158 :: d159 :: d160 :: d161 :: d162 :: d163 :: d164 :: (dB v181) :: (dB v181) :: d170 :: d171 :: d172 :: d173 :: d174 :: d175 :: d176 :: d177 :: d178 :: d179 :: d180 :: (dB v193) :: (dB v193) :: d186 :: d187 :: d188 :: d189 :: d190 :: d191 :: d192 :: (dB v209) :: (dB v209) :: d198 :: d199 :: d200 :: d201 :: d202 :: d203 :: d204 :: d205 :: d206 :: d207 :: d208 :: (dB v210) :: (appD 2 (List.map eI v141)) :: (.ptr 0 1) :: (dP eI a0.fTo) :: (appD 3 (List.map eI v212)) :: q11 []))), [(.cells [(dP eI a0.fFrom), (dP eI a0.fTo), (dP eI a0.fLeft), (dP eI a0.fRight)]), .dead, .dead, (appO 1 (List.map eI v212))]⟩ (by kernel_rfl) (app_r _ 23 3 2 1 ti3 .plain eI v141 a0.fTo v212 ev212 (by kernel_rfl) (by kernel_rfl) (by kernel_rfl) (by kernel_rfl) (fun _ => rfl) (by kernel_rfl)) (by kernel_rfl) ?_
                  refine Ops.seg 1 5 (by kernel_rfl) ⟨q1 ((dP eI a1) :: (.ptr 0 0) :: q1 ((.v (.sl .nil (List.map eI []))) :: (appD 3 (List.map eI v212)) :: (dI v142) :: (dI (w64 (v142 + (a0.fFrom.length : Int)))) :: q4 ((dI v142) :: (.ptr 0 0) :: (dP eI a0.fFrom) :: (dI ((a0.fFrom.length : Int))) :: (dI (w64 (v142 + (a0.fFrom.length : Int)))) :: (dI v142) :: (.ptr 0 2) :: (dP eI a0.fLeft) :: (dI ((a0.fLeft.length : Int))) :: (dB v165) :: (dB v165) :: d157 :: d158 :: d159 :: d160 :: d161 :: d162 :: d163 :: d164 :: (dB v181) :: (dB v181) :: d170 :: d171 :: d172 :: d173 :: d174 :: d175 :: d176 :: d177 :: d178 :: d179 :: d180 :: (dB v193) :: (dB v193) :: d186 :: d187 :: d188 :: d189 :: d190 :: d191 :: d192 :: (dB v209) :: (dB v209) :: d198 :: d199 :: d200 :: d201 :: d202 :: d203 :: d204 :: d205 :: d206 :: d207 :: d208 :: (dB v210) :: (appD 2 (List.map eI v141)) :: (.ptr 0 1) :: (dP eI a0.fTo) :: (appD 3 (List.map eI v212)) :: q11 []))), [(.cells [(dP eI a0.fFrom), (dP eI a0.fTo), (dP eI a0.fLeft), (dP eI a0.fRight)]), .dead, .dead, (appO 1 (List.map eI v212))]⟩ (by kernel_rfl) ?_
                  refine Ops.done (by kernel_rfl) ?_
                  refine seqQ.n ?_
                  refine Wp.seq (subc [1, 1, 0, 1, 0, 0, 1, 0, 1, 0, 1, 0, 1, 0] C26) (subc [1, 1, 0, 1, 0, 0, 1, 0, 1, 0, 1, 0, 1, 1] C26) (by kernel_rfl) ?_
                  refine Wp.region (by kernel_rfl) ?_
                  refine Ops.seg 2 2 (by kernel_rfl) ⟨q1 ((dP eI a1) :: (.ptr 0 0) :: q1 ((.v (.sl .nil (List.map eI []))) :: (appD 3 (List.map eI v212)) :: (dI (w64 (v142 + (a0.fFrom.length : Int)))) :: (dI (w64 (v142 + (a0.fFrom.length : Int)))) :: q4 ((dI v142) :: (.ptr 0 0) :: (dP eI a0.fFrom) :: (dI ((a0.fFrom.length : Int))) :: (dI (w64 (v142 + (a0.fFrom.length : Int)))) :: (dI v142) :: (.ptr 0 2) :: (dP eI a0.fLeft) :: (dI ((a0.fLeft.length : Int))) :: (dB v165) :: (dB v165) :: d157 :: d158 :: d159 :: d160 :: d161 :: d162 :: d163 :: d164 :: (dB v181) :: (dB v181) :: d170 :: d171 :: d172 :: d173 :: d174 :: d175 :: d176 :: d177 :: d178 :: d179 :: d180 :: (dB v193) :: (dB v193) :: d186 :: d187 :: d188 :: d189 :: d190 :: d191 :: d192 :: (dB v209) :: (dB v209) :: d198 :: d199 :: d200 :: d201 :: d202 :: d203 :: d204 :: d205 :: d206 :: d207 :: d208 :: (dB v210) :: (appD 2 (List.map eI v141)) :: (.ptr 0 1) :: (dP eI a0.fTo) :: (appD 3 (List.map eI v212)) :: (dI (w64 (v142 + (a0.fFrom.length : Int)))) :: q10 []))), [(.cells [(dP eI a0.fFrom), (dP eI a0.fTo), (dP eI a0.fLeft), (dP eI a0.fRight)]), .dead, .dead, (appO 1 (List.map eI v212))]⟩ (by kernel_rfl) ?_
                  refine Ops.done (by kernel_rfl) ?_
                  refine seqQ.n ?_
                  refine Wp.exit (id := 1) (by kernel_rfl) ?_
                  refine sqQ.x ?_
                  refine seqQ.x ?_
                  refine blkQ.x ⟨q1 ((dP eI a1) :: (.ptr 0 0) :: q1 ((.v (.sl .nil (List.map eI []))) :: (appD 3 (List.map eI v212)) :: (dI (w64 (v142 + (a0.fFrom.length : Int)))) :: q40 (q35 []))), [(.cells [(dP eI a0.fFrom), (dP eI a0.fTo), (dP eI a0.fLeft), (dP eI a0.fRight)]), .dead, .dead, (appO 1 (List.map eI v212))]⟩ (by generalize v212 = z0; cases z0 <;> kernel_rfl) ?_
                  exact J26j154 v212 (w64 (v142 + (a0.fFrom.length : Int)))  h
                · refine Wp.cond v210 [1, 2, 4, 5, 6] (by kernel_rfl) 3 (by kernel_rfl) (subc [1, 1, 0, 1, 0, 0, 1, 0, 1, 0, 1, 0] C26) (subc [1, 1, 0, 1, 0, 0, 1, 0, 1, 0, 1, 1] C26) (by kernel_rfl) (by kernel_rfl) (fun e => nomatch (hb.symm.trans e)) (fun _ => ?_)
                  refine Wp.skip (by kernel_rfl) ?_
                  refine sqQ.n ⟨q1 ((dP eI a1) :: (.ptr 0 0) :: q1 ((.v (.sl .nil (List.map eI []))) :: (appD 3 (List.map eI v141)) :: (dI v142) :: q40 (q35 []))), [(.cells [(dP eI a0.fFrom), (dP eI a0.fTo), (dP eI a0.fLeft), (dP eI a0.fRight)]), .dead, .dead, (appO 1 (List.map eI v141))]⟩ (by generalize v141 = z0; cases z0 <;> kernel_rfl) ?_
                  refine seqQ.n ?_
                  refine Wp.seq (subc [1, 1, 0, 1, 0, 0, 1, 0, 1, 1, 0] C26) (subc [1, 1, 0, 1, 0, 0, 1, 0, 1, 1, 1] C26) (by kernel_rfl) ?_
                  refine Wp.region (by kernel_rfl) ?_
                  refine Ops.seg 3 3 (by kernel_rfl) ⟨q1 ((dP eI a1) :: (.ptr 0 0) :: q1 ((.v (.sl .nil (List.map eI []))) :: (appD 3 (List.map eI v141)) :: (dI v142) :: q40 (q25 ((appD 3 (List.map eI v141)) :: (dP eI a1) :: (dI v142) :: q7 [])))), [(.cells [(dP eI a0.fFrom), (dP eI a0.fTo), (dP eI a0.fLeft), (dP eI a0.fRight)]), .dead, .dead, (appO 1 (List.map eI v141))]⟩ (by kernel_rfl) ?_
                  obtain ⟨v213, ev213, h⟩ := bnd_some h
                  refine Ops.one 4 (by kernel_rfl) ((indexAddrH (X26 n).E.T [(.cells [(dP eI a0.fFrom), (dP eI a0.fTo), (dP eI a0.fLeft), (dP eI a0.fRight)]), .dead, .dead, (appO 1 (List.map eI v141))] 23 (D.unt (dP eI a1)) (dI v142)).map (·, [(.cells [(dP eI a0.fFrom), (dP eI a0.fTo), (dP eI a0.fLeft), (dP eI a0.fRight)]), .dead, .dead, (appO 1 (List.map eI v141))])) (.vptr [(vI v213)]) [(.cells [(dP eI a0.fFrom), (dP eI a0.fTo), (dP eI a0.fLeft), (dP eI a0.fRight)]), .dead, .dead, (appO 1 (List.map eI v141))] ⟨q1 ((dP eI a1) :: (.ptr 0 0) :: q1 ((.v (.sl .nil (List.map eI []))) :: (appD 3 (List.map eI v141)) :: (dI v142) :: q40 (q25 ((appD 3 (List.map eI v141)) :: (dP eI a1) :: (dI v142) :: (.vptr [(vI v213)]) :: q6 [])))), [(.cells [(dP eI a0.fFrom), (dP eI a0.fTo), (dP eI a0.fLeft), (dP eI a0.fRight)]), .dead, .dead, (appO 1 (List.map eI v141))]⟩ (by kernel_rfl) (ix_r _ 23 3 1 .plain eI a1 v142 v213 ev213 (by kernel_rfl) (by kernel_rfl) (fun _ => rfl)) (by kernel_rfl) ?_
                  refine Ops.seg 2 6 (by kernel_rfl) ⟨q1 ((dP eI a1) :: (.ptr 0 0) :: q1 ((.v (.sl .nil (List.map eI []))) :: (appD 3 (List.map eI v141)) :: (dI v142) :: q40 (q25 ((appD 3 (List.map eI v141)) :: (dP eI a1) :: (dI v142) :: (.vptr [(vI v213)]) :: (dI v213) :: (.v (.sl .nonfull (List.map eI [v213]))) :: q4 [])))), [(.cells [(dP eI a0.fFrom), (dP eI a0.fTo), (dP eI a0.fLeft), (dP eI a0.fRight)]), .dead, .dead, (appO 1 (List.map eI v141))]⟩ (by kernel_rfl) ?_
                  obtain ⟨v214, ev214, h⟩ := bnd_some h
                  refine Ops.one 7 (by kernel_rfl) (appendD (X26 n).E.T false 23 [(.cells [(dP eI a0.fFrom), (dP eI a0.fTo), (dP eI a0.fLeft), (dP eI a0.fRight)]), .dead, .dead, (appO 1 (List.map eI v141))] (appD 3 (List.map eI v141)) (.v (.sl .nonfull (List.map eI [v213])))) (appD 4 (List.map eI v214)) [(.cells [(dP eI a0.fFrom), (dP eI a0.fTo), (dP eI a0.fLeft), (dP eI a0.fRight)]), .dead, .dead, .dead, (appO 1 (List.map eI v214))] ⟨q1 ((dP eI a1) :: (.ptr 0 0) :: q1 ((.v (.sl .nil (List.map eI []))) :: (appD 3 (List.map eI v141)) :: (dI v142) :: q40 (q25 ((appD 3 (List.map eI v141)) :: (dP eI a1) :: (dI v142) :: (.vptr [(vI v213)]) :: (dI v213) :: (.v (.sl .nonfull (List.map eI [v213]))) :: (appD 4 (List.map eI v214)) :: q3 [])))), [(.cells [(dP eI a0.fFrom), (dP eI a0.fTo), (dP eI a0.fLeft), (dP eI a0.fRight)]), .dead, .dead, .dead, (appO 1 (List.map eI v214))]⟩ (by kernel_rfl) (app_r _ 23 3 3 1 ti3 .nonfull eI v141 [v213] v214 ev214 (by kernel_rfl) (by kernel_rfl) (by kernel_rfl) (by kernel_rfl) (fun _ => rfl) (by kernel_rfl)) (by kernel_rfl) ?_
                  refine Ops.seg 1 8 (by kernel_rfl) ⟨q1 ((dP eI a1) :: (.ptr 0 0) :: q1 ((.v (.sl .nil (List.map eI []))) :: (appD 4 (List.map eI v214)) :: (dI v142) :: q40 (q25 ((appD 3 (List.map eI v141)) :: (dP eI a1) :: (dI v142) :: (.vptr [(vI v213)]) :: (dI v213) :: (.v (.sl .nonfull (List.map eI [v213]))) :: (appD 4 (List.map eI v214)) :: q3 [])))), [(.cells [(dP eI a0.fFrom), (dP eI a0.fTo), (dP eI a0.fLeft), (dP eI a0.fRight)]), .dead, .dead, .dead, (appO 1 (List.map eI v214))]⟩ (by kernel_rfl) ?_
                  refine Ops.done (by kernel_rfl) ?_
                  refine seqQ.n ?_
                  refine Wp.region (by kernel_rfl) ?_
                  refine Ops.seg 3 3 (by kernel_rfl) ⟨q1 ((dP eI a1) :: (.ptr 0 0) :: q1 ((.v (.sl .nil (List.map eI []))) :: (appD 4 (List.map eI v214)) :: (dI (w64 (v142 + 1))) :: q40 (q25 ((appD 3 (List.map eI v141)) :: (dP eI a1) :: (dI v142) :: (.vptr [(vI v213)]) :: (dI v213) :: (.v (.sl .nonfull (List.map eI [v213]))) :: (appD 4 (List.map eI v214)) :: (dI v142) :: (dI (w64 (v142 + 1))) :: q1 [])))), [(.cells [(dP eI a0.fFrom), (dP eI a0.fTo), (dP eI a0.fLeft), (dP eI a0.fRight)]), .dead, .dead, .dead, (appO 1 (List.map eI v214))]⟩ (by kernel_rfl) ?_
                  refine Ops.done (by kernel_rfl) ?_
                  refine blkQ.n ⟨q1 ((dP eI a1) :: (.ptr 0 0) :: q1 ((.v (.sl .nil (List.map eI []))) :: (appD 3 (List.map eI v214)) :: (dI (w64 (v142 + 1))) :: q40 (q35 []))), [(.cells [(dP eI a0.fFrom), (dP eI a0.fTo), (dP eI a0.fLeft), (dP eI a0.fRight)]), .dead, .dead, (appO 1 (List.map eI v214))]⟩ (by generalize v214 = z0; cases z0 <;> kernel_rfl) ?_
                  exact J26j154 v214 (w64 (v142 + 1))  h
              obtain ⟨v210, ev210, h⟩ := bnd_some h
              have G26g197 : ∀ v196 : Bool, (cnd v196 (bnd (sub a1 (w64 (v142 + (a0.fFrom.length : Int))) (w64 (w64 (v142 + (a0.fFrom.length : Int)) + (a0.fRight.length : Int)))) fun v215 => bnd (f39 m v215 a0.fRight) fun v216 => some v216) (some false)) = some v210 → Ops (X26 n) (opl (subc [1, 1, 0, 1, 0, 0, 1, 0, 1, 0, 0] C26)) 38 ⟨q1 ((dP eI a1) :: (.ptr 0 0) :: q1 ((.v (.sl .nil (List.map eI []))) :: (appD 2 (List.map eI v141)) :: (dI v142) :: (dI (w64 (v142 + (a0.fFrom.length : Int)))) :: q4 ((dI v142) :: (.ptr 0 0) :: (dP eI a0.fFrom) :: (dI ((a0.fFrom.length : Int))) :: (dI (w64 (v142 + (a0.fFrom.length : Int)))) :: (dI v142) :: (.ptr 0 2) :: (dP eI a0.fLeft) :: (dI ((a0.fLeft.length : Int))) :: (dB v165) :: (dB v165) :: d157 :: d158 :: d159 :: d160 :: d161 :: d162 :: d163 :: d164 :: (dB v181) :: (dB v181) :: d170 :: d171 :: d172 :: d173 :: d174 :: d175 :: d176 :: d177 :: d178 :: d179 :: d180 :: (dB v193) :: (dB v193) :: d186 :: d187 :: d188 :: d189 :: d190 :: d191 :: d192 :: (dB v196) :: (dB v196) :: q27 []))), [(.cells [(dP eI a0.fFrom), (dP eI a0.fTo), (dP eI a0.fLeft), (dP eI a0.fRight)]), .dead, (appO 1 (List.map eI v141))]⟩ ((seqQ (X26 n) (subc [1, 1, 0, 1, 0, 0, 1, 0, 1, 0, 1] C26) (seqQ (X26 n) (subc [1, 1, 0, 1, 0, 0, 1, 0, 1, 1] C26) (blkQ (X26 n) 1 [1, 2, 4, 5, 6] 3 (lpQ (X26 n) [1, 2, 4, 5, 6] 1 (subc [1, 1, 0, 1, 0, 0] C26) nx145 (blkQ (X26 n) 0 [4, 5] 1 (seqQ (X26 n) (subc [1, 1, 1] C26) (fnQ (X26 n).E.T (resOf Proofs.Try.prog 26) ((eL eI) o)))))))) .normal) := by
                intro v196 ev210
                cases v196
                · have ev210 := cnd_f ev210
                  refine Ops.seg 12 50 (by kernel_rfl) ⟨q1 ((dP eI a1) :: (.ptr 0 0) :: q1 ((.v (.sl .nil (List.map eI []))) :: (appD 2 (List.map eI v141)) :: (dI v142) :: (dI (w64 (v142 + (a0.fFrom.length : Int)))) :: q4 ((dI v142) :: (.ptr 0 0) :: (dP eI a0.fFrom) :: (dI ((a0.fFrom.length : Int))) :: (dI (w64 (v142 + (a0.fFrom.length : Int)))) :: (dI v142) :: (.ptr 0 2) :: (dP eI a0.fLeft) :: (dI ((a0.fLeft.length : Int))) :: (dB v165) :: (dB v165) :: d157 :: d158 :: d159 :: d160 :: d161 :: d162 :: d163 :: d164 :: (dB v181) :: (dB v181) :: d170 :: d171 :: d172 :: d173 :: d174 :: d175 :: d176 :: d177 :: d178 :: d179 :: d180 :: (dB v193) :: (dB v193) :: d186 :: d187 :: d188 :: d189 :: d190 :: d191 :: d192 :: (dB false) :: (dB false) :: u11 ((dB false) :: q15 [])))), [(.cells [(dP eI a0.fFrom), (dP eI a0.fTo), (dP eI a0.fLeft), (dP eI a0.fRight)]), .dead, (appO 1 (List.map eI v141))]⟩ (by kernel_rfl) ?_
                  exact J26j211 _ _ _ _ _ _ _ _ _ _ _ _ _ (some_sub (fun v210 => f26_r2 m a0 a1 v141 v142 v210 = some sx150) ev210 h)
                · have ev210 := cnd_t ev210
                  refine Ops.seg 5 43 (by kernel_rfl) ⟨q1 ((dP eI a1) :: (.ptr 0 0) :: q1 ((.v (.sl .nil (List.map eI []))) :: (appD 2 (List.map eI v141)) :: (dI v142) :: (dI (w64 (v142 + (a0.fFrom.length : Int)))) :: q4 ((dI v142) :: (.ptr 0 0) :: (dP eI a0.fFrom) :: (dI ((a0.fFrom.length : Int))) :: (dI (w64 (v142 + (a0.fFrom.length : Int)))) :: (dI v142) :: (.ptr 0 2) :: (dP eI a0.fLeft) :: (dI ((a0.fLeft.length : Int))) :: (dB v165) :: (dB v165) :: d157 :: d158 :: d159 :: d160 :: d161 :: d162 :: d163 :: d164 :: (dB v181) :: (dB v181) :: d170 :: d171 :: d172 :: d173 :: d174 :: d175 :: d176 :: d177 :: d178 :: d179 :: d180 :: (dB v193) :: (dB v193) :: d186 :: d187 :: d188 :: d189 :: d190 :: d191 :: d192 :: (dB true) :: (dB true) :: (dP eI a1) :: (dI (w64 (v142 + (a0.fFrom.length : Int)))) :: (dI (w64 (v142 + (a0.fFrom.length : Int)))) :: (.ptr 0 3) :: (dP eI a0.fRight) :: q22 []))), [(.cells [(dP eI a0.fFrom), (dP eI a0.fTo), (dP eI a0.fLeft), (dP eI a0.fRight)]), .dead, (appO 1 (List.map eI v141))]⟩ (by kernel_rfl) ?_
                  refine Ops.one 44 (by kernel_rfl) ((lenD (X26 n).E.T 23 (D.unt (dP eI a0.fRight))).map (·, [(.cells [(dP eI a0.fFrom), (dP eI a0.fTo), (dP eI a0.fLeft), (dP eI a0.fRight)]), .dead, (appO 1 (List.map eI v141))])) (dI ((a0.fRight.length : Int))) [(.cells [(dP eI a0.fFrom), (dP eI a0.fTo), (dP eI a0.fLeft), (dP eI a0.fRight)]), .dead, (appO 1 (List.map eI v141))] ⟨q1 ((dP eI a1) :: (.ptr 0 0) :: q1 ((.v (.sl .nil (List.map eI []))) :: (appD 2 (List.map eI v141)) :: (dI v142) :: (dI (w64 (v142 + (a0.fFrom.length : Int)))) :: q4 ((dI v142) :: (.ptr 0 0) :: (dP eI a0.fFrom) :: (dI ((a0.fFrom.length : Int))) :: (dI (w64 (v142 + (a0.fFrom.length : Int)))) :: (dI v142) :: (.ptr 0 2) :: (dP eI a0.fLeft) :: (dI ((a0.fLeft.length : Int))) :: (dB v165) :: (dB v165) :: d157 :: d158 :: d159 :: d160 :: d161 :: d162 :: d163 :: d164 :: (dB v181) :: (dB v181) :: d170 :: d171 :: d172 :: d173 :: d174 :: d175 :: d176 :: d177 :: d178 :: d179 :: d180 :: (dB v193) :: (dB v193) :: d186 :: d187 :: d188 :: d189 :: d190 :: d191 :: d192 :: (dB true) :: (dB true) :: (dP eI a1) :: (dI (w64 (v142 + (a0.fFrom.length : Int)))) :: (dI (w64 (v142 + (a0.fFrom.length : Int)))) :: (.ptr 0 3) :: (dP eI a0.fRight) :: (dI ((a0.fRight.length : Int))) :: q21 []))), [(.cells [(dP eI a0.fFrom), (dP eI a0.fTo), (dP eI a0.fLeft), (dP eI a0.fRight)]), .dead, (appO 1 (List.map eI v141))]⟩ (by kernel_rfl) (len_r _ 23 3 .plain eI a0.fRight (by kernel_rfl)) (by kernel_rfl) ?_
                  refine Ops.seg 1 45 (by kernel_rfl) ⟨q1 ((dP eI a1) :: (.ptr 0 0) :: q1 ((.v (.sl .nil (List.map eI []))) :: (appD 2 (List.map eI v141)) :: (dI v142) :: (dI (w64 (v142 + (a0.fFrom.length : Int)))) :: q4 ((dI v142) :: (.ptr 0 0) :: (dP eI a0.fFrom) :: (dI ((a0.fFrom.length : Int))) :: (dI (w64 (v142 + (a0.fFrom.length : Int)))) :: (dI v142) :: (.ptr 0 2) :: (dP eI a0.fLeft) :: (dI ((a0.fLeft.length : Int))) :: (dB v165) :: (dB v165) :: d157 :: d158 :: d159 :: d160 :: d161 :: d162 :: d163 :: d164 :: (dB v181) :: (dB v181) :: d170 :: d171 :: d172 :: d173 :: d174 :: d175 :: d176 :: d177 :: d178 :: d179 :: d180 :: (dB v193) :: (dB v193) :: d186 :: d187 :: d188 :: d189 :: d190 :: d191 :: d192 :: (dB true) :: (dB true) :: (dP eI a1) :: (dI (w64 (v142 + (a0.fFrom.length : Int)))) :: (dI (w64 (v142 + (a0.fFrom.length : Int)))) :: (.ptr 0 3) :: (dP eI a0.fRight) :: (dI ((a0.fRight.length : Int))) :: (dI (w64 (w64 (v142 + (a0.fFrom.length : Int)) + (a0.fRight.length : Int)))) :: q20 []))), [(.cells [(dP eI a0.fFrom), (dP eI a0.fTo), (dP eI a0.fLeft), (dP eI a0.fRight)]), .dead, (appO 1 (List.map eI v141))]⟩ (by kernel_rfl) ?_
                  obtain ⟨v215, ev215, ev210⟩ := bnd_some ev210
                  refine Ops.one 46 (by kernel_rfl) ((sliceD (X26 n).E.T [(.cells [(dP eI a0.fFrom), (dP eI a0.fTo), (dP eI a0.fLeft), (dP eI a0.fRight)]), .dead, (appO 1 (List.map eI v141))] 23 (D.unt (dP eI a1)) (some ((dI (w64 (v142 + (a0.fFrom.length : Int)))))) (some ((dI (w64 (w64 (v142 + (a0.fFrom.length : Int)) + (a0.fRight.length : Int)))))) none).map (·, [(.cells [(dP eI a0.fFrom), (dP eI a0.fTo), (dP eI a0.fLeft), (dP eI a0.fRight)]), .dead, (appO 1 (List.map eI v141))])) (dP eI v215) [(.cells [(dP eI a0.fFrom), (dP eI a0.fTo), (dP eI a0.fLeft), (dP eI a0.fRight)]), .dead, (appO 1 (List.map eI v141))] ⟨q1 ((dP eI a1) :: (.ptr 0 0) :: q1 ((.v (.sl .nil (List.map eI []))) :: (appD 2 (List.map eI v141)) :: (dI v142) :: (dI (w64 (v142 + (a0.fFrom.length : Int)))) :: q4 ((dI v142) :: (.ptr 0 0) :: (dP eI a0.fFrom) :: (dI ((a0.fFrom.length : Int))) :: (dI (w64 (v142 + (a0.fFrom.length : Int)))) :: (dI v142) :: (.ptr 0 2) :: (dP eI a0.fLeft) :: (dI ((a0.fLeft.length : Int))) :: (dB v165) :: (dB v165) :: d157 :: d158 :: d159 :: d160 :: d161 :: d162 :: d163 :: d164 :: (dB v181) :: (dB v181) :: d170 :: d171 :: d172 :: d173 :: d174 :: d175 :: d176 :: d177 :: d178 :: d179 :: d180 :: (dB v193) :: (dB v193) :: d186 :: d187 :: d188 :: d189 :: d190 :: d191 :: d192 :: (dB true) :: (dB true) :: (dP eI a1) :: (dI (w64 (v142 + (a0.fFrom.length : Int)))) :: (dI (w64 (v142 + (a0.fFrom.length : Int)))) :: (.ptr 0 3) :: (dP eI a0.fRight) :: (dI ((a0.fRight.length : Int))) :: (dI (w64 (w64 (v142 + (a0.fFrom.length : Int)) + (a0.fRight.length : Int)))) :: (dP eI v215) :: q19 []))), [(.cells [(dP eI a0.fFrom), (dP eI a0.fTo), (dP eI a0.fLeft), (dP eI a0.fRight)]), .dead, (appO 1 (List.map eI v141))]⟩ (by kernel_rfl) (sub_r _ 23 3 1 .plain eI a1 v215 (some (w64 (v142 + (a0.fFrom.length : Int)))) (some (w64 (w64 (v142 + (a0.fFrom.length : Int)) + (a0.fRight.length : Int)))) rfl ev215 (by kernel_rfl) (by kernel_rfl) (fun _ => rfl)) (by kernel_rfl) ?_
                  refine Ops.seg 2 48 (by kernel_rfl) ⟨q1 ((dP eI a1) :: (.ptr 0 0) :: q1 ((.v (.sl .nil (List.map eI []))) :: (appD 2 (List.map eI v141)) :: (dI v142) :: (dI (w64 (v142 + (a0.fFrom.length : Int)))) :: q4 ((dI v142) :: (.ptr 0 0) :: (dP eI a0.fFrom) :: (dI ((a0.fFrom.length : Int))) :: (dI (w64 (v142 + (a0.fFrom.length : Int)))) :: (dI v142) :: (.ptr 0 2) :: (dP eI a0.fLeft) :: (dI ((a0.fLeft.length : Int))) :: (dB v165) :: (dB v165) :: d157 :: d158 :: d159 :: d160 :: d161 :: d162 :: d163 :: d164 :: (dB v181) :: (dB v181) :: d170 :: d171 :: d172 :: d173 :: d174 :: d175 :: d176 :: d177 :: d178 :: d179 :: d180 :: (dB v193) :: (dB v193) :: d186 :: d187 :: d188 :: d189 :: d190 :: d191 :: d192 :: (dB true) :: (dB true) :: (dP eI a1) :: (dI (w64 (v142 + (a0.fFrom.length : Int)))) :: (dI (w64 (v142 + (a0.fFrom.length : Int)))) :: (.ptr 0 3) :: (dP eI a0.fRight) :: (dI ((a0.fRight.length : Int))) :: (dI (w64 (w64 (v142 + (a0.fFrom.length : Int)) + (a0.fRight.length : Int)))) :: (dP eI v215) :: (.ptr 0 3) :: (dP eI a0.fRight) :: q17 []))), [(.cells [(dP eI a0.fFrom), (dP eI a0.fTo), (dP eI a0.fLeft), (dP eI a0.fRight)]), .dead, (appO 1 (List.map eI v141))]⟩ (by kernel_rfl) ?_
                  obtain ⟨v216, ev216, ev210⟩ := bnd_some ev210
                  refine Ops.one 49 (by kernel_rfl) (callD (X26 n).E (run Proofs.Try.prog E n) 39 [(dP eI v215), (dP eI a0.fRight)] [(.cells [(dP eI a0.fFrom), (dP eI a0.fTo), (dP eI a0.fLeft), (dP eI a0.fRight)]), .dead, (appO 1 (List.map eI v141))]) (dB v216) [(.cells [(dP eI a0.fFrom), (dP eI a0.fTo), (dP eI a0.fLeft), (dP eI a0.fRight)]), .dead, (appO 1 (List.map eI v141))] ⟨q1 ((dP eI a1) :: (.ptr 0 0) :: q1 ((.v (.sl .nil (List.map eI []))) :: (appD 2 (List.map eI v141)) :: (dI v142) :: (dI (w64 (v142 + (a0.fFrom.length : Int)))) :: q4 ((dI v142) :: (.ptr 0 0) :: (dP eI a0.fFrom) :: (dI ((a0.fFrom.length : Int))) :: (dI (w64 (v142 + (a0.fFrom.length : Int)))) :: (dI v142) :: (.ptr 0 2) :: (dP eI a0.fLeft) :: (dI ((a0.fLeft.length : Int))) :: (dB v165) :: (dB v165) :: d157 :: d158 :: d159 :: d160 :: d161 :: d162 :: d163 :: d164 :: (dB v181) :: (dB v181) :: d170 :: d171 :: d172 :: d173 :: d174 :: d175 :: d176 :: d177 :: d178 :: d179 :: d180 :: (dB v193) :: (dB v193) :: d186 :: d187 :: d188 :: d189 :: d190 :: d191 :: d192 :: (dB true) :: (dB true) :: (dP eI a1) :: (dI (w64 (v142 + (a0.fFrom.length : Int)))) :: (dI (w64 (v142 + (a0.fFrom.length : Int)))) :: (.ptr 0 3) :: (dP eI a0.fRight) :: (dI ((a0.fRight.length : Int))) :: (dI (w64 (w64 (v142 + (a0.fFrom.length : Int)) + (a0.fRight.length : Int)))) :: (dP eI v215) :: (.ptr 0 3) :: (dP eI a0.fRight) :: (dB v216) :: q16 []))), [(.cells [(dP eI a0.fFrom), (dP eI a0.fTo), (dP eI a0.fLeft), (dP eI a0.fRight)]), .dead, (appO 1 (List.map eI v141))]⟩ (by kernel_rfl) (call_ok (by kernel_rfl) (Args.v (vP eI v215) ((eL eI) v215) (by kernel_rfl) (Args.v (vP eI a0.fRight) ((eL eI) a0.fRight) (by kernel_rfl) Args.nil)) (ok39 m v215 a0.fRight v216 ev216 n (by omega))) (by kernel_rfl) ?_
                  refine Ops.seg 1 50 (by kernel_rfl) ⟨q1 ((dP eI a1) :: (.ptr 0 0) :: q1 ((.v (.sl .nil (List.map eI []))) :: (appD 2 (List.map eI v141)) :: (dI v142) :: (dI (w64 (v142 + (a0.fFrom.length : Int)))) :: q4 ((dI v142) :: (.ptr 0 0) :: (dP eI a0.fFrom) :: (dI ((a0.fFrom.length : Int))) :: (dI (w64 (v142 + (a0.fFrom.length : Int)))) :: (dI v142) :: (.ptr 0 2) :: (dP eI a0.fLeft) :: (dI ((a0.fLeft.length : Int))) :: (dB v165) :: (dB v165) :: d157 :: d158 :: d159 :: d160 :: d161 :: d162 :: d163 :: d164 :: (dB v181) :: (dB v181) :: d170 :: d171 :: d172 :: d173 :: d174 :: d175 :: d176 :: d177 :: d178 :: d179 :: d180 :: (dB v193) :: (dB v193) :: d186 :: d187 :: d188 :: d189 :: d190 :: d191 :: d192 :: (dB true) :: (dB true) :: (dP eI a1) :: (dI (w64 (v142 + (a0.fFrom.length : Int)))) :: (dI (w64 (v142 + (a0.fFrom.length : Int)))) :: (.ptr 0 3) :: (dP eI a0.fRight) :: (dI ((a0.fRight.length : Int))) :: (dI (w64 (w64 (v142 + (a0.fFrom.length : Int)) + (a0.fRight.length : Int)))) :: (dP eI v215) :: (.ptr 0 3) :: (dP eI a0.fRight) :: (dB v216) :: (dB v216) :: q15 []))), [(.cells [(dP eI a0.fFrom), (dP eI a0.fTo), (dP eI a0.fLeft), (dP eI a0.fRight)]), .dead, (appO 1 (List.map eI v141))]⟩ (by kernel_rfl) ?_
                  exact J26j211 _ _ _ _ _ _ _ _ _ _ _ _ _ (some_sub (fun v210 => f26_r2 m a0 a1 v141 v142 v210 = some sx150) ev210 h)
              exact G26g197 v194 ev210
            obtain ⟨v194, ev194, h⟩ := bnd_some h
            have G26g185 : ∀ v184 : Bool, (cnd v184 (bnd (sub a1 v142 (w64 (v142 + (a0.fFrom.length : Int)))) fun v217 => bnd (f39 m v217 a0.fFrom) fun v218 => some v218) (some false)) = some v194 → Ops (X26 n) (opl (subc [1, 1, 0, 1, 0, 0, 1, 0, 1, 0, 0] C26)) 29 ⟨q1 ((dP eI a1) :: (.ptr 0 0) :: q1 ((.v (.sl .nil (List.map eI []))) :: (appD 2 (List.map eI v141)) :: (dI v142) :: (dI (w64 (v142 + (a0.fFrom.length : Int)))) :: q4 ((dI v142) :: (.ptr 0 0) :: (dP eI a0.fFrom) :: (dI ((a0.fFrom.length : Int))) :: (dI (w64 (v142 + (a0.fFrom.length : Int)))) :: (dI v142) :: (.ptr 0 2) :: (dP eI a0.fLeft) :: (dI ((a0.fLeft.length : Int))) :: (dB v165) :: (dB v165) :: d157 :: d158 :: d159 :: d160 :: d161 :: d162 :: d163 :: d164 :: (dB v181) :: (dB v181) :: d170 :: d171 :: d172 :: d173 :: d174 :: d175 :: d176 :: d177 :: d178 :: d179 :: d180 :: (dB v184) :: (dB v184) :: q36 []))), [(.cells [(dP eI a0.fFrom), (dP eI a0.fTo), (dP eI a0.fLeft), (dP eI a0.fRight)]), .dead, (appO 1 (List.map eI v141))]⟩ ((seqQ (X26 n) (subc [1, 1, 0, 1, 0, 0, 1, 0, 1, 0, 1] C26) (seqQ (X26 n) (subc [1, 1, 0, 1, 0, 0, 1, 0, 1, 1] C26) (blkQ (X26 n) 1 [1, 2, 4, 5, 6] 3 (lpQ (X26 n) [1, 2, 4, 5, 6] 1 (subc [1, 1, 0, 1, 0, 0] C26) nx145 (blkQ (X26 n) 0 [4, 5] 1 (seqQ (X26 n) (subc [1, 1, 1] C26) (fnQ (X26 n).E.T (resOf Proofs.Try.prog 26) ((eL eI) o)))))))) .normal) := by
              intro v184 ev194
              cases v184
              · have ev194 := cnd_f ev194
                refine Ops.seg 8 37 (by kernel_rfl) ⟨q1 ((dP eI a1) :: (.ptr 0 0) :: q1 ((.v (.sl .nil (List.map eI []))) :: (appD 2 (List.map eI v141)) :: (dI v142) :: (dI (w64 (v142 + (a0.fFrom.length : Int)))) :: q4 ((dI v142) :: (.ptr 0 0) :: (dP eI a0.fFrom) :: (dI ((a0.fFrom.length : Int))) :: (dI (w64 (v142 + (a0.fFrom.length : Int)))) :: (dI v142) :: (.ptr 0 2) :: (dP eI a0.fLeft) :: (dI ((a0.fLeft.length : Int))) :: (dB v165) :: (dB v165) :: d157 :: d158 :: d159 :: d160 :: d161 :: d162 :: d163 :: d164 :: (dB v181) :: (dB v181) :: d170 :: d171 :: d172 :: d173 :: d174 :: d175 :: d176 :: d177 :: d178 :: d179 :: d180 :: (dB false) :: (dB false) :: u7 ((dB false) :: q28 [])))), [(.cells [(dP eI a0.fFrom), (dP eI a0.fTo), (dP eI a0.fLeft), (dP eI a0.fRight)]), .dead, (appO 1 (List.map eI v141))]⟩ (by kernel_rfl) ?_
                exact J26j195 _ _ _ _ _ _ _ _ _ (some_sub (fun v194 => f26_r3 m a0 a1 v141 v142 v194 = some sx150) ev194 h)
              · have ev194 := cnd_t ev194
                refine Ops.seg 3 32 (by kernel_rfl) ⟨q1 ((dP eI a1) :: (.ptr 0 0) :: q1 ((.v (.sl .nil (List.map eI []))) :: (appD 2 (List.map eI v141)) :: (dI v142) :: (dI (w64 (v142 + (a0.fFrom.length : Int)))) :: q4 ((dI v142) :: (.ptr 0 0) :: (dP eI a0.fFrom) :: (dI ((a0.fFrom.length : Int))) :: (dI (w64 (v142 + (a0.fFrom.length : Int)))) :: (dI v142) :: (.ptr 0 2) :: (dP eI a0.fLeft) :: (dI ((a0.fLeft.length : Int))) :: (dB v165) :: (dB v165) :: d157 :: d158 :: d159 :: d160 :: d161 :: d162 :: d163 :: d164 :: (dB v181) :: (dB v181) :: d170 :: d171 :: d172 :: d173 :: d174 :: d175 :: d176 :: d177 :: d178 :: d179 :: d180 :: (dB true) :: (dB true) :: (dP eI a1) :: (dI v142) :: (dI (w64 (v142 + (a0.fFrom.length : Int)))) :: q33 []))), [(.cells [(dP eI a0.fFrom), (dP eI a0.fTo), (dP eI a0.fLeft), (dP eI a0.fRight)]), .dead, (appO 1 (List.map eI v141))]⟩ (by kernel_rfl) ?_
                obtain ⟨v217, ev217, ev194⟩ := bnd_some ev194
                refine Ops.one 33 (by kernel_rfl) ((sliceD (X26 n).E.T [(.cells [(dP eI a0.fFrom), (dP eI a0.fTo), (dP eI a0.fLeft), (dP eI a0.fRight)]), .dead, (appO 1 (List.map eI v141))] 23 (D.unt (dP eI a1)) (some ((dI v142))) (some ((dI (w64 (v142 + (a0.fFrom.length : Int)))))) none).map (·, [(.cells [(dP eI a0.fFrom), (dP eI a0.fTo), (dP eI a0.fLeft), (dP eI a0.fRight)]), .dead, (appO 1 (List.map eI v141))])) (dP eI v217) [(.cells [(dP eI a0.fFrom), (dP eI a0.fTo), (dP eI a0.fLeft), (dP eI a0.fRight)]), .dead, (appO 1 (List.map eI v141))] ⟨q1 ((dP eI a1) :: (.ptr 0 0) :: q1 ((.v (.sl .nil (List.map eI []))) :: (appD 2 (List.map eI v141)) :: (dI v142) :: (dI (w64 (v142 + (a0.fFrom.length : Int)))) :: q4 ((dI v142) :: (.ptr 0 0) :: (dP eI a0.fFrom) :: (dI ((a0.fFrom.length : Int))) :: (dI (w64 (v142 + (a0.fFrom.length : Int)))) :: (dI v142) :: (.ptr 0 2) :: (dP eI a0.fLeft) :: (dI ((a0.fLeft.length : Int))) :: (dB v165) :: (dB v165) :: d157 :: d158 :: d159 :: d160 :: d161 :: d162 :: d163 :: d164 :: (dB v181) :: (dB v181) :: d170 :: d171 :: d172 :: d173 :: d174 :: d175 :: d176 :: d177 :: d178 :: d179 :: d180 :: (dB true) :: (dB true) :: (dP eI a1) :: (dI v142) :: (dI (w64 (v142 + (a0.fFrom.length : Int)))) :: (dP eI v217) :: q32 []))), [(.cells [(dP eI a0.fFrom), (dP eI a0.fTo), (dP eI a0.fLeft), (dP eI a0.fRight)]), .dead, (appO 1 (List.map eI v141))]⟩ (by kernel_rfl) (sub_r _ 23 3 1 .plain eI a1 v217 (some v142) (some (w64 (v142 + (a0.fFrom.length : Int)))) rfl ev217 (by kernel_rfl) (by kernel_rfl) (fun _ => rfl)) (by kernel_rfl) ?_
                refine Ops.seg 2 35 (by kernel_rfl) ⟨q1 ((dP eI a1) :: (.ptr 0 0) :: q1 ((.v (.sl .nil (List.map eI []))) :: (appD 2 (List.map eI v141)) :: (dI v142) :: (dI (w64 (v142 + (a0.fFrom.length : Int)))) :: q4 ((dI v142) :: (.ptr 0 0) :: (dP eI a0.fFrom) :: (dI ((a0.fFrom.length : Int))) :: (dI (w64 (v142 + (a0.fFrom.length : Int)))) :: (dI v142) :: (.ptr 0 2) :: (dP eI a0.fLeft) :: (dI ((a0.fLeft.length : Int))) :: (dB v165) :: (dB v165) :: d157 :: d158 :: d159 :: d160 :: d161 :: d162 :: d163 :: d164 :: (dB v181) :: (dB v181) :: d170 :: d171 :: d172 :: d173 :: d174 :: d175 :: d176 :: d177 :: d178 :: d179 :: d180 :: (dB true) :: (dB true) :: (dP eI a1) :: (dI v142) :: (dI (w64 (v142 + (a0.fFrom.length : Int)))) :: (dP eI v217) :: (.ptr 0 0) :: (dP eI a0.fFrom) :: q30 []))), [(.cells [(dP eI a0.fFrom), (dP eI a0.fTo), (dP eI a0.fLeft), (dP eI a0.fRight)]), .dead, (appO 1 (List.map eI v141))]⟩ (by kernel_rfl) ?_
                obtain ⟨v218, ev218, ev194⟩ := bnd_some ev194
                refine Ops.one 36 (by kernel_rfl) (callD (X26 n).E (run Proofs.Try.prog E n) 39 [(dP eI v217), (dP eI a0.fFrom)] [(.cells [(dP eI a0.fFrom), (dP eI a0.fTo), (dP eI a0.fLeft), (dP eI a0.fRight)]), .dead, (appO 1 (List.map eI v141))]) (dB v218) [(.cells [(dP eI a0.fFrom), (dP eI a0.fTo), (dP eI a0.fLeft), (dP eI a0.fRight)]), .dead, (appO 1 (List.map eI v141))] ⟨q1 ((dP eI a1) :: (.ptr 0 0) :: q1 ((.v (.sl .nil (List.map eI []))) :: (appD 2 (List.map eI v141)) :: (dI v142) :: (dI (w64 (v142 + (a0.fFrom.length : Int)))) :: q4 ((dI v142) :: (.ptr 0 0) :: (dP eI a0.fFrom) :: (dI ((a0.fFrom.length : Int))) :: (dI (w64 (v142 + (a0.fFrom.length : Int)))) :: (dI v142) :: (.ptr 0 2) :: (dP eI a0.fLeft) :: (dI ((a0.fLeft.length : Int))) :: (dB v165) :: (dB v165) :: d157 :: d158 :: d159 :: d160 :: d161 :: d162 :: d163 :: d164 :: (dB v181) :: (dB v181) :: d170 :: d171 :: d172 :: d173 :: d174 :: d175 :: d176 :: d177 :: d178 :: d179 :: d180 :: (dB true) :: (dB true) :: (dP eI a1) :: (dI v142) :: (dI (w64 (v142 + (a0.fFrom.length : Int)))) :: (dP eI v217) :: (.ptr 0 0) :: (dP eI a0.fFrom) :: (dB v218) :: q29 []))), [(.cells [(dP eI a0.fFrom), (dP eI a0.fTo), (dP eI a0.fLeft), (dP eI a0.fRight)]), .dead, (appO 1 (List.map eI v141))]⟩ (by kernel_rfl) (call_ok (by kernel_rfl) (Args.v (vP eI v217) ((eL eI) v217) (by kernel_rfl) (Args.v (vP eI a0.fFrom) ((eL eI) a0.fFrom) (by kernel_rfl) Args.nil)) (ok39 m v217 a0.fFrom v218 ev218 n (by omega))) (by kernel_rfl) ?_
                refine Ops.seg 1 37 (by kernel_rfl) ⟨q1 ((dP eI a1) :: (.ptr 0 0) :: q1 ((.v (.sl .nil (List.map eI []))) :: (appD 2 (List.map eI v141)) :: (dI v142) :: (dI (w64 (v142 + (a0.fFrom.length : Int)))) :: q4 ((dI v142) :: (.ptr 0 0) :: (dP eI a0.fFrom) :: (dI ((a0.fFrom.length : Int))) :: (dI (w64 (v142 + (a0.fFrom.length : Int)))) :: (dI v142) :: (.ptr 0 2) :: (dP eI a0.fLeft) :: (dI ((a0.fLeft.length : Int))) :: (dB v165) :: (dB v165) :: d157 :: d158 :: d159 :: d160 :: d161 :: d162 :: d163 :: d164 :: (dB v181) :: (dB v181) :: d170 :: d171 :: d172 :: d173 :: d174 :: d175 :: d176 :: d177 :: d178 :: d179 :: d180 :: (dB true) :: (dB true) :: (dP eI a1) :: (dI v142) :: (dI (w64 (v142 + (a0.fFrom.length : Int)))) :: (dP eI v217) :: (.ptr 0 0) :: (dP eI a0.fFrom) :: (dB v218) :: (dB v218) :: q28 []))), [(.cells [(dP eI a0.fFrom), (dP eI a0.fTo), (dP eI a0.fLeft), (dP eI a0.fRight)]), .dead, (appO 1 (List.map eI v141))]⟩ (by kernel_rfl) ?_
                exact J26j195 _ _ _ _ _ _ _ _ _ (some_sub (fun v194 => f26_r3 m a0 a1 v141 v142 v194 = some sx150) ev194 h)
            exact G26g185 v182 ev194
          obtain ⟨v182, ev182, h⟩ := bnd_some h
          have G26g169 : ∀ v168 : Bool, (cnd v168 (bnd (sub a1 (w64 (v142 - (a0.fLeft.length : Int))) v142) fun v219 => bnd (f39 m v219 a0.fLeft) fun v220 => some v220) (some false)) = some v182 → Ops (X26 n) (opl (subc [1, 1, 0, 1, 0, 0, 1, 0, 1, 0, 0] C26)) 16 ⟨q1 ((dP eI a1) :: (.ptr 0 0) :: q1 ((.v (.sl .nil (List.map eI []))) :: (appD 2 (List.map eI v141)) :: (dI v142) :: (dI (w64 (v142 + (a0.fFrom.length : Int)))) :: q4 ((dI v142) :: (.ptr 0 0) :: (dP eI a0.fFrom) :: (dI ((a0.fFrom.length : Int))) :: (dI (w64 (v142 + (a0.fFrom.length : Int)))) :: (dI v142) :: (.ptr 0 2) :: (dP eI a0.fLeft) :: (dI ((a0.fLeft.length : Int))) :: (dB v165) :: (dB v165) :: d157 :: d158 :: d159 :: d160 :: d161 :: d162 :: d163 :: d164 :: (dB v168) :: (dB v168) :: q40 (q9 [])))), [(.cells [(dP eI a0.fFrom), (dP eI a0.fTo), (dP eI a0.fLeft), (dP eI a0.fRight)]), .dead, (appO 1 (List.map eI v141))]⟩ ((seqQ (X26 n) (subc [1, 1, 0, 1, 0, 0, 1, 0, 1, 0, 1] C26) (seqQ (X26 n) (subc [1, 1, 0, 1, 0, 0, 1, 0, 1, 1] C26) (blkQ (X26 n) 1 [1, 2, 4, 5, 6] 3 (lpQ (X26 n) [1, 2, 4, 5, 6] 1 (subc [1, 1, 0, 1, 0, 0] C26) nx145 (blkQ (X26 n) 0 [4, 5] 1 (seqQ (X26 n) (subc [1, 1, 1] C26) (fnQ (X26 n).E.T (resOf Proofs.Try.prog 26) ((eL eI) o)))))))) .normal) := by
            intro v168 ev182
            cases v168
            · have ev182 := cnd_f ev182
              refine Ops.seg 12 28 (by kernel_rfl) ⟨q1 ((dP eI a1) :: (.ptr 0 0) :: q1 ((.v (.sl .nil (List.map eI []))) :: (appD 2 (List.map eI v141)) :: (dI v142) :: (dI (w64 (v142 + (a0.fFrom.length : Int)))) :: q4 ((dI v142) :: (.ptr 0 0) :: (dP eI a0.fFrom) :: (dI ((a0.fFrom.length : Int))) :: (dI (w64 (v142 + (a0.fFrom.length : Int)))) :: (dI v142) :: (.ptr 0 2) :: (dP eI a0.fLeft) :: (dI ((a0.fLeft.length : Int))) :: (dB v165) :: (dB v165) :: d157 :: d158 :: d159 :: d160 :: d161 :: d162 :: d163 :: d164 :: (dB false) :: (dB false) :: u11 ((dB false) :: q37 [])))), [(.cells [(dP eI a0.fFrom), (dP eI a0.fTo), (dP eI a0.fLeft), (dP eI a0.fRight)]), .dead, (appO 1 (List.map eI v141))]⟩ (by kernel_rfl) ?_
              exact J26j183 _ _ _ _ _ _ _ _ _ _ _ _ _ (some_sub (fun v182 => f26_r4 m a0 a1 v141 v142 v182 = some sx150) ev182 h)
            · have ev182 := cnd_t ev182
              refine Ops.seg 4 20 (by kernel_rfl) ⟨q1 ((dP eI a1) :: (.ptr 0 0) :: q1 ((.v (.sl .nil (List.map eI []))) :: (appD 2 (List.map eI v141)) :: (dI v142) :: (dI (w64 (v142 + (a0.fFrom.length : Int)))) :: q4 ((dI v142) :: (.ptr 0 0) :: (dP eI a0.fFrom) :: (dI ((a0.fFrom.length : Int))) :: (dI (w64 (v142 + (a0.fFrom.length : Int)))) :: (dI v142) :: (.ptr 0 2) :: (dP eI a0.fLeft) :: (dI ((a0.fLeft.length : Int))) :: (dB v165) :: (dB v165) :: d157 :: d158 :: d159 :: d160 :: d161 :: d162 :: d163 :: d164 :: (dB true) :: (dB true) :: (dP eI a1) :: (dI v142) :: (.ptr 0 2) :: (dP eI a0.fLeft) :: q40 (q5 [])))), [(.cells [(dP eI a0.fFrom), (dP eI a0.fTo), (dP eI a0.fLeft), (dP eI a0.fRight)]), .dead, (appO 1 (List.map eI v141))]⟩ (by kernel_rfl) ?_
              refine Ops.one 21 (by kernel_rfl) ((lenD (X26 n).E.T 23 (D.unt (dP eI a0.fLeft))).map (·, [(.cells [(dP eI a0.fFrom), (dP eI a0.fTo), (dP eI a0.fLeft), (dP eI a0.fRight)]), .dead, (appO 1 (List.map eI v141))])) (dI ((a0.fLeft.length : Int))) [(.cells [(dP eI a0.fFrom), (dP eI a0.fTo), (dP eI a0.fLeft), (dP eI a0.fRight)]), .dead, (appO 1 (List.map eI v141))] ⟨q1 ((dP eI a1) :: (.ptr 0 0) :: q1 ((.v (.sl .nil (List.map eI []))) :: (appD 2 (List.map eI v141)) :: (dI v142) :: (dI (w64 (v142 + (a0.fFrom.length : Int)))) :: q4 ((dI v142) :: (.ptr 0 0) :: (dP eI a0.fFrom) :: (dI ((a0.fFrom.length : Int))) :: (dI (w64 (v142 + (a0.fFrom.length : Int)))) :: (dI v142) :: (.ptr 0 2) :: (dP eI a0.fLeft) :: (dI ((a0.fLeft.length : Int))) :: (dB v165) :: (dB v165) :: d157 :: d158 :: d159 :: d160 :: d161 :: d162 :: d163 :: d164 :: (dB true) :: (dB true) :: (dP eI a1) :: (dI v142) :: (.ptr 0 2) :: (dP eI a0.fLeft) :: (dI ((a0.fLeft.length : Int))) :: q40 (q4 [])))), [(.cells [(dP eI a0.fFrom), (dP eI a0.fTo), (dP eI a0.fLeft), (dP eI a0.fRight)]), .dead, (appO 1 (List.map eI v141))]⟩ (by kernel_rfl) (len_r _ 23 3 .plain eI a0.fLeft (by kernel_rfl)) (by kernel_rfl) ?_
              refine Ops.seg 2 23 (by kernel_rfl) ⟨q1 ((dP eI a1) :: (.ptr 0 0) :: q1 ((.v (.sl .nil (List.map eI []))) :: (appD 2 (List.map eI v141)) :: (dI v142) :: (dI (w64 (v142 + (a0.fFrom.length : Int)))) :: q4 ((dI v142) :: (.ptr 0 0) :: (dP eI a0.fFrom) :: (dI ((a0.fFrom.length : Int))) :: (dI (w64 (v142 + (a0.fFrom.length : Int)))) :: (dI v142) :: (.ptr 0 2) :: (dP eI a0.fLeft) :: (dI ((a0.fLeft.length : Int))) :: (dB v165) :: (dB v165) :: d157 :: d158 :: d159 :: d160 :: d161 :: d162 :: d163 :: d164 :: (dB true) :: (dB true) :: (dP eI a1) :: (dI v142) :: (.ptr 0 2) :: (dP eI a0.fLeft) :: (dI ((a0.fLeft.length : Int))) :: (dI (w64 (v142 - (a0.fLeft.length : Int)))) :: (dI v142) :: q40 (q2 [])))), [(.cells [(dP eI a0.fFrom), (dP eI a0.fTo), (dP eI a0.fLeft), (dP eI a0.fRight)]), .dead, (appO 1 (List.map eI v141))]⟩ (by kernel_rfl) ?_
              obtain ⟨v219, ev219, ev182⟩ := bnd_some ev182
              refine Ops.one 24 (by kernel_rfl) ((sliceD (X26 n).E.T [(.cells [(dP eI a0.fFrom), (dP eI a0.fTo), (dP eI a0.fLeft), (dP eI a0.fRight)]), .dead, (appO 1 (List.map eI v141))] 23 (D.unt (dP eI a1)) (some ((dI (w64 (v142 - (a0.fLeft.length : Int)))))) (some ((dI v142))) none).map (·, [(.cells [(dP eI a0.fFrom), (dP eI a0.fTo), (dP eI a0.fLeft), (dP eI a0.fRight)]), .dead, (appO 1 (List.map eI v141))])) (dP eI v219) [(.cells [(dP eI a0.fFrom), (dP eI a0.fTo), (dP eI a0.fLeft), (dP eI a0.fRight)]), .dead, (appO 1 (List.map eI v141))] ⟨q1 ((dP eI a1) :: (.ptr 0 0) :: q1 ((.v (.sl .nil (List.map eI []))) :: (appD 2 (List.map eI v141)) :: (dI v142) :: (dI (w64 (v142 + (a0.fFrom.length : Int)))) :: q4 ((dI v142) :: (.ptr 0 0) :: (dP eI a0.fFrom) :: (dI ((a0.fFrom.length : Int))) :: (dI (w64 (v142 + (a0.fFrom.length : Int)))) :: (dI v142) :: (.ptr 0 2) :: (dP eI a0.fLeft) :: (dI ((a0.fLeft.length : Int))) :: (dB v165) :: (dB v165) :: d157 :: d158 :: d159 :: d160 :: d161 :: d162 :: d163 :: d164 :: (dB true) :: (dB true) :: (dP eI a1) :: (dI v142) :: (.ptr 0 2) :: (dP eI a0.fLeft) :: (dI ((a0.fLeft.length : Int))) :: (dI (w64 (v142 - (a0.fLeft.length : Int)))) :: (dI v142) :: (dP eI v219) :: q40 (q1 [])))), [(.cells [(dP eI a0.fFrom), (dP eI a0.fTo), (dP eI a0.fLeft), (dP eI a0.fRight)]), .dead, (appO 1 (List.map eI v141))]⟩ (by kernel_rfl) (sub_r _ 23 3 1 .plain eI a1 v219 (some (w64 (v142 - (a0.fLeft.length : Int)))) (some v142) rfl ev219 (by kernel_rfl) (by kernel_rfl) (fun _ => rfl)) (by kernel_rfl) ?_
              refine Ops.seg 2 26 (by kernel_rfl) ⟨q1 ((dP eI a1) :: (.ptr 0 0) :: q1 ((.v (.sl .nil (List.map eI []))) :: (appD 2 (List.map eI v141)) :: (dI v142) :: (dI (w64 (v142 + (a0.fFrom.length : Int)))) :: q4 ((dI v142) :: (.ptr 0 0) :: (dP eI a0.fFrom) :: (dI ((a0.fFrom.length : Int))) :: (dI (w64 (v142 + (a0.fFrom.length : Int)))) :: (dI v142) :: (.ptr 0 2) :: (dP eI a0.fLeft) :: (dI ((a0.fLeft.length : Int))) :: (dB v165) :: (dB v165) :: d157 :: d158 :: d159 :: d160 :: d161 :: d162 :: d163 :: d164 :: (dB true) :: (dB true) :: (dP eI a1) :: (dI v142) :: (.ptr 0 2) :: (dP eI a0.fLeft) :: (dI ((a0.fLeft.length : Int))) :: (dI (w64 (v142 - (a0.fLeft.length : Int)))) :: (dI v142) :: (dP eI v219) :: (.ptr 0 2) :: (dP eI a0.fLeft) :: q39 []))), [(.cells [(dP eI a0.fFrom), (dP eI a0.fTo), (dP eI a0.fLeft), (dP eI a0.fRight)]), .dead, (appO 1 (List.map eI v141))]⟩ (by kernel_rfl) ?_
              obtain ⟨v220, ev220, ev182⟩ := bnd_some ev182
              refine Ops.one 27 (by kernel_rfl) (callD (X26 n).E (run Proofs.Try.prog E n) 39 [(dP eI v219), (dP eI a0.fLeft)] [(.cells [(dP eI a0.fFrom), (dP eI a0.fTo), (dP eI a0.fLeft), (dP eI a0.fRight)]), .dead, (appO 1 (List.map eI v141))]) (dB v220) [(.cells [(dP eI a0.fFrom), (dP eI a0.fTo), (dP eI a0.fLeft), (dP eI a0.fRight)]), .dead, (appO 1 (List.map eI v141))] ⟨q1 ((dP eI a1) :: (.ptr 0 0) :: q1 ((.v (.sl .nil (List.map eI []))) :: (appD 2 (List.map eI v141)) :: (dI v142) :: (dI (w64 (v142 + (a0.fFrom.length : Int)))) :: q4 ((dI v142) :: (.ptr 0 0) :: (dP eI a0.fFrom) :: (dI ((a0.fFrom.length : Int))) :: (dI (w64 (v142 + (a0.fFrom.length : Int)))) :: (dI v142) :: (.ptr 0 2) :: (dP eI a0.fLeft) :: (dI ((a0.fLeft.length : Int))) :: (dB v165) :: (dB v165) :: d157 :: d158 :: d159 :: d160 :: d161 :: d162 :: d163 :: d164 :: (dB true) :: (dB true) :: (dP eI a1) :: (dI v142) :: (.ptr 0 2) :: (dP eI a0.fLeft) :: (dI ((a0.fLeft.length : Int))) :: (dI (w64 (v142 - (a0.fLeft.length : Int)))) :: (dI v142) :: (dP eI v219) :: (.ptr 0 2) :: (dP eI a0.fLeft) :: (dB v220) :: q38 []))), [(.cells [(dP eI a0.fFrom), (dP eI a0.fTo), (dP eI a0.fLeft), (dP eI a0.fRight)]), .dead, (appO 1 (List.map eI v141))]⟩ (by kernel_rfl) (call_ok (by kernel_rfl) (Args.v (vP eI v219) ((eL eI) v219) (by kernel_rfl) (Args.v (vP eI a0.fLeft) ((eL eI) a0.fLeft) (by kernel_rfl) Args.nil)) (ok39 m v219 a0.fLeft v220 ev220 n (by omega))) (by kernel_rfl) ?_
              refine Ops.seg 1 28 (by kernel_rfl) ⟨q1 ((dP eI a1) :: (.ptr 0 0) :: q1 ((.v (.sl .nil (List.map eI []))) :: (appD 2 (List.map eI v141)) :: (dI v142) :: (dI (w64 (v142 + (a0.fFrom.length : Int)))) :: q4 ((dI v142) :: (.ptr 0 0) :: (dP eI a0.fFrom) :: (dI ((a0.fFrom.length : Int))) :: (dI (w64 (v142 + (a0.fFrom.length : Int)))) :: (dI v142) :: (.ptr 0 2) :: (dP eI a0.fLeft) :: (dI ((a0.fLeft.length : Int))) :: (dB v165) :: (dB v165) :: d157 :: d158 :: d159 :: d160 :: d161 :: d162 :: d163 :: d164 :: (dB true) :: (dB true) :: (dP eI a1) :: (dI v142) :: (.ptr 0 2) :: (dP eI a0.fLeft) :: (dI ((a0.fLeft.length : Int))) :: (dI (w64 (v142 - (a0.fLeft.length : Int)))) :: (dI v142) :: (dP eI v219) :: (.ptr 0 2) :: (dP eI a0.fLeft) :: (dB v220) :: (dB v220) :: q37 []))), [(.cells [(dP eI a0.fFrom), (dP eI a0.fTo), (dP eI a0.fLeft), (dP eI a0.fRight)]), .dead, (appO 1 (List.map eI v141))]⟩ (by kernel_rfl) ?_
              exact J26j183 _ _ _ _ _ _ _ _ _ _ _ _ _ (some_sub (fun v182 => f26_r4 m a0 a1 v141 v142 v182 = some sx150) ev182 h)
          exact G26g169 v166 ev182
        have G26g156 : ∀ v155 : Bool, f26_r5 m a0 a1 v141 v142 ((v155 && (decide (w64 (w64 (v142 + (a0.fFrom.length : Int)) + (a0.fRight.length : Int)) ≤ (a1.length : Int))))) = some sx150 → Ops (X26 n) (opl (subc [1, 1, 0, 1, 0, 0, 1, 0, 1, 0, 0] C26)) 6 ⟨q1 ((dP eI a1) :: (.ptr 0 0) :: q1 ((.v (.sl .nil (List.map eI []))) :: (appD 2 (List.map eI v141)) :: (dI v142) :: (dI (w64 (v142 + (a0.fFrom.length : Int)))) :: q4 ((dI v142) :: (.ptr 0 0) :: (dP eI a0.fFrom) :: (dI ((a0.fFrom.length : Int))) :: (dI (w64 (v142 + (a0.fFrom.length : Int)))) :: (dI v142) :: (.ptr 0 2) :: (dP eI a0.fLeft) :: (dI ((a0.fLeft.length : Int))) :: (dB v155) :: (dB v155) :: q40 (q19 [])))), [(.cells [(dP eI a0.fFrom), (dP eI a0.fTo), (dP eI a0.fLeft), (dP eI a0.fRight)]), .dead, (appO 1 (List.map eI v141))]⟩ ((seqQ (X26 n) (subc [1, 1, 0, 1, 0, 0, 1, 0, 1, 0, 1] C26) (seqQ (X26 n) (subc [1, 1, 0, 1, 0, 0, 1, 0, 1, 1] C26) (blkQ (X26 n) 1 [1, 2, 4, 5, 6] 3 (lpQ (X26 n) [1, 2, 4, 5, 6] 1 (subc [1, 1, 0, 1, 0, 0] C26) nx145 (blkQ (X26 n) 0 [4, 5] 1 (seqQ (X26 n) (subc [1, 1, 1] C26) (fnQ (X26 n).E.T (resOf Proofs.Try.prog 26) ((eL eI) o)))))))) .normal) := by
          intro v155 h
          cases v155
          · refine Ops.seg 9 15 (by kernel_rfl) ⟨q1 ((dP eI a1) :: (.ptr 0 0) :: q1 ((.v (.sl .nil (List.map eI []))) :: (appD 2 (List.map eI v141)) :: (dI v142) :: (dI (w64 (v142 + (a0.fFrom.length : Int)))) :: q4 ((dI v142) :: (.ptr 0 0) :: (dP eI a0.fFrom) :: (dI ((a0.fFrom.length : Int))) :: (dI (w64 (v142 + (a0.fFrom.length : Int)))) :: (dI v142) :: (.ptr 0 2) :: (dP eI a0.fLeft) :: (dI ((a0.fLeft.length : Int))) :: (dB false) :: (dB false) :: u8 ((dB false) :: q40 (q10 []))))), [(.cells [(dP eI a0.fFrom), (dP eI a0.fTo), (dP eI a0.fLeft), (dP eI a0.fRight)]), .dead, (appO 1 (List.map eI v141))]⟩ (by kernel_rfl) ?_
            exact J26j167 _ _ _ _ _ _ _ _ _ _ h
          · refine Ops.seg 3 9 (by kernel_rfl) ⟨q1 ((dP eI a1) :: (.ptr 0 0) :: q1 ((.v (.sl .nil (List.map eI []))) :: (appD 2 (List.map eI v141)) :: (dI v142) :: (dI (w64 (v142 + (a0.fFrom.length : Int)))) :: q4 ((dI v142) :: (.ptr 0 0) :: (dP eI a0.fFrom) :: (dI ((a0.fFrom.length : Int))) :: (dI (w64 (v142 + (a0.fFrom.length : Int)))) :: (dI v142) :: (.ptr 0 2) :: (dP eI a0.fLeft) :: (dI ((a0.fLeft.length : Int))) :: (dB true) :: (dB true) :: (dI (w64 (v142 + (a0.fFrom.length : Int)))) :: (.ptr 0 3) :: (dP eI a0.fRight) :: q40 (q16 [])))), [(.cells [(dP eI a0.fFrom), (dP eI a0.fTo), (dP eI a0.fLeft), (dP eI a0.fRight)]), .dead, (appO 1 (List.map eI v141))]⟩ (by kernel_rfl) ?_
            refine Ops.one 10 (by kernel_rfl) ((lenD (X26 n).E.T 23 (D.unt (dP eI a0.fRight))).map (·, [(.cells [(dP eI a0.fFrom), (dP eI a0.fTo), (dP eI a0.fLeft), (dP eI a0.fRight)]), .dead, (appO 1 (List.map eI v141))])) (dI ((a0.fRight.length : Int))) [(.cells [(dP eI a0.fFrom), (dP eI a0.fTo), (dP eI a0.fLeft), (dP eI a0.fRight)]), .dead, (appO 1 (List.map eI v141))] ⟨q1 ((dP eI a1) :: (.ptr 0 0) :: q1 ((.v (.sl .nil (List.map eI []))) :: (appD 2 (List.map eI v141)) :: (dI v142) :: (dI (w64 (v142 + (a0.fFrom.length : Int)))) :: q4 ((dI v142) :: (.ptr 0 0) :: (dP eI a0.fFrom) :: (dI ((a0.fFrom.length : Int))) :: (dI (w64 (v142 + (a0.fFrom.length : Int)))) :: (dI v142) :: (.ptr 0 2) :: (dP eI a0.fLeft) :: (dI ((a0.fLeft.length : Int))) :: (dB true) :: (dB true) :: (dI (w64 (v142 + (a0.fFrom.length : Int)))) :: (.ptr 0 3) :: (dP eI a0.fRight) :: (dI ((a0.fRight.length : Int))) :: q40 (q15 [])))), [(.cells [(dP eI a0.fFrom), (dP eI a0.fTo), (dP eI a0.fLeft), (dP eI a0.fRight)]), .dead, (appO 1 (List.map eI v141))]⟩ (by kernel_rfl) (len_r _ 23 3 .plain eI a0.fRight (by kernel_rfl)) (by kernel_rfl) ?_
            refine Ops.seg 2 12 (by kernel_rfl) ⟨q1 ((dP eI a1) :: (.ptr 0 0) :: q1 ((.v (.sl .nil (List.map eI []))) :: (appD 2 (List.map eI v141)) :: (dI v142) :: (dI (w64 (v142 + (a0.fFrom.length : Int)))) :: q4 ((dI v142) :: (.ptr 0 0) :: (dP eI a0.fFrom) :: (dI ((a0.fFrom.length : Int))) :: (dI (w64 (v142 + (a0.fFrom.length : Int)))) :: (dI v142) :: (.ptr 0 2) :: (dP eI a0.fLeft) :: (dI ((a0.fLeft.length : Int))) :: (dB true) :: (dB true) :: (dI (w64 (v142 + (a0.fFrom.length : Int)))) :: (.ptr 0 3) :: (dP eI a0.fRight) :: (dI ((a0.fRight.length : Int))) :: (dI (w64 (w64 (v142 + (a0.fFrom.length : Int)) + (a0.fRight.length : Int)))) :: (dP eI a1) :: q40 (q13 [])))), [(.cells [(dP eI a0.fFrom), (dP eI a0.fTo), (dP eI a0.fLeft), (dP eI a0.fRight)]), .dead, (appO 1 (List.map eI v141))]⟩ (by kernel_rfl) ?_
            refine Ops.one 13 (by kernel_rfl) ((lenD (X26 n).E.T 23 (D.unt (dP eI a1))).map (·, [(.cells [(dP eI a0.fFrom), (dP eI a0.fTo), (dP eI a0.fLeft), (dP eI a0.fRight)]), .dead, (appO 1 (List.map eI v141))])) (dI ((a1.length : Int))) [(.cells [(dP eI a0.fFrom), (dP eI a0.fTo), (dP eI a0.fLeft), (dP eI a0.fRight)]), .dead, (appO 1 (List.map eI v141))] ⟨q1 ((dP eI a1) :: (.ptr 0 0) :: q1 ((.v (.sl .nil (List.map eI []))) :: (appD 2 (List.map eI v141)) :: (dI v142) :: (dI (w64 (v142 + (a0.fFrom.length : Int)))) :: q4 ((dI v142) :: (.ptr 0 0) :: (dP eI a0.fFrom) :: (dI ((a0.fFrom.length : Int))) :: (dI (w64 (v142 + (a0.fFrom.length : Int)))) :: (dI v142) :: (.ptr 0 2) :: (dP eI a0.fLeft) :: (dI ((a0.fLeft.length : Int))) :: (dB true) :: (dB true) :: (dI (w64 (v142 + (a0.fFrom.length : Int)))) :: (.ptr 0 3) :: (dP eI a0.fRight) :: (dI ((a0.fRight.length : Int))) :: (dI (w64 (w64 (v142 + (a0.fFrom.length : Int)) + (a0.fRight.length : Int)))) :: (dP eI a1) :: (dI ((a1.length : Int))) :: q40 (q12 [])))), [(.cells [(dP eI a0.fFrom), (dP eI a0.fTo), (dP eI a0.fLeft), (dP eI a0.fRight)]), .dead, (appO 1 (List.map eI v141))]⟩ (by kernel_rfl) (len_r _ 23 3 .plain eI a1 (by kernel_rfl)) (by kernel_rfl) ?_
            refine Ops.seg 2 15 (by kernel_rfl) ⟨q1 ((dP eI a1) :: (.ptr 0 0) :: q1 ((.v (.sl .nil (List.map eI []))) :: (appD 2 (List.map eI v141)) :: (dI v142) :: (dI (w64 (v142 + (a0.fFrom.length : Int)))) :: q4 ((dI v142) :: (.ptr 0 0) :: (dP eI a0.fFrom) :: (dI ((a0.fFrom.length : Int))) :: (dI (w64 (v142 + (a0.fFrom.length : Int)))) :: (dI v142) :: (.ptr 0 2) :: (dP eI a0.fLeft) :: (dI ((a0.fLeft.length : Int))) :: (dB true) :: (dB true) :: (dI (w64 (v142 + (a0.fFrom.length : Int)))) :: (.ptr 0 3) :: (dP eI a0.fRight) :: (dI ((a0.fRight.length : Int))) :: (dI (w64 (w64 (v142 + (a0.fFrom.length : Int)) + (a0.fRight.length : Int)))) :: (dP eI a1) :: (dI ((a1.length : Int))) :: (dB (decide (w64 (w64 (v142 + (a0.fFrom.length : Int)) + (a0.fRight.length : Int)) ≤ (a1.length : Int)))) :: (dB (decide (w64 (w64 (v142 + (a0.fFrom.length : Int)) + (a0.fRight.length : Int)) ≤ (a1.length : Int)))) :: q40 (q10 [])))), [(.cells [(dP eI a0.fFrom), (dP eI a0.fTo), (dP eI a0.fLeft), (dP eI a0.fRight)]), .dead, (appO 1 (List.map eI v141))]⟩ (by kernel_rfl) ?_
            exact J26j167 _ _ _ _ _ _ _ _ _ _ h
        exact G26g156 (decide (v142 ≥ (a0.fLeft.length : Int))) h
      · refine Wp.cond (decide (v142 < (a1.length : Int))) [1, 2, 4, 5, 6] (by kernel_rfl) 2 (by kernel_rfl) (subc [1, 1, 0, 1, 0, 0, 0, 1, 0] C26) (subc [1, 1, 0, 1, 0, 0, 0, 1, 1] C26) (by kernel_rfl) (by kernel_rfl) (fun e => nomatch (hb.symm.trans e)) (fun _ => ?_)
        refine Wp.exit (id := 0) (by kernel_rfl) ?_
        refine sqQ.x ?_
        refine seqQ.x ?_
        cases h
        refine lpQ.x ?_
        refine blkQ.x ⟨q4 ((.v (.sl .nil (List.map eI []))) :: (appD 1 (List.map eI v141)) :: q40 (q36 [])), [(.cells [(dP eI a0.fFrom), (dP eI a0.fTo), (dP eI a0.fLeft), (dP eI a0.fRight)]), (appO 1 (List.map eI v141))]⟩ (by generalize v141 = z0; cases z0 <;> kernel_rfl) ?_
        exact hxx148 (v141, v142)  hsx151
  refine Wp.loop [1, 2, 4, 5, 6] 1 (by kernel_rfl) (subc [1, 1, 0, 1, 0, 0] C26) (by kernel_rfl) (by kernel_rfl) ⟨q1 ((dP eI a1) :: (.ptr 0 0) :: q1 ((.v (.sl .nil (List.map eI []))) :: (appD 1 (List.map eI [])) :: (dI 0) :: q40 (q35 []))), [(.cells [(dP eI a0.fFrom), (dP eI a0.fTo), (dP eI a0.fLeft), (dP eI a0.fRight)]), (appO 1 (List.map eI []))]⟩ (by kernel_rfl) ?_
  rcases brk_some h with ⟨r223, er223, h⟩ | ⟨y222, ey222, h⟩
  · refine hLx221 _ [] 0  _ er223 n (by omega) (fun r er σ hσ => ?_) (fun y  ey => by cases ey)
    cases er
    refine seqQ.r ?_
    exact fnQ.r' (X26 n) (fun z => ((eL eI) z)) h hσ
  · refine hLx221 _ [] 0  _ ey222 n (by omega) (fun r er => by cases er) (fun y  ey => ?_)
    cases ey
    refine seqQ.n ?_
    refine Wp.seq (subc [1, 1, 1, 0] C26) (subc [1, 1, 1, 1] C26) (by kernel_rfl) ?_
    refine Wp.region (by kernel_rfl) ?_
    refine Ops.seg 2 2 (by kernel_rfl) ⟨q4 ((appD 1 (List.map eI y222.1)) :: (appD 1 (List.map eI y222.1)) :: q40 (q35 ((appD 1 (List.map eI y222.1)) :: []))), [(.cells [(dP eI a0.fFrom), (dP eI a0.fTo), (dP eI a0.fLeft), (dP eI a0.fRight)]), (appO 1 (List.map eI y222.1))]⟩ (by kernel_rfl) ?_
    refine Ops.done (by kernel_rfl) ?_
    refine seqQ.n ?_
    refine Wp.ret (by kernel_rfl) ?_
    exact fnQ.r' (X26 n) (fun z => ((eL eI) z)) h (RetOk.mk' (appD 1 (List.map eI y222.1)) (by kernel_rfl) (appD_frz _ _ _ _))

/-! ### 12 glosswright/rewrite.Apply -/
def f12_B1 (m : Nat) (a0 : (List S28)) (v14 : (List Int)) (v15 : Int) : Option (Stp (((List Int) × S25)) ((List Int) × Int)) :=
  cnd (decide (v15 < (a0.length : Int)))
  (bnd (idx a0 v15) fun v25 =>
  bnd (f26 m v25 v14) fun v26 =>
  cnd (decide ((v26.length : Int) > 300))
  (bnd (f22 m 17 v15) fun v27 =>
  some (.ret (([], v27))))
  (some (.nxt (v26, w64 (v15 + 1)))))
  (some (.brk (v14, v15)))
def f12 (m : Nat) (a0 : (List S28)) (a1 : (List Int)) : Option ((List Int) × S25) :=
  bnd (f11 m a0) fun v1 =>
  cnd (!((v1.fCode == 0) && ((v1.fIndex == 0) && true)))
  (some (([], v1)))
  (cnd (decide ((a1.length : Int) > 30))
  (bnd (f22 m 2 ((-2))) fun v2 =>
  some (([], v2)))
  (bnd (f24 m a1) fun v3 =>
  cnd (!v3)
  (bnd (f22 m 3 ((-2))) fun v4 =>
  some (([], v4)))
  (bnd (f25 m a1) fun v5 =>
  brk (iter (fun (y : (List Int) × Int) => f12_B1 m a0 y.1 y.2) m (v5, 0)) some fun y29 =>
  some ((y29.1, (⟨0, 0⟩ : S25))))))
noncomputable abbrev X12 (n : Nat) : Cx := cxOf Proofs.Try.prog E 12 n
noncomputable def C12 : Code := bodyOf Proofs.Try.prog 12
theorem ok12 (m : Nat) (a0 : (List S28)) (a1 : (List Int)) (o : ((List Int) × S25)) (h : f12 m a0 a1 = some o) (n : Nat) (hn : m + 4 ≤ n) : Fn Proofs.Try.prog E n 12 [(eL e28) a0, (eL eI) a1] (.tuple [(eL eI) o.1, e25 o.2]) := by
  obtain ⟨n, rfl⟩ : ∃ q, n = q + 1 := ⟨n - 1, by omega⟩
  unfold f12 at h
  refine Fn.of (by kernel_rfl) (by kernel_rfl) ⟨(dP e28 a0) :: (dP eI a1) :: u40 (u2 []), []⟩ (by kernel_rfl) ?_
  refine Wp.seq (subc [0] C12) (subc [1] C12) (by kernel_rfl) ?_
  refine Wp.region (by kernel_rfl) ?_
  refine Ops.seg 2 2 (by kernel_rfl) ⟨(dP e28 a0) :: (dP eI a1) :: u2 ((.v (.sl .nil (List.map eI []))) :: (.ptr 0 0) :: u38 []), [(.cells [(dI 0), (dI 0)])]⟩ (by kernel_rfl) ?_
  refine Ops.done (by kernel_rfl) ?_
  refine seqQ.n ?_
  refine Wp.seq (subc [1, 0] C12) (subc [1, 1] C12) (by kernel_rfl) ?_
  refine Wp.seq (subc [1, 0, 0] C12) (subc [1, 0, 1] C12) (by kernel_rfl) ?_
  refine Wp.region (by kernel_rfl) ?_
  refine Ops.seg 1 1 (by kernel_rfl) ⟨(dP e28 a0) :: (dP eI a1) :: u2 ((.v (.sl .nil (List.map eI []))) :: (.ptr 0 0) :: u4 ((dP e28 a0) :: u33 [])), [(.cells [(dI 0), (dI 0)])]⟩ (by kernel_rfl) ?_
  obtain ⟨v1, ev1, h⟩ := bnd_some h
  refine Ops.one 2 (by kernel_rfl) (callD (X12 n).E (run Proofs.Try.prog E n) 11 [(dP e28 a0)] [(.cells [(dI 0), (dI 0)])]) (.v (.agg [(vI v1.fCode), (vI v1.fIndex)])) [(.cells [(dI 0), (dI 0)])] ⟨(dP e28 a0) :: (dP eI a1) :: u2 ((.v (.sl .nil (List.map eI []))) :: (.ptr 0 0) :: u4 ((dP e28 a0) :: (.v (.agg [(vI v1.fCode), (vI v1.fIndex)])) :: u32 [])), [(.cells [(dI 0), (dI 0)])]⟩ (by kernel_rfl) (call_ok (by kernel_rfl) (Args.v (vP e28 a0) ((eL e28) a0) (by kernel_rfl) Args.nil) (ok11 m a0 v1 ev1 n (by omega))) (by kernel_rfl) ?_
  refine Ops.seg 2 4 (by kernel_rfl) ⟨(dP e28 a0) :: (dP eI a1) :: u2 ((.v (.sl .nil (List.map eI []))) :: (.ptr 0 0) :: (.ptr 1 0) :: u3 ((dP e28 a0) :: (.v (.agg [(vI v1.fCode), (vI v1.fIndex)])) :: u32 [])), [(.cells [(dI 0), (dI 0)]), (.cells [(dI v1.fCode), (dI v1.fIndex)])]⟩ (by kernel_rfl) ?_
  refine Ops.done (by kernel_rfl) ?_
  refine seqQ.n ?_
  refine Wp.seq (subc [1, 0, 1, 0] C12) (subc [1, 0, 1, 1] C12) (by kernel_rfl) ?_
  refine Wp.region (by kernel_rfl) ?_
  refine Ops.seg 3 3 (by kernel_rfl) ⟨(dP e28 a0) :: (dP eI a1) :: u2 ((.v (.sl .nil (List.map eI []))) :: (.ptr 0 0) :: (.ptr 1 0) :: u3 ((dP e28 a0) :: (.v (.agg [(vI v1.fCode), (vI v1.fIndex)])) :: (.v (.agg [(vI v1.fCode), (vI v1.fIndex)])) :: (.v (.agg [(vI 0), (vI 0)])) :: (dB (!((v1.fCode == 0) && ((v1.fIndex == 0) && true)))) :: u29 [])), [(.cells [(dI 0), (dI 0)]), (.cells [(dI v1.fCode), (dI v1.fIndex)])]⟩ (by kernel_rfl) ?_
  refine Ops.done (by kernel_rfl) ?_
  refine seqQ.n ?_
  rcases cnd_some h with ⟨hb, h⟩ | ⟨hb, h⟩
  · refine Wp.cond (!((v1.fCode == 0) && ((v1.fIndex == 0) && true))) [0, 1, 4, 5] (by kernel_rfl) 2 (by kernel_rfl) (subc [1, 0, 1, 1, 0] C12) (subc [1, 0, 1, 1, 1] C12) (by kernel_rfl) (by kernel_rfl) (fun _ => ?_) (fun e => nomatch (hb.symm.trans e))
    refine Wp.seq (subc [1, 0, 1, 1, 0, 0] C12) (subc [1, 0, 1, 1, 0, 1] C12) (by kernel_rfl) ?_
    refine Wp.region (by kernel_rfl) ?_
    refine Ops.seg 3 3 (by kernel_rfl) ⟨(dP e28 a0) :: (dP eI a1) :: u2 ((.v (.sl .nil (List.map eI []))) :: (.ptr 0 0) :: (.ptr 1 0) :: u3 ((dP e28 a0) :: (.v (.agg [(vI v1.fCode), (vI v1.fIndex)])) :: (.v (.agg [(vI v1.fCode), (vI v1.fIndex)])) :: (.v (.agg [(vI 0), (vI 0)])) :: (dB (!((v1.fCode == 0) && ((v1.fIndex == 0) && true)))) :: (.v (.agg [(vI v1.fCode), (vI v1.fIndex)])) :: u28 [])), [(.cells [(dI v1.fCode), (dI v1.fIndex)]), (.cells [(dI v1.fCode), (dI v1.fIndex)])]⟩ (by kernel_rfl) ?_
    refine Ops.done (by kernel_rfl) ?_
    refine seqQ.n ?_
    refine Wp.ret (by kernel_rfl) ?_
    refine sqQ.r ?_
    refine seqQ.r ?_
    exact fnQ.r' (X12 n) (fun z => (.tuple [(eL eI) z.1, e25 z.2])) h (RetOk.mk' (.v (.tuple [(.sl .nil (List.map eI [])), (.agg [(vI v1.fCode), (vI v1.fIndex)])])) (by kernel_rfl) (by kernel_rfl))
  · refine Wp.cond (!((v1.fCode == 0) && ((v1.fIndex == 0) && true))) [0, 1, 4, 5] (by kernel_rfl) 2 (by kernel_rfl) (subc [1, 0, 1, 1, 0] C12) (subc [1, 0, 1, 1, 1] C12) (by kernel_rfl) (by kernel_rfl) (fun e => nomatch (hb.symm.trans e)) (fun _ => ?_)
    refine Wp.skip (by kernel_rfl) ?_
    refine sqQ.n ⟨(dP e28 a0) :: (dP eI a1) :: u2 ((.v (.sl .nil (List.map eI []))) :: (.ptr 0 0) :: (.ptr 1 0) :: u3 ((dP e28 a0) :: (.v (.agg [(vI v1.fCode), (vI v1.fIndex)])) :: (.v (.agg [(vI v1.fCode), (vI v1.fIndex)])) :: (.v (.agg [(vI 0), (vI 0)])) :: (dB (!((v1.fCode == 0) && ((v1.fIndex == 0) && true)))) :: u29 [])), [(.cells [(dI 0), (dI 0)]), (.cells [(dI v1.fCode), (dI v1.fIndex)])]⟩ (by kernel_rfl) ?_
    refine seqQ.n ?_
    refine Wp.seq (subc [1, 1, 0] C12) (subc [1, 1, 1] C12) (by kernel_rfl) ?_
    refine Wp.seq (subc [1, 1, 0, 0] C12) (subc [1, 1, 0, 1] C12) (by kernel_rfl) ?_
    refine Wp.region (by kernel_rfl) ?_
    refine Ops.seg 1 1 (by kernel_rfl) ⟨(dP e28 a0) :: (dP eI a1) :: u2 ((.v (.sl .nil (List.map eI []))) :: (.ptr 0 0) :: (.ptr 1 0) :: u3 ((dP e28 a0) :: (.v (.agg [(vI v1.fCode), (vI v1.fIndex)])) :: (.v (.agg [(vI v1.fCode), (vI v1.fIndex)])) :: (.v (.agg [(vI 0), (vI 0)])) :: (dB (!((v1.fCode == 0) && ((v1.fIndex == 0) && true)))) :: u1 ((dP eI a1) :: u27 []))), [(.cells [(dI 0), (dI 0)]), (.cells [(dI v1.fCode), (dI v1.fIndex)])]⟩ (by kernel_rfl) ?_
    refine Ops.one 2 (by kernel_rfl) ((lenD (X12 n).E.T 23 (D.unt (dP eI a1))).map (·, [(.cells [(dI 0), (dI 0)]), (.cells [(dI v1.fCode), (dI v1.fIndex)])])) (dI ((a1.length : Int))) [(.cells [(dI 0), (dI 0)]), (.cells [(dI v1.fCode), (dI v1.fIndex)])] ⟨(dP e28 a0) :: (dP eI a1) :: u2 ((.v (.sl .nil (List.map eI []))) :: (.ptr 0 0) :: (.ptr 1 0) :: u3 ((dP e28 a0) :: (.v (.agg [(vI v1.fCode), (vI v1.fIndex)])) :: (.v (.agg [(vI v1.fCode), (vI v1.fIndex)])) :: (.v (.agg [(vI 0), (vI 0)])) :: (dB (!((v1.fCode == 0) && ((v1.fIndex == 0) && true)))) :: u1 ((dP eI a1) :: (dI ((a1.length : Int))) :: u26 []))), [(.cells [(dI 0), (dI 0)]), (.cells [(dI v1.fCode), (dI v1.fIndex)])]⟩ (by kernel_rfl) (len_r _ 23 3 .plain eI a1 (by kernel_rfl)) (by kernel_rfl) ?_
    refine Ops.seg 1 3 (by kernel_rfl) ⟨(dP e28 a0) :: (dP eI a1) :: u2 ((.v (.sl .nil (List.map eI []))) :: (.ptr 0 0) :: (.ptr 1 0) :: u3 ((dP e28 a0) :: (.v (.agg [(vI v1.fCode), (vI v1.fIndex)])) :: (.v (.agg [(vI v1.fCode), (vI v1.fIndex)])) :: (.v (.agg [(vI 0), (vI 0)])) :: (dB (!((v1.fCode == 0) && ((v1.fIndex == 0) && true)))) :: u1 ((dP eI a1) :: (dI ((a1.length : Int))) :: (dB (decide ((a1.length : Int) > 30))) :: u25 []))), [(.cells [(dI 0), (dI 0)]), (.cells [(dI v1.fCode), (dI v1.fIndex)])]⟩ (by kernel_rfl) ?_
    refine Ops.done (by kernel_rfl) ?_
    refine seqQ.n ?_
    rcases cnd_some h with ⟨hb, h⟩ | ⟨hb, h⟩
    · refine Wp.cond (decide ((a1.length : Int) > 30)) [0, 1, 4, 5] (by kernel_rfl) 2 (by kernel_rfl) (subc [1, 1, 0, 1, 0] C12) (subc [1, 1, 0, 1, 1] C12) (by kernel_rfl) (by kernel_rfl) (fun _ => ?_) (fun e => nomatch (hb.symm.trans e))
      refine Wp.seq (subc [1, 1, 0, 1, 0, 0] C12) (subc [1, 1, 0, 1, 0, 1] C12) (by kernel_rfl) ?_
      refine Wp.region (by kernel_rfl) ?_
      obtain ⟨v2, ev2, h⟩ := bnd_some h
      refine Ops.one 1 (by kernel_rfl) (callD (X12 n).E (run Proofs.Try.prog E n) 22 [(dI 2), (dI ((-2)))] [(.cells [(dI 0), (dI 0)]), (.cells [(dI v1.fCode), (dI v1.fIndex)])]) (.v (.agg [(vI v2.fCode), (vI v2.fIndex)])) [(.cells [(dI 0), (dI 0)]), (.cells [(dI v1.fCode), (dI v1.fIndex)])] ⟨(dP e28 a0) :: (dP eI a1) :: u2 ((.v (.sl .nil (List.map eI []))) :: (.ptr 0 0) :: (.ptr 1 0) :: u3 ((dP e28 a0) :: (.v (.agg [(vI v1.fCode), (vI v1.fIndex)])) :: (.v (.agg [(vI v1.fCode), (vI v1.fIndex)])) :: (.v (.agg [(vI 0), (vI 0)])) :: (dB (!((v1.fCode == 0) && ((v1.fIndex == 0) && true)))) :: u1 ((dP eI a1) :: (dI ((a1.length : Int))) :: (dB (decide ((a1.length : Int) > 30))) :: (.v (.agg [(vI v2.fCode), (vI v2.fIndex)])) :: u24 []))), [(.cells [(dI 0), (dI 0)]), (.cells [(dI v1.fCode), (dI v1.fIndex)])]⟩ (by kernel_rfl) (call_ok (by kernel_rfl) (Args.v (vI 2) (eI 2) (by kernel_rfl) (Args.v (vI ((-2))) (eI ((-2))) (by kernel_rfl) Args.nil)) (ok22 m 2 ((-2)) v2 ev2 n (by omega))) (by kernel_rfl) ?_
      refine Ops.seg 2 3 (by kernel_rfl) ⟨(dP e28 a0) :: (dP eI a1) :: u2 ((.v (.sl .nil (List.map eI []))) :: (.ptr 0 0) :: (.ptr 1 0) :: u3 ((dP e28 a0) :: (.v (.agg [(vI v1.fCode), (vI v1.fIndex)])) :: (.v (.agg [(vI v1.fCode), (vI v1.fIndex)])) :: (.v (.agg [(vI 0), (vI 0)])) :: (dB (!((v1.fCode == 0) && ((v1.fIndex == 0) && true)))) :: u1 ((dP eI a1) :: (dI ((a1.length : Int))) :: (dB (decide ((a1.length : Int) > 30))) :: (.v (.agg [(vI v2.fCode), (vI v2.fIndex)])) :: u24 []))), [(.cells [(dI v2.fCode), (dI v2.fIndex)]), (.cells [(dI v1.fCode), (dI v1.fIndex)])]⟩ (by kernel_rfl) ?_
      refine Ops.done (by kernel_rfl) ?_
      refine seqQ.n ?_
      refine Wp.ret (by kernel_rfl) ?_
      refine sqQ.r ?_
      refine seqQ.r ?_
      exact fnQ.r' (X12 n) (fun z => (.tuple [(eL eI) z.1, e25 z.2])) h (RetOk.mk' (.v (.tuple [(.sl .nil (List.map eI [])), (.agg [(vI v2.fCode), (vI v2.fIndex)])])) (by kernel_rfl) (by kernel_rfl))
    · refine Wp.cond (decide ((a1.length : Int) > 30)) [0, 1, 4, 5] (by kernel_rfl) 2 (by kernel_rfl) (subc [1, 1, 0, 1, 0] C12) (subc [1, 1, 0, 1, 1] C12) (by kernel_rfl) (by kernel_rfl) (fun e => nomatch (hb.symm.trans e)) (fun _ => ?_)
      refine Wp.skip (by kernel_rfl) ?_
      refine sqQ.n ⟨(dP e28 a0) :: (dP eI a1) :: u2 ((.v (.sl .nil (List.map eI []))) :: (.ptr 0 0) :: (.ptr 1 0) :: u3 ((dP e28 a0) :: (.v (.agg [(vI v1.fCode), (vI v1.fIndex)])) :: (.v (.agg [(vI v1.fCode), (vI v1.fIndex)])) :: (.v (.agg [(vI 0), (vI 0)])) :: (dB (!((v1.fCode == 0) && ((v1.fIndex == 0) && true)))) :: u1 ((dP eI a1) :: (dI ((a1.length : Int))) :: (dB (decide ((a1.length : Int) > 30))) :: u25 []))), [(.cells [(dI 0), (dI 0)]), (.cells [(dI v1.fCode), (dI v1.fIndex)])]⟩ (by kernel_rfl) ?_
      refine seqQ.n ?_
      refine Wp.seq (subc [1, 1, 1, 0] C12) (subc [1, 1, 1, 1] C12) (by kernel_rfl) ?_
      refine Wp.seq (subc [1, 1, 1, 0, 0] C12) (subc [1, 1, 1, 0, 1] C12) (by kernel_rfl) ?_
      refine Wp.region (by kernel_rfl) ?_
      refine Ops.seg 1 1 (by kernel_rfl) ⟨(dP e28 a0) :: (dP eI a1) :: u2 ((.v (.sl .nil (List.map eI []))) :: (.ptr 0 0) :: (.ptr 1 0) :: u3 ((dP e28 a0) :: (.v (.agg [(vI v1.fCode), (vI v1.fIndex)])) :: (.v (.agg [(vI v1.fCode), (vI v1.fIndex)])) :: (.v (.agg [(vI 0), (vI 0)])) :: (dB (!((v1.fCode == 0) && ((v1.fIndex == 0) && true)))) :: u1 ((dP eI a1) :: (dI ((a1.length : Int))) :: (dB (decide ((a1.length : Int) > 30))) :: u1 ((dP eI a1) :: u23 [])))), [(.cells [(dI 0), (dI 0)]), (.cells [(dI v1.fCode), (dI v1.fIndex)])]⟩ (by kernel_rfl) ?_
      obtain ⟨v3, ev3, h⟩ := bnd_some h
      refine Ops.one 2 (by kernel_rfl) (callD (X12 n).E (run Proofs.Try.prog E n) 24 [(dP eI a1)] [(.cells [(dI 0), (dI 0)]), (.cells [(dI v1.fCode), (dI v1.fIndex)])]) (dB v3) [(.cells [(dI 0), (dI 0)]), (.cells [(dI v1.fCode), (dI v1.fIndex)])] ⟨(dP e28 a0) :: (dP eI a1) :: u2 ((.v (.sl .nil (List.map eI []))) :: (.ptr 0 0) :: (.ptr 1 0) :: u3 ((dP e28 a0) :: (.v (.agg [(vI v1.fCode), (vI v1.fIndex)])) :: (.v (.agg [(vI v1.fCode), (vI v1.fIndex)])) :: (.v (.agg [(vI 0), (vI 0)])) :: (dB (!((v1.fCode == 0) && ((v1.fIndex == 0) && true)))) :: u1 ((dP eI a1) :: (dI ((a1.length : Int))) :: (dB (decide ((a1.length : Int) > 30))) :: u1 ((dP eI a1) :: (dB v3) :: u22 [])))), [(.cells [(dI 0), (dI 0)]), (.cells [(dI v1.fCode), (dI v1.fIndex)])]⟩ (by kernel_rfl) (call_ok (by kernel_rfl) (Args.v (vP eI a1) ((eL eI) a1) (by kernel_rfl) Args.nil) (ok24 m a1 v3 ev3 n (by omega))) (by kernel_rfl) ?_
      refine Ops.seg 1 3 (by kernel_rfl) ⟨(dP e28 a0) :: (dP eI a1) :: u2 ((.v (.sl .nil (List.map eI []))) :: (.ptr 0 0) :: (.ptr 1 0) :: u3 ((dP e28 a0) :: (.v (.agg [(vI v1.fCode), (vI v1.fIndex)])) :: (.v (.agg [(vI v1.fCode), (vI v1.fIndex)])) :: (.v (.agg [(vI 0), (vI 0)])) :: (dB (!((v1.fCode == 0) && ((v1.fIndex == 0) && true)))) :: u1 ((dP eI a1) :: (dI ((a1.length : Int))) :: (dB (decide ((a1.length : Int) > 30))) :: u1 ((dP eI a1) :: (dB v3) :: (dB (!v3)) :: u21 [])))), [(.cells [(dI 0), (dI 0)]), (.cells [(dI v1.fCode), (dI v1.fIndex)])]⟩ (by kernel_rfl) ?_
      refine Ops.done (by kernel_rfl) ?_
      refine seqQ.n ?_
      rcases cnd_some h with ⟨hb, h⟩ | ⟨hb, h⟩
      · refine Wp.cond (!v3) [0, 1, 4, 5] (by kernel_rfl) 2 (by kernel_rfl) (subc [1, 1, 1, 0, 1, 0] C12) (subc [1, 1, 1, 0, 1, 1] C12) (by kernel_rfl) (by kernel_rfl) (fun _ => ?_) (fun e => nomatch (hb.symm.trans e))
        refine Wp.seq (subc [1, 1, 1, 0, 1, 0, 0] C12) (subc [1, 1, 1, 0, 1, 0, 1] C12) (by kernel_rfl) ?_
        refine Wp.region (by kernel_rfl) ?_
        obtain ⟨v4, ev4, h⟩ := bnd_some h
        refine Ops.one 1 (by kernel_rfl) (callD (X12 n).E (run Proofs.Try.prog E n) 22 [(dI 3), (dI ((-2)))] [(.cells [(dI 0), (dI 0)]), (.cells [(dI v1.fCode), (dI v1.fIndex)])]) (.v (.agg [(vI v4.fCode), (vI v4.fIndex)])) [(.cells [(dI 0), (dI 0)]), (.cells [(dI v1.fCode), (dI v1.fIndex)])] ⟨(dP e28 a0) :: (dP eI a1) :: u2 ((.v (.sl .nil (List.map eI []))) :: (.ptr 0 0) :: (.ptr 1 0) :: u3 ((dP e28 a0) :: (.v (.agg [(vI v1.fCode), (vI v1.fIndex)])) :: (.v (.agg [(vI v1.fCode), (vI v1.fIndex)])) :: (.v (.agg [(vI 0), (vI 0)])) :: (dB (!((v1.fCode == 0) && ((v1.fIndex == 0) && true)))) :: u1 ((dP eI a1) :: (dI ((a1.length : Int))) :: (dB (decide ((a1.length : Int) > 30))) :: u1 ((dP eI a1) :: (dB v3) :: (dB (!v3)) :: (.v (.agg [(vI v4.fCode), (vI v4.fIndex)])) :: u20 [])))), [(.cells [(dI 0), (dI 0)]), (.cells [(dI v1.fCode), (dI v1.fIndex)])]⟩ (by kernel_rfl) (call_ok (by kernel_rfl) (Args.v (vI 3) (eI 3) (by kernel_rfl) (Args.v (vI ((-2))) (eI ((-2))) (by kernel_rfl) Args.nil)) (ok22 m 3 ((-2)) v4 ev4 n (by omega))) (by kernel_rfl) ?_
        refine Ops.seg 2 3 (by kernel_rfl) ⟨(dP e28 a0) :: (dP eI a1) :: u2 ((.v (.sl .nil (List.map eI []))) :: (.ptr 0 0) :: (.ptr 1 0) :: u3 ((dP e28 a0) :: (.v (.agg [(vI v1.fCode), (vI v1.fIndex)])) :: (.v (.agg [(vI v1.fCode), (vI v1.fIndex)])) :: (.v (.agg [(vI 0), (vI 0)])) :: (dB (!((v1.fCode == 0) && ((v1.fIndex == 0) && true)))) :: u1 ((dP eI a1) :: (dI ((a1.length : Int))) :: (dB (decide ((a1.length : Int) > 30))) :: u1 ((dP eI a1) :: (dB v3) :: (dB (!v3)) :: (.v (.agg [(vI v4.fCode), (vI v4.fIndex)])) :: u20 [])))), [(.cells [(dI v4.fCode), (dI v4.fIndex)]), (.cells [(dI v1.fCode), (dI v1.fIndex)])]⟩ (by kernel_rfl) ?_
        refine Ops.done (by kernel_rfl) ?_
        refine seqQ.n ?_
        refine Wp.ret (by kernel_rfl) ?_
        refine sqQ.r ?_
        refine seqQ.r ?_
        exact fnQ.r' (X12 n) (fun z => (.tuple [(eL eI) z.1, e25 z.2])) h (RetOk.mk' (.v (.tuple [(.sl .nil (List.map eI [])), (.agg [(vI v4.fCode), (vI v4.fIndex)])])) (by kernel_rfl) (by kernel_rfl))
      · refine Wp.cond (!v3) [0, 1, 4, 5] (by kernel_rfl) 2 (by kernel_rfl) (subc [1, 1, 1, 0, 1, 0] C12) (subc [1, 1, 1, 0, 1, 1] C12) (by kernel_rfl) (by kernel_rfl) (fun e => nomatch (hb.symm.trans e)) (fun _ => ?_)
        refine Wp.skip (by kernel_rfl) ?_
        refine sqQ.n ⟨(dP e28 a0) :: (dP eI a1) :: u2 ((.v (.sl .nil (List.map eI []))) :: (.ptr 0 0) :: (.ptr 1 0) :: u3 ((dP e28 a0) :: (.v (.agg [(vI v1.fCode), (vI v1.fIndex)])) :: (.v (.agg [(vI v1.fCode), (vI v1.fIndex)])) :: (.v (.agg [(vI 0), (vI 0)])) :: (dB (!((v1.fCode == 0) && ((v1.fIndex == 0) && true)))) :: u1 ((dP eI a1) :: (dI ((a1.length : Int))) :: (dB (decide ((a1.length : Int) > 30))) :: u1 ((dP eI a1) :: (dB v3) :: (dB (!v3)) :: u21 [])))), [(.cells [(dI 0), (dI 0)]), (.cells [(dI v1.fCode), (dI v1.fIndex)])]⟩ (by kernel_rfl) ?_
        refine seqQ.n ?_
        refine Wp.seq (subc [1, 1, 1, 1, 0] C12) (subc [1, 1, 1, 1, 1] C12) (by kernel_rfl) ?_
        refine Wp.region (by kernel_rfl) ?_
        refine Ops.seg 1 1 (by kernel_rfl) ⟨(dP e28 a0) :: (dP eI a1) :: u2 ((.v (.sl .nil (List.map eI []))) :: (.ptr 0 0) :: (.ptr 1 0) :: u3 ((dP e28 a0) :: (.v (.agg [(vI v1.fCode), (vI v1.fIndex)])) :: (.v (.agg [(vI v1.fCode), (vI v1.fIndex)])) :: (.v (.agg [(vI 0), (vI 0)])) :: (dB (!((v1.fCode == 0) && ((v1.fIndex == 0) && true)))) :: u1 ((dP eI a1) :: (dI ((a1.length : Int))) :: (dB (decide ((a1.length : Int) > 30))) :: u1 ((dP eI a1) :: (dB v3) :: (dB (!v3)) :: u1 ((dP eI a1) :: u19 []))))), [(.cells [(dI 0), (dI 0)]), (.cells [(dI v1.fCode), (dI v1.fIndex)])]⟩ (by kernel_rfl) ?_
        obtain ⟨v5, ev5, h⟩ := bnd_some h
        refine Ops.one 2 (by kernel_rfl) (callD (X12 n).E (run Proofs.Try.prog E n) 25 [(dP eI a1)] [(.cells [(dI 0), (dI 0)]), (.cells [(dI v1.fCode), (dI v1.fIndex)])]) (dP eI v5) [(.cells [(dI 0), (dI 0)]), (.cells [(dI v1.fCode), (dI v1.fIndex)])] ⟨(dP e28 a0) :: (dP eI a1) :: u2 ((.v (.sl .nil (List.map eI []))) :: (.ptr 0 0) :: (.ptr 1 0) :: u3 ((dP e28 a0) :: (.v (.agg [(vI v1.fCode), (vI v1.fIndex)])) :: (.v (.agg [(vI v1.fCode), (vI v1.fIndex)])) :: (.v (.agg [(vI 0), (vI 0)])) :: (dB (!((v1.fCode == 0) && ((v1.fIndex == 0) && true)))) :: u1 ((dP eI a1) :: (dI ((a1.length : Int))) :: (dB (decide ((a1.length : Int) > 30))) :: u1 ((dP eI a1) :: (dB v3) :: (dB (!v3)) :: u1 ((dP eI a1) :: (dP eI v5) :: u18 []))))), [(.cells [(dI 0), (dI 0)]), (.cells [(dI v1.fCode), (dI v1.fIndex)])]⟩ (by kernel_rfl) (call_ok (by kernel_rfl) (Args.v (vP eI a1) ((eL eI) a1) (by kernel_rfl) Args.nil) (ok25 m a1 v5 ev5 n (by omega))) (by kernel_rfl) ?_
        refine Ops.seg 1 3 (by kernel_rfl) ⟨(dP e28 a0) :: (dP eI a1) :: u2 ((.v (.sl .nil (List.map eI []))) :: (.ptr 0 0) :: (.ptr 1 0) :: (dP eI v5) :: u2 ((dP e28 a0) :: (.v (.agg [(vI v1.fCode), (vI v1.fIndex)])) :: (.v (.agg [(vI v1.fCode), (vI v1.fIndex)])) :: (.v (.agg [(vI 0), (vI 0)])) :: (dB (!((v1.fCode == 0) && ((v1.fIndex == 0) && true)))) :: u1 ((dP eI a1) :: (dI ((a1.length : Int))) :: (dB (decide ((a1.length : Int) > 30))) :: u1 ((dP eI a1) :: (dB v3) :: (dB (!v3)) :: u1 ((dP eI a1) :: (dP eI v5) :: u18 []))))), [(.cells [(dI 0), (dI 0)]), (.cells [(dI v1.fCode), (dI v1.fIndex)])]⟩ (by kernel_rfl) ?_
        refine Ops.done (by kernel_rfl) ?_
        refine seqQ.n ?_
        refine Wp.seq (subc [1, 1, 1, 1, 1, 0] C12) (subc [1, 1, 1, 1, 1, 1] C12) (by kernel_rfl) ?_
        refine Wp.seq (subc [1, 1, 1, 1, 1, 0, 0] C12) (subc [1, 1, 1, 1, 1, 0, 1] C12) (by kernel_rfl) ?_
        refine Wp.region (by kernel_rfl) ?_
        refine Ops.seg 1 1 (by kernel_rfl) ⟨(dP e28 a0) :: (dP eI a1) :: u2 ((.v (.sl .nil (List.map eI []))) :: (.ptr 0 0) :: (.ptr 1 0) :: (dP eI v5) :: u2 ((dP e28 a0) :: (.v (.agg [(vI v1.fCode), (vI v1.fIndex)])) :: (.v (.agg [(vI v1.fCode), (vI v1.fIndex)])) :: (.v (.agg [(vI 0), (vI 0)])) :: (dB (!((v1.fCode == 0) && ((v1.fIndex == 0) && true)))) :: u1 ((dP eI a1) :: (dI ((a1.length : Int))) :: (dB (decide ((a1.length : Int) > 30))) :: u1 ((dP eI a1) :: (dB v3) :: (dB (!v3)) :: u1 ((dP eI a1) :: (dP eI v5) :: (dP e28 a0) :: u17 []))))), [(.cells [(dI 0), (dI 0)]), (.cells [(dI v1.fCode), (dI v1.fIndex)])]⟩ (by kernel_rfl) ?_
        refine Ops.one 2 (by kernel_rfl) ((lenD (X12 n).E.T 22 (D.unt (dP e28 a0))).map (·, [(.cells [(dI 0), (dI 0)]), (.cells [(dI v1.fCode), (dI v1.fIndex)])])) (dI ((a0.length : Int))) [(.cells [(dI 0), (dI 0)]), (.cells [(dI v1.fCode), (dI v1.fIndex)])] ⟨(dP e28 a0) :: (dP eI a1) :: u2 ((.v (.sl .nil (List.map eI []))) :: (.ptr 0 0) :: (.ptr 1 0) :: (dP eI v5) :: u2 ((dP e28 a0) :: (.v (.agg [(vI v1.fCode), (vI v1.fIndex)])) :: (.v (.agg [(vI v1.fCode), (vI v1.fIndex)])) :: (.v (.agg [(vI 0), (vI 0)])) :: (dB (!((v1.fCode == 0) && ((v1.fIndex == 0) && true)))) :: u1 ((dP eI a1) :: (dI ((a1.length : Int))) :: (dB (decide ((a1.length : Int) > 30))) :: u1 ((dP eI a1) :: (dB v3) :: (dB (!v3)) :: u1 ((dP eI a1) :: (dP eI v5) :: (dP e28 a0) :: (dI ((a0.length : Int))) :: u16 []))))), [(.cells [(dI 0), (dI 0)]), (.cells [(dI v1.fCode), (dI v1.fIndex)])]⟩ (by kernel_rfl) (len_r _ 22 29 .plain e28 a0 (by kernel_rfl)) (by kernel_rfl) ?_
        refine Ops.seg 1 3 (by kernel_rfl) ⟨(dP e28 a0) :: (dP eI a1) :: u2 ((.v (.sl .nil (List.map eI []))) :: (.ptr 0 0) :: (.ptr 1 0) :: (dP eI v5) :: u2 ((dP e28 a0) :: (.v (.agg [(vI v1.fCode), (vI v1.fIndex)])) :: (.v (.agg [(vI v1.fCode), (vI v1.fIndex)])) :: (.v (.agg [(vI 0), (vI 0)])) :: (dB (!((v1.fCode == 0) && ((v1.fIndex == 0) && true)))) :: u1 ((dP eI a1) :: (dI ((a1.length : Int))) :: (dB (decide ((a1.length : Int) > 30))) :: u1 ((dP eI a1) :: (dB v3) :: (dB (!v3)) :: u1 ((dP eI a1) :: (dP eI v5) :: (dP e28 a0) :: (dI ((a0.length : Int))) :: (dI 0) :: u15 []))))), [(.cells [(dI 0), (dI 0)]), (.cells [(dI v1.fCode), (dI v1.fIndex)])]⟩ (by kernel_rfl) ?_
        refine Ops.done (by kernel_rfl) ?_
        refine seqQ.n ?_
        refine Wp.block (id := 0) [4, 5, 7] (by kernel_rfl) 2 (by kernel_rfl) (subc [1, 1, 1, 1, 1, 0, 1, 0] C12) (by kernel_rfl) ?_
        have hLx28 : ∀ (kx17 : Nat) (v14 : (List Int)) (v15 : Int)  (ox16 : ((List Int) × S25) ⊕ ((List Int) × Int)), iter (fun (y : (List Int) × Int) => f12_B1 m a0 y.1 y.2) kx17 (v14, v15) = some ox16 → ∀ nx18, kx17 ≤ nx18 → (∀ r, ox16 = .inl r → ∀ σ, RetOk (X12 n) (resOf Proofs.Try.prog 12) (.tuple [(eL eI) r.1, e25 r.2]) σ → (seqQ (X12 n) (subc [1, 1, 1, 1, 1, 1] C12) (fnQ (X12 n).E.T (resOf Proofs.Try.prog 12) (.tuple [(eL eI) o.1, e25 o.2]))) .ret σ) → (∀ (y : (List Int) × Int) , ox16 = .inr y → (seqQ (X12 n) (subc [1, 1, 1, 1, 1, 1] C12) (fnQ (X12 n).E.T (resOf Proofs.Try.prog 12) (.tuple [(eL eI) o.1, e25 o.2]))) .normal ⟨q4 ((.v (.sl .nil (List.map eI []))) :: (.ptr 0 0) :: q1 ((dP eI y.1) :: q18 ((dP e28 a0) :: (dI ((a0.length : Int))) :: (dI y.2) :: q15 []))), [(.cells [(dI 0), (dI 0)]), (.cells [(dI v1.fCode), (dI v1.fIndex)])]⟩) → Lp (X12 n) [4, 5, 7, 26, 27, 28] 2 (subc [1, 1, 1, 1, 1, 0, 1, 0, 0] C12) nx18 ⟨q4 ((.v (.sl .nil (List.map eI []))) :: (.ptr 0 0) :: q1 ((dP eI v14) :: q18 ((dP e28 a0) :: (dI ((a0.length : Int))) :: (dI v15) :: q15 []))), [(.cells [(dI 0), (dI 0)]), (.cells [(dI v1.fCode), (dI v1.fIndex)])]⟩ (blkQ (X12 n) 0 [4, 5, 7] 2 (seqQ (X12 n) (subc [1, 1, 1, 1, 1, 1] C12) (fnQ (X12 n).E.T (resOf Proofs.Try.prog 12) (.tuple [(eL eI) o.1, e25 o.2])))) := by
          intro kx17
          induction kx17 with
          | zero => intro v14 v15  ox16 h; exact (iter_zero h).elim
          | succ kx17 ihx19 =>
            intro v14 v15  ox16 h nx18 hnx22 hrx20 hxx21
            obtain ⟨nx18, rfl⟩ : ∃ q, nx18 = q + 1 := ⟨nx18 - 1, by omega⟩
            obtain ⟨sx23, h, hsx24⟩ := iter_some h
            have h : f12_B1 m a0 v14 v15 = some sx23 := h
            unfold f12_B1 at h
            refine Lp.succ ?_
            refine Wp.seq (subc [1, 1, 1, 1, 1, 0, 1, 0, 0, 0] C12) (subc [1, 1, 1, 1, 1, 0, 1, 0, 0, 1] C12) (by kernel_rfl) ?_
            refine Wp.region (by kernel_rfl) ?_
            refine Ops.seg 1 1 (by kernel_rfl) ⟨q4 ((.v (.sl .nil (List.map eI []))) :: (.ptr 0 0) :: q1 ((dP eI v14) :: q18 ((dP e28 a0) :: (dI ((a0.length : Int))) :: (dI v15) :: (dB (decide (v15 < (a0.length : Int)))) :: q14 []))), [(.cells [(dI 0), (dI 0)]), (.cells [(dI v1.fCode), (dI v1.fIndex)])]⟩ (by kernel_rfl) ?_
            refine Ops.done (by kernel_rfl) ?_
            refine seqQ.n ?_
            refine Wp.seq (subc [1, 1, 1, 1, 1, 0, 1, 0, 0, 1, 0] C12) (subc [1, 1, 1, 1, 1, 0, 1, 0, 0, 1, 1] C12) (by kernel_rfl) ?_
            rcases cnd_some h with ⟨hb, h⟩ | ⟨hb, h⟩
            · refine Wp.cond (decide (v15 < (a0.length : Int))) [4, 5, 7, 26, 27, 28] (by kernel_rfl) 2 (by kernel_rfl) (subc [1, 1, 1, 1, 1, 0, 1, 0, 0, 1, 0, 0] C12) (subc [1, 1, 1, 1, 1, 0, 1, 0, 0, 1, 0, 1] C12) (by kernel_rfl) (by kernel_rfl) (fun _ => ?_) (fun e => nomatch (hb.symm.trans e))
              refine Wp.skip (by kernel_rfl) ?_
              refine sqQ.n ⟨q4 ((.v (.sl .nil (List.map eI []))) :: (.ptr 0 0) :: q1 ((dP eI v14) :: q18 ((dP e28 a0) :: (dI ((a0.length : Int))) :: (dI v15) :: (dB (decide (v15 < (a0.length : Int)))) :: q14 []))), [(.cells [(dI 0), (dI 0)]), (.cells [(dI v1.fCode), (dI v1.fIndex)])]⟩ (by kernel_rfl) ?_
              refine seqQ.n ?_
              refine Wp.seq (subc [1, 1, 1, 1, 1, 0, 1, 0, 0, 1, 1, 0] C12) (subc [1, 1, 1, 1, 1, 0, 1, 0, 0, 1, 1, 1] C12) (by kernel_rfl) ?_
              refine Wp.block (id := 1) [4, 5, 7, 26, 27, 28] (by kernel_rfl) 2 (by kernel_rfl) (subc [1, 1, 1, 1, 1, 0, 1, 0, 0, 1, 1, 0, 0] C12) (by kernel_rfl) ?_
              refine Wp.seq (subc [1, 1, 1, 1, 1, 0, 1, 0, 0, 1, 1, 0, 0, 0] C12) (subc [1, 1, 1, 1, 1, 0, 1, 0, 0, 1, 1, 0, 0, 1] C12) (by kernel_rfl) ?_
              refine Wp.region (by kernel_rfl) ?_
              refine Ops.seg 1 1 (by kernel_rfl) ⟨q4 ((.v (.sl .nil (List.map eI []))) :: (.ptr 0 0) :: q1 ((dP eI v14) :: q18 ((dP e28 a0) :: (dI ((a0.length : Int))) :: (dI v15) :: (dB (decide (v15 < (a0.length : Int)))) :: (dI v15) :: q13 []))), [(.cells [(dI 0), (dI 0)]), (.cells [(dI v1.fCode), (dI v1.fIndex)])]⟩ (by kernel_rfl) ?_
              obtain ⟨v25, ev25, h⟩ := bnd_some h
              refine Ops.one 2 (by kernel_rfl) ((indexAddrH (X12 n).E.T [(.cells [(dI 0), (dI 0)]), (.cells [(dI v1.fCode), (dI v1.fIndex)])] 22 (D.unt (dP e28 a0)) (dI v15)).map (·, [(.cells [(dI 0), (dI 0)]), (.cells [(dI v1.fCode), (dI v1.fIndex)])])) (.vptr [(vP eI v25.fFrom), (vP eI v25.fTo), (vP eI v25.fLeft), (vP eI v25.fRight)]) [(.cells [(dI 0), (dI 0)]), (.cells [(dI v1.fCode), (dI v1.fIndex)])] ⟨q4 ((.v (.sl .nil (List.map eI []))) :: (.ptr 0 0) :: q1 ((dP eI v14) :: q18 ((dP e28 a0) :: (dI ((a0.length : Int))) :: (dI v15) :: (dB (decide (v15 < (a0.length : Int)))) :: (dI v15) :: (.vptr [(vP eI v25.fFrom), (vP eI v25.fTo), (vP eI v25.fLeft), (vP eI v25.fRight)]) :: q12 []))), [(.cells [(dI 0), (dI 0)]), (.cells [(dI v1.fCode), (dI v1.fIndex)])]⟩ (by kernel_rfl) (ix_r _ 22 29 4 .plain e28 a0 v15 v25 ev25 (by kernel_rfl) (by kernel_rfl) (fun _ => rfl)) (by kernel_rfl) ?_
              refine Ops.seg 4 6 (by kernel_rfl) ⟨q4 ((.v (.sl .nil (List.map eI []))) :: (.ptr 0 0) :: q1 ((dP eI v14) :: (dI v15) :: (.ptr 2 0) :: q16 ((dP e28 a0) :: (dI ((a0.length : Int))) :: (dI v15) :: (dB (decide (v15 < (a0.length : Int)))) :: (dI v15) :: (.vptr [(vP eI v25.fFrom), (vP eI v25.fTo), (vP eI v25.fLeft), (vP eI v25.fRight)]) :: (.v (.agg [(vP eI v25.fFrom), (vP eI v25.fTo), (vP eI v25.fLeft), (vP eI v25.fRight)])) :: q11 []))), [(.cells [(dI 0), (dI 0)]), (.cells [(dI v1.fCode), (dI v1.fIndex)]), (.cells [(dP eI v25.fFrom), (dP eI v25.fTo), (dP eI v25.fLeft), (dP eI v25.fRight)])]⟩ (by kernel_rfl) ?_
              refine Ops.done (by kernel_rfl) ?_
              refine seqQ.n ?_
              refine Wp.seq (subc [1, 1, 1, 1, 1, 0, 1, 0, 0, 1, 1, 0, 0, 1, 0] C12) (subc [1, 1, 1, 1, 1, 0, 1, 0, 0, 1, 1, 0, 0, 1, 1] C12) (by kernel_rfl) ?_
              refine Wp.region (by kernel_rfl) ?_
              refine Ops.seg 2 2 (by kernel_rfl) ⟨q4 ((.v (.sl .nil (List.map eI []))) :: (.ptr 0 0) :: q1 ((dP eI v14) :: (dI v15) :: (.ptr 2 0) :: q16 ((dP e28 a0) :: (dI ((a0.length : Int))) :: (dI v15) :: (dB (decide (v15 < (a0.length : Int)))) :: (dI v15) :: (.vptr [(vP eI v25.fFrom), (vP eI v25.fTo), (vP eI v25.fLeft), (vP eI v25.fRight)]) :: (.v (.agg [(vP eI v25.fFrom), (vP eI v25.fTo), (vP eI v25.fLeft), (vP eI v25.fRight)])) :: (.v (.agg [(vP eI v25.fFrom), (vP eI v25.fTo), (vP eI v25.fLeft), (vP eI v25.fRight)])) :: (dP eI v14) :: q9 []))), [(.cells [(dI 0), (dI 0)]), (.cells [(dI v1.fCode), (dI v1.fIndex)]), (.cells [(dP eI v25.fFrom), (dP eI v25.fTo), (dP eI v25.fLeft), (dP eI v25.fRight)])]⟩ (by kernel_rfl) ?_
              obtain ⟨v26, ev26, h⟩ := bnd_some h
              refine Ops.one 3 (by kernel_rfl) (callD (X12 n).E (run Proofs.Try.prog E n) 26 [(.v (.agg [(vP eI v25.fFrom), (vP eI v25.fTo), (vP eI v25.fLeft), (vP eI v25.fRight)])), (dP eI v14)] [(.cells [(dI 0), (dI 0)]), (.cells [(dI v1.fCode), (dI v1.fIndex)]), (.cells [(dP eI v25.fFrom), (dP eI v25.fTo), (dP eI v25.fLeft), (dP eI v25.fRight)])]) (dP eI v26) [(.cells [(dI 0), (dI 0)]), (.cells [(dI v1.fCode), (dI v1.fIndex)]), (.cells [(dP eI v25.fFrom), (dP eI v25.fTo), (dP eI v25.fLeft), (dP eI v25.fRight)])] ⟨q4 ((.v (.sl .nil (List.map eI []))) :: (.ptr 0 0) :: q1 ((dP eI v14) :: (dI v15) :: (.ptr 2 0) :: q16 ((dP e28 a0) :: (dI ((a0.length : Int))) :: (dI v15) :: (dB (decide (v15 < (a0.length : Int)))) :: (dI v15) :: (.vptr [(vP eI v25.fFrom), (vP eI v25.fTo), (vP eI v25.fLeft), (vP eI v25.fRight)]) :: (.v (.agg [(vP eI v25.fFrom), (vP eI v25.fTo), (vP eI v25.fLeft), (vP eI v25.fRight)])) :: (.v (.agg [(vP eI v25.fFrom), (vP eI v25.fTo), (vP eI v25.fLeft), (vP eI v25.fRight)])) :: (dP eI v14) :: (dP eI v26) :: q8 []))), [(.cells [(dI 0), (dI 0)]), (.cells [(dI v1.fCode), (dI v1.fIndex)]), (.cells [(dP eI v25.fFrom), (dP eI v25.fTo), (dP eI v25.fLeft), (dP eI v25.fRight)])]⟩ (by kernel_rfl) (call_ok (by kernel_rfl) (Args.v (.agg [(vP eI v25.fFrom), (vP eI v25.fTo), (vP eI v25.fLeft), (vP eI v25.fRight)]) (e28 v25) (by kernel_rfl) (Args.v (vP eI v14) ((eL eI) v14) (by kernel_rfl) Args.nil)) (ok26 m v25 v14 v26 ev26 n (by omega))) (by kernel_rfl) ?_
              refine Ops.seg 1 4 (by kernel_rfl) ⟨q4 ((.v (.sl .nil (List.map eI []))) :: (.ptr 0 0) :: q1 ((dP eI v26) :: (dI v15) :: (.ptr 2 0) :: q16 ((dP e28 a0) :: (dI ((a0.length : Int))) :: (dI v15) :: (dB (decide (v15 < (a0.length : Int)))) :: (dI v15) :: (.vptr [(vP eI v25.fFrom), (vP eI v25.fTo), (vP eI v25.fLeft), (vP eI v25.fRight)]) :: (.v (.agg [(vP eI v25.fFrom), (vP eI v25.fTo), (vP eI v25.fLeft), (vP eI v25.fRight)])) :: (.v (.agg [(vP eI v25.fFrom), (vP eI v25.fTo), (vP eI v25.fLeft), (vP eI v25.fRight)])) :: (dP eI v14) :: (dP eI v26) :: q8 []))), [(.cells [(dI 0), (dI 0)]), (.cells [(dI v1.fCode), (dI v1.fIndex)]), (.cells [(dP eI v25.fFrom), (dP eI v25.fTo), (dP eI v25.fLeft), (dP eI v25.fRight)])]⟩ (by kernel_rfl) ?_
              refine Ops.done (by kernel_rfl) ?_
              refine seqQ.n ?_
              refine Wp.seq (subc [1, 1, 1, 1, 1, 0, 1, 0, 0, 1, 1, 0, 0, 1, 1, 0] C12) (subc [1, 1, 1, 1, 1, 0, 1, 0, 0, 1, 1, 0, 0, 1, 1, 1] C12) (by kernel_rfl) ?_
              refine Wp.region (by kernel_rfl) ?_
              refine Ops.seg 1 1 (by kernel_rfl) ⟨q4 ((.v (.sl .nil (List.map eI []))) :: (.ptr 0 0) :: q1 ((dP eI v26) :: (dI v15) :: (.ptr 2 0) :: q16 ((dP e28 a0) :: (dI ((a0.length : Int))) :: (dI v15) :: (dB (decide (v15 < (a0.length : Int)))) :: (dI v15) :: (.vptr [(vP eI v25.fFrom), (vP eI v25.fTo), (vP eI v25.fLeft), (vP eI v25.fRight)]) :: (.v (.agg [(vP eI v25.fFrom), (vP eI v25.fTo), (vP eI v25.fLeft), (vP eI v25.fRight)])) :: (.v (.agg [(vP eI v25.fFrom), (vP eI v25.fTo), (vP eI v25.fLeft), (vP eI v25.fRight)])) :: (dP eI v14) :: (dP eI v26) :: (dP eI v26) :: q7 []))), [(.cells [(dI 0), (dI 0)]), (.cells [(dI v1.fCode), (dI v1.fIndex)]), (.cells [(dP eI v25.fFrom), (dP eI v25.fTo), (dP eI v25.fLeft), (dP eI v25.fRight)])]⟩ (by kernel_rfl) ?_
              refine Ops.one 2 (by kernel_rfl) ((lenD (X12 n).E.T 23 (D.unt (dP eI v26))).map (·, [(.cells [(dI 0), (dI 0)]), (.cells [(dI v1.fCode), (dI v1.fIndex)]), (.cells [(dP eI v25.fFrom), (dP eI v25.fTo), (dP eI v25.fLeft), (dP eI v25.fRight)])])) (dI ((v26.length : Int))) [(.cells [(dI 0), (dI 0)]), (.cells [(dI v1.fCode), (dI v1.fIndex)]), (.cells [(dP eI v25.fFrom), (dP eI v25.fTo), (dP eI v25.fLeft), (dP eI v25.fRight)])] ⟨q4 ((.v (.sl .nil (List.map eI []))) :: (.ptr 0 0) :: q1 ((dP eI v26) :: (dI v15) :: (.ptr 2 0) :: q16 ((dP e28 a0) :: (dI ((a0.length : Int))) :: (dI v15) :: (dB (decide (v15 < (a0.length : Int)))) :: (dI v15) :: (.vptr [(vP eI v25.fFrom), (vP eI v25.fTo), (vP eI v25.fLeft), (vP eI v25.fRight)]) :: (.v (.agg [(vP eI v25.fFrom), (vP eI v25.fTo), (vP eI v25.fLeft), (vP eI v25.fRight)])) :: (.v (.agg [(vP eI v25.fFrom), (vP eI v25.fTo), (vP eI v25.fLeft), (vP eI v25.fRight)])) :: (dP eI v14) :: (dP eI v26) :: (dP eI v26) :: (dI ((v26.length : Int))) :: q6 []))), [(.cells [(dI 0), (dI 0)]), (.cells [(dI v1.fCode), (dI v1.fIndex)]), (.cells [(dP eI v25.fFrom), (dP eI v25.fTo), (dP eI v25.fLeft), (dP eI v25.fRight)])]⟩ (by kernel_rfl) (len_r _ 23 3 .plain eI v26 (by kernel_rfl)) (by kernel_rfl) ?_
              refine Ops.seg 1 3 (by kernel_rfl) ⟨q4 ((.v (.sl .nil (List.map eI []))) :: (.ptr 0 0) :: q1 ((dP eI v26) :: (dI v15) :: (.ptr 2 0) :: q16 ((dP e28 a0) :: (dI ((a0.length : Int))) :: (dI v15) :: (dB (decide (v15 < (a0.length : Int)))) :: (dI v15) :: (.vptr [(vP eI v25.fFrom), (vP eI v25.fTo), (vP eI v25.fLeft), (vP eI v25.fRight)]) :: (.v (.agg [(vP eI v25.fFrom), (vP eI v25.fTo), (vP eI v25.fLeft), (vP eI v25.fRight)])) :: (.v (.agg [(vP eI v25.fFrom), (vP eI v25.fTo), (vP eI v25.fLeft), (vP eI v25.fRight)])) :: (dP eI v14) :: (dP eI v26) :: (dP eI v26) :: (dI ((v26.length : Int))) :: (dB (decide ((v26.length : Int) > 300))) :: q5 []))), [(.cells [(dI 0), (dI 0)]), (.cells [(dI v1.fCode), (dI v1.fIndex)]), (.cells [(dP eI v25.fFrom), (dP eI v25.fTo), (dP eI v25.fLeft), (dP eI v25.fRight)])]⟩ (by kernel_rfl) ?_
              refine Ops.done (by kernel_rfl) ?_
              refine seqQ.n ?_
              rcases cnd_some h with ⟨hb, h⟩ | ⟨hb, h⟩
              · refine Wp.cond (decide ((v26.length : Int) > 300)) [4, 5, 7, 26, 27, 28] (by kernel_rfl) 3 (by kernel_rfl) (subc [1, 1, 1, 1, 1, 0, 1, 0, 0, 1, 1, 0, 0, 1, 1, 1, 0] C12) (subc [1, 1, 1, 1, 1, 0, 1, 0, 0, 1, 1, 0, 0, 1, 1, 1, 1] C12) (by kernel_rfl) (by kernel_rfl) (fun _ => ?_) (fun e => nomatch (hb.symm.trans e))
                refine Wp.seq (subc [1, 1, 1, 1, 1, 0, 1, 0, 0, 1, 1, 0, 0, 1, 1, 1, 0, 0] C12) (subc [1, 1, 1, 1, 1, 0, 1, 0, 0, 1, 1, 0, 0, 1, 1, 1, 0, 1] C12) (by kernel_rfl) ?_
                refine Wp.region (by kernel_rfl) ?_
                refine Ops.seg 1 1 (by kernel_rfl) ⟨q4 ((.v (.sl .nil (List.map eI []))) :: (.ptr 0 0) :: q1 ((dP eI v26) :: (dI v15) :: (.ptr 2 0) :: q16 ((dP e28 a0) :: (dI ((a0.length : Int))) :: (dI v15) :: (dB (decide (v15 < (a0.length : Int)))) :: (dI v15) :: (.vptr [(vP eI v25.fFrom), (vP eI v25.fTo), (vP eI v25.fLeft), (vP eI v25.fRight)]) :: (.v (.agg [(vP eI v25.fFrom), (vP eI v25.fTo), (vP eI v25.fLeft), (vP eI v25.fRight)])) :: (.v (.agg [(vP eI v25.fFrom), (vP eI v25.fTo), (vP eI v25.fLeft), (vP eI v25.fRight)])) :: (dP eI v14) :: (dP eI v26) :: (dP eI v26) :: (dI ((v26.length : Int))) :: (dB (decide ((v26.length : Int) > 300))) :: (dI v15) :: q4 []))), [(.cells [(dI 0), (dI 0)]), (.cells [(dI v1.fCode), (dI v1.fIndex)]), (.cells [(dP eI v25.fFrom), (dP eI v25.fTo), (dP eI v25.fLeft), (dP eI v25.fRight)])]⟩ (by kernel_rfl) ?_
                obtain ⟨v27, ev27, h⟩ := bnd_some h
                refine Ops.one 2 (by kernel_rfl) (callD (X12 n).E (run Proofs.Try.prog E n) 22 [(dI 17), (dI v15)] [(.cells [(dI 0), (dI 0)]), (.cells [(dI v1.fCode), (dI v1.fIndex)]), (.cells [(dP eI v25.fFrom), (dP eI v25.fTo), (dP eI v25.fLeft), (dP eI v25.fRight)])]) (.v (.agg [(vI v27.fCode), (vI v27.fIndex)])) [(.cells [(dI 0), (dI 0)]), (.cells [(dI v1.fCode), (dI v1.fIndex)]), (.cells [(dP eI v25.fFrom), (dP eI v25.fTo), (dP eI v25.fLeft), (dP eI v25.fRight)])] ⟨q4 ((.v (.sl .nil (List.map eI []))) :: (.ptr 0 0) :: q1 ((dP eI v26) :: (dI v15) :: (.ptr 2 0) :: q16 ((dP e28 a0) :: (dI ((a0.length : Int))) :: (dI v15) :: (dB (decide (v15 < (a0.length : Int)))) :: (dI v15) :: (.vptr [(vP eI v25.fFrom), (vP eI v25.fTo), (vP eI v25.fLeft), (vP eI v25.fRight)]) :: (.v (.agg [(vP eI v25.fFrom), (vP eI v25.fTo), (vP eI v25.fLeft), (vP eI v25.fRight)])) :: (.v (.agg [(vP eI v25.fFrom), (vP eI v25.fTo), (vP eI v25.fLeft), (vP eI v25.fRight)])) :: (dP eI v14) :: (dP eI v26) :: (dP eI v26) :: (dI ((v26.length : Int))) :: (dB (decide ((v26.length : Int) > 300))) :: (dI v15) :: (.v (.agg [(vI v27.fCode), (vI v27.fIndex)])) :: q3 []))), [(.cells [(dI 0), (dI 0)]), (.cells [(dI v1.fCode), (dI v1.fIndex)]), (.cells [(dP eI v25.fFrom), (dP eI v25.fTo), (dP eI v25.fLeft), (dP eI v25.fRight)])]⟩ (by kernel_rfl) (call_ok (by kernel_rfl) (Args.v (vI 17) (eI 17) (by kernel_rfl) (Args.v (vI v15) (eI v15) (by kernel_rfl) Args.nil)) (ok22 m 17 v15 v27 ev27 n (by omega))) (by kernel_rfl) ?_
                refine Ops.seg 2 4 (by kernel_rfl) ⟨q4 ((.v (.sl .nil (List.map eI []))) :: (.ptr 0 0) :: q1 ((dP eI v26) :: (dI v15) :: (.ptr 2 0) :: q16 ((dP e28 a0) :: (dI ((a0.length : Int))) :: (dI v15) :: (dB (decide (v15 < (a0.length : Int)))) :: (dI v15) :: (.vptr [(vP eI v25.fFrom), (vP eI v25.fTo), (vP eI v25.fLeft), (vP eI v25.fRight)]) :: (.v (.agg [(vP eI v25.fFrom), (vP eI v25.fTo), (vP eI v25.fLeft), (vP eI v25.fRight)])) :: (.v (.agg [(vP eI v25.fFrom), (vP eI v25.fTo), (vP eI v25.fLeft), (vP eI v25.fRight)])) :: (dP eI v14) :: (dP eI v26) :: (dP eI v26) :: (dI ((v26.length : Int))) :: (dB (decide ((v26.length : Int) > 300))) :: (dI v15) :: (.v (.agg [(vI v27.fCode), (vI v27.fIndex)])) :: q3 []))), [(.cells [(dI v27.fCode), (dI v27.fIndex)]), (.cells [(dI v1.fCode), (dI v1.fIndex)]), (.cells [(dP eI v25.fFrom), (dP eI v25.fTo), (dP eI v25.fLeft), (dP eI v25.fRight)])]⟩ (by kernel_rfl) ?_
                refine Ops.done (by kernel_rfl) ?_
                refine seqQ.n ?_
                refine Wp.ret (by kernel_rfl) ?_
                refine sqQ.r ?_
                refine blkQ.r ?_
                refine seqQ.r ?_
                cases h
                refine lpQ.r ?_
                refine blkQ.r ?_
                exact hrx20 _ hsx24 _ (RetOk.forget [4, 5, 7, 26, 27, 28] (by kernel_rfl) (RetOk.mk' (.v (.tuple [(.sl .nil (List.map eI [])), (.agg [(vI v27.fCode), (vI v27.fIndex)])])) (by kernel_rfl) (by kernel_rfl)))
              · refine Wp.cond (decide ((v26.length : Int) > 300)) [4, 5, 7, 26, 27, 28] (by kernel_rfl) 3 (by kernel_rfl) (subc [1, 1, 1, 1, 1, 0, 1, 0, 0, 1, 1, 0, 0, 1, 1, 1, 0] C12) (subc [1, 1, 1, 1, 1, 0, 1, 0, 0, 1, 1, 0, 0, 1, 1, 1, 1] C12) (by kernel_rfl) (by kernel_rfl) (fun e => nomatch (hb.symm.trans e)) (fun _ => ?_)
                refine Wp.skip (by kernel_rfl) ?_
                refine sqQ.n ⟨q4 ((.v (.sl .nil (List.map eI []))) :: (.ptr 0 0) :: q1 ((dP eI v26) :: (dI v15) :: (.ptr 2 0) :: q16 ((dP e28 a0) :: (dI ((a0.length : Int))) :: (dI v15) :: (dB (decide (v15 < (a0.length : Int)))) :: (dI v15) :: (.vptr [(vP eI v25.fFrom), (vP eI v25.fTo), (vP eI v25.fLeft), (vP eI v25.fRight)]) :: (.v (.agg [(vP eI v25.fFrom), (vP eI v25.fTo), (vP eI v25.fLeft), (vP eI v25.fRight)])) :: (.v (.agg [(vP eI v25.fFrom), (vP eI v25.fTo), (vP eI v25.fLeft), (vP eI v25.fRight)])) :: (dP eI v14) :: (dP eI v26) :: (dP eI v26) :: (dI ((v26.length : Int))) :: (dB (decide ((v26.length : Int) > 300))) :: q5 []))), [(.cells [(dI 0), (dI 0)]), (.cells [(dI v1.fCode), (dI v1.fIndex)]), (.cells [(dP eI v25.fFrom), (dP eI v25.fTo), (dP eI v25.fLeft), (dP eI v25.fRight)])]⟩ (by kernel_rfl) ?_
                refine blkQ.n ⟨q4 ((.v (.sl .nil (List.map eI []))) :: (.ptr 0 0) :: q1 ((dP eI v26) :: q18 ((dP e28 a0) :: (dI ((a0.length : Int))) :: (dI v15) :: q15 []))), [(.cells [(dI 0), (dI 0)]), (.cells [(dI v1.fCode), (dI v1.fIndex)])]⟩ (by kernel_rfl) ?_
                refine seqQ.n ?_
                refine Wp.region (by kernel_rfl) ?_
                refine Ops.seg 2 2 (by kernel_rfl) ⟨q4 ((.v (.sl .nil (List.map eI []))) :: (.ptr 0 0) :: q1 ((dP eI v26) :: q18 ((dP e28 a0) :: (dI ((a0.length : Int))) :: (dI (w64 (v15 + 1))) :: q12 ((dI (w64 (v15 + 1))) :: q2 [])))), [(.cells [(dI 0), (dI 0)]), (.cells [(dI v1.fCode), (dI v1.fIndex)])]⟩ (by kernel_rfl) ?_
                refine Ops.done (by kernel_rfl) ?_
                refine lpQ.n ⟨q4 ((.v (.sl .nil (List.map eI []))) :: (.ptr 0 0) :: q1 ((dP eI v26) :: q18 ((dP e28 a0) :: (dI ((a0.length : Int))) :: (dI (w64 (v15 + 1))) :: q15 []))), [(.cells [(dI 0), (dI 0)]), (.cells [(dI v1.fCode), (dI v1.fIndex)])]⟩ (by kernel_rfl) ?_
                cases h
                exact ihx19 v26 (w64 (v15 + 1))  _ hsx24 _ (by omega) hrx20 hxx21
            · refine Wp.cond (decide (v15 < (a0.length : Int))) [4, 5, 7, 26, 27, 28] (by kernel_rfl) 2 (by kernel_rfl) (subc [1, 1, 1, 1, 1, 0, 1, 0, 0, 1, 0, 0] C12) (subc [1, 1, 1, 1, 1, 0, 1, 0, 0, 1, 0, 1] C12) (by kernel_rfl) (by kernel_rfl) (fun e => nomatch (hb.symm.trans e)) (fun _ => ?_)
              refine Wp.exit (id := 0) (by kernel_rfl) ?_
              refine sqQ.x ?_
              refine seqQ.x ?_
              cases h
              refine lpQ.x ?_
              refine blkQ.x ⟨q4 ((.v (.sl .nil (List.map eI []))) :: (.ptr 0 0) :: q1 ((dP eI v14) :: q18 ((dP e28 a0) :: (dI ((a0.length : Int))) :: (dI v15) :: q15 []))), [(.cells [(dI 0), (dI 0)]), (.cells [(dI v1.fCode), (dI v1.fIndex)])]⟩ (by kernel_rfl) ?_
              exact hxx21 (v14, v15)  hsx24
        refine Wp.loop [4, 5, 7, 26, 27, 28] 2 (by kernel_rfl) (subc [1, 1, 1, 1, 1, 0, 1, 0, 0] C12) (by kernel_rfl) (by kernel_rfl) ⟨q4 ((.v (.sl .nil (List.map eI []))) :: (.ptr 0 0) :: q1 ((dP eI v5) :: q18 ((dP e28 a0) :: (dI ((a0.length : Int))) :: (dI 0) :: q15 []))), [(.cells [(dI 0), (dI 0)]), (.cells [(dI v1.fCode), (dI v1.fIndex)])]⟩ (by kernel_rfl) ?_
        rcases brk_some h with ⟨r30, er30, h⟩ | ⟨y29, ey29, h⟩
        · refine hLx28 _ v5 0  _ er30 n (by omega) (fun r er σ hσ => ?_) (fun y  ey => by cases ey)
          cases er
          refine seqQ.r ?_
          exact fnQ.r' (X12 n) (fun z => (.tuple [(eL eI) z.1, e25 z.2])) h hσ
        · refine hLx28 _ v5 0  _ ey29 n (by omega) (fun r er => by cases er) (fun y  ey => ?_)
          cases ey
          refine seqQ.n ?_
          refine Wp.seq (subc [1, 1, 1, 1, 1, 1, 0] C12) (subc [1, 1, 1, 1, 1, 1, 1] C12) (by kernel_rfl) ?_
          refine Wp.region (by kernel_rfl) ?_
          refine Ops.seg 4 4 (by kernel_rfl) ⟨q4 ((dP eI y29.1) :: (.ptr 0 0) :: q1 ((dP eI y29.1) :: q18 ((dP e28 a0) :: (dI ((a0.length : Int))) :: (dI y29.2) :: q13 ((dP eI y29.1) :: (.v (.agg [(vI 0), (vI 0)])) :: [])))), [(.cells [(dI 0), (dI 0)]), (.cells [(dI v1.fCode), (dI v1.fIndex)])]⟩ (by kernel_rfl) ?_
          refine Ops.done (by kernel_rfl) ?_
          refine seqQ.n ?_
          refine Wp.ret (by kernel_rfl) ?_
          exact fnQ.r' (X12 n) (fun z => (.tuple [(eL eI) z.1, e25 z.2])) h (RetOk.mk' (.v (.tuple [(vP eI y29.1), (.agg [(vI 0), (vI 0)])])) (by kernel_rfl) (by kernel_rfl))

/-! ### 14 glosswright/glosswrightequal.Numbers -/
def f14_B1 (m : Nat) (a0 : (List Int)) (a1 : (List Int)) (v6 : Int) : Option (Stp Bool (Int)) :=
  cnd (decide (v6 < (a0.length : Int)))
  (bnd (idx a0 v6) fun v16 =>
  bnd (idx a1 v6) fun v17 =>
  cnd (v16 != v17)
  (some (.ret false))
  (some (.nxt (w64 (v6 + 1)))))
  (some (.brk v6))
def f14 (m : Nat) (a0 : (List Int)) (a1 : (List Int)) : Option Bool :=
  cnd (((a0.length : Int)) != ((a1.length : Int)))
  (some false)
  (brk (iter (fun (y : Int) => f14_B1 m a0 a1 y) m 0) some fun y19 =>
  some true)
noncomputable abbrev X14 (n : Nat) : Cx := cxOf Proofs.Try.prog E 14 n
noncomputable def C14 : Code := bodyOf Proofs.Try.prog 14
theorem ok14 (m : Nat) (a0 : (List Int)) (a1 : (List Int)) (o : Bool) (h : f14 m a0 a1 = some o) (n : Nat) (hn : m + 1 ≤ n) : Fn Proofs.Try.prog E n 14 [(eL eI) a0, (eL eI) a1] (eB o) := by
  obtain ⟨n, rfl⟩ : ∃ q, n = q + 1 := ⟨n - 1, by omega⟩
  unfold f14 at h
  refine Fn.of (by kernel_rfl) (by kernel_rfl) ⟨(dP eI a0) :: (dP eI a1) :: u24 [], []⟩ (by kernel_rfl) ?_
  refine Wp.seq (subc [0] C14) (subc [1] C14) (by kernel_rfl) ?_
  refine Wp.region (by kernel_rfl) ?_
  refine Ops.seg 1 1 (by kernel_rfl) ⟨(dP eI a0) :: (dP eI a1) :: u2 ((dB false) :: u21 []), []⟩ (by kernel_rfl) ?_
  refine Ops.done (by kernel_rfl) ?_
  refine seqQ.n ?_
  refine Wp.seq (subc [1, 0] C14) (subc [1, 1] C14) (by kernel_rfl) ?_
  refine Wp.seq (subc [1, 0, 0] C14) (subc [1, 0, 1] C14) (by kernel_rfl) ?_
  refine Wp.region (by kernel_rfl) ?_
  refine Ops.seg 1 1 (by kernel_rfl) ⟨(dP eI a0) :: (dP eI a1) :: u2 ((dB false) :: u1 ((dP eI a0) :: u19 [])), []⟩ (by kernel_rfl) ?_
  refine Ops.one 2 (by kernel_rfl) ((lenD (X14 n).E.T 23 (D.unt (dP eI a0))).map (·, [])) (dI ((a0.length : Int))) [] ⟨(dP eI a0) :: (dP eI a1) :: u2 ((dB false) :: u1 ((dP eI a0) :: (dI ((a0.length : Int))) :: u18 [])), []⟩ (by kernel_rfl) (len_r _ 23 3 .plain eI a0 (by kernel_rfl)) (by kernel_rfl) ?_
  refine Ops.seg 1 3 (by kernel_rfl) ⟨(dP eI a0) :: (dP eI a1) :: u2 ((dB false) :: u1 ((dP eI a0) :: (dI ((a0.length : Int))) :: (dP eI a1) :: u17 [])), []⟩ (by kernel_rfl) ?_
  refine Ops.one 4 (by kernel_rfl) ((lenD (X14 n).E.T 23 (D.unt (dP eI a1))).map (·, [])) (dI ((a1.length : Int))) [] ⟨(dP eI a0) :: (dP eI a1) :: u2 ((dB false) :: u1 ((dP eI a0) :: (dI ((a0.length : Int))) :: (dP eI a1) :: (dI ((a1.length : Int))) :: u16 [])), []⟩ (by kernel_rfl) (len_r _ 23 3 .plain eI a1 (by kernel_rfl)) (by kernel_rfl) ?_
  refine Ops.seg 1 5 (by kernel_rfl) ⟨(dP eI a0) :: (dP eI a1) :: u2 ((dB false) :: u1 ((dP eI a0) :: (dI ((a0.length : Int))) :: (dP eI a1) :: (dI ((a1.length : Int))) :: (dB (((a0.length : Int)) != ((a1.length : Int)))) :: u15 [])), []⟩ (by kernel_rfl) ?_
  refine Ops.done (by kernel_rfl) ?_
  refine seqQ.n ?_
  rcases cnd_some h with ⟨hb, h⟩ | ⟨hb, h⟩
  · refine Wp.cond (((a0.length : Int)) != ((a1.length : Int))) [0, 1, 4] (by kernel_rfl) 0 (by kernel_rfl) (subc [1, 0, 1, 0] C14) (subc [1, 0, 1, 1] C14) (by kernel_rfl) (by kernel_rfl) (fun _ => ?_) (fun e => nomatch (hb.symm.trans e))
    refine Wp.seq (subc [1, 0, 1, 0, 0] C14) (subc [1, 0, 1, 0, 1] C14) (by kernel_rfl) ?_
    refine Wp.region (by kernel_rfl) ?_
    refine Ops.seg 1 1 (by kernel_rfl) ⟨(dP eI a0) :: (dP eI a1) :: u2 ((dB false) :: u1 ((dP eI a0) :: (dI ((a0.length : Int))) :: (dP eI a1) :: (dI ((a1.length : Int))) :: (dB (((a0.length : Int)) != ((a1.length : Int)))) :: u15 [])), []⟩ (by kernel_rfl) ?_
    refine Ops.done (by kernel_rfl) ?_
    refine seqQ.n ?_
    refine Wp.ret (by kernel_rfl) ?_
    refine sqQ.r ?_
    refine seqQ.r ?_
    exact fnQ.r' (X14 n) (fun z => (eB z)) h (RetOk.mk' (dB false) (by kernel_rfl) (by kernel_rfl))
  · refine Wp.cond (((a0.length : Int)) != ((a1.length : Int))) [0, 1, 4] (by kernel_rfl) 0 (by kernel_rfl) (subc [1, 0, 1, 0] C14) (subc [1, 0, 1, 1] C14) (by kernel_rfl) (by kernel_rfl) (fun e => nomatch (hb.symm.trans e)) (fun _ => ?_)
    refine Wp.skip (by kernel_rfl) ?_
    refine sqQ.n ⟨(dP eI a0) :: (dP eI a1) :: u2 ((dB false) :: u1 ((dP eI a0) :: (dI ((a0.length : Int))) :: (dP eI a1) :: (dI ((a1.length : Int))) :: (dB (((a0.length : Int)) != ((a1.length : Int)))) :: u15 [])), []⟩ (by kernel_rfl) ?_
    refine seqQ.n ?_
    refine Wp.seq (subc [1, 1, 0] C14) (subc [1, 1, 1] C14) (by kernel_rfl) ?_
    refine Wp.seq (subc [1, 1, 0, 0] C14) (subc [1, 1, 0, 1] C14) (by kernel_rfl) ?_
    refine Wp.region (by kernel_rfl) ?_
    refine Ops.seg 1 1 (by kernel_rfl) ⟨(dP eI a0) :: (dP eI a1) :: u2 ((dB false) :: u1 ((dP eI a0) :: (dI ((a0.length : Int))) :: (dP eI a1) :: (dI ((a1.length : Int))) :: (dB (((a0.length : Int)) != ((a1.length : Int)))) :: (dP eI a0) :: u14 [])), []⟩ (by kernel_rfl) ?_
    refine Ops.one 2 (by kernel_rfl) ((lenD (X14 n).E.T 23 (D.unt (dP eI a0))).map (·, [])) (dI ((a0.length : Int))) [] ⟨(dP eI a0) :: (dP eI a1) :: u2 ((dB false) :: u1 ((dP eI a0) :: (dI ((a0.length : Int))) :: (dP eI a1) :: (dI ((a1.length : Int))) :: (dB (((a0.length : Int)) != ((a1.length : Int)))) :: (dP eI a0) :: (dI ((a0.length : Int))) :: u13 [])), []⟩ (by kernel_rfl) (len_r _ 23 3 .plain eI a0 (by kernel_rfl)) (by kernel_rfl) ?_
    refine Ops.seg 1 3 (by kernel_rfl) ⟨(dP eI a0) :: (dP eI a1) :: u2 ((dB false) :: u1 ((dP eI a0) :: (dI ((a0.length : Int))) :: (dP eI a1) :: (dI ((a1.length : Int))) :: (dB (((a0.length : Int)) != ((a1.length : Int)))) :: (dP eI a0) :: (dI ((a0.length : Int))) :: (dI 0) :: u12 [])), []⟩ (by kernel_rfl) ?_
    refine Ops.done (by kernel_rfl) ?_
    refine seqQ.n ?_
    refine Wp.block (id := 0) [4] (by kernel_rfl) 0 (by kernel_rfl) (subc [1, 1, 0, 1, 0] C14) (by kernel_rfl) ?_
    have hLx18 : ∀ (kx8 : Nat) (v6 : Int)  (ox7 : Bool ⊕ (Int)), iter (fun (y : Int) => f14_B1 m a0 a1 y) kx8 v6 = some ox7 → ∀ nx9, kx8 ≤ nx9 → (∀ r, ox7 = .inl r → ∀ σ, RetOk (X14 n) (resOf Proofs.Try.prog 14) (eB r) σ → (seqQ (X14 n) (subc [1, 1, 1] C14) (fnQ (X14 n).E.T (resOf Proofs.Try.prog 14) (eB o))) .ret σ) → (∀ (y : Int) , ox7 = .inr y → (seqQ (X14 n) (subc [1, 1, 1] C14) (fnQ (X14 n).E.T (resOf Proofs.Try.prog 14) (eB o))) .normal ⟨(dP eI a0) :: (dP eI a1) :: q2 ((dB false) :: q7 ((dI ((a0.length : Int))) :: (dI y) :: q12 [])), []⟩) → Lp (X14 n) [0, 1, 4, 12, 13] 0 (subc [1, 1, 0, 1, 0, 0] C14) nx9 ⟨(dP eI a0) :: (dP eI a1) :: q2 ((dB false) :: q7 ((dI ((a0.length : Int))) :: (dI v6) :: q12 [])), []⟩ (blkQ (X14 n) 0 [4] 0 (seqQ (X14 n) (subc [1, 1, 1] C14) (fnQ (X14 n).E.T (resOf Proofs.Try.prog 14) (eB o)))) := by
      intro kx8
      induction kx8 with
      | zero => intro v6  ox7 h; exact (iter_zero h).elim
      | succ kx8 ihx10 =>
        intro v6  ox7 h nx9 hnx13 hrx11 hxx12
        obtain ⟨nx9, rfl⟩ : ∃ q, nx9 = q + 1 := ⟨nx9 - 1, by omega⟩
        obtain ⟨sx14, h, hsx15⟩ := iter_some h
        have h : f14_B1 m a0 a1 v6 = some sx14 := h
        unfold f14_B1 at h
        refine Lp.succ ?_
        refine Wp.seq (subc [1, 1, 0, 1, 0, 0, 0] C14) (subc [1, 1, 0, 1, 0, 0, 1] C14) (by kernel_rfl) ?_
        refine Wp.region (by kernel_rfl) ?_
        refine Ops.seg 1 1 (by kernel_rfl) ⟨(dP eI a0) :: (dP eI a1) :: q2 ((dB false) :: q7 ((dI ((a0.length : Int))) :: (dI v6) :: (dB (decide (v6 < (a0.length : Int)))) :: q11 [])), []⟩ (by kernel_rfl) ?_
        refine Ops.done (by kernel_rfl) ?_
        refine seqQ.n ?_
        refine Wp.seq (subc [1, 1, 0, 1, 0, 0, 1, 0] C14) (subc [1, 1, 0, 1, 0, 0, 1, 1] C14) (by kernel_rfl) ?_
        rcases cnd_some h with ⟨hb, h⟩ | ⟨hb, h⟩
        · refine Wp.cond (decide (v6 < (a0.length : Int))) [0, 1, 4, 12, 13] (by kernel_rfl) 0 (by kernel_rfl) (subc [1, 1, 0, 1, 0, 0, 1, 0, 0] C14) (subc [1, 1, 0, 1, 0, 0, 1, 0, 1] C14) (by kernel_rfl) (by kernel_rfl) (fun _ => ?_) (fun e => nomatch (hb.symm.trans e))
          refine Wp.skip (by kernel_rfl) ?_
          refine sqQ.n ⟨(dP eI a0) :: (dP eI a1) :: q2 ((dB false) :: q7 ((dI ((a0.length : Int))) :: (dI v6) :: (dB (decide (v6 < (a0.length : Int)))) :: q11 [])), []⟩ (by kernel_rfl) ?_
          refine seqQ.n ?_
          refine Wp.seq (subc [1, 1, 0, 1, 0, 0, 1, 1, 0] C14) (subc [1, 1, 0, 1, 0, 0, 1, 1, 1] C14) (by kernel_rfl) ?_
          refine Wp.block (id := 1) [0, 1, 4, 12, 13] (by kernel_rfl) 0 (by kernel_rfl) (subc [1, 1, 0, 1, 0, 0, 1, 1, 0, 0] C14) (by kernel_rfl) ?_
          refine Wp.seq (subc [1, 1, 0, 1, 0, 0, 1, 1, 0, 0, 0] C14) (subc [1, 1, 0, 1, 0, 0, 1, 1, 0, 0, 1] C14) (by kernel_rfl) ?_
          refine Wp.region (by kernel_rfl) ?_
          refine Ops.seg 2 2 (by kernel_rfl) ⟨(dP eI a0) :: (dP eI a1) :: q2 ((dB false) :: (dI v6) :: q6 ((dI ((a0.length : Int))) :: (dI v6) :: (dB (decide (v6 < (a0.length : Int)))) :: (dI v6) :: q10 [])), []⟩ (by kernel_rfl) ?_
          refine Ops.done (by kernel_rfl) ?_
          refine seqQ.n ?_
          refine Wp.seq (subc [1, 1, 0, 1, 0, 0, 1, 1, 0, 0, 1, 0] C14) (subc [1, 1, 0, 1, 0, 0, 1, 1, 0, 0, 1, 1] C14) (by kernel_rfl) ?_
          refine Wp.region (by kernel_rfl) ?_
          refine Ops.seg 2 2 (by kernel_rfl) ⟨(dP eI a0) :: (dP eI a1) :: q2 ((dB false) :: (dI v6) :: q6 ((dI ((a0.length : Int))) :: (dI v6) :: (dB (decide (v6 < (a0.length : Int)))) :: (dI v6) :: (dP eI a0) :: (dI v6) :: q8 [])), []⟩ (by kernel_rfl) ?_
          obtain ⟨v16, ev16, h⟩ := bnd_some h
          refine Ops.one 3 (by kernel_rfl) ((indexAddrH (X14 n).E.T [] 23 (D.unt (dP eI a0)) (dI v6)).map (·, [])) (.vptr [(vI v16)]) [] ⟨(dP eI a0) :: (dP eI a1) :: q2 ((dB false) :: (dI v6) :: q6 ((dI ((a0.length : Int))) :: (dI v6) :: (dB (decide (v6 < (a0.length : Int)))) :: (dI v6) :: (dP eI a0) :: (dI v6) :: (.vptr [(vI v16)]) :: q7 [])), []⟩ (by kernel_rfl) (ix_r _ 23 3 1 .plain eI a0 v6 v16 ev16 (by kernel_rfl) (by kernel_rfl) (fun _ => rfl)) (by kernel_rfl) ?_
          refine Ops.seg 3 6 (by kernel_rfl) ⟨(dP eI a0) :: (dP eI a1) :: q2 ((dB false) :: (dI v6) :: q6 ((dI ((a0.length : Int))) :: (dI v6) :: (dB (decide (v6 < (a0.length : Int)))) :: (dI v6) :: (dP eI a0) :: (dI v6) :: (.vptr [(vI v16)]) :: (dI v16) :: (dP eI a1) :: (dI v6) :: q4 [])), []⟩ (by kernel_rfl) ?_
          obtain ⟨v17, ev17, h⟩ := bnd_some h
          refine Ops.one 7 (by kernel_rfl) ((indexAddrH (X14 n).E.T [] 23 (D.unt (dP eI a1)) (dI v6)).map (·, [])) (.vptr [(vI v17)]) [] ⟨(dP eI a0) :: (dP eI a1) :: q2 ((dB false) :: (dI v6) :: q6 ((dI ((a0.length : Int))) :: (dI v6) :: (dB (decide (v6 < (a0.length : Int)))) :: (dI v6) :: (dP eI a0) :: (dI v6) :: (.vptr [(vI v16)]) :: (dI v16) :: (dP eI a1) :: (dI v6) :: (.vptr [(vI v17)]) :: q3 [])), []⟩ (by kernel_rfl) (ix_r _ 23 3 1 .plain eI a1 v6 v17 ev17 (by kernel_rfl) (by kernel_rfl) (fun _ => rfl)) (by kernel_rfl) ?_
          refine Ops.seg 2 9 (by kernel_rfl) ⟨(dP eI a0) :: (dP eI a1) :: q2 ((dB false) :: (dI v6) :: q6 ((dI ((a0.length : Int))) :: (dI v6) :: (dB (decide (v6 < (a0.length : Int)))) :: (dI v6) :: (dP eI a0) :: (dI v6) :: (.vptr [(vI v16)]) :: (dI v16) :: (dP eI a1) :: (dI v6) :: (.vptr [(vI v17)]) :: (dI v17) :: (dB (v16 != v17)) :: q1 [])), []⟩ (by kernel_rfl) ?_
          refine Ops.done (by kernel_rfl) ?_
          refine seqQ.n ?_
          rcases cnd_some h with ⟨hb, h⟩ | ⟨hb, h⟩
          · refine Wp.cond (v16 != v17) [0, 1, 4, 12, 13] (by kernel_rfl) 0 (by kernel_rfl) (subc [1, 1, 0, 1, 0, 0, 1, 1, 0, 0, 1, 1, 0] C14) (subc [1, 1, 0, 1, 0, 0, 1, 1, 0, 0, 1, 1, 1] C14) (by kernel_rfl) (by kernel_rfl) (fun _ => ?_) (fun e => nomatch (hb.symm.trans e))
            refine Wp.seq (subc [1, 1, 0, 1, 0, 0, 1, 1, 0, 0, 1, 1, 0, 0] C14) (subc [1, 1, 0, 1, 0, 0, 1, 1, 0, 0, 1, 1, 0, 1] C14) (by kernel_rfl) ?_
            refine Wp.region (by kernel_rfl) ?_
            refine Ops.seg 1 1 (by kernel_rfl) ⟨(dP eI a0) :: (dP eI a1) :: q2 ((dB false) :: (dI v6) :: q6 ((dI ((a0.length : Int))) :: (dI v6) :: (dB (decide (v6 < (a0.length : Int)))) :: (dI v6) :: (dP eI a0) :: (dI v6) :: (.vptr [(vI v16)]) :: (dI v16) :: (dP eI a1) :: (dI v6) :: (.vptr [(vI v17)]) :: (dI v17) :: (dB (v16 != v17)) :: q1 [])), []⟩ (by kernel_rfl) ?_
            refine Ops.done (by kernel_rfl) ?_
            refine seqQ.n ?_
            refine Wp.ret (by kernel_rfl) ?_
            refine sqQ.r ?_
            refine blkQ.r ?_
            refine seqQ.r ?_
            cases h
            refine lpQ.r ?_
            refine blkQ.r ?_
            exact hrx11 _ hsx15 _ (RetOk.forget [0, 1, 4, 12, 13] (by kernel_rfl) (RetOk.mk' (dB false) (by kernel_rfl) (by kernel_rfl)))
          · refine Wp.cond (v16 != v17) [0, 1, 4, 12, 13] (by kernel_rfl) 0 (by kernel_rfl) (subc [1, 1, 0, 1, 0, 0, 1, 1, 0, 0, 1, 1, 0] C14) (subc [1, 1, 0, 1, 0, 0, 1, 1, 0, 0, 1, 1, 1] C14) (by kernel_rfl) (by kernel_rfl) (fun e => nomatch (hb.symm.trans e)) (fun _ => ?_)
            refine Wp.skip (by kernel_rfl) ?_
            refine sqQ.n ⟨(dP eI a0) :: (dP eI a1) :: q2 ((dB false) :: (dI v6) :: q6 ((dI ((a0.length : Int))) :: (dI v6) :: (dB (decide (v6 < (a0.length : Int)))) :: (dI v6) :: (dP eI a0) :: (dI v6) :: (.vptr [(vI v16)]) :: (dI v16) :: (dP eI a1) :: (dI v6) :: (.vptr [(vI v17)]) :: (dI v17) :: (dB (v16 != v17)) :: q1 [])), []⟩ (by kernel_rfl) ?_
            refine blkQ.n ⟨(dP eI a0) :: (dP eI a1) :: q2 ((dB false) :: (dI v6) :: q6 ((dI ((a0.length : Int))) :: (dI v6) :: (dB (decide (v6 < (a0.length : Int)))) :: (dI v6) :: (dP eI a0) :: (dI v6) :: (.vptr [(vI v16)]) :: (dI v16) :: (dP eI a1) :: (dI v6) :: (.vptr [(vI v17)]) :: (dI v17) :: (dB (v16 != v17)) :: q1 [])), []⟩ (by kernel_rfl) ?_
            refine seqQ.n ?_
            refine Wp.region (by kernel_rfl) ?_
            refine Ops.seg 2 2 (by kernel_rfl) ⟨(dP eI a0) :: (dP eI a1) :: q2 ((dB false) :: (dI v6) :: q6 ((dI ((a0.length : Int))) :: (dI (w64 (v6 + 1))) :: (dB (decide (v6 < (a0.length : Int)))) :: (dI v6) :: (dP eI a0) :: (dI v6) :: (.vptr [(vI v16)]) :: (dI v16) :: (dP eI a1) :: (dI v6) :: (.vptr [(vI v17)]) :: (dI v17) :: (dB (v16 != v17)) :: (dI (w64 (v6 + 1))) :: [])), []⟩ (by kernel_rfl) ?_
            refine Ops.done (by kernel_rfl) ?_
            refine lpQ.n ⟨(dP eI a0) :: (dP eI a1) :: q2 ((dB false) :: q7 ((dI ((a0.length : Int))) :: (dI (w64 (v6 + 1))) :: q12 [])), []⟩ (by kernel_rfl) ?_
            cases h
            exact ihx10 (w64 (v6 + 1))  _ hsx15 _ (by omega) hrx11 hxx12
        · refine Wp.cond (decide (v6 < (a0.length : Int))) [0, 1, 4, 12, 13] (by kernel_rfl) 0 (by kernel_rfl) (subc [1, 1, 0, 1, 0, 0, 1, 0, 0] C14) (subc [1, 1, 0, 1, 0, 0, 1, 0, 1] C14) (by kernel_rfl) (by kernel_rfl) (fun e => nomatch (hb.symm.trans e)) (fun _ => ?_)
          refine Wp.exit (id := 0) (by kernel_rfl) ?_
          refine sqQ.x ?_
          refine seqQ.x ?_
          cases h
          refine lpQ.x ?_
          refine blkQ.x ⟨(dP eI a0) :: (dP eI a1) :: q2 ((dB false) :: q7 ((dI ((a0.length : Int))) :: (dI v6) :: q12 [])), []⟩ (by kernel_rfl) ?_
          exact hxx12 v6  hsx15
    refine Wp.loop [0, 1, 4, 12, 13] 0 (by kernel_rfl) (subc [1, 1, 0, 1, 0, 0] C14) (by kernel_rfl) (by kernel_rfl) ⟨(dP eI a0) :: (dP eI a1) :: q2 ((dB false) :: q7 ((dI ((a0.length : Int))) :: (dI 0) :: q12 [])), []⟩ (by kernel_rfl) ?_
    rcases brk_some h with ⟨r20, er20, h⟩ | ⟨y19, ey19, h⟩
    · refine hLx18 _ 0  _ er20 n (by omega) (fun r er σ hσ => ?_) (fun y  ey => by cases ey)
      cases er
      refine seqQ.r ?_
      exact fnQ.r' (X14 n) (fun z => (eB z)) h hσ
    · refine hLx18 _ 0  _ ey19 n (by omega) (fun r er => by cases er) (fun y  ey => ?_)
      cases ey
      refine seqQ.n ?_
      refine Wp.seq (subc [1, 1, 1, 0] C14) (subc [1, 1, 1, 1] C14) (by kernel_rfl) ?_
      refine Wp.region (by kernel_rfl) ?_
      refine Ops.seg 1 1 (by kernel_rfl) ⟨(dP eI a0) :: (dP eI a1) :: q2 ((dB true) :: q7 ((dI ((a0.length : Int))) :: (dI y19) :: q12 [])), []⟩ (by kernel_rfl) ?_
      refine Ops.done (by kernel_rfl) ?_
      refine seqQ.n ?_
      refine Wp.ret (by kernel_rfl) ?_
      exact fnQ.r' (X14 n) (fun z => (eB z)) h (RetOk.mk' (dB true) (by kernel_rfl) (by kernel_rfl))

/-! ### 10 glosswright/glosswrightlaw6.applied -/
def f10_r1 (m : Nat) (v8 : Bool) : Option Bool :=
  some v8
def f10 (m : Nat)  : Option Bool :=
  bnd (f12 m ([(⟨[97], [98], [99], []⟩ : S28)]) ([97, 99, 97])) fun v1 =>
  bnd (cnd (((v1.2.fCode == 0) && ((v1.2.fIndex == 0) && true)))
  (bnd (f14 m v1.1 ([97, 99, 98])) fun v10 =>
  some v10)
  (some false)) fun v8 =>
  f10_r1 m v8
noncomputable abbrev X10 (n : Nat) : Cx := cxOf Proofs.Try.prog E 10 n
noncomputable def C10 : Code := bodyOf Proofs.Try.prog 10
theorem ok10 (m : Nat)  (o : Bool) (h : f10 m  = some o) (n : Nat) (hn : m + 5 ≤ n) : Fn Proofs.Try.prog E n 10 [] (eB o) := by
  obtain ⟨n, rfl⟩ : ∃ q, n = q + 1 := ⟨n - 1, by omega⟩
  unfold f10 at h
  refine Fn.of (by kernel_rfl) (by kernel_rfl) ⟨u21 [], []⟩ (by kernel_rfl) ?_
  refine Wp.seq (subc [0] C10) (subc [1] C10) (by kernel_rfl) ?_
  refine Wp.region (by kernel_rfl) ?_
  refine Ops.seg 1 1 (by kernel_rfl) ⟨(dB false) :: u20 [], []⟩ (by kernel_rfl) ?_
  refine Ops.done (by kernel_rfl) ?_
  refine seqQ.n ?_
  refine Wp.seq (subc [1, 0] C10) (subc [1, 1] C10) (by kernel_rfl) ?_
  refine Wp.region (by kernel_rfl) ?_
  refine Ops.seg 6 6 (by kernel_rfl) ⟨(dB false) :: u3 ((.v (.sl .nonfull (List.map eI [97]))) :: (.v (.sl .nonfull (List.map eI [98]))) :: (.v (.sl .nonfull (List.map eI [99]))) :: (.v (.agg [(.sl .nonfull (List.map eI [97])), (.sl .nonfull (List.map eI [98])), (.sl .nonfull (List.map eI [99])), (.sl .nil (List.map eI []))])) :: (.v (.sl .nonfull (List.map e28 ([(⟨[97], [98], [99], []⟩ : S28)])))) :: (.v (.sl .nonfull (List.map eI ([97, 99, 97])))) :: u11 []), []⟩ (by kernel_rfl) ?_
  obtain ⟨v1, ev1, h⟩ := bnd_some h
  refine Ops.one 7 (by kernel_rfl) (callD (X10 n).E (run Proofs.Try.prog E n) 12 [(.v (.sl .nonfull (List.map e28 ([(⟨[97], [98], [99], []⟩ : S28)])))), (.v (.sl .nonfull (List.map eI ([97, 99, 97]))))] []) (.v (.tuple [(vP eI v1.1), (.agg [(vI v1.2.fCode), (vI v1.2.fIndex)])])) [] ⟨(dB false) :: u3 ((.v (.sl .nonfull (List.map eI [97]))) :: (.v (.sl .nonfull (List.map eI [98]))) :: (.v (.sl .nonfull (List.map eI [99]))) :: (.v (.agg [(.sl .nonfull (List.map eI [97])), (.sl .nonfull (List.map eI [98])), (.sl .nonfull (List.map eI [99])), (.sl .nil (List.map eI []))])) :: (.v (.sl .nonfull (List.map e28 ([(⟨[97], [98], [99], []⟩ : S28)])))) :: (.v (.sl .nonfull (List.map eI ([97, 99, 97])))) :: (.v (.tuple [(vP eI v1.1), (.agg [(vI v1.2.fCode), (vI v1.2.fIndex)])])) :: u10 []), []⟩ (by kernel_rfl) (call_ok (by kernel_rfl) (Args.v (.sl .nonfull (List.map e28 ([(⟨[97], [98], [99], []⟩ : S28)]))) ((eL e28) ([(⟨[97], [98], [99], []⟩ : S28)])) (by kernel_rfl) (Args.v (.sl .nonfull (List.map eI ([97, 99, 97]))) ((eL eI) ([97, 99, 97])) (by kernel_rfl) Args.nil)) (ok12 m ([(⟨[97], [98], [99], []⟩ : S28)]) ([97, 99, 97]) v1 ev1 n (by omega))) (by kernel_rfl) ?_
  refine Ops.seg 6 13 (by kernel_rfl) ⟨(dB false) :: (dP eI v1.1) :: (.ptr 0 0) :: (.v (.tuple [(vP eI v1.1), (.agg [(vI v1.2.fCode), (vI v1.2.fIndex)])])) :: (.v (.sl .nonfull (List.map eI [97]))) :: (.v (.sl .nonfull (List.map eI [98]))) :: (.v (.sl .nonfull (List.map eI [99]))) :: (.v (.agg [(.sl .nonfull (List.map eI [97])), (.sl .nonfull (List.map eI [98])), (.sl .nonfull (List.map eI [99])), (.sl .nil (List.map eI []))])) :: (.v (.sl .nonfull (List.map e28 ([(⟨[97], [98], [99], []⟩ : S28)])))) :: (.v (.sl .nonfull (List.map eI ([97, 99, 97])))) :: (.v (.tuple [(vP eI v1.1), (.agg [(vI v1.2.fCode), (vI v1.2.fIndex)])])) :: (dP eI v1.1) :: (.v (.agg [(vI v1.2.fCode), (vI v1.2.fIndex)])) :: u8 [], [(.cells [(dI v1.2.fCode), (dI v1.2.fIndex)])]⟩ (by kernel_rfl) ?_
  refine Ops.done (by kernel_rfl) ?_
  refine seqQ.n ?_
  refine Wp.seq (subc [1, 1, 0] C10) (subc [1, 1, 1] C10) (by kernel_rfl) ?_
  refine Wp.region (by kernel_rfl) ?_
  refine Ops.seg 4 4 (by kernel_rfl) ⟨(dB false) :: (dP eI v1.1) :: (.ptr 0 0) :: (.v (.tuple [(vP eI v1.1), (.agg [(vI v1.2.fCode), (vI v1.2.fIndex)])])) :: (.v (.sl .nonfull (List.map eI [97]))) :: (.v (.sl .nonfull (List.map eI [98]))) :: (.v (.sl .nonfull (List.map eI [99]))) :: (.v (.agg [(.sl .nonfull (List.map eI [97])), (.sl .nonfull (List.map eI [98])), (.sl .nonfull (List.map eI [99])), (.sl .nil (List.map eI []))])) :: (.v (.sl .nonfull (List.map e28 ([(⟨[97], [98], [99], []⟩ : S28)])))) :: (.v (.sl .nonfull (List.map eI ([97, 99, 97])))) :: (.v (.tuple [(vP eI v1.1), (.agg [(vI v1.2.fCode), (vI v1.2.fIndex)])])) :: (dP eI v1.1) :: (.v (.agg [(vI v1.2.fCode), (vI v1.2.fIndex)])) :: (.v (.agg [(vI v1.2.fCode), (vI v1.2.fIndex)])) :: (.v (.agg [(vI 0), (vI 0)])) :: (dB (((v1.2.fCode == 0) && ((v1.2.fIndex == 0) && true)))) :: (dB (((v1.2.fCode == 0) && ((v1.2.fIndex == 0) && true)))) :: u4 [], [(.cells [(dI v1.2.fCode), (dI v1.2.fIndex)])]⟩ (by kernel_rfl) ?_
  have J10j9 : ∀ (d4 d5 d6 : D) (v7 : Bool) (v8 : Bool), f10_r1 m v8 = some o → Ops (X10 n) (opl (subc [1, 1, 0] C10)) 8 ⟨(dB false) :: (dP eI v1.1) :: (.ptr 0 0) :: (.v (.tuple [(vP eI v1.1), (.agg [(vI v1.2.fCode), (vI v1.2.fIndex)])])) :: (.v (.sl .nonfull (List.map eI [97]))) :: (.v (.sl .nonfull (List.map eI [98]))) :: (.v (.sl .nonfull (List.map eI [99]))) :: (.v (.agg [(.sl .nonfull (List.map eI [97])), (.sl .nonfull (List.map eI [98])), (.sl .nonfull (List.map eI [99])), (.sl .nil (List.map eI []))])) :: (.v (.sl .nonfull (List.map e28 ([(⟨[97], [98], [99], []⟩ : S28)])))) :: (.v (.sl .nonfull (List.map eI ([97, 99, 97])))) :: (.v (.tuple [(vP eI v1.1), (.agg [(vI v1.2.fCode), (vI v1.2.fIndex)])])) :: (dP eI v1.1) :: (.v (.agg [(vI v1.2.fCode), (vI v1.2.fIndex)])) :: (.v (.agg [(vI v1.2.fCode), (vI v1.2.fIndex)])) :: (.v (.agg [(vI 0), (vI 0)])) :: (dB v7) :: (dB v7) :: d4 :: d5 :: d6 :: (dB v8) :: [], [(.cells [(dI v1.2.fCode), (dI v1.2.fIndex)])]⟩ ((seqQ (X10 n) (subc [1, 1, 1] C10) (fnQ (X10 n).E.T (resOf Proofs.Try.prog 10) (eB o))) .normal) := by
    intro d4 d5 d6 v7 v8 h
    unfold f10_r1 at h
    refine Ops.seg 1 9 (by kernel_rfl) ⟨(dB v8) :: (dP eI v1.1) :: (.ptr 0 0) :: (.v (.tuple [(vP eI v1.1), (.agg [(vI v1.2.fCode), (vI v1.2.fIndex)])])) :: (.v (.sl .nonfull (List.map eI [97]))) :: (.v (.sl .nonfull (List.map eI [98]))) :: (.v (.sl .nonfull (List.map eI [99]))) :: (.v (.agg [(.sl .nonfull (List.map eI [97])), (.sl .nonfull (List.map eI [98])), (.sl .nonfull (List.map eI [99])), (.sl .nil (List.map eI []))])) :: (.v (.sl .nonfull (List.map e28 ([(⟨[97], [98], [99], []⟩ : S28)])))) :: (.v (.sl .nonfull (List.map eI ([97, 99, 97])))) :: (.v (.tuple [(vP eI v1.1), (.agg [(vI v1.2.fCode), (vI v1.2.fIndex)])])) :: (dP eI v1.1) :: (.v (.agg [(vI v1.2.fCode), (vI v1.2.fIndex)])) :: (.v (.agg [(vI v1.2.fCode), (vI v1.2.fIndex)])) :: (.v (.agg [(vI 0), (vI 0)])) :: (dB v7) :: (dB v7) :: d4 :: d5 :: d6 :: (dB v8) :: [], [(.cells [(dI v1.2.fCode), (dI v1.2.fIndex)])]⟩ (by kernel_rfl) ?_
    refine Ops.done (by kernel_rfl) ?_
    refine seqQ.n ?_
    refine Wp.ret (by kernel_rfl) ?_
    exact fnQ.r' (X10 n) (fun z => (eB z)) h (RetOk.mk' (dB v8) (by kernel_rfl) (by kernel_rfl))
  obtain ⟨v8, ev8, h⟩ := bnd_some h
  have G10g3 : ∀ v2 : Bool, (cnd v2 (bnd (f14 m v1.1 ([97, 99, 98])) fun v10 => some v10) (some false)) = some v8 → Ops (X10 n) (opl (subc [1, 1, 0] C10)) 4 ⟨(dB false) :: (dP eI v1.1) :: (.ptr 0 0) :: (.v (.tuple [(vP eI v1.1), (.agg [(vI v1.2.fCode), (vI v1.2.fIndex)])])) :: (.v (.sl .nonfull (List.map eI [97]))) :: (.v (.sl .nonfull (List.map eI [98]))) :: (.v (.sl .nonfull (List.map eI [99]))) :: (.v (.agg [(.sl .nonfull (List.map eI [97])), (.sl .nonfull (List.map eI [98])), (.sl .nonfull (List.map eI [99])), (.sl .nil (List.map eI []))])) :: (.v (.sl .nonfull (List.map e28 ([(⟨[97], [98], [99], []⟩ : S28)])))) :: (.v (.sl .nonfull (List.map eI ([97, 99, 97])))) :: (.v (.tuple [(vP eI v1.1), (.agg [(vI v1.2.fCode), (vI v1.2.fIndex)])])) :: (dP eI v1.1) :: (.v (.agg [(vI v1.2.fCode), (vI v1.2.fIndex)])) :: (.v (.agg [(vI v1.2.fCode), (vI v1.2.fIndex)])) :: (.v (.agg [(vI 0), (vI 0)])) :: (dB v2) :: (dB v2) :: u4 [], [(.cells [(dI v1.2.fCode), (dI v1.2.fIndex)])]⟩ ((seqQ (X10 n) (subc [1, 1, 1] C10) (fnQ (X10 n).E.T (resOf Proofs.Try.prog 10) (eB o))) .normal) := by
    intro v2 ev8
    cases v2
    · have ev8 := cnd_f ev8
      refine Ops.seg 4 8 (by kernel_rfl) ⟨(dB false) :: (dP eI v1.1) :: (.ptr 0 0) :: (.v (.tuple [(vP eI v1.1), (.agg [(vI v1.2.fCode), (vI v1.2.fIndex)])])) :: (.v (.sl .nonfull (List.map eI [97]))) :: (.v (.sl .nonfull (List.map eI [98]))) :: (.v (.sl .nonfull (List.map eI [99]))) :: (.v (.agg [(.sl .nonfull (List.map eI [97])), (.sl .nonfull (List.map eI [98])), (.sl .nonfull (List.map eI [99])), (.sl .nil (List.map eI []))])) :: (.v (.sl .nonfull (List.map e28 ([(⟨[97], [98], [99], []⟩ : S28)])))) :: (.v (.sl .nonfull (List.map eI ([97, 99, 97])))) :: (.v (.tuple [(vP eI v1.1), (.agg [(vI v1.2.fCode), (vI v1.2.fIndex)])])) :: (dP eI v1.1) :: (.v (.agg [(vI v1.2.fCode), (vI v1.2.fIndex)])) :: (.v (.agg [(vI v1.2.fCode), (vI v1.2.fIndex)])) :: (.v (.agg [(vI 0), (vI 0)])) :: (dB false) :: (dB false) :: u3 ((dB false) :: []), [(.cells [(dI v1.2.fCode), (dI v1.2.fIndex)])]⟩ (by kernel_rfl) ?_
      exact J10j9 _ _ _ _ _ (some_sub (fun v8 => f10_r1 m v8 = some o) ev8 h)
    · have ev8 := cnd_t ev8
      refine Ops.seg 2 6 (by kernel_rfl) ⟨(dB false) :: (dP eI v1.1) :: (.ptr 0 0) :: (.v (.tuple [(vP eI v1.1), (.agg [(vI v1.2.fCode), (vI v1.2.fIndex)])])) :: (.v (.sl .nonfull (List.map eI [97]))) :: (.v (.sl .nonfull (List.map eI [98]))) :: (.v (.sl .nonfull (List.map eI [99]))) :: (.v (.agg [(.sl .nonfull (List.map eI [97])), (.sl .nonfull (List.map eI [98])), (.sl .nonfull (List.map eI [99])), (.sl .nil (List.map eI []))])) :: (.v (.sl .nonfull (List.map e28 ([(⟨[97], [98], [99], []⟩ : S28)])))) :: (.v (.sl .nonfull (List.map eI ([97, 99, 97])))) :: (.v (.tuple [(vP eI v1.1), (.agg [(vI v1.2.fCode), (vI v1.2.fIndex)])])) :: (dP eI v1.1) :: (.v (.agg [(vI v1.2.fCode), (vI v1.2.fIndex)])) :: (.v (.agg [(vI v1.2.fCode), (vI v1.2.fIndex)])) :: (.v (.agg [(vI 0), (vI 0)])) :: (dB true) :: (dB true) :: (dP eI v1.1) :: (.v (.sl .nonfull (List.map eI ([97, 99, 98])))) :: u2 [], [(.cells [(dI v1.2.fCode), (dI v1.2.fIndex)])]⟩ (by kernel_rfl) ?_
      obtain ⟨v10, ev10, ev8⟩ := bnd_some ev8
      refine Ops.one 7 (by kernel_rfl) (callD (X10 n).E (run Proofs.Try.prog E n) 14 [(dP eI v1.1), (.v (.sl .nonfull (List.map eI ([97, 99, 98]))))] [(.cells [(dI v1.2.fCode), (dI v1.2.fIndex)])]) (dB v10) [(.cells [(dI v1.2.fCode), (dI v1.2.fIndex)])] ⟨(dB false) :: (dP eI v1.1) :: (.ptr 0 0) :: (.v (.tuple [(vP eI v1.1), (.agg [(vI v1.2.fCode), (vI v1.2.fIndex)])])) :: (.v (.sl .nonfull (List.map eI [97]))) :: (.v (.sl .nonfull (List.map eI [98]))) :: (.v (.sl .nonfull (List.map eI [99]))) :: (.v (.agg [(.sl .nonfull (List.map eI [97])), (.sl .nonfull (List.map eI [98])), (.sl .nonfull (List.map eI [99])), (.sl .nil (List.map eI []))])) :: (.v (.sl .nonfull (List.map e28 ([(⟨[97], [98], [99], []⟩ : S28)])))) :: (.v (.sl .nonfull (List.map eI ([97, 99, 97])))) :: (.v (.tuple [(vP eI v1.1), (.agg [(vI v1.2.fCode), (vI v1.2.fIndex)])])) :: (dP eI v1.1) :: (.v (.agg [(vI v1.2.fCode), (vI v1.2.fIndex)])) :: (.v (.agg [(vI v1.2.fCode), (vI v1.2.fIndex)])) :: (.v (.agg [(vI 0), (vI 0)])) :: (dB true) :: (dB true) :: (dP eI v1.1) :: (.v (.sl .nonfull (List.map eI ([97, 99, 98])))) :: (dB v10) :: u1 [], [(.cells [(dI v1.2.fCode), (dI v1.2.fIndex)])]⟩ (by kernel_rfl) (call_ok (by kernel_rfl) (Args.v (vP eI v1.1) ((eL eI) v1.1) (by kernel_rfl) (Args.v (.sl .nonfull (List.map eI ([97, 99, 98]))) ((eL eI) ([97, 99, 98])) (by kernel_rfl) Args.nil)) (ok14 m v1.1 ([97, 99, 98]) v10 ev10 n (by omega))) (by kernel_rfl) ?_
      refine Ops.seg 1 8 (by kernel_rfl) ⟨(dB false) :: (dP eI v1.1) :: (.ptr 0 0) :: (.v (.tuple [(vP eI v1.1), (.agg [(vI v1.2.fCode), (vI v1.2.fIndex)])])) :: (.v (.sl .nonfull (List.map eI [97]))) :: (.v (.sl .nonfull (List.map eI [98]))) :: (.v (.sl .nonfull (List.map eI [99]))) :: (.v (.agg [(.sl .nonfull (List.map eI [97])), (.sl .nonfull (List.map eI [98])), (.sl .nonfull (List.map eI [99])), (.sl .nil (List.map eI []))])) :: (.v (.sl .nonfull (List.map e28 ([(⟨[97], [98], [99], []⟩ : S28)])))) :: (.v (.sl .nonfull (List.map eI ([97, 99, 97])))) :: (.v (.tuple [(vP eI v1.1), (.agg [(vI v1.2.fCode), (vI v1.2.fIndex)])])) :: (dP eI v1.1) :: (.v (.agg [(vI v1.2.fCode), (vI v1.2.fIndex)])) :: (.v (.agg [(vI v1.2.fCode), (vI v1.2.fIndex)])) :: (.v (.agg [(vI 0), (vI 0)])) :: (dB true) :: (dB true) :: (dP eI v1.1) :: (.v (.sl .nonfull (List.map eI ([97, 99, 98])))) :: (dB v10) :: (dB v10) :: [], [(.cells [(dI v1.2.fCode), (dI v1.2.fIndex)])]⟩ (by kernel_rfl) ?_
      exact J10j9 _ _ _ _ _ (some_sub (fun v8 => f10_r1 m v8 = some o) ev8 h)
  exact G10g3 (((v1.2.fCode == 0) && ((v1.2.fIndex == 0) && true))) ev8

/-! ### 29 glosswright/glosswrightref6.fault -/
def f29 (m : Nat) (a0 : Int) (a1 : Int) : Option S25 :=
  some ((⟨a0, a1⟩ : S25))
noncomputable abbrev X29 (n : Nat) : Cx := cxOf Proofs.Try.prog E 29 n
noncomputable def C29 : Code := bodyOf Proofs.Try.prog 29
theorem ok29 (m : Nat) (a0 : Int) (a1 : Int) (o : S25) (h : f29 m a0 a1 = some o) (n : Nat) (hn : m + 1 ≤ n) : Fn Proofs.Try.prog E n 29 [eI a0, eI a1] (e25 o) := by
  obtain ⟨n, rfl⟩ : ∃ q, n = q + 1 := ⟨n - 1, by omega⟩
  unfold f29 at h
  refine Fn.of (by kernel_rfl) (by kernel_rfl) ⟨(dI a0) :: (dI a1) :: u6 [], []⟩ (by kernel_rfl) ?_
  refine Wp.seq (subc [0] C29) (subc [1] C29) (by kernel_rfl) ?_
  refine Wp.region (by kernel_rfl) ?_
  refine Ops.seg 1 1 (by kernel_rfl) ⟨(dI a0) :: (dI a1) :: u2 ((.ptr 0 0) :: u3 []), [(.cells [(dI 0), (dI 0)])]⟩ (by kernel_rfl) ?_
  refine Ops.done (by kernel_rfl) ?_
  refine seqQ.n ?_
  refine Wp.seq (subc [1, 0] C29) (subc [1, 1] C29) (by kernel_rfl) ?_
  refine Wp.region (by kernel_rfl) ?_
  refine Ops.seg 4 4 (by kernel_rfl) ⟨(dI a0) :: (dI a1) :: u2 ((.ptr 0 0) :: (dI a0) :: (dI a1) :: (.v (.agg [(vI a0), (vI a1)])) :: []), [(.cells [(dI a0), (dI a1)])]⟩ (by kernel_rfl) ?_
  refine Ops.done (by kernel_rfl) ?_
  refine seqQ.n ?_
  refine Wp.ret (by kernel_rfl) ?_
  exact fnQ.r' (X29 n) (fun z => (e25 z)) h (RetOk.mk' (.v (.agg [(vI a0), (vI a1)])) (by kernel_rfl) (by kernel_rfl))

end Go.Abs
