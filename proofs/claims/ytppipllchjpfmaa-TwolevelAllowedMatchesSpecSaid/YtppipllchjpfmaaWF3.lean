import Derived.Test.YtppipllchjpfmaaWF2
namespace Go.Abs
set_option linter.unusedVariables false
set_option maxRecDepth 100000

/-! ### 36 glosswright/glosswrightref6.ruleFault -/
def f36_B1 (m : Nat) (v267 : (List S39)) (v273 : Int) : Option (Stp Int (Int)) :=
  cnd (decide (v273 < (v267.length : Int)))
  (bnd (idx v267 v273) fun v283 =>
  bnd (f37 m v283 ((-1))) fun v284 =>
  cnd (v284 != 0)
  (some (.ret v284))
  (some (.nxt (w64 (v273 + 1)))))
  (some (.brk v273))
def f36_B2 (m : Nat) (v204 : S64) (v257 : Int) : Option (Stp Int (Int)) :=
  cnd (decide (v257 < (([v204.fLeft, v204.fRight]).length : Int)))
  (bnd (idx ([v204.fLeft, v204.fRight]) v257) fun v267 =>
  brk (iter (fun (y : Int) => f36_B1 m v267 y) m 0) (fun r => some (.ret r)) fun y286 =>
  some (.nxt (w64 (v257 + 1))))
  (some (.brk v257))
def f36_r3 (m : Nat) (v194 : Int) (v204 : S64) (v212 : Bool) : Option (Stp Int (Int)) :=
  cnd v212
  (some (.ret 9))
  (brk (iter (fun (y : Int) => f36_B2 m v204 y) m 0) (fun r => some (.ret r)) fun y289 =>
  some (.nxt (w64 (v194 + 1))))
def f36_B4 (m : Nat) (a0 : S42) (v194 : Int) : Option (Stp Int (Int)) :=
  cnd (decide (v194 < (a0.fContexts.length : Int)))
  (bnd (idx a0.fContexts v194) fun v204 =>
  f36_r3 m v194 v204 (((decide ((v204.fLeft.length : Int) > 3)) || (decide ((v204.fRight.length : Int) > 3)))))
  (some (.brk v194))
def f36_r5 (m : Nat) (a0 : S42) (v17 : Bool) : Option Int :=
  cnd v17
  (some 9)
  (brk (iter (fun (y : Int) => f36_B4 m a0 y) m 0) some fun y292 =>
  some 0)
def f36_r6 (m : Nat) (a0 : S42) (v7 : Bool) : Option Int :=
  cnd v7
  (some 4)
  (bnd (f37 m a0.fPair 0) fun v9 =>
  cnd (v9 != 0)
  (some v9)
  (f36_r5 m a0 (((decide ((a0.fContexts.length : Int) < 1)) || (decide ((a0.fContexts.length : Int) > 3))))))
def f36 (m : Nat) (a0 : S42) : Option Int :=
  f36_r6 m a0 (((decide (a0.fKind < 1)) || (decide (a0.fKind > 4))))
noncomputable abbrev X36 (n : Nat) : Cx := cxOf Proofs.Try.prog E 36 n
noncomputable def C36 : Code := bodyOf Proofs.Try.prog 36
theorem ok36 (m : Nat) (a0 : S42) (o : Int) (h : f36 m a0 = some o) (n : Nat) (hn : m + 2 ≤ n) : Fn Proofs.Try.prog E n 36 [e42 a0] (eI o) := by
  obtain ⟨n, rfl⟩ : ∃ q, n = q + 1 := ⟨n - 1, by omega⟩
  unfold f36 at h
  refine Fn.of (by kernel_rfl) (by kernel_rfl) ⟨(.v (.agg [(vI a0.fKind), (vI a0.fPair.fLexical), (vI a0.fPair.fSurface), (vP e64 a0.fContexts)])) :: u40 (u35 []), []⟩ (by kernel_rfl) ?_
  refine Wp.seq (subc [0] C36) (subc [1] C36) (by kernel_rfl) ?_
  refine Wp.region (by kernel_rfl) ?_
  refine Ops.seg 2 2 (by kernel_rfl) ⟨(.v (.agg [(vI a0.fKind), (vI a0.fPair.fLexical), (vI a0.fPair.fSurface), (vP e64 a0.fContexts)])) :: (.ptr 0 0) :: (dI 0) :: u40 (u33 []), [(.cells [(dI a0.fKind), (dI a0.fPair.fLexical), (dI a0.fPair.fSurface), (dP e64 a0.fContexts)])]⟩ (by kernel_rfl) ?_
  refine Ops.done (by kernel_rfl) ?_
  refine seqQ.n ?_
  refine Wp.seq (subc [1, 0] C36) (subc [1, 1] C36) (by kernel_rfl) ?_
  refine Wp.seq (subc [1, 0, 0] C36) (subc [1, 0, 1] C36) (by kernel_rfl) ?_
  refine Wp.region (by kernel_rfl) ?_
  refine Ops.seg 4 4 (by kernel_rfl) ⟨(.v (.agg [(vI a0.fKind), (vI a0.fPair.fLexical), (vI a0.fPair.fSurface), (vP e64 a0.fContexts)])) :: (.ptr 0 0) :: (dI 0) :: u8 ((.ptr 0 0) :: (dI a0.fKind) :: (dB (decide (a0.fKind < 1))) :: (dB (decide (a0.fKind < 1))) :: u40 (u21 [])), [(.cells [(dI a0.fKind), (dI a0.fPair.fLexical), (dI a0.fPair.fSurface), (dP e64 a0.fContexts)])]⟩ (by kernel_rfl) ?_
  have J36j8 : ∀ (d3 d4 d5 : D) (v6 : Bool) (v7 : Bool), f36_r6 m a0 v7 = some o → Ops (X36 n) (opl (subc [1, 0, 0] C36)) 8 ⟨(.v (.agg [(vI a0.fKind), (vI a0.fPair.fLexical), (vI a0.fPair.fSurface), (vP e64 a0.fContexts)])) :: (.ptr 0 0) :: (dI 0) :: u8 ((.ptr 0 0) :: (dI a0.fKind) :: (dB v6) :: (dB v6) :: d3 :: d4 :: d5 :: (dB v7) :: u40 (u17 [])), [(.cells [(dI a0.fKind), (dI a0.fPair.fLexical), (dI a0.fPair.fSurface), (dP e64 a0.fContexts)])]⟩ ((seqQ (X36 n) (subc [1, 0, 1] C36) (seqQ (X36 n) (subc [1, 1] C36) (fnQ (X36 n).E.T (resOf Proofs.Try.prog 36) (eI o)))) .normal) := by
    intro d3 d4 d5 v6 v7 h
    unfold f36_r6 at h
    refine Ops.done (by kernel_rfl) ?_
    refine seqQ.n ?_
    rcases cnd_some h with ⟨hb, h⟩ | ⟨hb, h⟩
    · refine Wp.cond v7 [1, 2] (by kernel_rfl) 1 (by kernel_rfl) (subc [1, 0, 1, 0] C36) (subc [1, 0, 1, 1] C36) (by kernel_rfl) (by kernel_rfl) (fun _ => ?_) (fun e => nomatch (hb.symm.trans e))
      refine Wp.seq (subc [1, 0, 1, 0, 0] C36) (subc [1, 0, 1, 0, 1] C36) (by kernel_rfl) ?_
      refine Wp.region (by kernel_rfl) ?_
      refine Ops.seg 1 1 (by kernel_rfl) ⟨(.v (.agg [(vI a0.fKind), (vI a0.fPair.fLexical), (vI a0.fPair.fSurface), (vP e64 a0.fContexts)])) :: (.ptr 0 0) :: (dI 4) :: u8 ((.ptr 0 0) :: (dI a0.fKind) :: (dB v6) :: (dB v6) :: d3 :: d4 :: d5 :: (dB v7) :: u40 (u17 [])), [(.cells [(dI a0.fKind), (dI a0.fPair.fLexical), (dI a0.fPair.fSurface), (dP e64 a0.fContexts)])]⟩ (by kernel_rfl) ?_
      refine Ops.done (by kernel_rfl) ?_
      refine seqQ.n ?_
      refine Wp.ret (by kernel_rfl) ?_
      refine sqQ.r ?_
      refine seqQ.r ?_
      exact fnQ.r' (X36 n) (fun z => (eI z)) h (RetOk.mk' (dI 4) (by kernel_rfl) (by kernel_rfl))
    · refine Wp.cond v7 [1, 2] (by kernel_rfl) 1 (by kernel_rfl) (subc [1, 0, 1, 0] C36) (subc [1, 0, 1, 1] C36) (by kernel_rfl) (by kernel_rfl) (fun e => nomatch (hb.symm.trans e)) (fun _ => ?_)
      refine Wp.skip (by kernel_rfl) ?_
      refine sqQ.n ⟨(.v (.agg [(vI a0.fKind), (vI a0.fPair.fLexical), (vI a0.fPair.fSurface), (vP e64 a0.fContexts)])) :: (.ptr 0 0) :: (dI 0) :: u8 ((.ptr 0 0) :: (dI a0.fKind) :: (dB v6) :: (dB v6) :: d3 :: d4 :: d5 :: (dB v7) :: u40 (u17 [])), [(.cells [(dI a0.fKind), (dI a0.fPair.fLexical), (dI a0.fPair.fSurface), (dP e64 a0.fContexts)])]⟩ (by kernel_rfl) ?_
      refine seqQ.n ?_
      refine Wp.seq (subc [1, 1, 0] C36) (subc [1, 1, 1] C36) (by kernel_rfl) ?_
      refine Wp.seq (subc [1, 1, 0, 0] C36) (subc [1, 1, 0, 1] C36) (by kernel_rfl) ?_
      refine Wp.region (by kernel_rfl) ?_
      refine Ops.seg 2 2 (by kernel_rfl) ⟨(.v (.agg [(vI a0.fKind), (vI a0.fPair.fLexical), (vI a0.fPair.fSurface), (vP e64 a0.fContexts)])) :: (.ptr 0 0) :: (dI 0) :: u8 ((.ptr 0 0) :: (dI a0.fKind) :: (dB v6) :: (dB v6) :: d3 :: d4 :: d5 :: (dB v7) :: (.ptr 0 1) :: (.v (.agg [(vI a0.fPair.fLexical), (vI a0.fPair.fSurface)])) :: u40 (u15 [])), [(.cells [(dI a0.fKind), (dI a0.fPair.fLexical), (dI a0.fPair.fSurface), (dP e64 a0.fContexts)])]⟩ (by kernel_rfl) ?_
      obtain ⟨v9, ev9, h⟩ := bnd_some h
      refine Ops.one 3 (by kernel_rfl) (callD (X36 n).E (run Proofs.Try.prog E n) 37 [(.v (.agg [(vI a0.fPair.fLexical), (vI a0.fPair.fSurface)])), (dI 0)] [(.cells [(dI a0.fKind), (dI a0.fPair.fLexical), (dI a0.fPair.fSurface), (dP e64 a0.fContexts)])]) (dI v9) [(.cells [(dI a0.fKind), (dI a0.fPair.fLexical), (dI a0.fPair.fSurface), (dP e64 a0.fContexts)])] ⟨(.v (.agg [(vI a0.fKind), (vI a0.fPair.fLexical), (vI a0.fPair.fSurface), (vP e64 a0.fContexts)])) :: (.ptr 0 0) :: (dI 0) :: u8 ((.ptr 0 0) :: (dI a0.fKind) :: (dB v6) :: (dB v6) :: d3 :: d4 :: d5 :: (dB v7) :: (.ptr 0 1) :: (.v (.agg [(vI a0.fPair.fLexical), (vI a0.fPair.fSurface)])) :: (dI v9) :: u40 (u14 [])), [(.cells [(dI a0.fKind), (dI a0.fPair.fLexical), (dI a0.fPair.fSurface), (dP e64 a0.fContexts)])]⟩ (by kernel_rfl) (call_ok (by kernel_rfl) (Args.v (.agg [(vI a0.fPair.fLexical), (vI a0.fPair.fSurface)]) (e39 a0.fPair) (by kernel_rfl) (Args.v (vI 0) (eI 0) (by kernel_rfl) Args.nil)) (ok37 m a0.fPair 0 v9 ev9 n (by omega))) (by kernel_rfl) ?_
      refine Ops.seg 1 4 (by kernel_rfl) ⟨(.v (.agg [(vI a0.fKind), (vI a0.fPair.fLexical), (vI a0.fPair.fSurface), (vP e64 a0.fContexts)])) :: (.ptr 0 0) :: (dI 0) :: (dI v9) :: u7 ((.ptr 0 0) :: (dI a0.fKind) :: (dB v6) :: (dB v6) :: d3 :: d4 :: d5 :: (dB v7) :: (.ptr 0 1) :: (.v (.agg [(vI a0.fPair.fLexical), (vI a0.fPair.fSurface)])) :: (dI v9) :: u40 (u14 [])), [(.cells [(dI a0.fKind), (dI a0.fPair.fLexical), (dI a0.fPair.fSurface), (dP e64 a0.fContexts)])]⟩ (by kernel_rfl) ?_
      refine Ops.done (by kernel_rfl) ?_
      refine seqQ.n ?_
      refine Wp.seq (subc [1, 1, 0, 1, 0] C36) (subc [1, 1, 0, 1, 1] C36) (by kernel_rfl) ?_
      refine Wp.region (by kernel_rfl) ?_
      refine Ops.seg 2 2 (by kernel_rfl) ⟨(.v (.agg [(vI a0.fKind), (vI a0.fPair.fLexical), (vI a0.fPair.fSurface), (vP e64 a0.fContexts)])) :: (.ptr 0 0) :: (dI 0) :: (dI v9) :: u7 ((.ptr 0 0) :: (dI a0.fKind) :: (dB v6) :: (dB v6) :: d3 :: d4 :: d5 :: (dB v7) :: (.ptr 0 1) :: (.v (.agg [(vI a0.fPair.fLexical), (vI a0.fPair.fSurface)])) :: (dI v9) :: (dI v9) :: (dB (v9 != 0)) :: u40 (u12 [])), [(.cells [(dI a0.fKind), (dI a0.fPair.fLexical), (dI a0.fPair.fSurface), (dP e64 a0.fContexts)])]⟩ (by kernel_rfl) ?_
      refine Ops.done (by kernel_rfl) ?_
      refine seqQ.n ?_
      rcases cnd_some h with ⟨hb, h⟩ | ⟨hb, h⟩
      · refine Wp.cond (v9 != 0) [1, 2] (by kernel_rfl) 1 (by kernel_rfl) (subc [1, 1, 0, 1, 1, 0] C36) (subc [1, 1, 0, 1, 1, 1] C36) (by kernel_rfl) (by kernel_rfl) (fun _ => ?_) (fun e => nomatch (hb.symm.trans e))
        refine Wp.seq (subc [1, 1, 0, 1, 1, 0, 0] C36) (subc [1, 1, 0, 1, 1, 0, 1] C36) (by kernel_rfl) ?_
        refine Wp.region (by kernel_rfl) ?_
        refine Ops.seg 2 2 (by kernel_rfl) ⟨(.v (.agg [(vI a0.fKind), (vI a0.fPair.fLexical), (vI a0.fPair.fSurface), (vP e64 a0.fContexts)])) :: (.ptr 0 0) :: (dI v9) :: (dI v9) :: u7 ((.ptr 0 0) :: (dI a0.fKind) :: (dB v6) :: (dB v6) :: d3 :: d4 :: d5 :: (dB v7) :: (.ptr 0 1) :: (.v (.agg [(vI a0.fPair.fLexical), (vI a0.fPair.fSurface)])) :: (dI v9) :: (dI v9) :: (dB (v9 != 0)) :: (dI v9) :: u40 (u11 [])), [(.cells [(dI a0.fKind), (dI a0.fPair.fLexical), (dI a0.fPair.fSurface), (dP e64 a0.fContexts)])]⟩ (by kernel_rfl) ?_
        refine Ops.done (by kernel_rfl) ?_
        refine seqQ.n ?_
        refine Wp.ret (by kernel_rfl) ?_
        refine sqQ.r ?_
        refine seqQ.r ?_
        exact fnQ.r' (X36 n) (fun z => (eI z)) h (RetOk.mk' (dI v9) (by kernel_rfl) (by kernel_rfl))
      · refine Wp.cond (v9 != 0) [1, 2] (by kernel_rfl) 1 (by kernel_rfl) (subc [1, 1, 0, 1, 1, 0] C36) (subc [1, 1, 0, 1, 1, 1] C36) (by kernel_rfl) (by kernel_rfl) (fun e => nomatch (hb.symm.trans e)) (fun _ => ?_)
        refine Wp.skip (by kernel_rfl) ?_
        refine sqQ.n ⟨(.v (.agg [(vI a0.fKind), (vI a0.fPair.fLexical), (vI a0.fPair.fSurface), (vP e64 a0.fContexts)])) :: (.ptr 0 0) :: (dI 0) :: (dI v9) :: u7 ((.ptr 0 0) :: (dI a0.fKind) :: (dB v6) :: (dB v6) :: d3 :: d4 :: d5 :: (dB v7) :: (.ptr 0 1) :: (.v (.agg [(vI a0.fPair.fLexical), (vI a0.fPair.fSurface)])) :: (dI v9) :: (dI v9) :: (dB (v9 != 0)) :: u40 (u12 [])), [(.cells [(dI a0.fKind), (dI a0.fPair.fLexical), (dI a0.fPair.fSurface), (dP e64 a0.fContexts)])]⟩ (by kernel_rfl) ?_
        refine seqQ.n ?_
        refine Wp.seq (subc [1, 1, 1, 0] C36) (subc [1, 1, 1, 1] C36) (by kernel_rfl) ?_
        refine Wp.seq (subc [1, 1, 1, 0, 0] C36) (subc [1, 1, 1, 0, 1] C36) (by kernel_rfl) ?_
        refine Wp.region (by kernel_rfl) ?_
        refine Ops.seg 2 2 (by kernel_rfl) ⟨(.v (.agg [(vI a0.fKind), (vI a0.fPair.fLexical), (vI a0.fPair.fSurface), (vP e64 a0.fContexts)])) :: (.ptr 0 0) :: (dI 0) :: (dI v9) :: u7 ((.ptr 0 0) :: (dI a0.fKind) :: (dB v6) :: (dB v6) :: d3 :: d4 :: d5 :: (dB v7) :: (.ptr 0 1) :: (.v (.agg [(vI a0.fPair.fLexical), (vI a0.fPair.fSurface)])) :: (dI v9) :: (dI v9) :: (dB (v9 != 0)) :: u1 ((.ptr 0 3) :: (dP e64 a0.fContexts) :: u40 (u9 []))), [(.cells [(dI a0.fKind), (dI a0.fPair.fLexical), (dI a0.fPair.fSurface), (dP e64 a0.fContexts)])]⟩ (by kernel_rfl) ?_
        refine Ops.one 3 (by kernel_rfl) ((lenD (X36 n).E.T 41 (D.unt (dP e64 a0.fContexts))).map (·, [(.cells [(dI a0.fKind), (dI a0.fPair.fLexical), (dI a0.fPair.fSurface), (dP e64 a0.fContexts)])])) (dI ((a0.fContexts.length : Int))) [(.cells [(dI a0.fKind), (dI a0.fPair.fLexical), (dI a0.fPair.fSurface), (dP e64 a0.fContexts)])] ⟨(.v (.agg [(vI a0.fKind), (vI a0.fPair.fLexical), (vI a0.fPair.fSurface), (vP e64 a0.fContexts)])) :: (.ptr 0 0) :: (dI 0) :: (dI v9) :: u7 ((.ptr 0 0) :: (dI a0.fKind) :: (dB v6) :: (dB v6) :: d3 :: d4 :: d5 :: (dB v7) :: (.ptr 0 1) :: (.v (.agg [(vI a0.fPair.fLexical), (vI a0.fPair.fSurface)])) :: (dI v9) :: (dI v9) :: (dB (v9 != 0)) :: u1 ((.ptr 0 3) :: (dP e64 a0.fContexts) :: (dI ((a0.fContexts.length : Int))) :: u40 (u8 []))), [(.cells [(dI a0.fKind), (dI a0.fPair.fLexical), (dI a0.fPair.fSurface), (dP e64 a0.fContexts)])]⟩ (by kernel_rfl) (len_r _ 41 65 .plain e64 a0.fContexts (by kernel_rfl)) (by kernel_rfl) ?_
        refine Ops.seg 2 5 (by kernel_rfl) ⟨(.v (.agg [(vI a0.fKind), (vI a0.fPair.fLexical), (vI a0.fPair.fSurface), (vP e64 a0.fContexts)])) :: (.ptr 0 0) :: (dI 0) :: (dI v9) :: u7 ((.ptr 0 0) :: (dI a0.fKind) :: (dB v6) :: (dB v6) :: d3 :: d4 :: d5 :: (dB v7) :: (.ptr 0 1) :: (.v (.agg [(vI a0.fPair.fLexical), (vI a0.fPair.fSurface)])) :: (dI v9) :: (dI v9) :: (dB (v9 != 0)) :: u1 ((.ptr 0 3) :: (dP e64 a0.fContexts) :: (dI ((a0.fContexts.length : Int))) :: (dB (decide ((a0.fContexts.length : Int) < 1))) :: (dB (decide ((a0.fContexts.length : Int) < 1))) :: u40 (u6 []))), [(.cells [(dI a0.fKind), (dI a0.fPair.fLexical), (dI a0.fPair.fSurface), (dP e64 a0.fContexts)])]⟩ (by kernel_rfl) ?_
        have J36j18 : ∀ (d12 d13 d14 d15 : D) (v16 : Bool) (v17 : Bool), f36_r5 m a0 v17 = some o → Ops (X36 n) (opl (subc [1, 1, 1, 0, 0] C36)) 10 ⟨(.v (.agg [(vI a0.fKind), (vI a0.fPair.fLexical), (vI a0.fPair.fSurface), (vP e64 a0.fContexts)])) :: (.ptr 0 0) :: (dI 0) :: (dI v9) :: u7 ((.ptr 0 0) :: (dI a0.fKind) :: (dB v6) :: (dB v6) :: d3 :: d4 :: d5 :: (dB v7) :: (.ptr 0 1) :: (.v (.agg [(vI a0.fPair.fLexical), (vI a0.fPair.fSurface)])) :: (dI v9) :: (dI v9) :: (dB (v9 != 0)) :: u1 ((.ptr 0 3) :: (dP e64 a0.fContexts) :: (dI ((a0.fContexts.length : Int))) :: (dB v16) :: (dB v16) :: d12 :: d13 :: d14 :: d15 :: (dB v17) :: u40 (u1 []))), [(.cells [(dI a0.fKind), (dI a0.fPair.fLexical), (dI a0.fPair.fSurface), (dP e64 a0.fContexts)])]⟩ ((seqQ (X36 n) (subc [1, 1, 1, 0, 1] C36) (seqQ (X36 n) (subc [1, 1, 1, 1] C36) (fnQ (X36 n).E.T (resOf Proofs.Try.prog 36) (eI o)))) .normal) := by
          intro d12 d13 d14 d15 v16 v17 h
          unfold f36_r5 at h
          refine Ops.done (by kernel_rfl) ?_
          refine seqQ.n ?_
          rcases cnd_some h with ⟨hb, h⟩ | ⟨hb, h⟩
          · refine Wp.cond v17 [1, 2] (by kernel_rfl) 1 (by kernel_rfl) (subc [1, 1, 1, 0, 1, 0] C36) (subc [1, 1, 1, 0, 1, 1] C36) (by kernel_rfl) (by kernel_rfl) (fun _ => ?_) (fun e => nomatch (hb.symm.trans e))
            refine Wp.seq (subc [1, 1, 1, 0, 1, 0, 0] C36) (subc [1, 1, 1, 0, 1, 0, 1] C36) (by kernel_rfl) ?_
            refine Wp.region (by kernel_rfl) ?_
            refine Ops.seg 1 1 (by kernel_rfl) ⟨(.v (.agg [(vI a0.fKind), (vI a0.fPair.fLexical), (vI a0.fPair.fSurface), (vP e64 a0.fContexts)])) :: (.ptr 0 0) :: (dI 9) :: (dI v9) :: u7 ((.ptr 0 0) :: (dI a0.fKind) :: (dB v6) :: (dB v6) :: d3 :: d4 :: d5 :: (dB v7) :: (.ptr 0 1) :: (.v (.agg [(vI a0.fPair.fLexical), (vI a0.fPair.fSurface)])) :: (dI v9) :: (dI v9) :: (dB (v9 != 0)) :: u1 ((.ptr 0 3) :: (dP e64 a0.fContexts) :: (dI ((a0.fContexts.length : Int))) :: (dB v16) :: (dB v16) :: d12 :: d13 :: d14 :: d15 :: (dB v17) :: u40 (u1 []))), [(.cells [(dI a0.fKind), (dI a0.fPair.fLexical), (dI a0.fPair.fSurface), (dP e64 a0.fContexts)])]⟩ (by kernel_rfl) ?_
            refine Ops.done (by kernel_rfl) ?_
            refine seqQ.n ?_
            refine Wp.ret (by kernel_rfl) ?_
            refine sqQ.r ?_
            refine seqQ.r ?_
            exact fnQ.r' (X36 n) (fun z => (eI z)) h (RetOk.mk' (dI 9) (by kernel_rfl) (by kernel_rfl))
          · refine Wp.cond v17 [1, 2] (by kernel_rfl) 1 (by kernel_rfl) (subc [1, 1, 1, 0, 1, 0] C36) (subc [1, 1, 1, 0, 1, 1] C36) (by kernel_rfl) (by kernel_rfl) (fun e => nomatch (hb.symm.trans e)) (fun _ => ?_)
            refine Wp.skip (by kernel_rfl) ?_
            refine sqQ.n ⟨(.v (.agg [(vI a0.fKind), (vI a0.fPair.fLexical), (vI a0.fPair.fSurface), (vP e64 a0.fContexts)])) :: (.ptr 0 0) :: (dI 0) :: (dI v9) :: u7 ((.ptr 0 0) :: (dI a0.fKind) :: (dB v6) :: (dB v6) :: d3 :: d4 :: d5 :: (dB v7) :: (.ptr 0 1) :: (.v (.agg [(vI a0.fPair.fLexical), (vI a0.fPair.fSurface)])) :: (dI v9) :: (dI v9) :: (dB (v9 != 0)) :: u1 ((.ptr 0 3) :: (dP e64 a0.fContexts) :: (dI ((a0.fContexts.length : Int))) :: (dB v16) :: (dB v16) :: d12 :: d13 :: d14 :: d15 :: (dB v17) :: u40 (u1 []))), [(.cells [(dI a0.fKind), (dI a0.fPair.fLexical), (dI a0.fPair.fSurface), (dP e64 a0.fContexts)])]⟩ (by kernel_rfl) ?_
            refine seqQ.n ?_
            refine Wp.seq (subc [1, 1, 1, 1, 0] C36) (subc [1, 1, 1, 1, 1] C36) (by kernel_rfl) ?_
            refine Wp.seq (subc [1, 1, 1, 1, 0, 0] C36) (subc [1, 1, 1, 1, 0, 1] C36) (by kernel_rfl) ?_
            refine Wp.region (by kernel_rfl) ?_
            refine Ops.seg 2 2 (by kernel_rfl) ⟨(.v (.agg [(vI a0.fKind), (vI a0.fPair.fLexical), (vI a0.fPair.fSurface), (vP e64 a0.fContexts)])) :: (.ptr 0 0) :: (dI 0) :: (dI v9) :: u7 ((.ptr 0 0) :: (dI a0.fKind) :: (dB v6) :: (dB v6) :: d3 :: d4 :: d5 :: (dB v7) :: (.ptr 0 1) :: (.v (.agg [(vI a0.fPair.fLexical), (vI a0.fPair.fSurface)])) :: (dI v9) :: (dI v9) :: (dB (v9 != 0)) :: u1 ((.ptr 0 3) :: (dP e64 a0.fContexts) :: (dI ((a0.fContexts.length : Int))) :: (dB v16) :: (dB v16) :: d12 :: d13 :: d14 :: d15 :: (dB v17) :: (.ptr 0 3) :: (dP e64 a0.fContexts) :: u39 [])), [(.cells [(dI a0.fKind), (dI a0.fPair.fLexical), (dI a0.fPair.fSurface), (dP e64 a0.fContexts)])]⟩ (by kernel_rfl) ?_
            refine Ops.one 3 (by kernel_rfl) ((lenD (X36 n).E.T 41 (D.unt (dP e64 a0.fContexts))).map (·, [(.cells [(dI a0.fKind), (dI a0.fPair.fLexical), (dI a0.fPair.fSurface), (dP e64 a0.fContexts)])])) (dI ((a0.fContexts.length : Int))) [(.cells [(dI a0.fKind), (dI a0.fPair.fLexical), (dI a0.fPair.fSurface), (dP e64 a0.fContexts)])] ⟨(.v (.agg [(vI a0.fKind), (vI a0.fPair.fLexical), (vI a0.fPair.fSurface), (vP e64 a0.fContexts)])) :: (.ptr 0 0) :: (dI 0) :: (dI v9) :: u7 ((.ptr 0 0) :: (dI a0.fKind) :: (dB v6) :: (dB v6) :: d3 :: d4 :: d5 :: (dB v7) :: (.ptr 0 1) :: (.v (.agg [(vI a0.fPair.fLexical), (vI a0.fPair.fSurface)])) :: (dI v9) :: (dI v9) :: (dB (v9 != 0)) :: u1 ((.ptr 0 3) :: (dP e64 a0.fContexts) :: (dI ((a0.fContexts.length : Int))) :: (dB v16) :: (dB v16) :: d12 :: d13 :: d14 :: d15 :: (dB v17) :: (.ptr 0 3) :: (dP e64 a0.fContexts) :: (dI ((a0.fContexts.length : Int))) :: u38 [])), [(.cells [(dI a0.fKind), (dI a0.fPair.fLexical), (dI a0.fPair.fSurface), (dP e64 a0.fContexts)])]⟩ (by kernel_rfl) (len_r _ 41 65 .plain e64 a0.fContexts (by kernel_rfl)) (by kernel_rfl) ?_
            refine Ops.seg 1 4 (by kernel_rfl) ⟨(.v (.agg [(vI a0.fKind), (vI a0.fPair.fLexical), (vI a0.fPair.fSurface), (vP e64 a0.fContexts)])) :: (.ptr 0 0) :: (dI 0) :: (dI v9) :: u7 ((.ptr 0 0) :: (dI a0.fKind) :: (dB v6) :: (dB v6) :: d3 :: d4 :: d5 :: (dB v7) :: (.ptr 0 1) :: (.v (.agg [(vI a0.fPair.fLexical), (vI a0.fPair.fSurface)])) :: (dI v9) :: (dI v9) :: (dB (v9 != 0)) :: u1 ((.ptr 0 3) :: (dP e64 a0.fContexts) :: (dI ((a0.fContexts.length : Int))) :: (dB v16) :: (dB v16) :: d12 :: d13 :: d14 :: d15 :: (dB v17) :: (.ptr 0 3) :: (dP e64 a0.fContexts) :: (dI ((a0.fContexts.length : Int))) :: (dI 0) :: u37 [])), [(.cells [(dI a0.fKind), (dI a0.fPair.fLexical), (dI a0.fPair.fSurface), (dP e64 a0.fContexts)])]⟩ (by kernel_rfl) ?_
            refine Ops.done (by kernel_rfl) ?_
            refine seqQ.n ?_
            refine Wp.block (id := 0) [2] (by kernel_rfl) 1 (by kernel_rfl) (subc [1, 1, 1, 1, 0, 1, 0] C36) (by kernel_rfl) ?_
            have hLx291 : ∀ (kx196 : Nat) (v194 : Int) (ox195 : Int ⊕ (Int)), iter (fun (y : Int) => f36_B4 m a0 y) kx196 v194 = some ox195 → ∀ nx197, kx196 ≤ nx197 → (∀ r, ox195 = .inl r → ∀ σ, RetOk (X36 n) (resOf Proofs.Try.prog 36) (eI r) σ → (seqQ (X36 n) (subc [1, 1, 1, 1, 1] C36) (fnQ (X36 n).E.T (resOf Proofs.Try.prog 36) (eI o))) .ret σ) → (∀ y : Int, ox195 = .inr y → (seqQ (X36 n) (subc [1, 1, 1, 1, 1] C36) (fnQ (X36 n).E.T (resOf Proofs.Try.prog 36) (eI o))) .normal ⟨q2 ((dI 0) :: q33 ((dP e64 a0.fContexts) :: (dI ((a0.fContexts.length : Int))) :: (dI y) :: q37 [])), [(.cells [(dI a0.fKind), (dI a0.fPair.fLexical), (dI a0.fPair.fSurface), (dP e64 a0.fContexts)])]⟩) → Lp (X36 n) [2, 36, 37, 38] 1 (subc [1, 1, 1, 1, 0, 1, 0, 0] C36) nx197 ⟨q2 ((dI 0) :: q33 ((dP e64 a0.fContexts) :: (dI ((a0.fContexts.length : Int))) :: (dI v194) :: q37 [])), [(.cells [(dI a0.fKind), (dI a0.fPair.fLexical), (dI a0.fPair.fSurface), (dP e64 a0.fContexts)])]⟩ (blkQ (X36 n) 0 [2] 1 (seqQ (X36 n) (subc [1, 1, 1, 1, 1] C36) (fnQ (X36 n).E.T (resOf Proofs.Try.prog 36) (eI o)))) := by
              intro kx196
              induction kx196 with
              | zero => intro v194 ox195 h; exact (iter_zero h).elim
              | succ kx196 ihx198 =>
                intro v194 ox195 h nx197 hnx201 hrx199 hxx200
                obtain ⟨nx197, rfl⟩ : ∃ q, nx197 = q + 1 := ⟨nx197 - 1, by omega⟩
                obtain ⟨sx202, h, hsx203⟩ := iter_some h
                have h : f36_B4 m a0 v194 = some sx202 := h
                unfold f36_B4 at h
                refine Lp.succ ?_
                refine Wp.seq (subc [1, 1, 1, 1, 0, 1, 0, 0, 0] C36) (subc [1, 1, 1, 1, 0, 1, 0, 0, 1] C36) (by kernel_rfl) ?_
                refine Wp.region (by kernel_rfl) ?_
                refine Ops.seg 1 1 (by kernel_rfl) ⟨q2 ((dI 0) :: q33 ((dP e64 a0.fContexts) :: (dI ((a0.fContexts.length : Int))) :: (dI v194) :: (dB (decide (v194 < (a0.fContexts.length : Int)))) :: q36 [])), [(.cells [(dI a0.fKind), (dI a0.fPair.fLexical), (dI a0.fPair.fSurface), (dP e64 a0.fContexts)])]⟩ (by kernel_rfl) ?_
                refine Ops.done (by kernel_rfl) ?_
                refine seqQ.n ?_
                refine Wp.seq (subc [1, 1, 1, 1, 0, 1, 0, 0, 1, 0] C36) (subc [1, 1, 1, 1, 0, 1, 0, 0, 1, 1] C36) (by kernel_rfl) ?_
                rcases cnd_some h with ⟨hb, h⟩ | ⟨hb, h⟩
                · refine Wp.cond (decide (v194 < (a0.fContexts.length : Int))) [2, 36, 37, 38] (by kernel_rfl) 1 (by kernel_rfl) (subc [1, 1, 1, 1, 0, 1, 0, 0, 1, 0, 0] C36) (subc [1, 1, 1, 1, 0, 1, 0, 0, 1, 0, 1] C36) (by kernel_rfl) (by kernel_rfl) (fun _ => ?_) (fun e => nomatch (hb.symm.trans e))
                  refine Wp.skip (by kernel_rfl) ?_
                  refine sqQ.n ⟨q2 ((dI 0) :: q33 ((dP e64 a0.fContexts) :: (dI ((a0.fContexts.length : Int))) :: (dI v194) :: (dB (decide (v194 < (a0.fContexts.length : Int)))) :: q36 [])), [(.cells [(dI a0.fKind), (dI a0.fPair.fLexical), (dI a0.fPair.fSurface), (dP e64 a0.fContexts)])]⟩ (by kernel_rfl) ?_
                  refine seqQ.n ?_
                  refine Wp.seq (subc [1, 1, 1, 1, 0, 1, 0, 0, 1, 1, 0] C36) (subc [1, 1, 1, 1, 0, 1, 0, 0, 1, 1, 1] C36) (by kernel_rfl) ?_
                  refine Wp.block (id := 1) [2, 36, 37, 38] (by kernel_rfl) 1 (by kernel_rfl) (subc [1, 1, 1, 1, 0, 1, 0, 0, 1, 1, 0, 0] C36) (by kernel_rfl) ?_
                  refine Wp.seq (subc [1, 1, 1, 1, 0, 1, 0, 0, 1, 1, 0, 0, 0] C36) (subc [1, 1, 1, 1, 0, 1, 0, 0, 1, 1, 0, 0, 1] C36) (by kernel_rfl) ?_
                  refine Wp.region (by kernel_rfl) ?_
                  obtain ⟨v204, ev204, h⟩ := bnd_some h
                  refine Ops.one 1 (by kernel_rfl) ((indexAddrH (X36 n).E.T [(.cells [(dI a0.fKind), (dI a0.fPair.fLexical), (dI a0.fPair.fSurface), (dP e64 a0.fContexts)])] 41 (D.unt (dP e64 a0.fContexts)) (dI v194)).map (·, [(.cells [(dI a0.fKind), (dI a0.fPair.fLexical), (dI a0.fPair.fSurface), (dP e64 a0.fContexts)])])) (.vptr [(vP e39 v204.fLeft), (vP e39 v204.fRight), (vB v204.fBegin), (vB v204.fEnd)]) [(.cells [(dI a0.fKind), (dI a0.fPair.fLexical), (dI a0.fPair.fSurface), (dP e64 a0.fContexts)])] ⟨q2 ((dI 0) :: q33 ((dP e64 a0.fContexts) :: (dI ((a0.fContexts.length : Int))) :: (dI v194) :: (dB (decide (v194 < (a0.fContexts.length : Int)))) :: (.vptr [(vP e39 v204.fLeft), (vP e39 v204.fRight), (vB v204.fBegin), (vB v204.fEnd)]) :: q35 [])), [(.cells [(dI a0.fKind), (dI a0.fPair.fLexical), (dI a0.fPair.fSurface), (dP e64 a0.fContexts)])]⟩ (by kernel_rfl) (ix_r _ 41 65 4 .plain e64 a0.fContexts v194 v204 ev204 (by kernel_rfl) (by kernel_rfl) (fun _ => rfl)) (by kernel_rfl) ?_
                  refine Ops.seg 3 4 (by kernel_rfl) ⟨q2 ((dI 0) :: q2 ((.ptr 1 0) :: q30 ((dP e64 a0.fContexts) :: (dI ((a0.fContexts.length : Int))) :: (dI v194) :: (dB (decide (v194 < (a0.fContexts.length : Int)))) :: (.vptr [(vP e39 v204.fLeft), (vP e39 v204.fRight), (vB v204.fBegin), (vB v204.fEnd)]) :: (.v (.agg [(vP e39 v204.fLeft), (vP e39 v204.fRight), (vB v204.fBegin), (vB v204.fEnd)])) :: q34 []))), [(.cells [(dI a0.fKind), (dI a0.fPair.fLexical), (dI a0.fPair.fSurface), (dP e64 a0.fContexts)]), (.cells [(dP e39 v204.fLeft), (dP e39 v204.fRight), (dB v204.fBegin), (dB v204.fEnd)])]⟩ (by kernel_rfl) ?_
                  refine Ops.done (by kernel_rfl) ?_
                  refine seqQ.n ?_
                  refine Wp.seq (subc [1, 1, 1, 1, 0, 1, 0, 0, 1, 1, 0, 0, 1, 0] C36) (subc [1, 1, 1, 1, 0, 1, 0, 0, 1, 1, 0, 0, 1, 1] C36) (by kernel_rfl) ?_
                  refine Wp.seq (subc [1, 1, 1, 1, 0, 1, 0, 0, 1, 1, 0, 0, 1, 0, 0] C36) (subc [1, 1, 1, 1, 0, 1, 0, 0, 1, 1, 0, 0, 1, 0, 1] C36) (by kernel_rfl) ?_
                  refine Wp.region (by kernel_rfl) ?_
                  refine Ops.seg 2 2 (by kernel_rfl) ⟨q2 ((dI 0) :: q2 ((.ptr 1 0) :: q30 ((dP e64 a0.fContexts) :: (dI ((a0.fContexts.length : Int))) :: (dI v194) :: (dB (decide (v194 < (a0.fContexts.length : Int)))) :: (.vptr [(vP e39 v204.fLeft), (vP e39 v204.fRight), (vB v204.fBegin), (vB v204.fEnd)]) :: (.v (.agg [(vP e39 v204.fLeft), (vP e39 v204.fRight), (vB v204.fBegin), (vB v204.fEnd)])) :: (.ptr 1 0) :: (dP e39 v204.fLeft) :: q32 []))), [(.cells [(dI a0.fKind), (dI a0.fPair.fLexical), (dI a0.fPair.fSurface), (dP e64 a0.fContexts)]), (.cells [(dP e39 v204.fLeft), (dP e39 v204.fRight), (dB v204.fBegin), (dB v204.fEnd)])]⟩ (by kernel_rfl) ?_
                  refine Ops.one 3 (by kernel_rfl) ((lenD (X36 n).E.T 37 (D.unt (dP e39 v204.fLeft))).map (·, [(.cells [(dI a0.fKind), (dI a0.fPair.fLexical), (dI a0.fPair.fSurface), (dP e64 a0.fContexts)]), (.cells [(dP e39 v204.fLeft), (dP e39 v204.fRight), (dB v204.fBegin), (dB v204.fEnd)])])) (dI ((v204.fLeft.length : Int))) [(.cells [(dI a0.fKind), (dI a0.fPair.fLexical), (dI a0.fPair.fSurface), (dP e64 a0.fContexts)]), (.cells [(dP e39 v204.fLeft), (dP e39 v204.fRight), (dB v204.fBegin), (dB v204.fEnd)])] ⟨q2 ((dI 0) :: q2 ((.ptr 1 0) :: q30 ((dP e64 a0.fContexts) :: (dI ((a0.fContexts.length : Int))) :: (dI v194) :: (dB (decide (v194 < (a0.fContexts.length : Int)))) :: (.vptr [(vP e39 v204.fLeft), (vP e39 v204.fRight), (vB v204.fBegin), (vB v204.fEnd)]) :: (.v (.agg [(vP e39 v204.fLeft), (vP e39 v204.fRight), (vB v204.fBegin), (vB v204.fEnd)])) :: (.ptr 1 0) :: (dP e39 v204.fLeft) :: (dI ((v204.fLeft.length : Int))) :: q31 []))), [(.cells [(dI a0.fKind), (dI a0.fPair.fLexical), (dI a0.fPair.fSurface), (dP e64 a0.fContexts)]), (.cells [(dP e39 v204.fLeft), (dP e39 v204.fRight), (dB v204.fBegin), (dB v204.fEnd)])]⟩ (by kernel_rfl) (len_r _ 37 40 .plain e39 v204.fLeft (by kernel_rfl)) (by kernel_rfl) ?_
                  refine Ops.seg 2 5 (by kernel_rfl) ⟨q2 ((dI 0) :: q2 ((.ptr 1 0) :: q30 ((dP e64 a0.fContexts) :: (dI ((a0.fContexts.length : Int))) :: (dI v194) :: (dB (decide (v194 < (a0.fContexts.length : Int)))) :: (.vptr [(vP e39 v204.fLeft), (vP e39 v204.fRight), (vB v204.fBegin), (vB v204.fEnd)]) :: (.v (.agg [(vP e39 v204.fLeft), (vP e39 v204.fRight), (vB v204.fBegin), (vB v204.fEnd)])) :: (.ptr 1 0) :: (dP e39 v204.fLeft) :: (dI ((v204.fLeft.length : Int))) :: (dB (decide ((v204.fLeft.length : Int) > 3))) :: (dB (decide ((v204.fLeft.length : Int) > 3))) :: q29 []))), [(.cells [(dI a0.fKind), (dI a0.fPair.fLexical), (dI a0.fPair.fSurface), (dP e64 a0.fContexts)]), (.cells [(dP e39 v204.fLeft), (dP e39 v204.fRight), (dB v204.fBegin), (dB v204.fEnd)])]⟩ (by kernel_rfl) ?_
                  have J36j213 : ∀ (d207 d208 d209 d210 : D) (v211 : Bool) (v212 : Bool), f36_r3 m v194 v204 v212 = some sx202 → Ops (X36 n) (opl (subc [1, 1, 1, 1, 0, 1, 0, 0, 1, 1, 0, 0, 1, 0, 0] C36)) 10 ⟨q2 ((dI 0) :: q2 ((.ptr 1 0) :: q30 ((dP e64 a0.fContexts) :: (dI ((a0.fContexts.length : Int))) :: (dI v194) :: (dB (decide (v194 < (a0.fContexts.length : Int)))) :: (.vptr [(vP e39 v204.fLeft), (vP e39 v204.fRight), (vB v204.fBegin), (vB v204.fEnd)]) :: (.v (.agg [(vP e39 v204.fLeft), (vP e39 v204.fRight), (vB v204.fBegin), (vB v204.fEnd)])) :: (.ptr 1 0) :: (dP e39 v204.fLeft) :: (dI ((v204.fLeft.length : Int))) :: (dB v211) :: (dB v211) :: d207 :: d208 :: d209 :: d210 :: (dB v212) :: q24 []))), [(.cells [(dI a0.fKind), (dI a0.fPair.fLexical), (dI a0.fPair.fSurface), (dP e64 a0.fContexts)]), (.cells [(dP e39 v204.fLeft), (dP e39 v204.fRight), (dB v204.fBegin), (dB v204.fEnd)])]⟩ ((seqQ (X36 n) (subc [1, 1, 1, 1, 0, 1, 0, 0, 1, 1, 0, 0, 1, 0, 1] C36) (seqQ (X36 n) (subc [1, 1, 1, 1, 0, 1, 0, 0, 1, 1, 0, 0, 1, 1] C36) (blkQ (X36 n) 1 [2, 36, 37, 38] 1 (seqQ (X36 n) (subc [1, 1, 1, 1, 0, 1, 0, 0, 1, 1, 1] C36) (lpQ (X36 n) [2, 36, 37, 38] 1 (subc [1, 1, 1, 1, 0, 1, 0, 0] C36) nx197 (blkQ (X36 n) 0 [2] 1 (seqQ (X36 n) (subc [1, 1, 1, 1, 1] C36) (fnQ (X36 n).E.T (resOf Proofs.Try.prog 36) (eI o))))))))) .normal) := by
                    intro d207 d208 d209 d210 v211 v212 h
                    unfold f36_r3 at h
                    refine Ops.done (by kernel_rfl) ?_
                    refine seqQ.n ?_
                    rcases cnd_some h with ⟨hb, h⟩ | ⟨hb, h⟩
                    · refine Wp.cond v212 [2, 5, 36, 37, 38] (by kernel_rfl) 2 (by kernel_rfl) (subc [1, 1, 1, 1, 0, 1, 0, 0, 1, 1, 0, 0, 1, 0, 1, 0] C36) (subc [1, 1, 1, 1, 0, 1, 0, 0, 1, 1, 0, 0, 1, 0, 1, 1] C36) (by kernel_rfl) (by kernel_rfl) (fun _ => ?_) (fun e => nomatch (hb.symm.trans e))
                      refine Wp.seq (subc [1, 1, 1, 1, 0, 1, 0, 0, 1, 1, 0, 0, 1, 0, 1, 0, 0] C36) (subc [1, 1, 1, 1, 0, 1, 0, 0, 1, 1, 0, 0, 1, 0, 1, 0, 1] C36) (by kernel_rfl) ?_
                      refine Wp.region (by kernel_rfl) ?_
                      refine Ops.seg 1 1 (by kernel_rfl) ⟨q2 ((dI 9) :: q2 ((.ptr 1 0) :: q30 ((dP e64 a0.fContexts) :: (dI ((a0.fContexts.length : Int))) :: (dI v194) :: (dB (decide (v194 < (a0.fContexts.length : Int)))) :: (.vptr [(vP e39 v204.fLeft), (vP e39 v204.fRight), (vB v204.fBegin), (vB v204.fEnd)]) :: (.v (.agg [(vP e39 v204.fLeft), (vP e39 v204.fRight), (vB v204.fBegin), (vB v204.fEnd)])) :: (.ptr 1 0) :: (dP e39 v204.fLeft) :: (dI ((v204.fLeft.length : Int))) :: (dB v211) :: (dB v211) :: d207 :: d208 :: d209 :: d210 :: (dB v212) :: q24 []))), [(.cells [(dI a0.fKind), (dI a0.fPair.fLexical), (dI a0.fPair.fSurface), (dP e64 a0.fContexts)]), (.cells [(dP e39 v204.fLeft), (dP e39 v204.fRight), (dB v204.fBegin), (dB v204.fEnd)])]⟩ (by kernel_rfl) ?_
                      refine Ops.done (by kernel_rfl) ?_
                      refine seqQ.n ?_
                      refine Wp.ret (by kernel_rfl) ?_
                      refine sqQ.r ?_
                      refine seqQ.r ?_
                      refine blkQ.r ?_
                      refine seqQ.r ?_
                      cases h
                      refine lpQ.r ?_
                      refine blkQ.r ?_
                      exact hrx199 _ hsx203 _ (RetOk.forget [2, 36, 37, 38] (by kernel_rfl) (RetOk.mk' (dI 9) (by kernel_rfl) (by kernel_rfl)))
                    · refine Wp.cond v212 [2, 5, 36, 37, 38] (by kernel_rfl) 2 (by kernel_rfl) (subc [1, 1, 1, 1, 0, 1, 0, 0, 1, 1, 0, 0, 1, 0, 1, 0] C36) (subc [1, 1, 1, 1, 0, 1, 0, 0, 1, 1, 0, 0, 1, 0, 1, 1] C36) (by kernel_rfl) (by kernel_rfl) (fun e => nomatch (hb.symm.trans e)) (fun _ => ?_)
                      refine Wp.skip (by kernel_rfl) ?_
                      refine sqQ.n ⟨q2 ((dI 0) :: q2 ((.ptr 1 0) :: q30 ((dP e64 a0.fContexts) :: (dI ((a0.fContexts.length : Int))) :: (dI v194) :: (dB (decide (v194 < (a0.fContexts.length : Int)))) :: (.vptr [(vP e39 v204.fLeft), (vP e39 v204.fRight), (vB v204.fBegin), (vB v204.fEnd)]) :: (.v (.agg [(vP e39 v204.fLeft), (vP e39 v204.fRight), (vB v204.fBegin), (vB v204.fEnd)])) :: (.ptr 1 0) :: (dP e39 v204.fLeft) :: (dI ((v204.fLeft.length : Int))) :: (dB v211) :: (dB v211) :: d207 :: d208 :: d209 :: d210 :: (dB v212) :: q24 []))), [(.cells [(dI a0.fKind), (dI a0.fPair.fLexical), (dI a0.fPair.fSurface), (dP e64 a0.fContexts)]), (.cells [(dP e39 v204.fLeft), (dP e39 v204.fRight), (dB v204.fBegin), (dB v204.fEnd)])]⟩ (by kernel_rfl) ?_
                      refine seqQ.n ?_
                      refine Wp.seq (subc [1, 1, 1, 1, 0, 1, 0, 0, 1, 1, 0, 0, 1, 1, 0] C36) (subc [1, 1, 1, 1, 0, 1, 0, 0, 1, 1, 0, 0, 1, 1, 1] C36) (by kernel_rfl) ?_
                      refine Wp.region (by kernel_rfl) ?_
                      refine Ops.seg 5 5 (by kernel_rfl) ⟨q2 ((dI 0) :: q2 ((.ptr 1 0) :: q30 ((dP e64 a0.fContexts) :: (dI ((a0.fContexts.length : Int))) :: (dI v194) :: (dB (decide (v194 < (a0.fContexts.length : Int)))) :: (.vptr [(vP e39 v204.fLeft), (vP e39 v204.fRight), (vB v204.fBegin), (vB v204.fEnd)]) :: (.v (.agg [(vP e39 v204.fLeft), (vP e39 v204.fRight), (vB v204.fBegin), (vB v204.fEnd)])) :: (.ptr 1 0) :: (dP e39 v204.fLeft) :: (dI ((v204.fLeft.length : Int))) :: (dB v211) :: (dB v211) :: d207 :: d208 :: d209 :: d210 :: (dB v212) :: (.ptr 1 0) :: (dP e39 v204.fLeft) :: (.ptr 1 1) :: (dP e39 v204.fRight) :: (.v (.sl .nonfull (List.map (eL e39) ([v204.fLeft, v204.fRight])))) :: q19 []))), [(.cells [(dI a0.fKind), (dI a0.fPair.fLexical), (dI a0.fPair.fSurface), (dP e64 a0.fContexts)]), (.cells [(dP e39 v204.fLeft), (dP e39 v204.fRight), (dB v204.fBegin), (dB v204.fEnd)])]⟩ (by kernel_rfl) ?_
                      refine Ops.one 6 (by kernel_rfl) ((lenD (X36 n).E.T 69 (D.unt (.v (.sl .nonfull (List.map (eL e39) ([v204.fLeft, v204.fRight])))))).map (·, [(.cells [(dI a0.fKind), (dI a0.fPair.fLexical), (dI a0.fPair.fSurface), (dP e64 a0.fContexts)]), (.cells [(dP e39 v204.fLeft), (dP e39 v204.fRight), (dB v204.fBegin), (dB v204.fEnd)])])) (dI ((([v204.fLeft, v204.fRight]).length : Int))) [(.cells [(dI a0.fKind), (dI a0.fPair.fLexical), (dI a0.fPair.fSurface), (dP e64 a0.fContexts)]), (.cells [(dP e39 v204.fLeft), (dP e39 v204.fRight), (dB v204.fBegin), (dB v204.fEnd)])] ⟨q2 ((dI 0) :: q2 ((.ptr 1 0) :: q30 ((dP e64 a0.fContexts) :: (dI ((a0.fContexts.length : Int))) :: (dI v194) :: (dB (decide (v194 < (a0.fContexts.length : Int)))) :: (.vptr [(vP e39 v204.fLeft), (vP e39 v204.fRight), (vB v204.fBegin), (vB v204.fEnd)]) :: (.v (.agg [(vP e39 v204.fLeft), (vP e39 v204.fRight), (vB v204.fBegin), (vB v204.fEnd)])) :: (.ptr 1 0) :: (dP e39 v204.fLeft) :: (dI ((v204.fLeft.length : Int))) :: (dB v211) :: (dB v211) :: d207 :: d208 :: d209 :: d210 :: (dB v212) :: (.ptr 1 0) :: (dP e39 v204.fLeft) :: (.ptr 1 1) :: (dP e39 v204.fRight) :: (.v (.sl .nonfull (List.map (eL e39) ([v204.fLeft, v204.fRight])))) :: (dI ((([v204.fLeft, v204.fRight]).length : Int))) :: q18 []))), [(.cells [(dI a0.fKind), (dI a0.fPair.fLexical), (dI a0.fPair.fSurface), (dP e64 a0.fContexts)]), (.cells [(dP e39 v204.fLeft), (dP e39 v204.fRight), (dB v204.fBegin), (dB v204.fEnd)])]⟩ (by kernel_rfl) (len_r _ 69 37 .nonfull (eL e39) ([v204.fLeft, v204.fRight]) (by kernel_rfl)) (by kernel_rfl) ?_
                      refine Ops.seg 1 7 (by kernel_rfl) ⟨q2 ((dI 0) :: q2 ((.ptr 1 0) :: q30 ((dP e64 a0.fContexts) :: (dI ((a0.fContexts.length : Int))) :: (dI v194) :: (dB (decide (v194 < (a0.fContexts.length : Int)))) :: (.vptr [(vP e39 v204.fLeft), (vP e39 v204.fRight), (vB v204.fBegin), (vB v204.fEnd)]) :: (.v (.agg [(vP e39 v204.fLeft), (vP e39 v204.fRight), (vB v204.fBegin), (vB v204.fEnd)])) :: (.ptr 1 0) :: (dP e39 v204.fLeft) :: (dI ((v204.fLeft.length : Int))) :: (dB v211) :: (dB v211) :: d207 :: d208 :: d209 :: d210 :: (dB v212) :: (.ptr 1 0) :: (dP e39 v204.fLeft) :: (.ptr 1 1) :: (dP e39 v204.fRight) :: (.v (.sl .nonfull (List.map (eL e39) ([v204.fLeft, v204.fRight])))) :: (dI ((([v204.fLeft, v204.fRight]).length : Int))) :: (dI 0) :: q17 []))), [(.cells [(dI a0.fKind), (dI a0.fPair.fLexical), (dI a0.fPair.fSurface), (dP e64 a0.fContexts)]), (.cells [(dP e39 v204.fLeft), (dP e39 v204.fRight), (dB v204.fBegin), (dB v204.fEnd)])]⟩ (by kernel_rfl) ?_
                      refine Ops.done (by kernel_rfl) ?_
                      refine seqQ.n ?_
                      refine Wp.block (id := 2) [2, 36, 37, 38] (by kernel_rfl) 2 (by kernel_rfl) (subc [1, 1, 1, 1, 0, 1, 0, 0, 1, 1, 0, 0, 1, 1, 1, 0] C36) (by kernel_rfl) ?_
                      have hLx288 : ∀ (kx259 : Nat) (v257 : Int) (ox258 : Int ⊕ (Int)), iter (fun (y : Int) => f36_B2 m v204 y) kx259 v257 = some ox258 → ∀ nx260, kx259 ≤ nx260 → (∀ r, ox258 = .inl r → ∀ σ, RetOk (X36 n) (resOf Proofs.Try.prog 36) (eI r) σ → (blkQ (X36 n) 1 [2, 36, 37, 38] 1 (seqQ (X36 n) (subc [1, 1, 1, 1, 0, 1, 0, 0, 1, 1, 1] C36) (lpQ (X36 n) [2, 36, 37, 38] 1 (subc [1, 1, 1, 1, 0, 1, 0, 0] C36) nx197 (blkQ (X36 n) 0 [2] 1 (seqQ (X36 n) (subc [1, 1, 1, 1, 1] C36) (fnQ (X36 n).E.T (resOf Proofs.Try.prog 36) (eI o))))))) .ret σ) → (∀ y : Int, ox258 = .inr y → (blkQ (X36 n) 1 [2, 36, 37, 38] 1 (seqQ (X36 n) (subc [1, 1, 1, 1, 0, 1, 0, 0, 1, 1, 1] C36) (lpQ (X36 n) [2, 36, 37, 38] 1 (subc [1, 1, 1, 1, 0, 1, 0, 0] C36) nx197 (blkQ (X36 n) 0 [2] 1 (seqQ (X36 n) (subc [1, 1, 1, 1, 1] C36) (fnQ (X36 n).E.T (resOf Proofs.Try.prog 36) (eI o))))))) .normal ⟨q2 ((dI 0) :: q33 ((dP e64 a0.fContexts) :: (dI ((a0.fContexts.length : Int))) :: (dI v194) :: q17 ((.v (.sl .nonfull (List.map (eL e39) ([v204.fLeft, v204.fRight])))) :: (dI ((([v204.fLeft, v204.fRight]).length : Int))) :: (dI y) :: q17 []))), [(.cells [(dI a0.fKind), (dI a0.fPair.fLexical), (dI a0.fPair.fSurface), (dP e64 a0.fContexts)]), (.cells [(dP e39 v204.fLeft), (dP e39 v204.fRight), (dB v204.fBegin), (dB v204.fEnd)])]⟩) → Lp (X36 n) [2, 36, 37, 38, 56, 57, 58] 2 (subc [1, 1, 1, 1, 0, 1, 0, 0, 1, 1, 0, 0, 1, 1, 1, 0, 0] C36) nx260 ⟨q2 ((dI 0) :: q33 ((dP e64 a0.fContexts) :: (dI ((a0.fContexts.length : Int))) :: (dI v194) :: q17 ((.v (.sl .nonfull (List.map (eL e39) ([v204.fLeft, v204.fRight])))) :: (dI ((([v204.fLeft, v204.fRight]).length : Int))) :: (dI v257) :: q17 []))), [(.cells [(dI a0.fKind), (dI a0.fPair.fLexical), (dI a0.fPair.fSurface), (dP e64 a0.fContexts)]), (.cells [(dP e39 v204.fLeft), (dP e39 v204.fRight), (dB v204.fBegin), (dB v204.fEnd)])]⟩ (blkQ (X36 n) 2 [2, 36, 37, 38] 2 (blkQ (X36 n) 1 [2, 36, 37, 38] 1 (seqQ (X36 n) (subc [1, 1, 1, 1, 0, 1, 0, 0, 1, 1, 1] C36) (lpQ (X36 n) [2, 36, 37, 38] 1 (subc [1, 1, 1, 1, 0, 1, 0, 0] C36) nx197 (blkQ (X36 n) 0 [2] 1 (seqQ (X36 n) (subc [1, 1, 1, 1, 1] C36) (fnQ (X36 n).E.T (resOf Proofs.Try.prog 36) (eI o)))))))) := by
                        intro kx259
                        induction kx259 with
                        | zero => intro v257 ox258 h; exact (iter_zero h).elim
                        | succ kx259 ihx261 =>
                          intro v257 ox258 h nx260 hnx264 hrx262 hxx263
                          obtain ⟨nx260, rfl⟩ : ∃ q, nx260 = q + 1 := ⟨nx260 - 1, by omega⟩
                          obtain ⟨sx265, h, hsx266⟩ := iter_some h
                          have h : f36_B2 m v204 v257 = some sx265 := h
                          unfold f36_B2 at h
                          refine Lp.succ ?_
                          refine Wp.seq (subc [1, 1, 1, 1, 0, 1, 0, 0, 1, 1, 0, 0, 1, 1, 1, 0, 0, 0] C36) (subc [1, 1, 1, 1, 0, 1, 0, 0, 1, 1, 0, 0, 1, 1, 1, 0, 0, 1] C36) (by kernel_rfl) ?_
                          refine Wp.region (by kernel_rfl) ?_
                          refine Ops.seg 1 1 (by kernel_rfl) ⟨q2 ((dI 0) :: q33 ((dP e64 a0.fContexts) :: (dI ((a0.fContexts.length : Int))) :: (dI v194) :: q17 ((.v (.sl .nonfull (List.map (eL e39) ([v204.fLeft, v204.fRight])))) :: (dI ((([v204.fLeft, v204.fRight]).length : Int))) :: (dI v257) :: (dB (decide (v257 < (([v204.fLeft, v204.fRight]).length : Int)))) :: q16 []))), [(.cells [(dI a0.fKind), (dI a0.fPair.fLexical), (dI a0.fPair.fSurface), (dP e64 a0.fContexts)]), (.cells [(dP e39 v204.fLeft), (dP e39 v204.fRight), (dB v204.fBegin), (dB v204.fEnd)])]⟩ (by kernel_rfl) ?_
                          refine Ops.done (by kernel_rfl) ?_
                          refine seqQ.n ?_
                          refine Wp.seq (subc [1, 1, 1, 1, 0, 1, 0, 0, 1, 1, 0, 0, 1, 1, 1, 0, 0, 1, 0] C36) (subc [1, 1, 1, 1, 0, 1, 0, 0, 1, 1, 0, 0, 1, 1, 1, 0, 0, 1, 1] C36) (by kernel_rfl) ?_
                          rcases cnd_some h with ⟨hb, h⟩ | ⟨hb, h⟩
                          · refine Wp.cond (decide (v257 < (([v204.fLeft, v204.fRight]).length : Int))) [2, 36, 37, 38, 56, 57, 58] (by kernel_rfl) 2 (by kernel_rfl) (subc [1, 1, 1, 1, 0, 1, 0, 0, 1, 1, 0, 0, 1, 1, 1, 0, 0, 1, 0, 0] C36) (subc [1, 1, 1, 1, 0, 1, 0, 0, 1, 1, 0, 0, 1, 1, 1, 0, 0, 1, 0, 1] C36) (by kernel_rfl) (by kernel_rfl) (fun _ => ?_) (fun e => nomatch (hb.symm.trans e))
                            refine Wp.skip (by kernel_rfl) ?_
                            refine sqQ.n ⟨q2 ((dI 0) :: q33 ((dP e64 a0.fContexts) :: (dI ((a0.fContexts.length : Int))) :: (dI v194) :: q17 ((.v (.sl .nonfull (List.map (eL e39) ([v204.fLeft, v204.fRight])))) :: (dI ((([v204.fLeft, v204.fRight]).length : Int))) :: (dI v257) :: (dB (decide (v257 < (([v204.fLeft, v204.fRight]).length : Int)))) :: q16 []))), [(.cells [(dI a0.fKind), (dI a0.fPair.fLexical), (dI a0.fPair.fSurface), (dP e64 a0.fContexts)]), (.cells [(dP e39 v204.fLeft), (dP e39 v204.fRight), (dB v204.fBegin), (dB v204.fEnd)])]⟩ (by kernel_rfl) ?_
                            refine seqQ.n ?_
                            refine Wp.seq (subc [1, 1, 1, 1, 0, 1, 0, 0, 1, 1, 0, 0, 1, 1, 1, 0, 0, 1, 1, 0] C36) (subc [1, 1, 1, 1, 0, 1, 0, 0, 1, 1, 0, 0, 1, 1, 1, 0, 0, 1, 1, 1] C36) (by kernel_rfl) ?_
                            refine Wp.block (id := 3) [2, 36, 37, 38, 56, 57, 58] (by kernel_rfl) 2 (by kernel_rfl) (subc [1, 1, 1, 1, 0, 1, 0, 0, 1, 1, 0, 0, 1, 1, 1, 0, 0, 1, 1, 0, 0] C36) (by kernel_rfl) ?_
                            refine Wp.seq (subc [1, 1, 1, 1, 0, 1, 0, 0, 1, 1, 0, 0, 1, 1, 1, 0, 0, 1, 1, 0, 0, 0] C36) (subc [1, 1, 1, 1, 0, 1, 0, 0, 1, 1, 0, 0, 1, 1, 1, 0, 0, 1, 1, 0, 0, 1] C36) (by kernel_rfl) ?_
                            refine Wp.region (by kernel_rfl) ?_
                            obtain ⟨v267, ev267, h⟩ := bnd_some h
                            refine Ops.one 1 (by kernel_rfl) ((indexAddrH (X36 n).E.T [(.cells [(dI a0.fKind), (dI a0.fPair.fLexical), (dI a0.fPair.fSurface), (dP e64 a0.fContexts)]), (.cells [(dP e39 v204.fLeft), (dP e39 v204.fRight), (dB v204.fBegin), (dB v204.fEnd)])] 69 (D.unt (.v (.sl .nonfull (List.map (eL e39) ([v204.fLeft, v204.fRight]))))) (dI v257)).map (·, [(.cells [(dI a0.fKind), (dI a0.fPair.fLexical), (dI a0.fPair.fSurface), (dP e64 a0.fContexts)]), (.cells [(dP e39 v204.fLeft), (dP e39 v204.fRight), (dB v204.fBegin), (dB v204.fEnd)])])) (.vptr [(vP e39 v267)]) [(.cells [(dI a0.fKind), (dI a0.fPair.fLexical), (dI a0.fPair.fSurface), (dP e64 a0.fContexts)]), (.cells [(dP e39 v204.fLeft), (dP e39 v204.fRight), (dB v204.fBegin), (dB v204.fEnd)])] ⟨q2 ((dI 0) :: q33 ((dP e64 a0.fContexts) :: (dI ((a0.fContexts.length : Int))) :: (dI v194) :: q17 ((.v (.sl .nonfull (List.map (eL e39) ([v204.fLeft, v204.fRight])))) :: (dI ((([v204.fLeft, v204.fRight]).length : Int))) :: (dI v257) :: (dB (decide (v257 < (([v204.fLeft, v204.fRight]).length : Int)))) :: (.vptr [(vP e39 v267)]) :: q15 []))), [(.cells [(dI a0.fKind), (dI a0.fPair.fLexical), (dI a0.fPair.fSurface), (dP e64 a0.fContexts)]), (.cells [(dP e39 v204.fLeft), (dP e39 v204.fRight), (dB v204.fBegin), (dB v204.fEnd)])]⟩ (by kernel_rfl) (ix_r _ 69 37 1 .nonfull (eL e39) ([v204.fLeft, v204.fRight]) v257 v267 ev267 (by kernel_rfl) (by kernel_rfl) (fun _ => rfl)) (by kernel_rfl) ?_
                            refine Ops.seg 2 3 (by kernel_rfl) ⟨q2 ((dI 0) :: q4 ((dP e39 v267) :: q28 ((dP e64 a0.fContexts) :: (dI ((a0.fContexts.length : Int))) :: (dI v194) :: q17 ((.v (.sl .nonfull (List.map (eL e39) ([v204.fLeft, v204.fRight])))) :: (dI ((([v204.fLeft, v204.fRight]).length : Int))) :: (dI v257) :: (dB (decide (v257 < (([v204.fLeft, v204.fRight]).length : Int)))) :: (.vptr [(vP e39 v267)]) :: (dP e39 v267) :: q14 [])))), [(.cells [(dI a0.fKind), (dI a0.fPair.fLexical), (dI a0.fPair.fSurface), (dP e64 a0.fContexts)]), (.cells [(dP e39 v204.fLeft), (dP e39 v204.fRight), (dB v204.fBegin), (dB v204.fEnd)])]⟩ (by kernel_rfl) ?_
                            refine Ops.done (by kernel_rfl) ?_
                            refine seqQ.n ?_
                            refine Wp.seq (subc [1, 1, 1, 1, 0, 1, 0, 0, 1, 1, 0, 0, 1, 1, 1, 0, 0, 1, 1, 0, 0, 1, 0] C36) (subc [1, 1, 1, 1, 0, 1, 0, 0, 1, 1, 0, 0, 1, 1, 1, 0, 0, 1, 1, 0, 0, 1, 1] C36) (by kernel_rfl) ?_
                            refine Wp.region (by kernel_rfl) ?_
                            refine Ops.seg 1 1 (by kernel_rfl) ⟨q2 ((dI 0) :: q4 ((dP e39 v267) :: q28 ((dP e64 a0.fContexts) :: (dI ((a0.fContexts.length : Int))) :: (dI v194) :: q17 ((.v (.sl .nonfull (List.map (eL e39) ([v204.fLeft, v204.fRight])))) :: (dI ((([v204.fLeft, v204.fRight]).length : Int))) :: (dI v257) :: (dB (decide (v257 < (([v204.fLeft, v204.fRight]).length : Int)))) :: (.vptr [(vP e39 v267)]) :: (dP e39 v267) :: (dP e39 v267) :: q13 [])))), [(.cells [(dI a0.fKind), (dI a0.fPair.fLexical), (dI a0.fPair.fSurface), (dP e64 a0.fContexts)]), (.cells [(dP e39 v204.fLeft), (dP e39 v204.fRight), (dB v204.fBegin), (dB v204.fEnd)])]⟩ (by kernel_rfl) ?_
                            refine Ops.one 2 (by kernel_rfl) ((lenD (X36 n).E.T 37 (D.unt (dP e39 v267))).map (·, [(.cells [(dI a0.fKind), (dI a0.fPair.fLexical), (dI a0.fPair.fSurface), (dP e64 a0.fContexts)]), (.cells [(dP e39 v204.fLeft), (dP e39 v204.fRight), (dB v204.fBegin), (dB v204.fEnd)])])) (dI ((v267.length : Int))) [(.cells [(dI a0.fKind), (dI a0.fPair.fLexical), (dI a0.fPair.fSurface), (dP e64 a0.fContexts)]), (.cells [(dP e39 v204.fLeft), (dP e39 v204.fRight), (dB v204.fBegin), (dB v204.fEnd)])] ⟨q2 ((dI 0) :: q4 ((dP e39 v267) :: q28 ((dP e64 a0.fContexts) :: (dI ((a0.fContexts.length : Int))) :: (dI v194) :: q17 ((.v (.sl .nonfull (List.map (eL e39) ([v204.fLeft, v204.fRight])))) :: (dI ((([v204.fLeft, v204.fRight]).length : Int))) :: (dI v257) :: (dB (decide (v257 < (([v204.fLeft, v204.fRight]).length : Int)))) :: (.vptr [(vP e39 v267)]) :: (dP e39 v267) :: (dP e39 v267) :: (dI ((v267.length : Int))) :: q12 [])))), [(.cells [(dI a0.fKind), (dI a0.fPair.fLexical), (dI a0.fPair.fSurface), (dP e64 a0.fContexts)]), (.cells [(dP e39 v204.fLeft), (dP e39 v204.fRight), (dB v204.fBegin), (dB v204.fEnd)])]⟩ (by kernel_rfl) (len_r _ 37 40 .plain e39 v267 (by kernel_rfl)) (by kernel_rfl) ?_
                            refine Ops.seg 1 3 (by kernel_rfl) ⟨q2 ((dI 0) :: q4 ((dP e39 v267) :: q28 ((dP e64 a0.fContexts) :: (dI ((a0.fContexts.length : Int))) :: (dI v194) :: q17 ((.v (.sl .nonfull (List.map (eL e39) ([v204.fLeft, v204.fRight])))) :: (dI ((([v204.fLeft, v204.fRight]).length : Int))) :: (dI v257) :: (dB (decide (v257 < (([v204.fLeft, v204.fRight]).length : Int)))) :: (.vptr [(vP e39 v267)]) :: (dP e39 v267) :: (dP e39 v267) :: (dI ((v267.length : Int))) :: (dI 0) :: q11 [])))), [(.cells [(dI a0.fKind), (dI a0.fPair.fLexical), (dI a0.fPair.fSurface), (dP e64 a0.fContexts)]), (.cells [(dP e39 v204.fLeft), (dP e39 v204.fRight), (dB v204.fBegin), (dB v204.fEnd)])]⟩ (by kernel_rfl) ?_
                            refine Ops.done (by kernel_rfl) ?_
                            refine seqQ.n ?_
                            refine Wp.block (id := 4) [2, 36, 37, 38, 56, 57, 58] (by kernel_rfl) 2 (by kernel_rfl) (subc [1, 1, 1, 1, 0, 1, 0, 0, 1, 1, 0, 0, 1, 1, 1, 0, 0, 1, 1, 0, 0, 1, 1, 0] C36) (by kernel_rfl) ?_
                            have hLx285 : ∀ (kx275 : Nat) (v273 : Int) (ox274 : Int ⊕ (Int)), iter (fun (y : Int) => f36_B1 m v267 y) kx275 v273 = some ox274 → ∀ nx276, kx275 ≤ nx276 → (∀ r, ox274 = .inl r → ∀ σ, RetOk (X36 n) (resOf Proofs.Try.prog 36) (eI r) σ → (blkQ (X36 n) 3 [2, 36, 37, 38, 56, 57, 58] 2 (seqQ (X36 n) (subc [1, 1, 1, 1, 0, 1, 0, 0, 1, 1, 0, 0, 1, 1, 1, 0, 0, 1, 1, 1] C36) (lpQ (X36 n) [2, 36, 37, 38, 56, 57, 58] 2 (subc [1, 1, 1, 1, 0, 1, 0, 0, 1, 1, 0, 0, 1, 1, 1, 0, 0] C36) nx260 (blkQ (X36 n) 2 [2, 36, 37, 38] 2 (blkQ (X36 n) 1 [2, 36, 37, 38] 1 (seqQ (X36 n) (subc [1, 1, 1, 1, 0, 1, 0, 0, 1, 1, 1] C36) (lpQ (X36 n) [2, 36, 37, 38] 1 (subc [1, 1, 1, 1, 0, 1, 0, 0] C36) nx197 (blkQ (X36 n) 0 [2] 1 (seqQ (X36 n) (subc [1, 1, 1, 1, 1] C36) (fnQ (X36 n).E.T (resOf Proofs.Try.prog 36) (eI o))))))))))) .ret σ) → (∀ y : Int, ox274 = .inr y → (blkQ (X36 n) 3 [2, 36, 37, 38, 56, 57, 58] 2 (seqQ (X36 n) (subc [1, 1, 1, 1, 0, 1, 0, 0, 1, 1, 0, 0, 1, 1, 1, 0, 0, 1, 1, 1] C36) (lpQ (X36 n) [2, 36, 37, 38, 56, 57, 58] 2 (subc [1, 1, 1, 1, 0, 1, 0, 0, 1, 1, 0, 0, 1, 1, 1, 0, 0] C36) nx260 (blkQ (X36 n) 2 [2, 36, 37, 38] 2 (blkQ (X36 n) 1 [2, 36, 37, 38] 1 (seqQ (X36 n) (subc [1, 1, 1, 1, 0, 1, 0, 0, 1, 1, 1] C36) (lpQ (X36 n) [2, 36, 37, 38] 1 (subc [1, 1, 1, 1, 0, 1, 0, 0] C36) nx197 (blkQ (X36 n) 0 [2] 1 (seqQ (X36 n) (subc [1, 1, 1, 1, 1] C36) (fnQ (X36 n).E.T (resOf Proofs.Try.prog 36) (eI o))))))))))) .normal ⟨q2 ((dI 0) :: q33 ((dP e64 a0.fContexts) :: (dI ((a0.fContexts.length : Int))) :: (dI v194) :: q17 ((.v (.sl .nonfull (List.map (eL e39) ([v204.fLeft, v204.fRight])))) :: (dI ((([v204.fLeft, v204.fRight]).length : Int))) :: (dI v257) :: q3 ((dP e39 v267) :: (dI ((v267.length : Int))) :: (dI y) :: q11 [])))), [(.cells [(dI a0.fKind), (dI a0.fPair.fLexical), (dI a0.fPair.fSurface), (dP e64 a0.fContexts)]), (.cells [(dP e39 v204.fLeft), (dP e39 v204.fRight), (dB v204.fBegin), (dB v204.fEnd)])]⟩) → Lp (X36 n) [2, 36, 37, 38, 56, 57, 58, 62, 63, 64] 2 (subc [1, 1, 1, 1, 0, 1, 0, 0, 1, 1, 0, 0, 1, 1, 1, 0, 0, 1, 1, 0, 0, 1, 1, 0, 0] C36) nx276 ⟨q2 ((dI 0) :: q33 ((dP e64 a0.fContexts) :: (dI ((a0.fContexts.length : Int))) :: (dI v194) :: q17 ((.v (.sl .nonfull (List.map (eL e39) ([v204.fLeft, v204.fRight])))) :: (dI ((([v204.fLeft, v204.fRight]).length : Int))) :: (dI v257) :: q3 ((dP e39 v267) :: (dI ((v267.length : Int))) :: (dI v273) :: q11 [])))), [(.cells [(dI a0.fKind), (dI a0.fPair.fLexical), (dI a0.fPair.fSurface), (dP e64 a0.fContexts)]), (.cells [(dP e39 v204.fLeft), (dP e39 v204.fRight), (dB v204.fBegin), (dB v204.fEnd)])]⟩ (blkQ (X36 n) 4 [2, 36, 37, 38, 56, 57, 58] 2 (blkQ (X36 n) 3 [2, 36, 37, 38, 56, 57, 58] 2 (seqQ (X36 n) (subc [1, 1, 1, 1, 0, 1, 0, 0, 1, 1, 0, 0, 1, 1, 1, 0, 0, 1, 1, 1] C36) (lpQ (X36 n) [2, 36, 37, 38, 56, 57, 58] 2 (subc [1, 1, 1, 1, 0, 1, 0, 0, 1, 1, 0, 0, 1, 1, 1, 0, 0] C36) nx260 (blkQ (X36 n) 2 [2, 36, 37, 38] 2 (blkQ (X36 n) 1 [2, 36, 37, 38] 1 (seqQ (X36 n) (subc [1, 1, 1, 1, 0, 1, 0, 0, 1, 1, 1] C36) (lpQ (X36 n) [2, 36, 37, 38] 1 (subc [1, 1, 1, 1, 0, 1, 0, 0] C36) nx197 (blkQ (X36 n) 0 [2] 1 (seqQ (X36 n) (subc [1, 1, 1, 1, 1] C36) (fnQ (X36 n).E.T (resOf Proofs.Try.prog 36) (eI o)))))))))))) := by
                              intro kx275
                              induction kx275 with
                              | zero => intro v273 ox274 h; exact (iter_zero h).elim
                              | succ kx275 ihx277 =>
                                intro v273 ox274 h nx276 hnx280 hrx278 hxx279
                                obtain ⟨nx276, rfl⟩ : ∃ q, nx276 = q + 1 := ⟨nx276 - 1, by omega⟩
                                obtain ⟨sx281, h, hsx282⟩ := iter_some h
                                have h : f36_B1 m v267 v273 = some sx281 := h
                                unfold f36_B1 at h
                                refine Lp.succ ?_
                                refine Wp.seq (subc [1, 1, 1, 1, 0, 1, 0, 0, 1, 1, 0, 0, 1, 1, 1, 0, 0, 1, 1, 0, 0, 1, 1, 0, 0, 0] C36) (subc [1, 1, 1, 1, 0, 1, 0, 0, 1, 1, 0, 0, 1, 1, 1, 0, 0, 1, 1, 0, 0, 1, 1, 0, 0, 1] C36) (by kernel_rfl) ?_
                                refine Wp.region (by kernel_rfl) ?_
                                refine Ops.seg 1 1 (by kernel_rfl) ⟨q2 ((dI 0) :: q33 ((dP e64 a0.fContexts) :: (dI ((a0.fContexts.length : Int))) :: (dI v194) :: q17 ((.v (.sl .nonfull (List.map (eL e39) ([v204.fLeft, v204.fRight])))) :: (dI ((([v204.fLeft, v204.fRight]).length : Int))) :: (dI v257) :: q3 ((dP e39 v267) :: (dI ((v267.length : Int))) :: (dI v273) :: (dB (decide (v273 < (v267.length : Int)))) :: q10 [])))), [(.cells [(dI a0.fKind), (dI a0.fPair.fLexical), (dI a0.fPair.fSurface), (dP e64 a0.fContexts)]), (.cells [(dP e39 v204.fLeft), (dP e39 v204.fRight), (dB v204.fBegin), (dB v204.fEnd)])]⟩ (by kernel_rfl) ?_
                                refine Ops.done (by kernel_rfl) ?_
                                refine seqQ.n ?_
                                refine Wp.seq (subc [1, 1, 1, 1, 0, 1, 0, 0, 1, 1, 0, 0, 1, 1, 1, 0, 0, 1, 1, 0, 0, 1, 1, 0, 0, 1, 0] C36) (subc [1, 1, 1, 1, 0, 1, 0, 0, 1, 1, 0, 0, 1, 1, 1, 0, 0, 1, 1, 0, 0, 1, 1, 0, 0, 1, 1] C36) (by kernel_rfl) ?_
                                rcases cnd_some h with ⟨hb, h⟩ | ⟨hb, h⟩
                                · refine Wp.cond (decide (v273 < (v267.length : Int))) [2, 36, 37, 38, 56, 57, 58, 62, 63, 64] (by kernel_rfl) 2 (by kernel_rfl) (subc [1, 1, 1, 1, 0, 1, 0, 0, 1, 1, 0, 0, 1, 1, 1, 0, 0, 1, 1, 0, 0, 1, 1, 0, 0, 1, 0, 0] C36) (subc [1, 1, 1, 1, 0, 1, 0, 0, 1, 1, 0, 0, 1, 1, 1, 0, 0, 1, 1, 0, 0, 1, 1, 0, 0, 1, 0, 1] C36) (by kernel_rfl) (by kernel_rfl) (fun _ => ?_) (fun e => nomatch (hb.symm.trans e))
                                  refine Wp.skip (by kernel_rfl) ?_
                                  refine sqQ.n ⟨q2 ((dI 0) :: q33 ((dP e64 a0.fContexts) :: (dI ((a0.fContexts.length : Int))) :: (dI v194) :: q17 ((.v (.sl .nonfull (List.map (eL e39) ([v204.fLeft, v204.fRight])))) :: (dI ((([v204.fLeft, v204.fRight]).length : Int))) :: (dI v257) :: q3 ((dP e39 v267) :: (dI ((v267.length : Int))) :: (dI v273) :: (dB (decide (v273 < (v267.length : Int)))) :: q10 [])))), [(.cells [(dI a0.fKind), (dI a0.fPair.fLexical), (dI a0.fPair.fSurface), (dP e64 a0.fContexts)]), (.cells [(dP e39 v204.fLeft), (dP e39 v204.fRight), (dB v204.fBegin), (dB v204.fEnd)])]⟩ (by kernel_rfl) ?_
                                  refine seqQ.n ?_
                                  refine Wp.seq (subc [1, 1, 1, 1, 0, 1, 0, 0, 1, 1, 0, 0, 1, 1, 1, 0, 0, 1, 1, 0, 0, 1, 1, 0, 0, 1, 1, 0] C36) (subc [1, 1, 1, 1, 0, 1, 0, 0, 1, 1, 0, 0, 1, 1, 1, 0, 0, 1, 1, 0, 0, 1, 1, 0, 0, 1, 1, 1] C36) (by kernel_rfl) ?_
                                  refine Wp.block (id := 5) [2, 36, 37, 38, 56, 57, 58, 62, 63, 64] (by kernel_rfl) 2 (by kernel_rfl) (subc [1, 1, 1, 1, 0, 1, 0, 0, 1, 1, 0, 0, 1, 1, 1, 0, 0, 1, 1, 0, 0, 1, 1, 0, 0, 1, 1, 0, 0] C36) (by kernel_rfl) ?_
                                  refine Wp.seq (subc [1, 1, 1, 1, 0, 1, 0, 0, 1, 1, 0, 0, 1, 1, 1, 0, 0, 1, 1, 0, 0, 1, 1, 0, 0, 1, 1, 0, 0, 0] C36) (subc [1, 1, 1, 1, 0, 1, 0, 0, 1, 1, 0, 0, 1, 1, 1, 0, 0, 1, 1, 0, 0, 1, 1, 0, 0, 1, 1, 0, 0, 1] C36) (by kernel_rfl) ?_
                                  refine Wp.region (by kernel_rfl) ?_
                                  obtain ⟨v283, ev283, h⟩ := bnd_some h
                                  refine Ops.one 1 (by kernel_rfl) ((indexAddrH (X36 n).E.T [(.cells [(dI a0.fKind), (dI a0.fPair.fLexical), (dI a0.fPair.fSurface), (dP e64 a0.fContexts)]), (.cells [(dP e39 v204.fLeft), (dP e39 v204.fRight), (dB v204.fBegin), (dB v204.fEnd)])] 37 (D.unt (dP e39 v267)) (dI v273)).map (·, [(.cells [(dI a0.fKind), (dI a0.fPair.fLexical), (dI a0.fPair.fSurface), (dP e64 a0.fContexts)]), (.cells [(dP e39 v204.fLeft), (dP e39 v204.fRight), (dB v204.fBegin), (dB v204.fEnd)])])) (.vptr [(vI v283.fLexical), (vI v283.fSurface)]) [(.cells [(dI a0.fKind), (dI a0.fPair.fLexical), (dI a0.fPair.fSurface), (dP e64 a0.fContexts)]), (.cells [(dP e39 v204.fLeft), (dP e39 v204.fRight), (dB v204.fBegin), (dB v204.fEnd)])] ⟨q2 ((dI 0) :: q33 ((dP e64 a0.fContexts) :: (dI ((a0.fContexts.length : Int))) :: (dI v194) :: q17 ((.v (.sl .nonfull (List.map (eL e39) ([v204.fLeft, v204.fRight])))) :: (dI ((([v204.fLeft, v204.fRight]).length : Int))) :: (dI v257) :: q3 ((dP e39 v267) :: (dI ((v267.length : Int))) :: (dI v273) :: (dB (decide (v273 < (v267.length : Int)))) :: (.vptr [(vI v283.fLexical), (vI v283.fSurface)]) :: q9 [])))), [(.cells [(dI a0.fKind), (dI a0.fPair.fLexical), (dI a0.fPair.fSurface), (dP e64 a0.fContexts)]), (.cells [(dP e39 v204.fLeft), (dP e39 v204.fRight), (dB v204.fBegin), (dB v204.fEnd)])]⟩ (by kernel_rfl) (ix_r _ 37 40 2 .plain e39 v267 v273 v283 ev283 (by kernel_rfl) (by kernel_rfl) (fun _ => rfl)) (by kernel_rfl) ?_
                                  refine Ops.seg 3 4 (by kernel_rfl) ⟨q2 ((dI 0) :: q6 ((.ptr 2 0) :: q26 ((dP e64 a0.fContexts) :: (dI ((a0.fContexts.length : Int))) :: (dI v194) :: q17 ((.v (.sl .nonfull (List.map (eL e39) ([v204.fLeft, v204.fRight])))) :: (dI ((([v204.fLeft, v204.fRight]).length : Int))) :: (dI v257) :: q3 ((dP e39 v267) :: (dI ((v267.length : Int))) :: (dI v273) :: (dB (decide (v273 < (v267.length : Int)))) :: (.vptr [(vI v283.fLexical), (vI v283.fSurface)]) :: (.v (.agg [(vI v283.fLexical), (vI v283.fSurface)])) :: q8 []))))), [(.cells [(dI a0.fKind), (dI a0.fPair.fLexical), (dI a0.fPair.fSurface), (dP e64 a0.fContexts)]), (.cells [(dP e39 v204.fLeft), (dP e39 v204.fRight), (dB v204.fBegin), (dB v204.fEnd)]), (.cells [(dI v283.fLexical), (dI v283.fSurface)])]⟩ (by kernel_rfl) ?_
                                  refine Ops.done (by kernel_rfl) ?_
                                  refine seqQ.n ?_
                                  refine Wp.seq (subc [1, 1, 1, 1, 0, 1, 0, 0, 1, 1, 0, 0, 1, 1, 1, 0, 0, 1, 1, 0, 0, 1, 1, 0, 0, 1, 1, 0, 0, 1, 0] C36) (subc [1, 1, 1, 1, 0, 1, 0, 0, 1, 1, 0, 0, 1, 1, 1, 0, 0, 1, 1, 0, 0, 1, 1, 0, 0, 1, 1, 0, 0, 1, 1] C36) (by kernel_rfl) ?_
                                  refine Wp.region (by kernel_rfl) ?_
                                  refine Ops.seg 1 1 (by kernel_rfl) ⟨q2 ((dI 0) :: q6 ((.ptr 2 0) :: q26 ((dP e64 a0.fContexts) :: (dI ((a0.fContexts.length : Int))) :: (dI v194) :: q17 ((.v (.sl .nonfull (List.map (eL e39) ([v204.fLeft, v204.fRight])))) :: (dI ((([v204.fLeft, v204.fRight]).length : Int))) :: (dI v257) :: q3 ((dP e39 v267) :: (dI ((v267.length : Int))) :: (dI v273) :: (dB (decide (v273 < (v267.length : Int)))) :: (.vptr [(vI v283.fLexical), (vI v283.fSurface)]) :: (.v (.agg [(vI v283.fLexical), (vI v283.fSurface)])) :: (.v (.agg [(vI v283.fLexical), (vI v283.fSurface)])) :: q7 []))))), [(.cells [(dI a0.fKind), (dI a0.fPair.fLexical), (dI a0.fPair.fSurface), (dP e64 a0.fContexts)]), (.cells [(dP e39 v204.fLeft), (dP e39 v204.fRight), (dB v204.fBegin), (dB v204.fEnd)]), (.cells [(dI v283.fLexical), (dI v283.fSurface)])]⟩ (by kernel_rfl) ?_
                                  obtain ⟨v284, ev284, h⟩ := bnd_some h
                                  refine Ops.one 2 (by kernel_rfl) (callD (X36 n).E (run Proofs.Try.prog E n) 37 [(.v (.agg [(vI v283.fLexical), (vI v283.fSurface)])), (dI ((-1)))] [(.cells [(dI a0.fKind), (dI a0.fPair.fLexical), (dI a0.fPair.fSurface), (dP e64 a0.fContexts)]), (.cells [(dP e39 v204.fLeft), (dP e39 v204.fRight), (dB v204.fBegin), (dB v204.fEnd)]), (.cells [(dI v283.fLexical), (dI v283.fSurface)])]) (dI v284) [(.cells [(dI a0.fKind), (dI a0.fPair.fLexical), (dI a0.fPair.fSurface), (dP e64 a0.fContexts)]), (.cells [(dP e39 v204.fLeft), (dP e39 v204.fRight), (dB v204.fBegin), (dB v204.fEnd)]), (.cells [(dI v283.fLexical), (dI v283.fSurface)])] ⟨q2 ((dI 0) :: q6 ((.ptr 2 0) :: q26 ((dP e64 a0.fContexts) :: (dI ((a0.fContexts.length : Int))) :: (dI v194) :: q17 ((.v (.sl .nonfull (List.map (eL e39) ([v204.fLeft, v204.fRight])))) :: (dI ((([v204.fLeft, v204.fRight]).length : Int))) :: (dI v257) :: q3 ((dP e39 v267) :: (dI ((v267.length : Int))) :: (dI v273) :: (dB (decide (v273 < (v267.length : Int)))) :: (.vptr [(vI v283.fLexical), (vI v283.fSurface)]) :: (.v (.agg [(vI v283.fLexical), (vI v283.fSurface)])) :: (.v (.agg [(vI v283.fLexical), (vI v283.fSurface)])) :: (dI v284) :: q6 []))))), [(.cells [(dI a0.fKind), (dI a0.fPair.fLexical), (dI a0.fPair.fSurface), (dP e64 a0.fContexts)]), (.cells [(dP e39 v204.fLeft), (dP e39 v204.fRight), (dB v204.fBegin), (dB v204.fEnd)]), (.cells [(dI v283.fLexical), (dI v283.fSurface)])]⟩ (by kernel_rfl) (call_ok (by kernel_rfl) (Args.v (.agg [(vI v283.fLexical), (vI v283.fSurface)]) (e39 v283) (by kernel_rfl) (Args.v (vI ((-1))) (eI ((-1))) (by kernel_rfl) Args.nil)) (ok37 m v283 ((-1)) v284 ev284 n (by omega))) (by kernel_rfl) ?_
                                  refine Ops.seg 1 3 (by kernel_rfl) ⟨q2 ((dI 0) :: q6 ((.ptr 2 0) :: (dI v284) :: q25 ((dP e64 a0.fContexts) :: (dI ((a0.fContexts.length : Int))) :: (dI v194) :: q17 ((.v (.sl .nonfull (List.map (eL e39) ([v204.fLeft, v204.fRight])))) :: (dI ((([v204.fLeft, v204.fRight]).length : Int))) :: (dI v257) :: q3 ((dP e39 v267) :: (dI ((v267.length : Int))) :: (dI v273) :: (dB (decide (v273 < (v267.length : Int)))) :: (.vptr [(vI v283.fLexical), (vI v283.fSurface)]) :: (.v (.agg [(vI v283.fLexical), (vI v283.fSurface)])) :: (.v (.agg [(vI v283.fLexical), (vI v283.fSurface)])) :: (dI v284) :: q6 []))))), [(.cells [(dI a0.fKind), (dI a0.fPair.fLexical), (dI a0.fPair.fSurface), (dP e64 a0.fContexts)]), (.cells [(dP e39 v204.fLeft), (dP e39 v204.fRight), (dB v204.fBegin), (dB v204.fEnd)]), (.cells [(dI v283.fLexical), (dI v283.fSurface)])]⟩ (by kernel_rfl) ?_
                                  refine Ops.done (by kernel_rfl) ?_
                                  refine seqQ.n ?_
                                  refine Wp.seq (subc [1, 1, 1, 1, 0, 1, 0, 0, 1, 1, 0, 0, 1, 1, 1, 0, 0, 1, 1, 0, 0, 1, 1, 0, 0, 1, 1, 0, 0, 1, 1, 0] C36) (subc [1, 1, 1, 1, 0, 1, 0, 0, 1, 1, 0, 0, 1, 1, 1, 0, 0, 1, 1, 0, 0, 1, 1, 0, 0, 1, 1, 0, 0, 1, 1, 1] C36) (by kernel_rfl) ?_
                                  refine Wp.region (by kernel_rfl) ?_
                                  refine Ops.seg 2 2 (by kernel_rfl) ⟨q2 ((dI 0) :: q6 ((.ptr 2 0) :: (dI v284) :: q25 ((dP e64 a0.fContexts) :: (dI ((a0.fContexts.length : Int))) :: (dI v194) :: q17 ((.v (.sl .nonfull (List.map (eL e39) ([v204.fLeft, v204.fRight])))) :: (dI ((([v204.fLeft, v204.fRight]).length : Int))) :: (dI v257) :: q3 ((dP e39 v267) :: (dI ((v267.length : Int))) :: (dI v273) :: (dB (decide (v273 < (v267.length : Int)))) :: (.vptr [(vI v283.fLexical), (vI v283.fSurface)]) :: (.v (.agg [(vI v283.fLexical), (vI v283.fSurface)])) :: (.v (.agg [(vI v283.fLexical), (vI v283.fSurface)])) :: (dI v284) :: (dI v284) :: (dB (v284 != 0)) :: q4 []))))), [(.cells [(dI a0.fKind), (dI a0.fPair.fLexical), (dI a0.fPair.fSurface), (dP e64 a0.fContexts)]), (.cells [(dP e39 v204.fLeft), (dP e39 v204.fRight), (dB v204.fBegin), (dB v204.fEnd)]), (.cells [(dI v283.fLexical), (dI v283.fSurface)])]⟩ (by kernel_rfl) ?_
                                  refine Ops.done (by kernel_rfl) ?_
                                  refine seqQ.n ?_
                                  rcases cnd_some h with ⟨hb, h⟩ | ⟨hb, h⟩
                                  · refine Wp.cond (v284 != 0) [2, 36, 37, 38, 56, 57, 58, 62, 63, 64] (by kernel_rfl) 3 (by kernel_rfl) (subc [1, 1, 1, 1, 0, 1, 0, 0, 1, 1, 0, 0, 1, 1, 1, 0, 0, 1, 1, 0, 0, 1, 1, 0, 0, 1, 1, 0, 0, 1, 1, 1, 0] C36) (subc [1, 1, 1, 1, 0, 1, 0, 0, 1, 1, 0, 0, 1, 1, 1, 0, 0, 1, 1, 0, 0, 1, 1, 0, 0, 1, 1, 0, 0, 1, 1, 1, 1] C36) (by kernel_rfl) (by kernel_rfl) (fun _ => ?_) (fun e => nomatch (hb.symm.trans e))
                                    refine Wp.seq (subc [1, 1, 1, 1, 0, 1, 0, 0, 1, 1, 0, 0, 1, 1, 1, 0, 0, 1, 1, 0, 0, 1, 1, 0, 0, 1, 1, 0, 0, 1, 1, 1, 0, 0] C36) (subc [1, 1, 1, 1, 0, 1, 0, 0, 1, 1, 0, 0, 1, 1, 1, 0, 0, 1, 1, 0, 0, 1, 1, 0, 0, 1, 1, 0, 0, 1, 1, 1, 0, 1] C36) (by kernel_rfl) ?_
                                    refine Wp.region (by kernel_rfl) ?_
                                    refine Ops.seg 2 2 (by kernel_rfl) ⟨q2 ((dI v284) :: q6 ((.ptr 2 0) :: (dI v284) :: q25 ((dP e64 a0.fContexts) :: (dI ((a0.fContexts.length : Int))) :: (dI v194) :: q17 ((.v (.sl .nonfull (List.map (eL e39) ([v204.fLeft, v204.fRight])))) :: (dI ((([v204.fLeft, v204.fRight]).length : Int))) :: (dI v257) :: q3 ((dP e39 v267) :: (dI ((v267.length : Int))) :: (dI v273) :: (dB (decide (v273 < (v267.length : Int)))) :: (.vptr [(vI v283.fLexical), (vI v283.fSurface)]) :: (.v (.agg [(vI v283.fLexical), (vI v283.fSurface)])) :: (.v (.agg [(vI v283.fLexical), (vI v283.fSurface)])) :: (dI v284) :: (dI v284) :: (dB (v284 != 0)) :: (dI v284) :: q3 []))))), [(.cells [(dI a0.fKind), (dI a0.fPair.fLexical), (dI a0.fPair.fSurface), (dP e64 a0.fContexts)]), (.cells [(dP e39 v204.fLeft), (dP e39 v204.fRight), (dB v204.fBegin), (dB v204.fEnd)]), (.cells [(dI v283.fLexical), (dI v283.fSurface)])]⟩ (by kernel_rfl) ?_
                                    refine Ops.done (by kernel_rfl) ?_
                                    refine seqQ.n ?_
                                    refine Wp.ret (by kernel_rfl) ?_
                                    refine sqQ.r ?_
                                    refine blkQ.r ?_
                                    refine seqQ.r ?_
                                    cases h
                                    refine lpQ.r ?_
                                    refine blkQ.r ?_
                                    exact hrx278 _ hsx282 _ (RetOk.forget [2, 36, 37, 38, 56, 57, 58, 62, 63, 64] (by kernel_rfl) (RetOk.mk' (dI v284) (by kernel_rfl) (by kernel_rfl)))
                                  · refine Wp.cond (v284 != 0) [2, 36, 37, 38, 56, 57, 58, 62, 63, 64] (by kernel_rfl) 3 (by kernel_rfl) (subc [1, 1, 1, 1, 0, 1, 0, 0, 1, 1, 0, 0, 1, 1, 1, 0, 0, 1, 1, 0, 0, 1, 1, 0, 0, 1, 1, 0, 0, 1, 1, 1, 0] C36) (subc [1, 1, 1, 1, 0, 1, 0, 0, 1, 1, 0, 0, 1, 1, 1, 0, 0, 1, 1, 0, 0, 1, 1, 0, 0, 1, 1, 0, 0, 1, 1, 1, 1] C36) (by kernel_rfl) (by kernel_rfl) (fun e => nomatch (hb.symm.trans e)) (fun _ => ?_)
                                    refine Wp.skip (by kernel_rfl) ?_
                                    refine sqQ.n ⟨q2 ((dI 0) :: q6 ((.ptr 2 0) :: (dI v284) :: q25 ((dP e64 a0.fContexts) :: (dI ((a0.fContexts.length : Int))) :: (dI v194) :: q17 ((.v (.sl .nonfull (List.map (eL e39) ([v204.fLeft, v204.fRight])))) :: (dI ((([v204.fLeft, v204.fRight]).length : Int))) :: (dI v257) :: q3 ((dP e39 v267) :: (dI ((v267.length : Int))) :: (dI v273) :: (dB (decide (v273 < (v267.length : Int)))) :: (.vptr [(vI v283.fLexical), (vI v283.fSurface)]) :: (.v (.agg [(vI v283.fLexical), (vI v283.fSurface)])) :: (.v (.agg [(vI v283.fLexical), (vI v283.fSurface)])) :: (dI v284) :: (dI v284) :: (dB (v284 != 0)) :: q4 []))))), [(.cells [(dI a0.fKind), (dI a0.fPair.fLexical), (dI a0.fPair.fSurface), (dP e64 a0.fContexts)]), (.cells [(dP e39 v204.fLeft), (dP e39 v204.fRight), (dB v204.fBegin), (dB v204.fEnd)]), (.cells [(dI v283.fLexical), (dI v283.fSurface)])]⟩ (by kernel_rfl) ?_
                                    refine blkQ.n ⟨q2 ((dI 0) :: q33 ((dP e64 a0.fContexts) :: (dI ((a0.fContexts.length : Int))) :: (dI v194) :: q17 ((.v (.sl .nonfull (List.map (eL e39) ([v204.fLeft, v204.fRight])))) :: (dI ((([v204.fLeft, v204.fRight]).length : Int))) :: (dI v257) :: q3 ((dP e39 v267) :: (dI ((v267.length : Int))) :: (dI v273) :: q11 [])))), [(.cells [(dI a0.fKind), (dI a0.fPair.fLexical), (dI a0.fPair.fSurface), (dP e64 a0.fContexts)]), (.cells [(dP e39 v204.fLeft), (dP e39 v204.fRight), (dB v204.fBegin), (dB v204.fEnd)])]⟩ (by kernel_rfl) ?_
                                    refine seqQ.n ?_
                                    refine Wp.region (by kernel_rfl) ?_
                                    refine Ops.seg 2 2 (by kernel_rfl) ⟨q2 ((dI 0) :: q33 ((dP e64 a0.fContexts) :: (dI ((a0.fContexts.length : Int))) :: (dI v194) :: q17 ((.v (.sl .nonfull (List.map (eL e39) ([v204.fLeft, v204.fRight])))) :: (dI ((([v204.fLeft, v204.fRight]).length : Int))) :: (dI v257) :: q3 ((dP e39 v267) :: (dI ((v267.length : Int))) :: (dI (w64 (v273 + 1))) :: q8 ((dI (w64 (v273 + 1))) :: q2 []))))), [(.cells [(dI a0.fKind), (dI a0.fPair.fLexical), (dI a0.fPair.fSurface), (dP e64 a0.fContexts)]), (.cells [(dP e39 v204.fLeft), (dP e39 v204.fRight), (dB v204.fBegin), (dB v204.fEnd)])]⟩ (by kernel_rfl) ?_
                                    refine Ops.done (by kernel_rfl) ?_
                                    refine lpQ.n ⟨q2 ((dI 0) :: q33 ((dP e64 a0.fContexts) :: (dI ((a0.fContexts.length : Int))) :: (dI v194) :: q17 ((.v (.sl .nonfull (List.map (eL e39) ([v204.fLeft, v204.fRight])))) :: (dI ((([v204.fLeft, v204.fRight]).length : Int))) :: (dI v257) :: q3 ((dP e39 v267) :: (dI ((v267.length : Int))) :: (dI (w64 (v273 + 1))) :: q11 [])))), [(.cells [(dI a0.fKind), (dI a0.fPair.fLexical), (dI a0.fPair.fSurface), (dP e64 a0.fContexts)]), (.cells [(dP e39 v204.fLeft), (dP e39 v204.fRight), (dB v204.fBegin), (dB v204.fEnd)])]⟩ (by kernel_rfl) ?_
                                    cases h
                                    exact ihx277 (w64 (v273 + 1)) _ hsx282 _ (by omega) hrx278 hxx279
                                · refine Wp.cond (decide (v273 < (v267.length : Int))) [2, 36, 37, 38, 56, 57, 58, 62, 63, 64] (by kernel_rfl) 2 (by kernel_rfl) (subc [1, 1, 1, 1, 0, 1, 0, 0, 1, 1, 0, 0, 1, 1, 1, 0, 0, 1, 1, 0, 0, 1, 1, 0, 0, 1, 0, 0] C36) (subc [1, 1, 1, 1, 0, 1, 0, 0, 1, 1, 0, 0, 1, 1, 1, 0, 0, 1, 1, 0, 0, 1, 1, 0, 0, 1, 0, 1] C36) (by kernel_rfl) (by kernel_rfl) (fun e => nomatch (hb.symm.trans e)) (fun _ => ?_)
                                  refine Wp.exit (id := 4) (by kernel_rfl) ?_
                                  refine sqQ.x ?_
                                  refine seqQ.x ?_
                                  cases h
                                  refine lpQ.x ?_
                                  refine blkQ.x ⟨q2 ((dI 0) :: q33 ((dP e64 a0.fContexts) :: (dI ((a0.fContexts.length : Int))) :: (dI v194) :: q17 ((.v (.sl .nonfull (List.map (eL e39) ([v204.fLeft, v204.fRight])))) :: (dI ((([v204.fLeft, v204.fRight]).length : Int))) :: (dI v257) :: q3 ((dP e39 v267) :: (dI ((v267.length : Int))) :: (dI v273) :: q11 [])))), [(.cells [(dI a0.fKind), (dI a0.fPair.fLexical), (dI a0.fPair.fSurface), (dP e64 a0.fContexts)]), (.cells [(dP e39 v204.fLeft), (dP e39 v204.fRight), (dB v204.fBegin), (dB v204.fEnd)])]⟩ (by kernel_rfl) ?_
                                  exact hxx279 v273 hsx282
                            refine Wp.loop [2, 36, 37, 38, 56, 57, 58, 62, 63, 64] 2 (by kernel_rfl) (subc [1, 1, 1, 1, 0, 1, 0, 0, 1, 1, 0, 0, 1, 1, 1, 0, 0, 1, 1, 0, 0, 1, 1, 0, 0] C36) (by kernel_rfl) (by kernel_rfl) ⟨q2 ((dI 0) :: q33 ((dP e64 a0.fContexts) :: (dI ((a0.fContexts.length : Int))) :: (dI v194) :: q17 ((.v (.sl .nonfull (List.map (eL e39) ([v204.fLeft, v204.fRight])))) :: (dI ((([v204.fLeft, v204.fRight]).length : Int))) :: (dI v257) :: q3 ((dP e39 v267) :: (dI ((v267.length : Int))) :: (dI 0) :: q11 [])))), [(.cells [(dI a0.fKind), (dI a0.fPair.fLexical), (dI a0.fPair.fSurface), (dP e64 a0.fContexts)]), (.cells [(dP e39 v204.fLeft), (dP e39 v204.fRight), (dB v204.fBegin), (dB v204.fEnd)])]⟩ (by kernel_rfl) ?_
                            rcases brk_some h with ⟨r287, er287, h⟩ | ⟨y286, ey286, h⟩
                            · refine hLx285 _ 0 _ er287 n (by omega) (fun r er σ hσ => ?_) (fun y ey => by cases ey)
                              cases er
                              refine blkQ.r ?_
                              refine seqQ.r ?_
                              refine lpQ.r ?_
                              cases h
                              refine blkQ.r ?_
                              exact hrx262 _ hsx266 _ (RetOk.forget [2, 36, 37, 38, 56, 57, 58] (by kernel_rfl) hσ)
                            · refine hLx285 _ 0 _ ey286 n (by omega) (fun r er => by cases er) (fun y ey => ?_)
                              cases ey
                              refine blkQ.n ⟨q2 ((dI 0) :: q33 ((dP e64 a0.fContexts) :: (dI ((a0.fContexts.length : Int))) :: (dI v194) :: q17 ((.v (.sl .nonfull (List.map (eL e39) ([v204.fLeft, v204.fRight])))) :: (dI ((([v204.fLeft, v204.fRight]).length : Int))) :: (dI v257) :: q3 ((dP e39 v267) :: (dI ((v267.length : Int))) :: (dI y286) :: q11 [])))), [(.cells [(dI a0.fKind), (dI a0.fPair.fLexical), (dI a0.fPair.fSurface), (dP e64 a0.fContexts)]), (.cells [(dP e39 v204.fLeft), (dP e39 v204.fRight), (dB v204.fBegin), (dB v204.fEnd)])]⟩ (by kernel_rfl) ?_
                              refine seqQ.n ?_
                              refine Wp.region (by kernel_rfl) ?_
                              refine Ops.seg 2 2 (by kernel_rfl) ⟨q2 ((dI 0) :: q33 ((dP e64 a0.fContexts) :: (dI ((a0.fContexts.length : Int))) :: (dI v194) :: q17 ((.v (.sl .nonfull (List.map (eL e39) ([v204.fLeft, v204.fRight])))) :: (dI ((([v204.fLeft, v204.fRight]).length : Int))) :: (dI (w64 (v257 + 1))) :: q3 ((dP e39 v267) :: (dI ((v267.length : Int))) :: (dI y286) :: q9 ((dI (w64 (v257 + 1))) :: q1 []))))), [(.cells [(dI a0.fKind), (dI a0.fPair.fLexical), (dI a0.fPair.fSurface), (dP e64 a0.fContexts)]), (.cells [(dP e39 v204.fLeft), (dP e39 v204.fRight), (dB v204.fBegin), (dB v204.fEnd)])]⟩ (by kernel_rfl) ?_
                              refine Ops.done (by kernel_rfl) ?_
                              refine lpQ.n ⟨q2 ((dI 0) :: q33 ((dP e64 a0.fContexts) :: (dI ((a0.fContexts.length : Int))) :: (dI v194) :: q17 ((.v (.sl .nonfull (List.map (eL e39) ([v204.fLeft, v204.fRight])))) :: (dI ((([v204.fLeft, v204.fRight]).length : Int))) :: (dI (w64 (v257 + 1))) :: q17 []))), [(.cells [(dI a0.fKind), (dI a0.fPair.fLexical), (dI a0.fPair.fSurface), (dP e64 a0.fContexts)]), (.cells [(dP e39 v204.fLeft), (dP e39 v204.fRight), (dB v204.fBegin), (dB v204.fEnd)])]⟩ (by kernel_rfl) ?_
                              cases h
                              exact ihx261 (w64 (v257 + 1)) _ hsx266 _ (by omega) hrx262 hxx263
                          · refine Wp.cond (decide (v257 < (([v204.fLeft, v204.fRight]).length : Int))) [2, 36, 37, 38, 56, 57, 58] (by kernel_rfl) 2 (by kernel_rfl) (subc [1, 1, 1, 1, 0, 1, 0, 0, 1, 1, 0, 0, 1, 1, 1, 0, 0, 1, 0, 0] C36) (subc [1, 1, 1, 1, 0, 1, 0, 0, 1, 1, 0, 0, 1, 1, 1, 0, 0, 1, 0, 1] C36) (by kernel_rfl) (by kernel_rfl) (fun e => nomatch (hb.symm.trans e)) (fun _ => ?_)
                            refine Wp.exit (id := 2) (by kernel_rfl) ?_
                            refine sqQ.x ?_
                            refine seqQ.x ?_
                            cases h
                            refine lpQ.x ?_
                            refine blkQ.x ⟨q2 ((dI 0) :: q33 ((dP e64 a0.fContexts) :: (dI ((a0.fContexts.length : Int))) :: (dI v194) :: q17 ((.v (.sl .nonfull (List.map (eL e39) ([v204.fLeft, v204.fRight])))) :: (dI ((([v204.fLeft, v204.fRight]).length : Int))) :: (dI v257) :: q17 []))), [(.cells [(dI a0.fKind), (dI a0.fPair.fLexical), (dI a0.fPair.fSurface), (dP e64 a0.fContexts)]), (.cells [(dP e39 v204.fLeft), (dP e39 v204.fRight), (dB v204.fBegin), (dB v204.fEnd)])]⟩ (by kernel_rfl) ?_
                            exact hxx263 v257 hsx266
                      refine Wp.loop [2, 36, 37, 38, 56, 57, 58] 2 (by kernel_rfl) (subc [1, 1, 1, 1, 0, 1, 0, 0, 1, 1, 0, 0, 1, 1, 1, 0, 0] C36) (by kernel_rfl) (by kernel_rfl) ⟨q2 ((dI 0) :: q33 ((dP e64 a0.fContexts) :: (dI ((a0.fContexts.length : Int))) :: (dI v194) :: q17 ((.v (.sl .nonfull (List.map (eL e39) ([v204.fLeft, v204.fRight])))) :: (dI ((([v204.fLeft, v204.fRight]).length : Int))) :: (dI 0) :: q17 []))), [(.cells [(dI a0.fKind), (dI a0.fPair.fLexical), (dI a0.fPair.fSurface), (dP e64 a0.fContexts)]), (.cells [(dP e39 v204.fLeft), (dP e39 v204.fRight), (dB v204.fBegin), (dB v204.fEnd)])]⟩ (by kernel_rfl) ?_
                      rcases brk_some h with ⟨r290, er290, h⟩ | ⟨y289, ey289, h⟩
                      · refine hLx288 _ 0 _ er290 n (by omega) (fun r er σ hσ => ?_) (fun y ey => by cases ey)
                        cases er
                        refine blkQ.r ?_
                        refine seqQ.r ?_
                        refine lpQ.r ?_
                        cases h
                        refine blkQ.r ?_
                        exact hrx199 _ hsx203 _ (RetOk.forget [2, 36, 37, 38] (by kernel_rfl) hσ)
                      · refine hLx288 _ 0 _ ey289 n (by omega) (fun r er => by cases er) (fun y ey => ?_)
                        cases ey
                        refine blkQ.n ⟨q2 ((dI 0) :: q33 ((dP e64 a0.fContexts) :: (dI ((a0.fContexts.length : Int))) :: (dI v194) :: q37 [])), [(.cells [(dI a0.fKind), (dI a0.fPair.fLexical), (dI a0.fPair.fSurface), (dP e64 a0.fContexts)])]⟩ (by kernel_rfl) ?_
                        refine seqQ.n ?_
                        refine Wp.region (by kernel_rfl) ?_
                        refine Ops.seg 2 2 (by kernel_rfl) ⟨q2 ((dI 0) :: q33 ((dP e64 a0.fContexts) :: (dI ((a0.fContexts.length : Int))) :: (dI (w64 (v194 + 1))) :: q36 ((dI (w64 (v194 + 1))) :: []))), [(.cells [(dI a0.fKind), (dI a0.fPair.fLexical), (dI a0.fPair.fSurface), (dP e64 a0.fContexts)])]⟩ (by kernel_rfl) ?_
                        refine Ops.done (by kernel_rfl) ?_
                        refine lpQ.n ⟨q2 ((dI 0) :: q33 ((dP e64 a0.fContexts) :: (dI ((a0.fContexts.length : Int))) :: (dI (w64 (v194 + 1))) :: q37 [])), [(.cells [(dI a0.fKind), (dI a0.fPair.fLexical), (dI a0.fPair.fSurface), (dP e64 a0.fContexts)])]⟩ (by kernel_rfl) ?_
                        cases h
                        exact ihx198 (w64 (v194 + 1)) _ hsx203 _ (by omega) hrx199 hxx200
                  have G36g206 : ∀ v205 : Bool, f36_r3 m v194 v204 ((v205 || (decide ((v204.fRight.length : Int) > 3)))) = some sx202 → Ops (X36 n) (opl (subc [1, 1, 1, 1, 0, 1, 0, 0, 1, 1, 0, 0, 1, 0, 0] C36)) 5 ⟨q2 ((dI 0) :: q2 ((.ptr 1 0) :: q30 ((dP e64 a0.fContexts) :: (dI ((a0.fContexts.length : Int))) :: (dI v194) :: (dB (decide (v194 < (a0.fContexts.length : Int)))) :: (.vptr [(vP e39 v204.fLeft), (vP e39 v204.fRight), (vB v204.fBegin), (vB v204.fEnd)]) :: (.v (.agg [(vP e39 v204.fLeft), (vP e39 v204.fRight), (vB v204.fBegin), (vB v204.fEnd)])) :: (.ptr 1 0) :: (dP e39 v204.fLeft) :: (dI ((v204.fLeft.length : Int))) :: (dB v205) :: (dB v205) :: q29 []))), [(.cells [(dI a0.fKind), (dI a0.fPair.fLexical), (dI a0.fPair.fSurface), (dP e64 a0.fContexts)]), (.cells [(dP e39 v204.fLeft), (dP e39 v204.fRight), (dB v204.fBegin), (dB v204.fEnd)])]⟩ ((seqQ (X36 n) (subc [1, 1, 1, 1, 0, 1, 0, 0, 1, 1, 0, 0, 1, 0, 1] C36) (seqQ (X36 n) (subc [1, 1, 1, 1, 0, 1, 0, 0, 1, 1, 0, 0, 1, 1] C36) (blkQ (X36 n) 1 [2, 36, 37, 38] 1 (seqQ (X36 n) (subc [1, 1, 1, 1, 0, 1, 0, 0, 1, 1, 1] C36) (lpQ (X36 n) [2, 36, 37, 38] 1 (subc [1, 1, 1, 1, 0, 1, 0, 0] C36) nx197 (blkQ (X36 n) 0 [2] 1 (seqQ (X36 n) (subc [1, 1, 1, 1, 1] C36) (fnQ (X36 n).E.T (resOf Proofs.Try.prog 36) (eI o))))))))) .normal) := by
                    intro v205 h
                    cases v205
                    · refine Ops.seg 2 7 (by kernel_rfl) ⟨q2 ((dI 0) :: q2 ((.ptr 1 0) :: q30 ((dP e64 a0.fContexts) :: (dI ((a0.fContexts.length : Int))) :: (dI v194) :: (dB (decide (v194 < (a0.fContexts.length : Int)))) :: (.vptr [(vP e39 v204.fLeft), (vP e39 v204.fRight), (vB v204.fBegin), (vB v204.fEnd)]) :: (.v (.agg [(vP e39 v204.fLeft), (vP e39 v204.fRight), (vB v204.fBegin), (vB v204.fEnd)])) :: (.ptr 1 0) :: (dP e39 v204.fLeft) :: (dI ((v204.fLeft.length : Int))) :: (dB false) :: (dB false) :: (.ptr 1 1) :: (dP e39 v204.fRight) :: q27 []))), [(.cells [(dI a0.fKind), (dI a0.fPair.fLexical), (dI a0.fPair.fSurface), (dP e64 a0.fContexts)]), (.cells [(dP e39 v204.fLeft), (dP e39 v204.fRight), (dB v204.fBegin), (dB v204.fEnd)])]⟩ (by kernel_rfl) ?_
                      refine Ops.one 8 (by kernel_rfl) ((lenD (X36 n).E.T 37 (D.unt (dP e39 v204.fRight))).map (·, [(.cells [(dI a0.fKind), (dI a0.fPair.fLexical), (dI a0.fPair.fSurface), (dP e64 a0.fContexts)]), (.cells [(dP e39 v204.fLeft), (dP e39 v204.fRight), (dB v204.fBegin), (dB v204.fEnd)])])) (dI ((v204.fRight.length : Int))) [(.cells [(dI a0.fKind), (dI a0.fPair.fLexical), (dI a0.fPair.fSurface), (dP e64 a0.fContexts)]), (.cells [(dP e39 v204.fLeft), (dP e39 v204.fRight), (dB v204.fBegin), (dB v204.fEnd)])] ⟨q2 ((dI 0) :: q2 ((.ptr 1 0) :: q30 ((dP e64 a0.fContexts) :: (dI ((a0.fContexts.length : Int))) :: (dI v194) :: (dB (decide (v194 < (a0.fContexts.length : Int)))) :: (.vptr [(vP e39 v204.fLeft), (vP e39 v204.fRight), (vB v204.fBegin), (vB v204.fEnd)]) :: (.v (.agg [(vP e39 v204.fLeft), (vP e39 v204.fRight), (vB v204.fBegin), (vB v204.fEnd)])) :: (.ptr 1 0) :: (dP e39 v204.fLeft) :: (dI ((v204.fLeft.length : Int))) :: (dB false) :: (dB false) :: (.ptr 1 1) :: (dP e39 v204.fRight) :: (dI ((v204.fRight.length : Int))) :: q26 []))), [(.cells [(dI a0.fKind), (dI a0.fPair.fLexical), (dI a0.fPair.fSurface), (dP e64 a0.fContexts)]), (.cells [(dP e39 v204.fLeft), (dP e39 v204.fRight), (dB v204.fBegin), (dB v204.fEnd)])]⟩ (by kernel_rfl) (len_r _ 37 40 .plain e39 v204.fRight (by kernel_rfl)) (by kernel_rfl) ?_
                      refine Ops.seg 2 10 (by kernel_rfl) ⟨q2 ((dI 0) :: q2 ((.ptr 1 0) :: q30 ((dP e64 a0.fContexts) :: (dI ((a0.fContexts.length : Int))) :: (dI v194) :: (dB (decide (v194 < (a0.fContexts.length : Int)))) :: (.vptr [(vP e39 v204.fLeft), (vP e39 v204.fRight), (vB v204.fBegin), (vB v204.fEnd)]) :: (.v (.agg [(vP e39 v204.fLeft), (vP e39 v204.fRight), (vB v204.fBegin), (vB v204.fEnd)])) :: (.ptr 1 0) :: (dP e39 v204.fLeft) :: (dI ((v204.fLeft.length : Int))) :: (dB false) :: (dB false) :: (.ptr 1 1) :: (dP e39 v204.fRight) :: (dI ((v204.fRight.length : Int))) :: (dB (decide ((v204.fRight.length : Int) > 3))) :: (dB (decide ((v204.fRight.length : Int) > 3))) :: q24 []))), [(.cells [(dI a0.fKind), (dI a0.fPair.fLexical), (dI a0.fPair.fSurface), (dP e64 a0.fContexts)]), (.cells [(dP e39 v204.fLeft), (dP e39 v204.fRight), (dB v204.fBegin), (dB v204.fEnd)])]⟩ (by kernel_rfl) ?_
                      exact J36j213 _ _ _ _ _ _ h
                    · refine Ops.seg 5 10 (by kernel_rfl) ⟨q2 ((dI 0) :: q2 ((.ptr 1 0) :: q30 ((dP e64 a0.fContexts) :: (dI ((a0.fContexts.length : Int))) :: (dI v194) :: (dB (decide (v194 < (a0.fContexts.length : Int)))) :: (.vptr [(vP e39 v204.fLeft), (vP e39 v204.fRight), (vB v204.fBegin), (vB v204.fEnd)]) :: (.v (.agg [(vP e39 v204.fLeft), (vP e39 v204.fRight), (vB v204.fBegin), (vB v204.fEnd)])) :: (.ptr 1 0) :: (dP e39 v204.fLeft) :: (dI ((v204.fLeft.length : Int))) :: (dB true) :: (dB true) :: u4 ((dB true) :: q24 [])))), [(.cells [(dI a0.fKind), (dI a0.fPair.fLexical), (dI a0.fPair.fSurface), (dP e64 a0.fContexts)]), (.cells [(dP e39 v204.fLeft), (dP e39 v204.fRight), (dB v204.fBegin), (dB v204.fEnd)])]⟩ (by kernel_rfl) ?_
                      exact J36j213 _ _ _ _ _ _ h
                  exact G36g206 (decide ((v204.fLeft.length : Int) > 3)) h
                · refine Wp.cond (decide (v194 < (a0.fContexts.length : Int))) [2, 36, 37, 38] (by kernel_rfl) 1 (by kernel_rfl) (subc [1, 1, 1, 1, 0, 1, 0, 0, 1, 0, 0] C36) (subc [1, 1, 1, 1, 0, 1, 0, 0, 1, 0, 1] C36) (by kernel_rfl) (by kernel_rfl) (fun e => nomatch (hb.symm.trans e)) (fun _ => ?_)
                  refine Wp.exit (id := 0) (by kernel_rfl) ?_
                  refine sqQ.x ?_
                  refine seqQ.x ?_
                  cases h
                  refine lpQ.x ?_
                  refine blkQ.x ⟨q2 ((dI 0) :: q33 ((dP e64 a0.fContexts) :: (dI ((a0.fContexts.length : Int))) :: (dI v194) :: q37 [])), [(.cells [(dI a0.fKind), (dI a0.fPair.fLexical), (dI a0.fPair.fSurface), (dP e64 a0.fContexts)])]⟩ (by kernel_rfl) ?_
                  exact hxx200 v194 hsx203
            refine Wp.loop [2, 36, 37, 38] 1 (by kernel_rfl) (subc [1, 1, 1, 1, 0, 1, 0, 0] C36) (by kernel_rfl) (by kernel_rfl) ⟨q2 ((dI 0) :: q33 ((dP e64 a0.fContexts) :: (dI ((a0.fContexts.length : Int))) :: (dI 0) :: q37 [])), [(.cells [(dI a0.fKind), (dI a0.fPair.fLexical), (dI a0.fPair.fSurface), (dP e64 a0.fContexts)])]⟩ (by kernel_rfl) ?_
            rcases brk_some h with ⟨r293, er293, h⟩ | ⟨y292, ey292, h⟩
            · refine hLx291 _ 0 _ er293 n (by omega) (fun r er σ hσ => ?_) (fun y ey => by cases ey)
              cases er
              refine seqQ.r ?_
              exact fnQ.r' (X36 n) (fun z => (eI z)) h hσ
            · refine hLx291 _ 0 _ ey292 n (by omega) (fun r er => by cases er) (fun y ey => ?_)
              cases ey
              refine seqQ.n ?_
              refine Wp.seq (subc [1, 1, 1, 1, 1, 0] C36) (subc [1, 1, 1, 1, 1, 1] C36) (by kernel_rfl) ?_
              refine Wp.region (by kernel_rfl) ?_
              refine Ops.seg 1 1 (by kernel_rfl) ⟨q2 ((dI 0) :: q33 ((dP e64 a0.fContexts) :: (dI ((a0.fContexts.length : Int))) :: (dI y292) :: q37 [])), [(.cells [(dI a0.fKind), (dI a0.fPair.fLexical), (dI a0.fPair.fSurface), (dP e64 a0.fContexts)])]⟩ (by kernel_rfl) ?_
              refine Ops.done (by kernel_rfl) ?_
              refine seqQ.n ?_
              refine Wp.ret (by kernel_rfl) ?_
              exact fnQ.r' (X36 n) (fun z => (eI z)) h (RetOk.mk' (dI 0) (by kernel_rfl) (by kernel_rfl))
        have G36g11 : ∀ v10 : Bool, f36_r5 m a0 ((v10 || (decide ((a0.fContexts.length : Int) > 3)))) = some o → Ops (X36 n) (opl (subc [1, 1, 1, 0, 0] C36)) 5 ⟨(.v (.agg [(vI a0.fKind), (vI a0.fPair.fLexical), (vI a0.fPair.fSurface), (vP e64 a0.fContexts)])) :: (.ptr 0 0) :: (dI 0) :: (dI v9) :: u7 ((.ptr 0 0) :: (dI a0.fKind) :: (dB v6) :: (dB v6) :: d3 :: d4 :: d5 :: (dB v7) :: (.ptr 0 1) :: (.v (.agg [(vI a0.fPair.fLexical), (vI a0.fPair.fSurface)])) :: (dI v9) :: (dI v9) :: (dB (v9 != 0)) :: u1 ((.ptr 0 3) :: (dP e64 a0.fContexts) :: (dI ((a0.fContexts.length : Int))) :: (dB v10) :: (dB v10) :: u40 (u6 []))), [(.cells [(dI a0.fKind), (dI a0.fPair.fLexical), (dI a0.fPair.fSurface), (dP e64 a0.fContexts)])]⟩ ((seqQ (X36 n) (subc [1, 1, 1, 0, 1] C36) (seqQ (X36 n) (subc [1, 1, 1, 1] C36) (fnQ (X36 n).E.T (resOf Proofs.Try.prog 36) (eI o)))) .normal) := by
          intro v10 h
          cases v10
          · refine Ops.seg 2 7 (by kernel_rfl) ⟨(.v (.agg [(vI a0.fKind), (vI a0.fPair.fLexical), (vI a0.fPair.fSurface), (vP e64 a0.fContexts)])) :: (.ptr 0 0) :: (dI 0) :: (dI v9) :: u7 ((.ptr 0 0) :: (dI a0.fKind) :: (dB v6) :: (dB v6) :: d3 :: d4 :: d5 :: (dB v7) :: (.ptr 0 1) :: (.v (.agg [(vI a0.fPair.fLexical), (vI a0.fPair.fSurface)])) :: (dI v9) :: (dI v9) :: (dB (v9 != 0)) :: u1 ((.ptr 0 3) :: (dP e64 a0.fContexts) :: (dI ((a0.fContexts.length : Int))) :: (dB false) :: (dB false) :: (.ptr 0 3) :: (dP e64 a0.fContexts) :: u40 (u4 []))), [(.cells [(dI a0.fKind), (dI a0.fPair.fLexical), (dI a0.fPair.fSurface), (dP e64 a0.fContexts)])]⟩ (by kernel_rfl) ?_
            refine Ops.one 8 (by kernel_rfl) ((lenD (X36 n).E.T 41 (D.unt (dP e64 a0.fContexts))).map (·, [(.cells [(dI a0.fKind), (dI a0.fPair.fLexical), (dI a0.fPair.fSurface), (dP e64 a0.fContexts)])])) (dI ((a0.fContexts.length : Int))) [(.cells [(dI a0.fKind), (dI a0.fPair.fLexical), (dI a0.fPair.fSurface), (dP e64 a0.fContexts)])] ⟨(.v (.agg [(vI a0.fKind), (vI a0.fPair.fLexical), (vI a0.fPair.fSurface), (vP e64 a0.fContexts)])) :: (.ptr 0 0) :: (dI 0) :: (dI v9) :: u7 ((.ptr 0 0) :: (dI a0.fKind) :: (dB v6) :: (dB v6) :: d3 :: d4 :: d5 :: (dB v7) :: (.ptr 0 1) :: (.v (.agg [(vI a0.fPair.fLexical), (vI a0.fPair.fSurface)])) :: (dI v9) :: (dI v9) :: (dB (v9 != 0)) :: u1 ((.ptr 0 3) :: (dP e64 a0.fContexts) :: (dI ((a0.fContexts.length : Int))) :: (dB false) :: (dB false) :: (.ptr 0 3) :: (dP e64 a0.fContexts) :: (dI ((a0.fContexts.length : Int))) :: u40 (u3 []))), [(.cells [(dI a0.fKind), (dI a0.fPair.fLexical), (dI a0.fPair.fSurface), (dP e64 a0.fContexts)])]⟩ (by kernel_rfl) (len_r _ 41 65 .plain e64 a0.fContexts (by kernel_rfl)) (by kernel_rfl) ?_
            refine Ops.seg 2 10 (by kernel_rfl) ⟨(.v (.agg [(vI a0.fKind), (vI a0.fPair.fLexical), (vI a0.fPair.fSurface), (vP e64 a0.fContexts)])) :: (.ptr 0 0) :: (dI 0) :: (dI v9) :: u7 ((.ptr 0 0) :: (dI a0.fKind) :: (dB v6) :: (dB v6) :: d3 :: d4 :: d5 :: (dB v7) :: (.ptr 0 1) :: (.v (.agg [(vI a0.fPair.fLexical), (vI a0.fPair.fSurface)])) :: (dI v9) :: (dI v9) :: (dB (v9 != 0)) :: u1 ((.ptr 0 3) :: (dP e64 a0.fContexts) :: (dI ((a0.fContexts.length : Int))) :: (dB false) :: (dB false) :: (.ptr 0 3) :: (dP e64 a0.fContexts) :: (dI ((a0.fContexts.length : Int))) :: (dB (decide ((a0.fContexts.length : Int) > 3))) :: (dB (decide ((a0.fContexts.length : Int) > 3))) :: u40 (u1 []))), [(.cells [(dI a0.fKind), (dI a0.fPair.fLexical), (dI a0.fPair.fSurface), (dP e64 a0.fContexts)])]⟩ (by kernel_rfl) ?_
            exact J36j18 _ _ _ _ _ _ h
          · refine Ops.seg 5 10 (by kernel_rfl) ⟨(.v (.agg [(vI a0.fKind), (vI a0.fPair.fLexical), (vI a0.fPair.fSurface), (vP e64 a0.fContexts)])) :: (.ptr 0 0) :: (dI 0) :: (dI v9) :: u7 ((.ptr 0 0) :: (dI a0.fKind) :: (dB v6) :: (dB v6) :: d3 :: d4 :: d5 :: (dB v7) :: (.ptr 0 1) :: (.v (.agg [(vI a0.fPair.fLexical), (vI a0.fPair.fSurface)])) :: (dI v9) :: (dI v9) :: (dB (v9 != 0)) :: u1 ((.ptr 0 3) :: (dP e64 a0.fContexts) :: (dI ((a0.fContexts.length : Int))) :: (dB true) :: (dB true) :: u4 ((dB true) :: u40 (u1 [])))), [(.cells [(dI a0.fKind), (dI a0.fPair.fLexical), (dI a0.fPair.fSurface), (dP e64 a0.fContexts)])]⟩ (by kernel_rfl) ?_
            exact J36j18 _ _ _ _ _ _ h
        exact G36g11 (decide ((a0.fContexts.length : Int) < 1)) h
  have G36g2 : ∀ v1 : Bool, f36_r6 m a0 ((v1 || (decide (a0.fKind > 4)))) = some o → Ops (X36 n) (opl (subc [1, 0, 0] C36)) 4 ⟨(.v (.agg [(vI a0.fKind), (vI a0.fPair.fLexical), (vI a0.fPair.fSurface), (vP e64 a0.fContexts)])) :: (.ptr 0 0) :: (dI 0) :: u8 ((.ptr 0 0) :: (dI a0.fKind) :: (dB v1) :: (dB v1) :: u40 (u21 [])), [(.cells [(dI a0.fKind), (dI a0.fPair.fLexical), (dI a0.fPair.fSurface), (dP e64 a0.fContexts)])]⟩ ((seqQ (X36 n) (subc [1, 0, 1] C36) (seqQ (X36 n) (subc [1, 1] C36) (fnQ (X36 n).E.T (resOf Proofs.Try.prog 36) (eI o)))) .normal) := by
    intro v1 h
    cases v1
    · refine Ops.seg 4 8 (by kernel_rfl) ⟨(.v (.agg [(vI a0.fKind), (vI a0.fPair.fLexical), (vI a0.fPair.fSurface), (vP e64 a0.fContexts)])) :: (.ptr 0 0) :: (dI 0) :: u8 ((.ptr 0 0) :: (dI a0.fKind) :: (dB false) :: (dB false) :: (.ptr 0 0) :: (dI a0.fKind) :: (dB (decide (a0.fKind > 4))) :: (dB (decide (a0.fKind > 4))) :: u40 (u17 [])), [(.cells [(dI a0.fKind), (dI a0.fPair.fLexical), (dI a0.fPair.fSurface), (dP e64 a0.fContexts)])]⟩ (by kernel_rfl) ?_
      exact J36j8 _ _ _ _ _ h
    · refine Ops.seg 4 8 (by kernel_rfl) ⟨(.v (.agg [(vI a0.fKind), (vI a0.fPair.fLexical), (vI a0.fPair.fSurface), (vP e64 a0.fContexts)])) :: (.ptr 0 0) :: (dI 0) :: u8 ((.ptr 0 0) :: (dI a0.fKind) :: (dB true) :: (dB true) :: u3 ((dB true) :: u40 (u17 []))), [(.cells [(dI a0.fKind), (dI a0.fPair.fLexical), (dI a0.fPair.fSurface), (dP e64 a0.fContexts)])]⟩ (by kernel_rfl) ?_
      exact J36j8 _ _ _ _ _ h
  exact G36g2 (decide (a0.fKind < 1)) h

/-! ### 19 glosswright/glosswrightref6.RulesFault -/
def f19_B1 (m : Nat) (a0 : (List S42)) (v9 : Int) : Option (Stp S25 (Int)) :=
  cnd (decide (v9 < (a0.length : Int)))
  (bnd (idx a0 v9) fun v19 =>
  bnd (f36 m v19) fun v20 =>
  cnd (v20 != 0)
  (bnd (f29 m v20 v9) fun v21 =>
  some (.ret v21))
  (some (.nxt (w64 (v9 + 1)))))
  (some (.brk v9))
def f19 (m : Nat) (a0 : (List S42)) : Option S25 :=
  cnd (decide ((a0.length : Int) > 40))
  (bnd (f29 m 2 ((-1))) fun v1 =>
  some v1)
  (brk (iter (fun (y : Int) => f19_B1 m a0 y) m 0) some fun y23 =>
  some ((⟨0, 0⟩ : S25)))
noncomputable abbrev X19 (n : Nat) : Cx := cxOf Proofs.Try.prog E 19 n
noncomputable def C19 : Code := bodyOf Proofs.Try.prog 19
theorem ok19 (m : Nat) (a0 : (List S42)) (o : S25) (h : f19 m a0 = some o) (n : Nat) (hn : m + 3 ≤ n) : Fn Proofs.Try.prog E n 19 [(eL e42) a0] (e25 o) := by
  obtain ⟨n, rfl⟩ : ∃ q, n = q + 1 := ⟨n - 1, by omega⟩
  unfold f19 at h
  refine Fn.of (by kernel_rfl) (by kernel_rfl) ⟨(dP e42 a0) :: u25 [], []⟩ (by kernel_rfl) ?_
  refine Wp.seq (subc [0] C19) (subc [1] C19) (by kernel_rfl) ?_
  refine Wp.region (by kernel_rfl) ?_
  refine Ops.seg 1 1 (by kernel_rfl) ⟨(dP e42 a0) :: u1 ((.ptr 0 0) :: u23 []), [(.cells [(dI 0), (dI 0)])]⟩ (by kernel_rfl) ?_
  refine Ops.done (by kernel_rfl) ?_
  refine seqQ.n ?_
  refine Wp.seq (subc [1, 0] C19) (subc [1, 1] C19) (by kernel_rfl) ?_
  refine Wp.seq (subc [1, 0, 0] C19) (subc [1, 0, 1] C19) (by kernel_rfl) ?_
  refine Wp.region (by kernel_rfl) ?_
  refine Ops.seg 1 1 (by kernel_rfl) ⟨(dP e42 a0) :: u1 ((.ptr 0 0) :: u3 ((dP e42 a0) :: u19 [])), [(.cells [(dI 0), (dI 0)])]⟩ (by kernel_rfl) ?_
  refine Ops.one 2 (by kernel_rfl) ((lenD (X19 n).E.T 36 (D.unt (dP e42 a0))).map (·, [(.cells [(dI 0), (dI 0)])])) (dI ((a0.length : Int))) [(.cells [(dI 0), (dI 0)])] ⟨(dP e42 a0) :: u1 ((.ptr 0 0) :: u3 ((dP e42 a0) :: (dI ((a0.length : Int))) :: u18 [])), [(.cells [(dI 0), (dI 0)])]⟩ (by kernel_rfl) (len_r _ 36 43 .plain e42 a0 (by kernel_rfl)) (by kernel_rfl) ?_
  refine Ops.seg 1 3 (by kernel_rfl) ⟨(dP e42 a0) :: u1 ((.ptr 0 0) :: u3 ((dP e42 a0) :: (dI ((a0.length : Int))) :: (dB (decide ((a0.length : Int) > 40))) :: u17 [])), [(.cells [(dI 0), (dI 0)])]⟩ (by kernel_rfl) ?_
  refine Ops.done (by kernel_rfl) ?_
  refine seqQ.n ?_
  rcases cnd_some h with ⟨hb, h⟩ | ⟨hb, h⟩
  · refine Wp.cond (decide ((a0.length : Int) > 40)) [0, 2] (by kernel_rfl) 1 (by kernel_rfl) (subc [1, 0, 1, 0] C19) (subc [1, 0, 1, 1] C19) (by kernel_rfl) (by kernel_rfl) (fun _ => ?_) (fun e => nomatch (hb.symm.trans e))
    refine Wp.seq (subc [1, 0, 1, 0, 0] C19) (subc [1, 0, 1, 0, 1] C19) (by kernel_rfl) ?_
    refine Wp.region (by kernel_rfl) ?_
    obtain ⟨v1, ev1, h⟩ := bnd_some h
    refine Ops.one 1 (by kernel_rfl) (callD (X19 n).E (run Proofs.Try.prog E n) 29 [(dI 2), (dI ((-1)))] [(.cells [(dI 0), (dI 0)])]) (.v (.agg [(vI v1.fCode), (vI v1.fIndex)])) [(.cells [(dI 0), (dI 0)])] ⟨(dP e42 a0) :: u1 ((.ptr 0 0) :: u3 ((dP e42 a0) :: (dI ((a0.length : Int))) :: (dB (decide ((a0.length : Int) > 40))) :: (.v (.agg [(vI v1.fCode), (vI v1.fIndex)])) :: u16 [])), [(.cells [(dI 0), (dI 0)])]⟩ (by kernel_rfl) (call_ok (by kernel_rfl) (Args.v (vI 2) (eI 2) (by kernel_rfl) (Args.v (vI ((-1))) (eI ((-1))) (by kernel_rfl) Args.nil)) (ok29 m 2 ((-1)) v1 ev1 n (by omega))) (by kernel_rfl) ?_
    refine Ops.seg 1 2 (by kernel_rfl) ⟨(dP e42 a0) :: u1 ((.ptr 0 0) :: u3 ((dP e42 a0) :: (dI ((a0.length : Int))) :: (dB (decide ((a0.length : Int) > 40))) :: (.v (.agg [(vI v1.fCode), (vI v1.fIndex)])) :: u16 [])), [(.cells [(dI v1.fCode), (dI v1.fIndex)])]⟩ (by kernel_rfl) ?_
    refine Ops.done (by kernel_rfl) ?_
    refine seqQ.n ?_
    refine Wp.ret (by kernel_rfl) ?_
    refine sqQ.r ?_
    refine seqQ.r ?_
    exact fnQ.r' (X19 n) (fun z => (e25 z)) h (RetOk.mk' (.v (.agg [(vI v1.fCode), (vI v1.fIndex)])) (by kernel_rfl) (by kernel_rfl))
  · refine Wp.cond (decide ((a0.length : Int) > 40)) [0, 2] (by kernel_rfl) 1 (by kernel_rfl) (subc [1, 0, 1, 0] C19) (subc [1, 0, 1, 1] C19) (by kernel_rfl) (by kernel_rfl) (fun e => nomatch (hb.symm.trans e)) (fun _ => ?_)
    refine Wp.skip (by kernel_rfl) ?_
    refine sqQ.n ⟨(dP e42 a0) :: u1 ((.ptr 0 0) :: u3 ((dP e42 a0) :: (dI ((a0.length : Int))) :: (dB (decide ((a0.length : Int) > 40))) :: u17 [])), [(.cells [(dI 0), (dI 0)])]⟩ (by kernel_rfl) ?_
    refine seqQ.n ?_
    refine Wp.seq (subc [1, 1, 0] C19) (subc [1, 1, 1] C19) (by kernel_rfl) ?_
    refine Wp.seq (subc [1, 1, 0, 0] C19) (subc [1, 1, 0, 1] C19) (by kernel_rfl) ?_
    refine Wp.region (by kernel_rfl) ?_
    refine Ops.seg 1 1 (by kernel_rfl) ⟨(dP e42 a0) :: u1 ((.ptr 0 0) :: u3 ((dP e42 a0) :: (dI ((a0.length : Int))) :: (dB (decide ((a0.length : Int) > 40))) :: u1 ((dP e42 a0) :: u15 []))), [(.cells [(dI 0), (dI 0)])]⟩ (by kernel_rfl) ?_
    refine Ops.one 2 (by kernel_rfl) ((lenD (X19 n).E.T 36 (D.unt (dP e42 a0))).map (·, [(.cells [(dI 0), (dI 0)])])) (dI ((a0.length : Int))) [(.cells [(dI 0), (dI 0)])] ⟨(dP e42 a0) :: u1 ((.ptr 0 0) :: u3 ((dP e42 a0) :: (dI ((a0.length : Int))) :: (dB (decide ((a0.length : Int) > 40))) :: u1 ((dP e42 a0) :: (dI ((a0.length : Int))) :: u14 []))), [(.cells [(dI 0), (dI 0)])]⟩ (by kernel_rfl) (len_r _ 36 43 .plain e42 a0 (by kernel_rfl)) (by kernel_rfl) ?_
    refine Ops.seg 1 3 (by kernel_rfl) ⟨(dP e42 a0) :: u1 ((.ptr 0 0) :: u3 ((dP e42 a0) :: (dI ((a0.length : Int))) :: (dB (decide ((a0.length : Int) > 40))) :: u1 ((dP e42 a0) :: (dI ((a0.length : Int))) :: (dI 0) :: u13 []))), [(.cells [(dI 0), (dI 0)])]⟩ (by kernel_rfl) ?_
    refine Ops.done (by kernel_rfl) ?_
    refine seqQ.n ?_
    refine Wp.block (id := 0) [2] (by kernel_rfl) 1 (by kernel_rfl) (subc [1, 1, 0, 1, 0] C19) (by kernel_rfl) ?_
    have hLx22 : ∀ (kx11 : Nat) (v9 : Int) (ox10 : S25 ⊕ (Int)), iter (fun (y : Int) => f19_B1 m a0 y) kx11 v9 = some ox10 → ∀ nx12, kx11 ≤ nx12 → (∀ r, ox10 = .inl r → ∀ σ, RetOk (X19 n) (resOf Proofs.Try.prog 19) (e25 r) σ → (seqQ (X19 n) (subc [1, 1, 1] C19) (fnQ (X19 n).E.T (resOf Proofs.Try.prog 19) (e25 o))) .ret σ) → (∀ y : Int, ox10 = .inr y → (seqQ (X19 n) (subc [1, 1, 1] C19) (fnQ (X19 n).E.T (resOf Proofs.Try.prog 19) (e25 o))) .normal ⟨q2 ((.ptr 0 0) :: q7 ((dP e42 a0) :: (dI ((a0.length : Int))) :: (dI y) :: q13 [])), [(.cells [(dI 0), (dI 0)])]⟩) → Lp (X19 n) [2, 10, 11, 12] 1 (subc [1, 1, 0, 1, 0, 0] C19) nx12 ⟨q2 ((.ptr 0 0) :: q7 ((dP e42 a0) :: (dI ((a0.length : Int))) :: (dI v9) :: q13 [])), [(.cells [(dI 0), (dI 0)])]⟩ (blkQ (X19 n) 0 [2] 1 (seqQ (X19 n) (subc [1, 1, 1] C19) (fnQ (X19 n).E.T (resOf Proofs.Try.prog 19) (e25 o)))) := by
      intro kx11
      induction kx11 with
      | zero => intro v9 ox10 h; exact (iter_zero h).elim
      | succ kx11 ihx13 =>
        intro v9 ox10 h nx12 hnx16 hrx14 hxx15
        obtain ⟨nx12, rfl⟩ : ∃ q, nx12 = q + 1 := ⟨nx12 - 1, by omega⟩
        obtain ⟨sx17, h, hsx18⟩ := iter_some h
        have h : f19_B1 m a0 v9 = some sx17 := h
        unfold f19_B1 at h
        refine Lp.succ ?_
        refine Wp.seq (subc [1, 1, 0, 1, 0, 0, 0] C19) (subc [1, 1, 0, 1, 0, 0, 1] C19) (by kernel_rfl) ?_
        refine Wp.region (by kernel_rfl) ?_
        refine Ops.seg 1 1 (by kernel_rfl) ⟨q2 ((.ptr 0 0) :: q7 ((dP e42 a0) :: (dI ((a0.length : Int))) :: (dI v9) :: (dB (decide (v9 < (a0.length : Int)))) :: q12 [])), [(.cells [(dI 0), (dI 0)])]⟩ (by kernel_rfl) ?_
        refine Ops.done (by kernel_rfl) ?_
        refine seqQ.n ?_
        refine Wp.seq (subc [1, 1, 0, 1, 0, 0, 1, 0] C19) (subc [1, 1, 0, 1, 0, 0, 1, 1] C19) (by kernel_rfl) ?_
        rcases cnd_some h with ⟨hb, h⟩ | ⟨hb, h⟩
        · refine Wp.cond (decide (v9 < (a0.length : Int))) [2, 10, 11, 12] (by kernel_rfl) 1 (by kernel_rfl) (subc [1, 1, 0, 1, 0, 0, 1, 0, 0] C19) (subc [1, 1, 0, 1, 0, 0, 1, 0, 1] C19) (by kernel_rfl) (by kernel_rfl) (fun _ => ?_) (fun e => nomatch (hb.symm.trans e))
          refine Wp.skip (by kernel_rfl) ?_
          refine sqQ.n ⟨q2 ((.ptr 0 0) :: q7 ((dP e42 a0) :: (dI ((a0.length : Int))) :: (dI v9) :: (dB (decide (v9 < (a0.length : Int)))) :: q12 [])), [(.cells [(dI 0), (dI 0)])]⟩ (by kernel_rfl) ?_
          refine seqQ.n ?_
          refine Wp.seq (subc [1, 1, 0, 1, 0, 0, 1, 1, 0] C19) (subc [1, 1, 0, 1, 0, 0, 1, 1, 1] C19) (by kernel_rfl) ?_
          refine Wp.block (id := 1) [2, 10, 11, 12] (by kernel_rfl) 1 (by kernel_rfl) (subc [1, 1, 0, 1, 0, 0, 1, 1, 0, 0] C19) (by kernel_rfl) ?_
          refine Wp.seq (subc [1, 1, 0, 1, 0, 0, 1, 1, 0, 0, 0] C19) (subc [1, 1, 0, 1, 0, 0, 1, 1, 0, 0, 1] C19) (by kernel_rfl) ?_
          refine Wp.region (by kernel_rfl) ?_
          refine Ops.seg 1 1 (by kernel_rfl) ⟨q2 ((.ptr 0 0) :: q7 ((dP e42 a0) :: (dI ((a0.length : Int))) :: (dI v9) :: (dB (decide (v9 < (a0.length : Int)))) :: (dI v9) :: q11 [])), [(.cells [(dI 0), (dI 0)])]⟩ (by kernel_rfl) ?_
          obtain ⟨v19, ev19, h⟩ := bnd_some h
          refine Ops.one 2 (by kernel_rfl) ((indexAddrH (X19 n).E.T [(.cells [(dI 0), (dI 0)])] 36 (D.unt (dP e42 a0)) (dI v9)).map (·, [(.cells [(dI 0), (dI 0)])])) (.vptr [(vI v19.fKind), (vI v19.fPair.fLexical), (vI v19.fPair.fSurface), (vP e64 v19.fContexts)]) [(.cells [(dI 0), (dI 0)])] ⟨q2 ((.ptr 0 0) :: q7 ((dP e42 a0) :: (dI ((a0.length : Int))) :: (dI v9) :: (dB (decide (v9 < (a0.length : Int)))) :: (dI v9) :: (.vptr [(vI v19.fKind), (vI v19.fPair.fLexical), (vI v19.fPair.fSurface), (vP e64 v19.fContexts)]) :: q10 [])), [(.cells [(dI 0), (dI 0)])]⟩ (by kernel_rfl) (ix_r _ 36 43 4 .plain e42 a0 v9 v19 ev19 (by kernel_rfl) (by kernel_rfl) (fun _ => rfl)) (by kernel_rfl) ?_
          refine Ops.seg 4 6 (by kernel_rfl) ⟨q2 ((.ptr 0 0) :: (dI v9) :: (.ptr 1 0) :: q5 ((dP e42 a0) :: (dI ((a0.length : Int))) :: (dI v9) :: (dB (decide (v9 < (a0.length : Int)))) :: (dI v9) :: (.vptr [(vI v19.fKind), (vI v19.fPair.fLexical), (vI v19.fPair.fSurface), (vP e64 v19.fContexts)]) :: (.v (.agg [(vI v19.fKind), (vI v19.fPair.fLexical), (vI v19.fPair.fSurface), (vP e64 v19.fContexts)])) :: q9 [])), [(.cells [(dI 0), (dI 0)]), (.cells [(dI v19.fKind), (dI v19.fPair.fLexical), (dI v19.fPair.fSurface), (dP e64 v19.fContexts)])]⟩ (by kernel_rfl) ?_
          refine Ops.done (by kernel_rfl) ?_
          refine seqQ.n ?_
          refine Wp.seq (subc [1, 1, 0, 1, 0, 0, 1, 1, 0, 0, 1, 0] C19) (subc [1, 1, 0, 1, 0, 0, 1, 1, 0, 0, 1, 1] C19) (by kernel_rfl) ?_
          refine Wp.region (by kernel_rfl) ?_
          refine Ops.seg 1 1 (by kernel_rfl) ⟨q2 ((.ptr 0 0) :: (dI v9) :: (.ptr 1 0) :: q5 ((dP e42 a0) :: (dI ((a0.length : Int))) :: (dI v9) :: (dB (decide (v9 < (a0.length : Int)))) :: (dI v9) :: (.vptr [(vI v19.fKind), (vI v19.fPair.fLexical), (vI v19.fPair.fSurface), (vP e64 v19.fContexts)]) :: (.v (.agg [(vI v19.fKind), (vI v19.fPair.fLexical), (vI v19.fPair.fSurface), (vP e64 v19.fContexts)])) :: (.v (.agg [(vI v19.fKind), (vI v19.fPair.fLexical), (vI v19.fPair.fSurface), (vP e64 v19.fContexts)])) :: q8 [])), [(.cells [(dI 0), (dI 0)]), (.cells [(dI v19.fKind), (dI v19.fPair.fLexical), (dI v19.fPair.fSurface), (dP e64 v19.fContexts)])]⟩ (by kernel_rfl) ?_
          obtain ⟨v20, ev20, h⟩ := bnd_some h
          refine Ops.one 2 (by kernel_rfl) (callD (X19 n).E (run Proofs.Try.prog E n) 36 [(.v (.agg [(vI v19.fKind), (vI v19.fPair.fLexical), (vI v19.fPair.fSurface), (vP e64 v19.fContexts)]))] [(.cells [(dI 0), (dI 0)]), (.cells [(dI v19.fKind), (dI v19.fPair.fLexical), (dI v19.fPair.fSurface), (dP e64 v19.fContexts)])]) (dI v20) [(.cells [(dI 0), (dI 0)]), (.cells [(dI v19.fKind), (dI v19.fPair.fLexical), (dI v19.fPair.fSurface), (dP e64 v19.fContexts)])] ⟨q2 ((.ptr 0 0) :: (dI v9) :: (.ptr 1 0) :: q5 ((dP e42 a0) :: (dI ((a0.length : Int))) :: (dI v9) :: (dB (decide (v9 < (a0.length : Int)))) :: (dI v9) :: (.vptr [(vI v19.fKind), (vI v19.fPair.fLexical), (vI v19.fPair.fSurface), (vP e64 v19.fContexts)]) :: (.v (.agg [(vI v19.fKind), (vI v19.fPair.fLexical), (vI v19.fPair.fSurface), (vP e64 v19.fContexts)])) :: (.v (.agg [(vI v19.fKind), (vI v19.fPair.fLexical), (vI v19.fPair.fSurface), (vP e64 v19.fContexts)])) :: (dI v20) :: q7 [])), [(.cells [(dI 0), (dI 0)]), (.cells [(dI v19.fKind), (dI v19.fPair.fLexical), (dI v19.fPair.fSurface), (dP e64 v19.fContexts)])]⟩ (by kernel_rfl) (call_ok (by kernel_rfl) (Args.v (.agg [(vI v19.fKind), (vI v19.fPair.fLexical), (vI v19.fPair.fSurface), (vP e64 v19.fContexts)]) (e42 v19) (by kernel_rfl) Args.nil) (ok36 m v19 v20 ev20 n (by omega))) (by kernel_rfl) ?_
          refine Ops.seg 1 3 (by kernel_rfl) ⟨q2 ((.ptr 0 0) :: (dI v9) :: (.ptr 1 0) :: (dI v20) :: q4 ((dP e42 a0) :: (dI ((a0.length : Int))) :: (dI v9) :: (dB (decide (v9 < (a0.length : Int)))) :: (dI v9) :: (.vptr [(vI v19.fKind), (vI v19.fPair.fLexical), (vI v19.fPair.fSurface), (vP e64 v19.fContexts)]) :: (.v (.agg [(vI v19.fKind), (vI v19.fPair.fLexical), (vI v19.fPair.fSurface), (vP e64 v19.fContexts)])) :: (.v (.agg [(vI v19.fKind), (vI v19.fPair.fLexical), (vI v19.fPair.fSurface), (vP e64 v19.fContexts)])) :: (dI v20) :: q7 [])), [(.cells [(dI 0), (dI 0)]), (.cells [(dI v19.fKind), (dI v19.fPair.fLexical), (dI v19.fPair.fSurface), (dP e64 v19.fContexts)])]⟩ (by kernel_rfl) ?_
          refine Ops.done (by kernel_rfl) ?_
          refine seqQ.n ?_
          refine Wp.seq (subc [1, 1, 0, 1, 0, 0, 1, 1, 0, 0, 1, 1, 0] C19) (subc [1, 1, 0, 1, 0, 0, 1, 1, 0, 0, 1, 1, 1] C19) (by kernel_rfl) ?_
          refine Wp.region (by kernel_rfl) ?_
          refine Ops.seg 2 2 (by kernel_rfl) ⟨q2 ((.ptr 0 0) :: (dI v9) :: (.ptr 1 0) :: (dI v20) :: q4 ((dP e42 a0) :: (dI ((a0.length : Int))) :: (dI v9) :: (dB (decide (v9 < (a0.length : Int)))) :: (dI v9) :: (.vptr [(vI v19.fKind), (vI v19.fPair.fLexical), (vI v19.fPair.fSurface), (vP e64 v19.fContexts)]) :: (.v (.agg [(vI v19.fKind), (vI v19.fPair.fLexical), (vI v19.fPair.fSurface), (vP e64 v19.fContexts)])) :: (.v (.agg [(vI v19.fKind), (vI v19.fPair.fLexical), (vI v19.fPair.fSurface), (vP e64 v19.fContexts)])) :: (dI v20) :: (dI v20) :: (dB (v20 != 0)) :: q5 [])), [(.cells [(dI 0), (dI 0)]), (.cells [(dI v19.fKind), (dI v19.fPair.fLexical), (dI v19.fPair.fSurface), (dP e64 v19.fContexts)])]⟩ (by kernel_rfl) ?_
          refine Ops.done (by kernel_rfl) ?_
          refine seqQ.n ?_
          rcases cnd_some h with ⟨hb, h⟩ | ⟨hb, h⟩
          · refine Wp.cond (v20 != 0) [2, 10, 11, 12] (by kernel_rfl) 2 (by kernel_rfl) (subc [1, 1, 0, 1, 0, 0, 1, 1, 0, 0, 1, 1, 1, 0] C19) (subc [1, 1, 0, 1, 0, 0, 1, 1, 0, 0, 1, 1, 1, 1] C19) (by kernel_rfl) (by kernel_rfl) (fun _ => ?_) (fun e => nomatch (hb.symm.trans e))
            refine Wp.seq (subc [1, 1, 0, 1, 0, 0, 1, 1, 0, 0, 1, 1, 1, 0, 0] C19) (subc [1, 1, 0, 1, 0, 0, 1, 1, 0, 0, 1, 1, 1, 0, 1] C19) (by kernel_rfl) ?_
            refine Wp.region (by kernel_rfl) ?_
            refine Ops.seg 2 2 (by kernel_rfl) ⟨q2 ((.ptr 0 0) :: (dI v9) :: (.ptr 1 0) :: (dI v20) :: q4 ((dP e42 a0) :: (dI ((a0.length : Int))) :: (dI v9) :: (dB (decide (v9 < (a0.length : Int)))) :: (dI v9) :: (.vptr [(vI v19.fKind), (vI v19.fPair.fLexical), (vI v19.fPair.fSurface), (vP e64 v19.fContexts)]) :: (.v (.agg [(vI v19.fKind), (vI v19.fPair.fLexical), (vI v19.fPair.fSurface), (vP e64 v19.fContexts)])) :: (.v (.agg [(vI v19.fKind), (vI v19.fPair.fLexical), (vI v19.fPair.fSurface), (vP e64 v19.fContexts)])) :: (dI v20) :: (dI v20) :: (dB (v20 != 0)) :: (dI v20) :: (dI v9) :: q3 [])), [(.cells [(dI 0), (dI 0)]), (.cells [(dI v19.fKind), (dI v19.fPair.fLexical), (dI v19.fPair.fSurface), (dP e64 v19.fContexts)])]⟩ (by kernel_rfl) ?_
            obtain ⟨v21, ev21, h⟩ := bnd_some h
            refine Ops.one 3 (by kernel_rfl) (callD (X19 n).E (run Proofs.Try.prog E n) 29 [(dI v20), (dI v9)] [(.cells [(dI 0), (dI 0)]), (.cells [(dI v19.fKind), (dI v19.fPair.fLexical), (dI v19.fPair.fSurface), (dP e64 v19.fContexts)])]) (.v (.agg [(vI v21.fCode), (vI v21.fIndex)])) [(.cells [(dI 0), (dI 0)]), (.cells [(dI v19.fKind), (dI v19.fPair.fLexical), (dI v19.fPair.fSurface), (dP e64 v19.fContexts)])] ⟨q2 ((.ptr 0 0) :: (dI v9) :: (.ptr 1 0) :: (dI v20) :: q4 ((dP e42 a0) :: (dI ((a0.length : Int))) :: (dI v9) :: (dB (decide (v9 < (a0.length : Int)))) :: (dI v9) :: (.vptr [(vI v19.fKind), (vI v19.fPair.fLexical), (vI v19.fPair.fSurface), (vP e64 v19.fContexts)]) :: (.v (.agg [(vI v19.fKind), (vI v19.fPair.fLexical), (vI v19.fPair.fSurface), (vP e64 v19.fContexts)])) :: (.v (.agg [(vI v19.fKind), (vI v19.fPair.fLexical), (vI v19.fPair.fSurface), (vP e64 v19.fContexts)])) :: (dI v20) :: (dI v20) :: (dB (v20 != 0)) :: (dI v20) :: (dI v9) :: (.v (.agg [(vI v21.fCode), (vI v21.fIndex)])) :: q2 [])), [(.cells [(dI 0), (dI 0)]), (.cells [(dI v19.fKind), (dI v19.fPair.fLexical), (dI v19.fPair.fSurface), (dP e64 v19.fContexts)])]⟩ (by kernel_rfl) (call_ok (by kernel_rfl) (Args.v (vI v20) (eI v20) (by kernel_rfl) (Args.v (vI v9) (eI v9) (by kernel_rfl) Args.nil)) (ok29 m v20 v9 v21 ev21 n (by omega))) (by kernel_rfl) ?_
            refine Ops.seg 1 4 (by kernel_rfl) ⟨q2 ((.ptr 0 0) :: (dI v9) :: (.ptr 1 0) :: (dI v20) :: q4 ((dP e42 a0) :: (dI ((a0.length : Int))) :: (dI v9) :: (dB (decide (v9 < (a0.length : Int)))) :: (dI v9) :: (.vptr [(vI v19.fKind), (vI v19.fPair.fLexical), (vI v19.fPair.fSurface), (vP e64 v19.fContexts)]) :: (.v (.agg [(vI v19.fKind), (vI v19.fPair.fLexical), (vI v19.fPair.fSurface), (vP e64 v19.fContexts)])) :: (.v (.agg [(vI v19.fKind), (vI v19.fPair.fLexical), (vI v19.fPair.fSurface), (vP e64 v19.fContexts)])) :: (dI v20) :: (dI v20) :: (dB (v20 != 0)) :: (dI v20) :: (dI v9) :: (.v (.agg [(vI v21.fCode), (vI v21.fIndex)])) :: q2 [])), [(.cells [(dI v21.fCode), (dI v21.fIndex)]), (.cells [(dI v19.fKind), (dI v19.fPair.fLexical), (dI v19.fPair.fSurface), (dP e64 v19.fContexts)])]⟩ (by kernel_rfl) ?_
            refine Ops.done (by kernel_rfl) ?_
            refine seqQ.n ?_
            refine Wp.ret (by kernel_rfl) ?_
            refine sqQ.r ?_
            refine blkQ.r ?_
            refine seqQ.r ?_
            cases h
            refine lpQ.r ?_
            refine blkQ.r ?_
            exact hrx14 _ hsx18 _ (RetOk.forget [2, 10, 11, 12] (by kernel_rfl) (RetOk.mk' (.v (.agg [(vI v21.fCode), (vI v21.fIndex)])) (by kernel_rfl) (by kernel_rfl)))
          · refine Wp.cond (v20 != 0) [2, 10, 11, 12] (by kernel_rfl) 2 (by kernel_rfl) (subc [1, 1, 0, 1, 0, 0, 1, 1, 0, 0, 1, 1, 1, 0] C19) (subc [1, 1, 0, 1, 0, 0, 1, 1, 0, 0, 1, 1, 1, 1] C19) (by kernel_rfl) (by kernel_rfl) (fun e => nomatch (hb.symm.trans e)) (fun _ => ?_)
            refine Wp.skip (by kernel_rfl) ?_
            refine sqQ.n ⟨q2 ((.ptr 0 0) :: (dI v9) :: (.ptr 1 0) :: (dI v20) :: q4 ((dP e42 a0) :: (dI ((a0.length : Int))) :: (dI v9) :: (dB (decide (v9 < (a0.length : Int)))) :: (dI v9) :: (.vptr [(vI v19.fKind), (vI v19.fPair.fLexical), (vI v19.fPair.fSurface), (vP e64 v19.fContexts)]) :: (.v (.agg [(vI v19.fKind), (vI v19.fPair.fLexical), (vI v19.fPair.fSurface), (vP e64 v19.fContexts)])) :: (.v (.agg [(vI v19.fKind), (vI v19.fPair.fLexical), (vI v19.fPair.fSurface), (vP e64 v19.fContexts)])) :: (dI v20) :: (dI v20) :: (dB (v20 != 0)) :: q5 [])), [(.cells [(dI 0), (dI 0)]), (.cells [(dI v19.fKind), (dI v19.fPair.fLexical), (dI v19.fPair.fSurface), (dP e64 v19.fContexts)])]⟩ (by kernel_rfl) ?_
            refine blkQ.n ⟨q2 ((.ptr 0 0) :: q7 ((dP e42 a0) :: (dI ((a0.length : Int))) :: (dI v9) :: q13 [])), [(.cells [(dI 0), (dI 0)])]⟩ (by kernel_rfl) ?_
            refine seqQ.n ?_
            refine Wp.region (by kernel_rfl) ?_
            refine Ops.seg 2 2 (by kernel_rfl) ⟨q2 ((.ptr 0 0) :: q7 ((dP e42 a0) :: (dI ((a0.length : Int))) :: (dI (w64 (v9 + 1))) :: q11 ((dI (w64 (v9 + 1))) :: q1 []))), [(.cells [(dI 0), (dI 0)])]⟩ (by kernel_rfl) ?_
            refine Ops.done (by kernel_rfl) ?_
            refine lpQ.n ⟨q2 ((.ptr 0 0) :: q7 ((dP e42 a0) :: (dI ((a0.length : Int))) :: (dI (w64 (v9 + 1))) :: q13 [])), [(.cells [(dI 0), (dI 0)])]⟩ (by kernel_rfl) ?_
            cases h
            exact ihx13 (w64 (v9 + 1)) _ hsx18 _ (by omega) hrx14 hxx15
        · refine Wp.cond (decide (v9 < (a0.length : Int))) [2, 10, 11, 12] (by kernel_rfl) 1 (by kernel_rfl) (subc [1, 1, 0, 1, 0, 0, 1, 0, 0] C19) (subc [1, 1, 0, 1, 0, 0, 1, 0, 1] C19) (by kernel_rfl) (by kernel_rfl) (fun e => nomatch (hb.symm.trans e)) (fun _ => ?_)
          refine Wp.exit (id := 0) (by kernel_rfl) ?_
          refine sqQ.x ?_
          refine seqQ.x ?_
          cases h
          refine lpQ.x ?_
          refine blkQ.x ⟨q2 ((.ptr 0 0) :: q7 ((dP e42 a0) :: (dI ((a0.length : Int))) :: (dI v9) :: q13 [])), [(.cells [(dI 0), (dI 0)])]⟩ (by kernel_rfl) ?_
          exact hxx15 v9 hsx18
    refine Wp.loop [2, 10, 11, 12] 1 (by kernel_rfl) (subc [1, 1, 0, 1, 0, 0] C19) (by kernel_rfl) (by kernel_rfl) ⟨q2 ((.ptr 0 0) :: q7 ((dP e42 a0) :: (dI ((a0.length : Int))) :: (dI 0) :: q13 [])), [(.cells [(dI 0), (dI 0)])]⟩ (by kernel_rfl) ?_
    rcases brk_some h with ⟨r24, er24, h⟩ | ⟨y23, ey23, h⟩
    · refine hLx22 _ 0 _ er24 n (by omega) (fun r er σ hσ => ?_) (fun y ey => by cases ey)
      cases er
      refine seqQ.r ?_
      exact fnQ.r' (X19 n) (fun z => (e25 z)) h hσ
    · refine hLx22 _ 0 _ ey23 n (by omega) (fun r er => by cases er) (fun y ey => ?_)
      cases ey
      refine seqQ.n ?_
      refine Wp.seq (subc [1, 1, 1, 0] C19) (subc [1, 1, 1, 1] C19) (by kernel_rfl) ?_
      refine Wp.region (by kernel_rfl) ?_
      refine Ops.seg 2 2 (by kernel_rfl) ⟨q2 ((.ptr 0 0) :: q7 ((dP e42 a0) :: (dI ((a0.length : Int))) :: (dI y23) :: q12 ((.v (.agg [(vI 0), (vI 0)])) :: []))), [(.cells [(dI 0), (dI 0)])]⟩ (by kernel_rfl) ?_
      refine Ops.done (by kernel_rfl) ?_
      refine seqQ.n ?_
      refine Wp.ret (by kernel_rfl) ?_
      exact fnQ.r' (X19 n) (fun z => (e25 z)) h (RetOk.mk' (.v (.agg [(vI 0), (vI 0)])) (by kernel_rfl) (by kernel_rfl))

/-! ### 20 glosswright/glosswrightref6.PairsFault -/
def f20_j1 (m : Nat) (v105 : Int) (v115 : Bool) : Option (Stp S25 (Bool × Int)) :=
  some (.nxt (v115, w64 (v105 + 1)))
def f20_j2 (m : Nat) (v105 : Int) (v124 : Bool) : Option (Stp S25 (Bool × Int)) :=
  f20_j1 m v105 v124
def f20_r3 (m : Nat) (v105 : Int) (v124 : Bool) (v160 : Bool) : Option (Stp S25 (Bool × Int)) :=
  cnd v160
  (bnd (f29 m 13 v105) fun v162 =>
  some (.ret v162))
  (f20_j2 m v105 v124)
def f20_r4 (m : Nat) (a0 : (List S39)) (v105 : Int) (v117 : S39) (v124 : Bool) (v125 : Bool) : Option (Stp S25 (Bool × Int)) :=
  cnd v125
  (bnd (idx a0 (w64 (v105 - 1))) fun v144 =>
  f20_r3 m v105 v124 (((decide (v144.fLexical > v117.fLexical)) || (((v144.fLexical == v117.fLexical) && (decide (v144.fSurface ≥ v117.fSurface)))))))
  (f20_j2 m v105 v124)
def f20_B5 (m : Nat) (a0 : (List S39)) (v104 : Bool) (v105 : Int) : Option (Stp S25 (Bool × Int)) :=
  cnd (decide (v105 < (a0.length : Int)))
  (bnd (idx a0 v105) fun v117 =>
  bnd (f37 m v117 0) fun v118 =>
  cnd (v118 != 0)
  (bnd (f29 m v118 v105) fun v119 =>
  some (.ret v119))
  (f20_r4 m a0 v105 v117 v104 ((v104 && (decide (v105 > 0))))))
  (some (.brk (v104, v105)))
def f20 (m : Nat) (a0 : (List S39)) (a1 : Int) (a2 : Int) (a3 : Bool) : Option S25 :=
  cnd (decide ((a0.length : Int) > a1))
  (bnd (f29 m 2 a2) fun v1 =>
  some v1)
  (brk (iter (fun (y : Bool × Int) => f20_B5 m a0 y.1 y.2) m (a3, 0)) some fun y166 =>
  some ((⟨0, 0⟩ : S25)))
noncomputable abbrev X20 (n : Nat) : Cx := cxOf Proofs.Try.prog E 20 n
noncomputable def C20 : Code := bodyOf Proofs.Try.prog 20
theorem ok20 (m : Nat) (a0 : (List S39)) (a1 : Int) (a2 : Int) (a3 : Bool) (o : S25) (h : f20 m a0 a1 a2 a3 = some o) (n : Nat) (hn : m + 2 ≤ n) : Fn Proofs.Try.prog E n 20 [(eL e39) a0, eI a1, eI a2, eB a3] (e25 o) := by
  obtain ⟨n, rfl⟩ : ∃ q, n = q + 1 := ⟨n - 1, by omega⟩
  unfold f20 at h
  refine Fn.of (by kernel_rfl) (by kernel_rfl) ⟨(dP e39 a0) :: (dI a1) :: (dI a2) :: (dB a3) :: u40 (u22 []), []⟩ (by kernel_rfl) ?_
  refine Wp.seq (subc [0] C20) (subc [1] C20) (by kernel_rfl) ?_
  refine Wp.region (by kernel_rfl) ?_
  refine Ops.seg 1 1 (by kernel_rfl) ⟨(dP e39 a0) :: (dI a1) :: (dI a2) :: (dB a3) :: u4 ((.ptr 0 0) :: u40 (u17 [])), [(.cells [(dI 0), (dI 0)])]⟩ (by kernel_rfl) ?_
  refine Ops.done (by kernel_rfl) ?_
  refine seqQ.n ?_
  refine Wp.seq (subc [1, 0] C20) (subc [1, 1] C20) (by kernel_rfl) ?_
  refine Wp.seq (subc [1, 0, 0] C20) (subc [1, 0, 1] C20) (by kernel_rfl) ?_
  refine Wp.region (by kernel_rfl) ?_
  refine Ops.seg 1 1 (by kernel_rfl) ⟨(dP e39 a0) :: (dI a1) :: (dI a2) :: (dB a3) :: u4 ((.ptr 0 0) :: u4 ((dP e39 a0) :: u40 (u12 []))), [(.cells [(dI 0), (dI 0)])]⟩ (by kernel_rfl) ?_
  refine Ops.one 2 (by kernel_rfl) ((lenD (X20 n).E.T 37 (D.unt (dP e39 a0))).map (·, [(.cells [(dI 0), (dI 0)])])) (dI ((a0.length : Int))) [(.cells [(dI 0), (dI 0)])] ⟨(dP e39 a0) :: (dI a1) :: (dI a2) :: (dB a3) :: u4 ((.ptr 0 0) :: u4 ((dP e39 a0) :: (dI ((a0.length : Int))) :: u40 (u11 []))), [(.cells [(dI 0), (dI 0)])]⟩ (by kernel_rfl) (len_r _ 37 40 .plain e39 a0 (by kernel_rfl)) (by kernel_rfl) ?_
  refine Ops.seg 2 4 (by kernel_rfl) ⟨(dP e39 a0) :: (dI a1) :: (dI a2) :: (dB a3) :: u4 ((.ptr 0 0) :: u4 ((dP e39 a0) :: (dI ((a0.length : Int))) :: (dI a1) :: (dB (decide ((a0.length : Int) > a1))) :: u40 (u9 []))), [(.cells [(dI 0), (dI 0)])]⟩ (by kernel_rfl) ?_
  refine Ops.done (by kernel_rfl) ?_
  refine seqQ.n ?_
  rcases cnd_some h with ⟨hb, h⟩ | ⟨hb, h⟩
  · refine Wp.cond (decide ((a0.length : Int) > a1)) [0, 3, 8] (by kernel_rfl) 1 (by kernel_rfl) (subc [1, 0, 1, 0] C20) (subc [1, 0, 1, 1] C20) (by kernel_rfl) (by kernel_rfl) (fun _ => ?_) (fun e => nomatch (hb.symm.trans e))
    refine Wp.seq (subc [1, 0, 1, 0, 0] C20) (subc [1, 0, 1, 0, 1] C20) (by kernel_rfl) ?_
    refine Wp.region (by kernel_rfl) ?_
    refine Ops.seg 1 1 (by kernel_rfl) ⟨(dP e39 a0) :: (dI a1) :: (dI a2) :: (dB a3) :: u4 ((.ptr 0 0) :: u4 ((dP e39 a0) :: (dI ((a0.length : Int))) :: (dI a1) :: (dB (decide ((a0.length : Int) > a1))) :: (dI a2) :: u40 (u8 []))), [(.cells [(dI 0), (dI 0)])]⟩ (by kernel_rfl) ?_
    obtain ⟨v1, ev1, h⟩ := bnd_some h
    refine Ops.one 2 (by kernel_rfl) (callD (X20 n).E (run Proofs.Try.prog E n) 29 [(dI 2), (dI a2)] [(.cells [(dI 0), (dI 0)])]) (.v (.agg [(vI v1.fCode), (vI v1.fIndex)])) [(.cells [(dI 0), (dI 0)])] ⟨(dP e39 a0) :: (dI a1) :: (dI a2) :: (dB a3) :: u4 ((.ptr 0 0) :: u4 ((dP e39 a0) :: (dI ((a0.length : Int))) :: (dI a1) :: (dB (decide ((a0.length : Int) > a1))) :: (dI a2) :: (.v (.agg [(vI v1.fCode), (vI v1.fIndex)])) :: u40 (u7 []))), [(.cells [(dI 0), (dI 0)])]⟩ (by kernel_rfl) (call_ok (by kernel_rfl) (Args.v (vI 2) (eI 2) (by kernel_rfl) (Args.v (vI a2) (eI a2) (by kernel_rfl) Args.nil)) (ok29 m 2 a2 v1 ev1 n (by omega))) (by kernel_rfl) ?_
    refine Ops.seg 1 3 (by kernel_rfl) ⟨(dP e39 a0) :: (dI a1) :: (dI a2) :: (dB a3) :: u4 ((.ptr 0 0) :: u4 ((dP e39 a0) :: (dI ((a0.length : Int))) :: (dI a1) :: (dB (decide ((a0.length : Int) > a1))) :: (dI a2) :: (.v (.agg [(vI v1.fCode), (vI v1.fIndex)])) :: u40 (u7 []))), [(.cells [(dI v1.fCode), (dI v1.fIndex)])]⟩ (by kernel_rfl) ?_
    refine Ops.done (by kernel_rfl) ?_
    refine seqQ.n ?_
    refine Wp.ret (by kernel_rfl) ?_
    refine sqQ.r ?_
    refine seqQ.r ?_
    exact fnQ.r' (X20 n) (fun z => (e25 z)) h (RetOk.mk' (.v (.agg [(vI v1.fCode), (vI v1.fIndex)])) (by kernel_rfl) (by kernel_rfl))
  · refine Wp.cond (decide ((a0.length : Int) > a1)) [0, 3, 8] (by kernel_rfl) 1 (by kernel_rfl) (subc [1, 0, 1, 0] C20) (subc [1, 0, 1, 1] C20) (by kernel_rfl) (by kernel_rfl) (fun e => nomatch (hb.symm.trans e)) (fun _ => ?_)
    refine Wp.skip (by kernel_rfl) ?_
    refine sqQ.n ⟨(dP e39 a0) :: (dI a1) :: (dI a2) :: (dB a3) :: u4 ((.ptr 0 0) :: u4 ((dP e39 a0) :: (dI ((a0.length : Int))) :: (dI a1) :: (dB (decide ((a0.length : Int) > a1))) :: u40 (u9 []))), [(.cells [(dI 0), (dI 0)])]⟩ (by kernel_rfl) ?_
    refine seqQ.n ?_
    refine Wp.seq (subc [1, 1, 0] C20) (subc [1, 1, 1] C20) (by kernel_rfl) ?_
    refine Wp.seq (subc [1, 1, 0, 0] C20) (subc [1, 1, 0, 1] C20) (by kernel_rfl) ?_
    refine Wp.region (by kernel_rfl) ?_
    refine Ops.seg 1 1 (by kernel_rfl) ⟨(dP e39 a0) :: (dI a1) :: (dI a2) :: (dB a3) :: u4 ((.ptr 0 0) :: u4 ((dP e39 a0) :: (dI ((a0.length : Int))) :: (dI a1) :: (dB (decide ((a0.length : Int) > a1))) :: u2 ((dP e39 a0) :: u40 (u6 [])))), [(.cells [(dI 0), (dI 0)])]⟩ (by kernel_rfl) ?_
    refine Ops.one 2 (by kernel_rfl) ((lenD (X20 n).E.T 37 (D.unt (dP e39 a0))).map (·, [(.cells [(dI 0), (dI 0)])])) (dI ((a0.length : Int))) [(.cells [(dI 0), (dI 0)])] ⟨(dP e39 a0) :: (dI a1) :: (dI a2) :: (dB a3) :: u4 ((.ptr 0 0) :: u4 ((dP e39 a0) :: (dI ((a0.length : Int))) :: (dI a1) :: (dB (decide ((a0.length : Int) > a1))) :: u2 ((dP e39 a0) :: (dI ((a0.length : Int))) :: u40 (u5 [])))), [(.cells [(dI 0), (dI 0)])]⟩ (by kernel_rfl) (len_r _ 37 40 .plain e39 a0 (by kernel_rfl)) (by kernel_rfl) ?_
    refine Ops.seg 1 3 (by kernel_rfl) ⟨(dP e39 a0) :: (dI a1) :: (dI a2) :: (dB a3) :: u4 ((.ptr 0 0) :: u4 ((dP e39 a0) :: (dI ((a0.length : Int))) :: (dI a1) :: (dB (decide ((a0.length : Int) > a1))) :: u2 ((dP e39 a0) :: (dI ((a0.length : Int))) :: (dI 0) :: u40 (u4 [])))), [(.cells [(dI 0), (dI 0)])]⟩ (by kernel_rfl) ?_
    refine Ops.done (by kernel_rfl) ?_
    refine seqQ.n ?_
    refine Wp.block (id := 0) [8] (by kernel_rfl) 1 (by kernel_rfl) (subc [1, 1, 0, 1, 0] C20) (by kernel_rfl) ?_
    have hLx165 : ∀ (kx107 : Nat) (v104 : Bool) (v105 : Int) (ox106 : S25 ⊕ (Bool × Int)), iter (fun (y : Bool × Int) => f20_B5 m a0 y.1 y.2) kx107 (v104, v105) = some ox106 → ∀ nx108, kx107 ≤ nx108 → (∀ r, ox106 = .inl r → ∀ σ, RetOk (X20 n) (resOf Proofs.Try.prog 20) (e25 r) σ → (seqQ (X20 n) (subc [1, 1, 1] C20) (fnQ (X20 n).E.T (resOf Proofs.Try.prog 20) (e25 o))) .ret σ) → (∀ y : Bool × Int, ox106 = .inr y → (seqQ (X20 n) (subc [1, 1, 1] C20) (fnQ (X20 n).E.T (resOf Proofs.Try.prog 20) (e25 o))) .normal ⟨(dP e39 a0) :: q2 ((dB y.1) :: q4 ((.ptr 0 0) :: q10 ((dP e39 a0) :: (dI ((a0.length : Int))) :: (dI y.2) :: q40 (q4 [])))), [(.cells [(dI 0), (dI 0)])]⟩) → Lp (X20 n) [0, 3, 8, 19, 20, 21] 1 (subc [1, 1, 0, 1, 0, 0] C20) nx108 ⟨(dP e39 a0) :: q2 ((dB v104) :: q4 ((.ptr 0 0) :: q10 ((dP e39 a0) :: (dI ((a0.length : Int))) :: (dI v105) :: q40 (q4 [])))), [(.cells [(dI 0), (dI 0)])]⟩ (blkQ (X20 n) 0 [8] 1 (seqQ (X20 n) (subc [1, 1, 1] C20) (fnQ (X20 n).E.T (resOf Proofs.Try.prog 20) (e25 o)))) := by
      intro kx107
      induction kx107 with
      | zero => intro v104 v105 ox106 h; exact (iter_zero h).elim
      | succ kx107 ihx109 =>
        intro v104 v105 ox106 h nx108 hnx112 hrx110 hxx111
        obtain ⟨nx108, rfl⟩ : ∃ q, nx108 = q + 1 := ⟨nx108 - 1, by omega⟩
        obtain ⟨sx113, h, hsx114⟩ := iter_some h
        have h : f20_B5 m a0 v104 v105 = some sx113 := h
        unfold f20_B5 at h
        refine Lp.succ ?_
        refine Wp.seq (subc [1, 1, 0, 1, 0, 0, 0] C20) (subc [1, 1, 0, 1, 0, 0, 1] C20) (by kernel_rfl) ?_
        refine Wp.region (by kernel_rfl) ?_
        refine Ops.seg 1 1 (by kernel_rfl) ⟨(dP e39 a0) :: q2 ((dB v104) :: q4 ((.ptr 0 0) :: q10 ((dP e39 a0) :: (dI ((a0.length : Int))) :: (dI v105) :: (dB (decide (v105 < (a0.length : Int)))) :: q40 (q3 [])))), [(.cells [(dI 0), (dI 0)])]⟩ (by kernel_rfl) ?_
        refine Ops.done (by kernel_rfl) ?_
        refine seqQ.n ?_
        refine Wp.seq (subc [1, 1, 0, 1, 0, 0, 1, 0] C20) (subc [1, 1, 0, 1, 0, 0, 1, 1] C20) (by kernel_rfl) ?_
        rcases cnd_some h with ⟨hb, h⟩ | ⟨hb, h⟩
        · refine Wp.cond (decide (v105 < (a0.length : Int))) [0, 3, 8, 19, 20, 21] (by kernel_rfl) 1 (by kernel_rfl) (subc [1, 1, 0, 1, 0, 0, 1, 0, 0] C20) (subc [1, 1, 0, 1, 0, 0, 1, 0, 1] C20) (by kernel_rfl) (by kernel_rfl) (fun _ => ?_) (fun e => nomatch (hb.symm.trans e))
          refine Wp.skip (by kernel_rfl) ?_
          refine sqQ.n ⟨(dP e39 a0) :: q2 ((dB v104) :: q4 ((.ptr 0 0) :: q10 ((dP e39 a0) :: (dI ((a0.length : Int))) :: (dI v105) :: (dB (decide (v105 < (a0.length : Int)))) :: q40 (q3 [])))), [(.cells [(dI 0), (dI 0)])]⟩ (by kernel_rfl) ?_
          refine seqQ.n ?_
          refine Wp.seq (subc [1, 1, 0, 1, 0, 0, 1, 1, 0] C20) (subc [1, 1, 0, 1, 0, 0, 1, 1, 1] C20) (by kernel_rfl) ?_
          have J20j116 : ∀ (v115 : Bool) , f20_j1 m v105 v115 = some sx113 → (seqQ (X20 n) (subc [1, 1, 0, 1, 0, 0, 1, 1, 1] C20) (lpQ (X20 n) [0, 3, 8, 19, 20, 21] 1 (subc [1, 1, 0, 1, 0, 0] C20) nx108 (blkQ (X20 n) 0 [8] 1 (seqQ (X20 n) (subc [1, 1, 1] C20) (fnQ (X20 n).E.T (resOf Proofs.Try.prog 20) (e25 o)))))) .normal ⟨(dP e39 a0) :: q2 ((dB v115) :: q4 ((.ptr 0 0) :: q10 ((dP e39 a0) :: (dI ((a0.length : Int))) :: (dI v105) :: q40 (q4 [])))), [(.cells [(dI 0), (dI 0)])]⟩ := by
            intro v115  h
            unfold f20_j1 at h
            refine seqQ.n ?_
            refine Wp.region (by kernel_rfl) ?_
            refine Ops.seg 2 2 (by kernel_rfl) ⟨(dP e39 a0) :: q2 ((dB v115) :: q4 ((.ptr 0 0) :: q10 ((dP e39 a0) :: (dI ((a0.length : Int))) :: (dI (w64 (v105 + 1))) :: q40 (q2 ((dI (w64 (v105 + 1))) :: q1 []))))), [(.cells [(dI 0), (dI 0)])]⟩ (by kernel_rfl) ?_
            refine Ops.done (by kernel_rfl) ?_
            refine lpQ.n ⟨(dP e39 a0) :: q2 ((dB v115) :: q4 ((.ptr 0 0) :: q10 ((dP e39 a0) :: (dI ((a0.length : Int))) :: (dI (w64 (v105 + 1))) :: q40 (q4 [])))), [(.cells [(dI 0), (dI 0)])]⟩ (by kernel_rfl) ?_
            cases h
            exact ihx109 v115 (w64 (v105 + 1)) _ hsx114 _ (by omega) hrx110 hxx111
          refine Wp.block (id := 1) [0, 3, 8, 19, 20, 21] (by kernel_rfl) 1 (by kernel_rfl) (subc [1, 1, 0, 1, 0, 0, 1, 1, 0, 0] C20) (by kernel_rfl) ?_
          refine Wp.seq (subc [1, 1, 0, 1, 0, 0, 1, 1, 0, 0, 0] C20) (subc [1, 1, 0, 1, 0, 0, 1, 1, 0, 0, 1] C20) (by kernel_rfl) ?_
          refine Wp.region (by kernel_rfl) ?_
          refine Ops.seg 1 1 (by kernel_rfl) ⟨(dP e39 a0) :: q2 ((dB v104) :: q4 ((.ptr 0 0) :: q10 ((dP e39 a0) :: (dI ((a0.length : Int))) :: (dI v105) :: (dB (decide (v105 < (a0.length : Int)))) :: (dI v105) :: q40 (q2 [])))), [(.cells [(dI 0), (dI 0)])]⟩ (by kernel_rfl) ?_
          obtain ⟨v117, ev117, h⟩ := bnd_some h
          refine Ops.one 2 (by kernel_rfl) ((indexAddrH (X20 n).E.T [(.cells [(dI 0), (dI 0)])] 37 (D.unt (dP e39 a0)) (dI v105)).map (·, [(.cells [(dI 0), (dI 0)])])) (.vptr [(vI v117.fLexical), (vI v117.fSurface)]) [(.cells [(dI 0), (dI 0)])] ⟨(dP e39 a0) :: q2 ((dB v104) :: q4 ((.ptr 0 0) :: q10 ((dP e39 a0) :: (dI ((a0.length : Int))) :: (dI v105) :: (dB (decide (v105 < (a0.length : Int)))) :: (dI v105) :: (.vptr [(vI v117.fLexical), (vI v117.fSurface)]) :: q40 (q1 [])))), [(.cells [(dI 0), (dI 0)])]⟩ (by kernel_rfl) (ix_r _ 37 40 2 .plain e39 a0 v105 v117 ev117 (by kernel_rfl) (by kernel_rfl) (fun _ => rfl)) (by kernel_rfl) ?_
          refine Ops.seg 4 6 (by kernel_rfl) ⟨(dP e39 a0) :: q2 ((dB v104) :: q4 ((.ptr 0 0) :: (dI v105) :: (.ptr 1 0) :: q8 ((dP e39 a0) :: (dI ((a0.length : Int))) :: (dI v105) :: (dB (decide (v105 < (a0.length : Int)))) :: (dI v105) :: (.vptr [(vI v117.fLexical), (vI v117.fSurface)]) :: (.v (.agg [(vI v117.fLexical), (vI v117.fSurface)])) :: q40 []))), [(.cells [(dI 0), (dI 0)]), (.cells [(dI v117.fLexical), (dI v117.fSurface)])]⟩ (by kernel_rfl) ?_
          refine Ops.done (by kernel_rfl) ?_
          refine seqQ.n ?_
          refine Wp.seq (subc [1, 1, 0, 1, 0, 0, 1, 1, 0, 0, 1, 0] C20) (subc [1, 1, 0, 1, 0, 0, 1, 1, 0, 0, 1, 1] C20) (by kernel_rfl) ?_
          refine Wp.seq (subc [1, 1, 0, 1, 0, 0, 1, 1, 0, 0, 1, 0, 0] C20) (subc [1, 1, 0, 1, 0, 0, 1, 1, 0, 0, 1, 0, 1] C20) (by kernel_rfl) ?_
          refine Wp.region (by kernel_rfl) ?_
          refine Ops.seg 1 1 (by kernel_rfl) ⟨(dP e39 a0) :: q2 ((dB v104) :: q4 ((.ptr 0 0) :: (dI v105) :: (.ptr 1 0) :: q8 ((dP e39 a0) :: (dI ((a0.length : Int))) :: (dI v105) :: (dB (decide (v105 < (a0.length : Int)))) :: (dI v105) :: (.vptr [(vI v117.fLexical), (vI v117.fSurface)]) :: (.v (.agg [(vI v117.fLexical), (vI v117.fSurface)])) :: (.v (.agg [(vI v117.fLexical), (vI v117.fSurface)])) :: q39 []))), [(.cells [(dI 0), (dI 0)]), (.cells [(dI v117.fLexical), (dI v117.fSurface)])]⟩ (by kernel_rfl) ?_
          obtain ⟨v118, ev118, h⟩ := bnd_some h
          refine Ops.one 2 (by kernel_rfl) (callD (X20 n).E (run Proofs.Try.prog E n) 37 [(.v (.agg [(vI v117.fLexical), (vI v117.fSurface)])), (dI 0)] [(.cells [(dI 0), (dI 0)]), (.cells [(dI v117.fLexical), (dI v117.fSurface)])]) (dI v118) [(.cells [(dI 0), (dI 0)]), (.cells [(dI v117.fLexical), (dI v117.fSurface)])] ⟨(dP e39 a0) :: q2 ((dB v104) :: q4 ((.ptr 0 0) :: (dI v105) :: (.ptr 1 0) :: q8 ((dP e39 a0) :: (dI ((a0.length : Int))) :: (dI v105) :: (dB (decide (v105 < (a0.length : Int)))) :: (dI v105) :: (.vptr [(vI v117.fLexical), (vI v117.fSurface)]) :: (.v (.agg [(vI v117.fLexical), (vI v117.fSurface)])) :: (.v (.agg [(vI v117.fLexical), (vI v117.fSurface)])) :: (dI v118) :: q38 []))), [(.cells [(dI 0), (dI 0)]), (.cells [(dI v117.fLexical), (dI v117.fSurface)])]⟩ (by kernel_rfl) (call_ok (by kernel_rfl) (Args.v (.agg [(vI v117.fLexical), (vI v117.fSurface)]) (e39 v117) (by kernel_rfl) (Args.v (vI 0) (eI 0) (by kernel_rfl) Args.nil)) (ok37 m v117 0 v118 ev118 n (by omega))) (by kernel_rfl) ?_
          refine Ops.seg 1 3 (by kernel_rfl) ⟨(dP e39 a0) :: q2 ((dB v104) :: q4 ((.ptr 0 0) :: (dI v105) :: (.ptr 1 0) :: (dI v118) :: q7 ((dP e39 a0) :: (dI ((a0.length : Int))) :: (dI v105) :: (dB (decide (v105 < (a0.length : Int)))) :: (dI v105) :: (.vptr [(vI v117.fLexical), (vI v117.fSurface)]) :: (.v (.agg [(vI v117.fLexical), (vI v117.fSurface)])) :: (.v (.agg [(vI v117.fLexical), (vI v117.fSurface)])) :: (dI v118) :: q38 []))), [(.cells [(dI 0), (dI 0)]), (.cells [(dI v117.fLexical), (dI v117.fSurface)])]⟩ (by kernel_rfl) ?_
          refine Ops.done (by kernel_rfl) ?_
          refine seqQ.n ?_
          refine Wp.seq (subc [1, 1, 0, 1, 0, 0, 1, 1, 0, 0, 1, 0, 1, 0] C20) (subc [1, 1, 0, 1, 0, 0, 1, 1, 0, 0, 1, 0, 1, 1] C20) (by kernel_rfl) ?_
          refine Wp.region (by kernel_rfl) ?_
          refine Ops.seg 2 2 (by kernel_rfl) ⟨(dP e39 a0) :: q2 ((dB v104) :: q4 ((.ptr 0 0) :: (dI v105) :: (.ptr 1 0) :: (dI v118) :: q7 ((dP e39 a0) :: (dI ((a0.length : Int))) :: (dI v105) :: (dB (decide (v105 < (a0.length : Int)))) :: (dI v105) :: (.vptr [(vI v117.fLexical), (vI v117.fSurface)]) :: (.v (.agg [(vI v117.fLexical), (vI v117.fSurface)])) :: (.v (.agg [(vI v117.fLexical), (vI v117.fSurface)])) :: (dI v118) :: (dI v118) :: (dB (v118 != 0)) :: q36 []))), [(.cells [(dI 0), (dI 0)]), (.cells [(dI v117.fLexical), (dI v117.fSurface)])]⟩ (by kernel_rfl) ?_
          refine Ops.done (by kernel_rfl) ?_
          refine seqQ.n ?_
          rcases cnd_some h with ⟨hb, h⟩ | ⟨hb, h⟩
          · refine Wp.cond (v118 != 0) [0, 3, 8, 9, 10, 19, 20, 21] (by kernel_rfl) 2 (by kernel_rfl) (subc [1, 1, 0, 1, 0, 0, 1, 1, 0, 0, 1, 0, 1, 1, 0] C20) (subc [1, 1, 0, 1, 0, 0, 1, 1, 0, 0, 1, 0, 1, 1, 1] C20) (by kernel_rfl) (by kernel_rfl) (fun _ => ?_) (fun e => nomatch (hb.symm.trans e))
            refine Wp.seq (subc [1, 1, 0, 1, 0, 0, 1, 1, 0, 0, 1, 0, 1, 1, 0, 0] C20) (subc [1, 1, 0, 1, 0, 0, 1, 1, 0, 0, 1, 0, 1, 1, 0, 1] C20) (by kernel_rfl) ?_
            refine Wp.region (by kernel_rfl) ?_
            refine Ops.seg 2 2 (by kernel_rfl) ⟨(dP e39 a0) :: q2 ((dB v104) :: q4 ((.ptr 0 0) :: (dI v105) :: (.ptr 1 0) :: (dI v118) :: q7 ((dP e39 a0) :: (dI ((a0.length : Int))) :: (dI v105) :: (dB (decide (v105 < (a0.length : Int)))) :: (dI v105) :: (.vptr [(vI v117.fLexical), (vI v117.fSurface)]) :: (.v (.agg [(vI v117.fLexical), (vI v117.fSurface)])) :: (.v (.agg [(vI v117.fLexical), (vI v117.fSurface)])) :: (dI v118) :: (dI v118) :: (dB (v118 != 0)) :: (dI v118) :: (dI v105) :: q34 []))), [(.cells [(dI 0), (dI 0)]), (.cells [(dI v117.fLexical), (dI v117.fSurface)])]⟩ (by kernel_rfl) ?_
            obtain ⟨v119, ev119, h⟩ := bnd_some h
            refine Ops.one 3 (by kernel_rfl) (callD (X20 n).E (run Proofs.Try.prog E n) 29 [(dI v118), (dI v105)] [(.cells [(dI 0), (dI 0)]), (.cells [(dI v117.fLexical), (dI v117.fSurface)])]) (.v (.agg [(vI v119.fCode), (vI v119.fIndex)])) [(.cells [(dI 0), (dI 0)]), (.cells [(dI v117.fLexical), (dI v117.fSurface)])] ⟨(dP e39 a0) :: q2 ((dB v104) :: q4 ((.ptr 0 0) :: (dI v105) :: (.ptr 1 0) :: (dI v118) :: q7 ((dP e39 a0) :: (dI ((a0.length : Int))) :: (dI v105) :: (dB (decide (v105 < (a0.length : Int)))) :: (dI v105) :: (.vptr [(vI v117.fLexical), (vI v117.fSurface)]) :: (.v (.agg [(vI v117.fLexical), (vI v117.fSurface)])) :: (.v (.agg [(vI v117.fLexical), (vI v117.fSurface)])) :: (dI v118) :: (dI v118) :: (dB (v118 != 0)) :: (dI v118) :: (dI v105) :: (.v (.agg [(vI v119.fCode), (vI v119.fIndex)])) :: q33 []))), [(.cells [(dI 0), (dI 0)]), (.cells [(dI v117.fLexical), (dI v117.fSurface)])]⟩ (by kernel_rfl) (call_ok (by kernel_rfl) (Args.v (vI v118) (eI v118) (by kernel_rfl) (Args.v (vI v105) (eI v105) (by kernel_rfl) Args.nil)) (ok29 m v118 v105 v119 ev119 n (by omega))) (by kernel_rfl) ?_
            refine Ops.seg 1 4 (by kernel_rfl) ⟨(dP e39 a0) :: q2 ((dB v104) :: q4 ((.ptr 0 0) :: (dI v105) :: (.ptr 1 0) :: (dI v118) :: q7 ((dP e39 a0) :: (dI ((a0.length : Int))) :: (dI v105) :: (dB (decide (v105 < (a0.length : Int)))) :: (dI v105) :: (.vptr [(vI v117.fLexical), (vI v117.fSurface)]) :: (.v (.agg [(vI v117.fLexical), (vI v117.fSurface)])) :: (.v (.agg [(vI v117.fLexical), (vI v117.fSurface)])) :: (dI v118) :: (dI v118) :: (dB (v118 != 0)) :: (dI v118) :: (dI v105) :: (.v (.agg [(vI v119.fCode), (vI v119.fIndex)])) :: q33 []))), [(.cells [(dI v119.fCode), (dI v119.fIndex)]), (.cells [(dI v117.fLexical), (dI v117.fSurface)])]⟩ (by kernel_rfl) ?_
            refine Ops.done (by kernel_rfl) ?_
            refine seqQ.n ?_
            refine Wp.ret (by kernel_rfl) ?_
            refine sqQ.r ?_
            refine seqQ.r ?_
            refine blkQ.r ?_
            refine seqQ.r ?_
            cases h
            refine lpQ.r ?_
            refine blkQ.r ?_
            exact hrx110 _ hsx114 _ (RetOk.forget [0, 3, 8, 19, 20, 21] (by kernel_rfl) (RetOk.mk' (.v (.agg [(vI v119.fCode), (vI v119.fIndex)])) (by kernel_rfl) (by kernel_rfl)))
          · refine Wp.cond (v118 != 0) [0, 3, 8, 9, 10, 19, 20, 21] (by kernel_rfl) 2 (by kernel_rfl) (subc [1, 1, 0, 1, 0, 0, 1, 1, 0, 0, 1, 0, 1, 1, 0] C20) (subc [1, 1, 0, 1, 0, 0, 1, 1, 0, 0, 1, 0, 1, 1, 1] C20) (by kernel_rfl) (by kernel_rfl) (fun e => nomatch (hb.symm.trans e)) (fun _ => ?_)
            refine Wp.skip (by kernel_rfl) ?_
            refine sqQ.n ⟨(dP e39 a0) :: q2 ((dB v104) :: q4 ((.ptr 0 0) :: (dI v105) :: (.ptr 1 0) :: (dI v118) :: q7 ((dP e39 a0) :: (dI ((a0.length : Int))) :: (dI v105) :: (dB (decide (v105 < (a0.length : Int)))) :: (dI v105) :: (.vptr [(vI v117.fLexical), (vI v117.fSurface)]) :: (.v (.agg [(vI v117.fLexical), (vI v117.fSurface)])) :: (.v (.agg [(vI v117.fLexical), (vI v117.fSurface)])) :: (dI v118) :: (dI v118) :: (dB (v118 != 0)) :: q36 []))), [(.cells [(dI 0), (dI 0)]), (.cells [(dI v117.fLexical), (dI v117.fSurface)])]⟩ (by kernel_rfl) ?_
            refine seqQ.n ?_
            refine Wp.seq (subc [1, 1, 0, 1, 0, 0, 1, 1, 0, 0, 1, 1, 0] C20) (subc [1, 1, 0, 1, 0, 0, 1, 1, 0, 0, 1, 1, 1] C20) (by kernel_rfl) ?_
            refine Wp.region (by kernel_rfl) ?_
            refine Ops.seg 2 2 (by kernel_rfl) ⟨(dP e39 a0) :: q2 ((dB v104) :: q4 ((.ptr 0 0) :: (dI v105) :: (.ptr 1 0) :: (dI v118) :: q7 ((dP e39 a0) :: (dI ((a0.length : Int))) :: (dI v105) :: (dB (decide (v105 < (a0.length : Int)))) :: (dI v105) :: (.vptr [(vI v117.fLexical), (vI v117.fSurface)]) :: (.v (.agg [(vI v117.fLexical), (vI v117.fSurface)])) :: (.v (.agg [(vI v117.fLexical), (vI v117.fSurface)])) :: (dI v118) :: (dI v118) :: (dB (v118 != 0)) :: q3 ((dB v104) :: (dB v104) :: q31 [])))), [(.cells [(dI 0), (dI 0)]), (.cells [(dI v117.fLexical), (dI v117.fSurface)])]⟩ (by kernel_rfl) ?_
            have J20j126 : ∀ (d122 d123 : D) (v124 : Bool) (v125 : Bool), f20_r4 m a0 v105 v117 v124 v125 = some sx113 → Ops (X20 n) (opl (subc [1, 1, 0, 1, 0, 0, 1, 1, 0, 0, 1, 1, 0] C20)) 5 ⟨(dP e39 a0) :: q2 ((dB v124) :: q4 ((.ptr 0 0) :: (dI v105) :: (.ptr 1 0) :: (dI v118) :: q7 ((dP e39 a0) :: (dI ((a0.length : Int))) :: (dI v105) :: (dB (decide (v105 < (a0.length : Int)))) :: (dI v105) :: (.vptr [(vI v117.fLexical), (vI v117.fSurface)]) :: (.v (.agg [(vI v117.fLexical), (vI v117.fSurface)])) :: (.v (.agg [(vI v117.fLexical), (vI v117.fSurface)])) :: (dI v118) :: (dI v118) :: (dB (v118 != 0)) :: q3 ((dB v124) :: (dB v124) :: d122 :: d123 :: (dB v125) :: q28 [])))), [(.cells [(dI 0), (dI 0)]), (.cells [(dI v117.fLexical), (dI v117.fSurface)])]⟩ ((seqQ (X20 n) (subc [1, 1, 0, 1, 0, 0, 1, 1, 0, 0, 1, 1, 1] C20) (blkQ (X20 n) 1 [0, 3, 8, 19, 20, 21] 1 (seqQ (X20 n) (subc [1, 1, 0, 1, 0, 0, 1, 1, 1] C20) (lpQ (X20 n) [0, 3, 8, 19, 20, 21] 1 (subc [1, 1, 0, 1, 0, 0] C20) nx108 (blkQ (X20 n) 0 [8] 1 (seqQ (X20 n) (subc [1, 1, 1] C20) (fnQ (X20 n).E.T (resOf Proofs.Try.prog 20) (e25 o)))))))) .normal) := by
              intro d122 d123 v124 v125 h
              unfold f20_r4 at h
              refine Ops.done (by kernel_rfl) ?_
              refine seqQ.n ?_
              have J20j143 : ∀  (d127 : D) (d128 : D) (d129 : D) (d130 : D) (d131 : D) (d132 : D) (d133 : D) (d134 : D) (d135 : D) (d136 : D) (d137 : D) (d138 : D) (d139 : D) (d140 : D) (d141 : D) (d142 : D), f20_j2 m v105 v124 = some sx113 → (blkQ (X20 n) 1 [0, 3, 8, 19, 20, 21] 1 (seqQ (X20 n) (subc [1, 1, 0, 1, 0, 0, 1, 1, 1] C20) (lpQ (X20 n) [0, 3, 8, 19, 20, 21] 1 (subc [1, 1, 0, 1, 0, 0] C20) nx108 (blkQ (X20 n) 0 [8] 1 (seqQ (X20 n) (subc [1, 1, 1] C20) (fnQ (X20 n).E.T (resOf Proofs.Try.prog 20) (e25 o))))))) .normal ⟨(dP e39 a0) :: q2 ((dB v124) :: q4 ((.ptr 0 0) :: d127 :: d128 :: d129 :: q7 ((dP e39 a0) :: (dI ((a0.length : Int))) :: (dI v105) :: d130 :: d131 :: d132 :: d133 :: d134 :: d135 :: d136 :: d137 :: q3 (d138 :: d139 :: d140 :: d141 :: d142 :: q28 [])))), [(.cells [(dI 0), (dI 0)]), (.cells [(dI v117.fLexical), (dI v117.fSurface)])]⟩ := by
                intro  d127 d128 d129 d130 d131 d132 d133 d134 d135 d136 d137 d138 d139 d140 d141 d142 h
                unfold f20_j2 at h
                refine blkQ.n ⟨(dP e39 a0) :: q2 ((dB v124) :: q4 ((.ptr 0 0) :: q10 ((dP e39 a0) :: (dI ((a0.length : Int))) :: (dI v105) :: q40 (q4 [])))), [(.cells [(dI 0), (dI 0)])]⟩ (by kernel_rfl) ?_
                exact J20j116 v124  h
              rcases cnd_some h with ⟨hb, h⟩ | ⟨hb, h⟩
              · refine Wp.cond v125 [0, 3, 8, 19, 20, 21] (by kernel_rfl) 2 (by kernel_rfl) (subc [1, 1, 0, 1, 0, 0, 1, 1, 0, 0, 1, 1, 1, 0] C20) (subc [1, 1, 0, 1, 0, 0, 1, 1, 0, 0, 1, 1, 1, 1] C20) (by kernel_rfl) (by kernel_rfl) (fun _ => ?_) (fun e => nomatch (hb.symm.trans e))
                refine Wp.seq (subc [1, 1, 0, 1, 0, 0, 1, 1, 0, 0, 1, 1, 1, 0, 0] C20) (subc [1, 1, 0, 1, 0, 0, 1, 1, 0, 0, 1, 1, 1, 0, 1] C20) (by kernel_rfl) ?_
                refine Wp.region (by kernel_rfl) ?_
                refine Ops.seg 3 3 (by kernel_rfl) ⟨(dP e39 a0) :: q2 ((dB v124) :: q4 ((.ptr 0 0) :: (dI v105) :: (.ptr 1 0) :: (dI v118) :: q7 ((dP e39 a0) :: (dI ((a0.length : Int))) :: (dI v105) :: (dB (decide (v105 < (a0.length : Int)))) :: (dI v105) :: (.vptr [(vI v117.fLexical), (vI v117.fSurface)]) :: (.v (.agg [(vI v117.fLexical), (vI v117.fSurface)])) :: (.v (.agg [(vI v117.fLexical), (vI v117.fSurface)])) :: (dI v118) :: (dI v118) :: (dB (v118 != 0)) :: q3 ((dB v124) :: (dB v124) :: d122 :: d123 :: (dB v125) :: (dP e39 a0) :: (dI v105) :: (dI (w64 (v105 - 1))) :: q25 [])))), [(.cells [(dI 0), (dI 0)]), (.cells [(dI v117.fLexical), (dI v117.fSurface)])]⟩ (by kernel_rfl) ?_
                obtain ⟨v144, ev144, h⟩ := bnd_some h
                refine Ops.one 4 (by kernel_rfl) ((indexAddrH (X20 n).E.T [(.cells [(dI 0), (dI 0)]), (.cells [(dI v117.fLexical), (dI v117.fSurface)])] 37 (D.unt (dP e39 a0)) (dI (w64 (v105 - 1)))).map (·, [(.cells [(dI 0), (dI 0)]), (.cells [(dI v117.fLexical), (dI v117.fSurface)])])) (.vptr [(vI v144.fLexical), (vI v144.fSurface)]) [(.cells [(dI 0), (dI 0)]), (.cells [(dI v117.fLexical), (dI v117.fSurface)])] ⟨(dP e39 a0) :: q2 ((dB v124) :: q4 ((.ptr 0 0) :: (dI v105) :: (.ptr 1 0) :: (dI v118) :: q7 ((dP e39 a0) :: (dI ((a0.length : Int))) :: (dI v105) :: (dB (decide (v105 < (a0.length : Int)))) :: (dI v105) :: (.vptr [(vI v117.fLexical), (vI v117.fSurface)]) :: (.v (.agg [(vI v117.fLexical), (vI v117.fSurface)])) :: (.v (.agg [(vI v117.fLexical), (vI v117.fSurface)])) :: (dI v118) :: (dI v118) :: (dB (v118 != 0)) :: q3 ((dB v124) :: (dB v124) :: d122 :: d123 :: (dB v125) :: (dP e39 a0) :: (dI v105) :: (dI (w64 (v105 - 1))) :: (.vptr [(vI v144.fLexical), (vI v144.fSurface)]) :: q24 [])))), [(.cells [(dI 0), (dI 0)]), (.cells [(dI v117.fLexical), (dI v117.fSurface)])]⟩ (by kernel_rfl) (ix_r _ 37 40 2 .plain e39 a0 (w64 (v105 - 1)) v144 ev144 (by kernel_rfl) (by kernel_rfl) (fun _ => rfl)) (by kernel_rfl) ?_
                refine Ops.seg 3 7 (by kernel_rfl) ⟨(dP e39 a0) :: q2 ((dB v124) :: q4 ((.ptr 0 0) :: (dI v105) :: (.ptr 1 0) :: (dI v118) :: (.ptr 2 0) :: q6 ((dP e39 a0) :: (dI ((a0.length : Int))) :: (dI v105) :: (dB (decide (v105 < (a0.length : Int)))) :: (dI v105) :: (.vptr [(vI v117.fLexical), (vI v117.fSurface)]) :: (.v (.agg [(vI v117.fLexical), (vI v117.fSurface)])) :: (.v (.agg [(vI v117.fLexical), (vI v117.fSurface)])) :: (dI v118) :: (dI v118) :: (dB (v118 != 0)) :: q3 ((dB v124) :: (dB v124) :: d122 :: d123 :: (dB v125) :: (dP e39 a0) :: (dI v105) :: (dI (w64 (v105 - 1))) :: (.vptr [(vI v144.fLexical), (vI v144.fSurface)]) :: (.v (.agg [(vI v144.fLexical), (vI v144.fSurface)])) :: q23 [])))), [(.cells [(dI 0), (dI 0)]), (.cells [(dI v117.fLexical), (dI v117.fSurface)]), (.cells [(dI v144.fLexical), (dI v144.fSurface)])]⟩ (by kernel_rfl) ?_
                refine Ops.done (by kernel_rfl) ?_
                refine seqQ.n ?_
                refine Wp.seq (subc [1, 1, 0, 1, 0, 0, 1, 1, 0, 0, 1, 1, 1, 0, 1, 0] C20) (subc [1, 1, 0, 1, 0, 0, 1, 1, 0, 0, 1, 1, 1, 0, 1, 1] C20) (by kernel_rfl) ?_
                refine Wp.region (by kernel_rfl) ?_
                refine Ops.seg 6 6 (by kernel_rfl) ⟨(dP e39 a0) :: q2 ((dB v124) :: q4 ((.ptr 0 0) :: (dI v105) :: (.ptr 1 0) :: (dI v118) :: (.ptr 2 0) :: q6 ((dP e39 a0) :: (dI ((a0.length : Int))) :: (dI v105) :: (dB (decide (v105 < (a0.length : Int)))) :: (dI v105) :: (.vptr [(vI v117.fLexical), (vI v117.fSurface)]) :: (.v (.agg [(vI v117.fLexical), (vI v117.fSurface)])) :: (.v (.agg [(vI v117.fLexical), (vI v117.fSurface)])) :: (dI v118) :: (dI v118) :: (dB (v118 != 0)) :: q3 ((dB v124) :: (dB v124) :: d122 :: d123 :: (dB v125) :: (dP e39 a0) :: (dI v105) :: (dI (w64 (v105 - 1))) :: (.vptr [(vI v144.fLexical), (vI v144.fSurface)]) :: (.v (.agg [(vI v144.fLexical), (vI v144.fSurface)])) :: (.ptr 2 0) :: (dI v144.fLexical) :: (.ptr 1 0) :: (dI v117.fLexical) :: (dB (decide (v144.fLexical > v117.fLexical))) :: (dB (decide (v144.fLexical > v117.fLexical))) :: q17 [])))), [(.cells [(dI 0), (dI 0)]), (.cells [(dI v117.fLexical), (dI v117.fSurface)]), (.cells [(dI v144.fLexical), (dI v144.fSurface)])]⟩ (by kernel_rfl) ?_
                have J20j161 : ∀ (d147 d148 d149 d150 d151 d152 d153 d154 d155 d156 d157 d158 : D) (v159 : Bool) (v160 : Bool), f20_r3 m v105 v124 v160 = some sx113 → Ops (X20 n) (opl (subc [1, 1, 0, 1, 0, 0, 1, 1, 0, 0, 1, 1, 1, 0, 1, 0] C20)) 19 ⟨(dP e39 a0) :: q2 ((dB v124) :: q4 ((.ptr 0 0) :: (dI v105) :: (.ptr 1 0) :: (dI v118) :: (.ptr 2 0) :: q6 ((dP e39 a0) :: (dI ((a0.length : Int))) :: (dI v105) :: (dB (decide (v105 < (a0.length : Int)))) :: (dI v105) :: (.vptr [(vI v117.fLexical), (vI v117.fSurface)]) :: (.v (.agg [(vI v117.fLexical), (vI v117.fSurface)])) :: (.v (.agg [(vI v117.fLexical), (vI v117.fSurface)])) :: (dI v118) :: (dI v118) :: (dB (v118 != 0)) :: q3 ((dB v124) :: (dB v124) :: d122 :: d123 :: (dB v125) :: (dP e39 a0) :: (dI v105) :: (dI (w64 (v105 - 1))) :: (.vptr [(vI v144.fLexical), (vI v144.fSurface)]) :: (.v (.agg [(vI v144.fLexical), (vI v144.fSurface)])) :: (.ptr 2 0) :: (dI v144.fLexical) :: (.ptr 1 0) :: (dI v117.fLexical) :: (dB v159) :: (dB v159) :: d147 :: d148 :: d149 :: d150 :: d151 :: d152 :: d153 :: d154 :: d155 :: d156 :: d157 :: d158 :: (dB v160) :: q4 [])))), [(.cells [(dI 0), (dI 0)]), (.cells [(dI v117.fLexical), (dI v117.fSurface)]), (.cells [(dI v144.fLexical), (dI v144.fSurface)])]⟩ ((seqQ (X20 n) (subc [1, 1, 0, 1, 0, 0, 1, 1, 0, 0, 1, 1, 1, 0, 1, 1] C20) (sqQ (X20 n) [0, 3, 8, 19, 20, 21] 2 (blkQ (X20 n) 1 [0, 3, 8, 19, 20, 21] 1 (seqQ (X20 n) (subc [1, 1, 0, 1, 0, 0, 1, 1, 1] C20) (lpQ (X20 n) [0, 3, 8, 19, 20, 21] 1 (subc [1, 1, 0, 1, 0, 0] C20) nx108 (blkQ (X20 n) 0 [8] 1 (seqQ (X20 n) (subc [1, 1, 1] C20) (fnQ (X20 n).E.T (resOf Proofs.Try.prog 20) (e25 o))))))))) .normal) := by
                  intro d147 d148 d149 d150 d151 d152 d153 d154 d155 d156 d157 d158 v159 v160 h
                  unfold f20_r3 at h
                  refine Ops.done (by kernel_rfl) ?_
                  refine seqQ.n ?_
                  rcases cnd_some h with ⟨hb, h⟩ | ⟨hb, h⟩
                  · refine Wp.cond v160 [0, 3, 8, 19, 20, 21] (by kernel_rfl) 3 (by kernel_rfl) (subc [1, 1, 0, 1, 0, 0, 1, 1, 0, 0, 1, 1, 1, 0, 1, 1, 0] C20) (subc [1, 1, 0, 1, 0, 0, 1, 1, 0, 0, 1, 1, 1, 0, 1, 1, 1] C20) (by kernel_rfl) (by kernel_rfl) (fun _ => ?_) (fun e => nomatch (hb.symm.trans e))
                    refine Wp.seq (subc [1, 1, 0, 1, 0, 0, 1, 1, 0, 0, 1, 1, 1, 0, 1, 1, 0, 0] C20) (subc [1, 1, 0, 1, 0, 0, 1, 1, 0, 0, 1, 1, 1, 0, 1, 1, 0, 1] C20) (by kernel_rfl) ?_
                    refine Wp.region (by kernel_rfl) ?_
                    refine Ops.seg 1 1 (by kernel_rfl) ⟨(dP e39 a0) :: q2 ((dB v124) :: q4 ((.ptr 0 0) :: (dI v105) :: (.ptr 1 0) :: (dI v118) :: (.ptr 2 0) :: q6 ((dP e39 a0) :: (dI ((a0.length : Int))) :: (dI v105) :: (dB (decide (v105 < (a0.length : Int)))) :: (dI v105) :: (.vptr [(vI v117.fLexical), (vI v117.fSurface)]) :: (.v (.agg [(vI v117.fLexical), (vI v117.fSurface)])) :: (.v (.agg [(vI v117.fLexical), (vI v117.fSurface)])) :: (dI v118) :: (dI v118) :: (dB (v118 != 0)) :: q3 ((dB v124) :: (dB v124) :: d122 :: d123 :: (dB v125) :: (dP e39 a0) :: (dI v105) :: (dI (w64 (v105 - 1))) :: (.vptr [(vI v144.fLexical), (vI v144.fSurface)]) :: (.v (.agg [(vI v144.fLexical), (vI v144.fSurface)])) :: (.ptr 2 0) :: (dI v144.fLexical) :: (.ptr 1 0) :: (dI v117.fLexical) :: (dB v159) :: (dB v159) :: d147 :: d148 :: d149 :: d150 :: d151 :: d152 :: d153 :: d154 :: d155 :: d156 :: d157 :: d158 :: (dB v160) :: (dI v105) :: q3 [])))), [(.cells [(dI 0), (dI 0)]), (.cells [(dI v117.fLexical), (dI v117.fSurface)]), (.cells [(dI v144.fLexical), (dI v144.fSurface)])]⟩ (by kernel_rfl) ?_
                    obtain ⟨v162, ev162, h⟩ := bnd_some h
                    refine Ops.one 2 (by kernel_rfl) (callD (X20 n).E (run Proofs.Try.prog E n) 29 [(dI 13), (dI v105)] [(.cells [(dI 0), (dI 0)]), (.cells [(dI v117.fLexical), (dI v117.fSurface)]), (.cells [(dI v144.fLexical), (dI v144.fSurface)])]) (.v (.agg [(vI v162.fCode), (vI v162.fIndex)])) [(.cells [(dI 0), (dI 0)]), (.cells [(dI v117.fLexical), (dI v117.fSurface)]), (.cells [(dI v144.fLexical), (dI v144.fSurface)])] ⟨(dP e39 a0) :: q2 ((dB v124) :: q4 ((.ptr 0 0) :: (dI v105) :: (.ptr 1 0) :: (dI v118) :: (.ptr 2 0) :: q6 ((dP e39 a0) :: (dI ((a0.length : Int))) :: (dI v105) :: (dB (decide (v105 < (a0.length : Int)))) :: (dI v105) :: (.vptr [(vI v117.fLexical), (vI v117.fSurface)]) :: (.v (.agg [(vI v117.fLexical), (vI v117.fSurface)])) :: (.v (.agg [(vI v117.fLexical), (vI v117.fSurface)])) :: (dI v118) :: (dI v118) :: (dB (v118 != 0)) :: q3 ((dB v124) :: (dB v124) :: d122 :: d123 :: (dB v125) :: (dP e39 a0) :: (dI v105) :: (dI (w64 (v105 - 1))) :: (.vptr [(vI v144.fLexical), (vI v144.fSurface)]) :: (.v (.agg [(vI v144.fLexical), (vI v144.fSurface)])) :: (.ptr 2 0) :: (dI v144.fLexical) :: (.ptr 1 0) :: (dI v117.fLexical) :: (dB v159) :: (dB v159) :: d147 :: d148 :: d149 :: d150 :: d151 :: d152 :: d153 :: d154 :: d155 :: d156 :: d157 :: d158 :: (dB v160) :: (dI v105) :: (.v (.agg [(vI v162.fCode), (vI v162.fIndex)])) :: q2 [])))), [(.cells [(dI 0), (dI 0)]), (.cells [(dI v117.fLexical), (dI v117.fSurface)]), (.cells [(dI v144.fLexical), (dI v144.fSurface)])]⟩ (by kernel_rfl) (call_ok (by kernel_rfl) (Args.v (vI 13) (eI 13) (by kernel_rfl) (Args.v (vI v105) (eI v105) (by kernel_rfl) Args.nil)) (ok29 m 13 v105 v162 ev162 n (by omega))) (by kernel_rfl) ?_
                    refine Ops.seg 1 3 (by kernel_rfl) ⟨(dP e39 a0) :: q2 ((dB v124) :: q4 ((.ptr 0 0) :: (dI v105) :: (.ptr 1 0) :: (dI v118) :: (.ptr 2 0) :: q6 ((dP e39 a0) :: (dI ((a0.length : Int))) :: (dI v105) :: (dB (decide (v105 < (a0.length : Int)))) :: (dI v105) :: (.vptr [(vI v117.fLexical), (vI v117.fSurface)]) :: (.v (.agg [(vI v117.fLexical), (vI v117.fSurface)])) :: (.v (.agg [(vI v117.fLexical), (vI v117.fSurface)])) :: (dI v118) :: (dI v118) :: (dB (v118 != 0)) :: q3 ((dB v124) :: (dB v124) :: d122 :: d123 :: (dB v125) :: (dP e39 a0) :: (dI v105) :: (dI (w64 (v105 - 1))) :: (.vptr [(vI v144.fLexical), (vI v144.fSurface)]) :: (.v (.agg [(vI v144.fLexical), (vI v144.fSurface)])) :: (.ptr 2 0) :: (dI v144.fLexical) :: (.ptr 1 0) :: (dI v117.fLexical) :: (dB v159) :: (dB v159) :: d147 :: d148 :: d149 :: d150 :: d151 :: d152 :: d153 :: d154 :: d155 :: d156 :: d157 :: d158 :: (dB v160) :: (dI v105) :: (.v (.agg [(vI v162.fCode), (vI v162.fIndex)])) :: q2 [])))), [(.cells [(dI v162.fCode), (dI v162.fIndex)]), (.cells [(dI v117.fLexical), (dI v117.fSurface)]), (.cells [(dI v144.fLexical), (dI v144.fSurface)])]⟩ (by kernel_rfl) ?_
                    refine Ops.done (by kernel_rfl) ?_
                    refine seqQ.n ?_
                    refine Wp.ret (by kernel_rfl) ?_
                    refine sqQ.r ?_
                    refine sqQ.r ?_
                    refine blkQ.r ?_
                    refine seqQ.r ?_
                    cases h
                    refine lpQ.r ?_
                    refine blkQ.r ?_
                    exact hrx110 _ hsx114 _ (RetOk.forget [0, 3, 8, 19, 20, 21] (by kernel_rfl) (RetOk.mk' (.v (.agg [(vI v162.fCode), (vI v162.fIndex)])) (by kernel_rfl) (by kernel_rfl)))
                  · refine Wp.cond v160 [0, 3, 8, 19, 20, 21] (by kernel_rfl) 3 (by kernel_rfl) (subc [1, 1, 0, 1, 0, 0, 1, 1, 0, 0, 1, 1, 1, 0, 1, 1, 0] C20) (subc [1, 1, 0, 1, 0, 0, 1, 1, 0, 0, 1, 1, 1, 0, 1, 1, 1] C20) (by kernel_rfl) (by kernel_rfl) (fun e => nomatch (hb.symm.trans e)) (fun _ => ?_)
                    refine Wp.skip (by kernel_rfl) ?_
                    refine sqQ.n ⟨(dP e39 a0) :: q2 ((dB v124) :: q4 ((.ptr 0 0) :: (dI v105) :: (.ptr 1 0) :: (dI v118) :: (.ptr 2 0) :: q6 ((dP e39 a0) :: (dI ((a0.length : Int))) :: (dI v105) :: (dB (decide (v105 < (a0.length : Int)))) :: (dI v105) :: (.vptr [(vI v117.fLexical), (vI v117.fSurface)]) :: (.v (.agg [(vI v117.fLexical), (vI v117.fSurface)])) :: (.v (.agg [(vI v117.fLexical), (vI v117.fSurface)])) :: (dI v118) :: (dI v118) :: (dB (v118 != 0)) :: q3 ((dB v124) :: (dB v124) :: d122 :: d123 :: (dB v125) :: (dP e39 a0) :: (dI v105) :: (dI (w64 (v105 - 1))) :: (.vptr [(vI v144.fLexical), (vI v144.fSurface)]) :: (.v (.agg [(vI v144.fLexical), (vI v144.fSurface)])) :: (.ptr 2 0) :: (dI v144.fLexical) :: (.ptr 1 0) :: (dI v117.fLexical) :: (dB v159) :: (dB v159) :: d147 :: d148 :: d149 :: d150 :: d151 :: d152 :: d153 :: d154 :: d155 :: d156 :: d157 :: d158 :: (dB v160) :: q4 [])))), [(.cells [(dI 0), (dI 0)]), (.cells [(dI v117.fLexical), (dI v117.fSurface)]), (.cells [(dI v144.fLexical), (dI v144.fSurface)])]⟩ (by kernel_rfl) ?_
                    refine sqQ.n ⟨(dP e39 a0) :: q2 ((dB v124) :: q4 ((.ptr 0 0) :: q10 ((dP e39 a0) :: (dI ((a0.length : Int))) :: (dI v105) :: q40 (q4 [])))), [(.cells [(dI 0), (dI 0)]), (.cells [(dI v117.fLexical), (dI v117.fSurface)])]⟩ (by kernel_rfl) ?_
                    exact J20j143  _ _ _ _ _ _ _ _ _ _ _ _ _ _ _ _ h
                have G20g146 : ∀ v145 : Bool, f20_r3 m v105 v124 ((v145 || (((v144.fLexical == v117.fLexical) && (decide (v144.fSurface ≥ v117.fSurface)))))) = some sx113 → Ops (X20 n) (opl (subc [1, 1, 0, 1, 0, 0, 1, 1, 0, 0, 1, 1, 1, 0, 1, 0] C20)) 6 ⟨(dP e39 a0) :: q2 ((dB v124) :: q4 ((.ptr 0 0) :: (dI v105) :: (.ptr 1 0) :: (dI v118) :: (.ptr 2 0) :: q6 ((dP e39 a0) :: (dI ((a0.length : Int))) :: (dI v105) :: (dB (decide (v105 < (a0.length : Int)))) :: (dI v105) :: (.vptr [(vI v117.fLexical), (vI v117.fSurface)]) :: (.v (.agg [(vI v117.fLexical), (vI v117.fSurface)])) :: (.v (.agg [(vI v117.fLexical), (vI v117.fSurface)])) :: (dI v118) :: (dI v118) :: (dB (v118 != 0)) :: q3 ((dB v124) :: (dB v124) :: d122 :: d123 :: (dB v125) :: (dP e39 a0) :: (dI v105) :: (dI (w64 (v105 - 1))) :: (.vptr [(vI v144.fLexical), (vI v144.fSurface)]) :: (.v (.agg [(vI v144.fLexical), (vI v144.fSurface)])) :: (.ptr 2 0) :: (dI v144.fLexical) :: (.ptr 1 0) :: (dI v117.fLexical) :: (dB v145) :: (dB v145) :: q17 [])))), [(.cells [(dI 0), (dI 0)]), (.cells [(dI v117.fLexical), (dI v117.fSurface)]), (.cells [(dI v144.fLexical), (dI v144.fSurface)])]⟩ ((seqQ (X20 n) (subc [1, 1, 0, 1, 0, 0, 1, 1, 0, 0, 1, 1, 1, 0, 1, 1] C20) (sqQ (X20 n) [0, 3, 8, 19, 20, 21] 2 (blkQ (X20 n) 1 [0, 3, 8, 19, 20, 21] 1 (seqQ (X20 n) (subc [1, 1, 0, 1, 0, 0, 1, 1, 1] C20) (lpQ (X20 n) [0, 3, 8, 19, 20, 21] 1 (subc [1, 1, 0, 1, 0, 0] C20) nx108 (blkQ (X20 n) 0 [8] 1 (seqQ (X20 n) (subc [1, 1, 1] C20) (fnQ (X20 n).E.T (resOf Proofs.Try.prog 20) (e25 o))))))))) .normal) := by
                  intro v145 h
                  cases v145
                  · refine Ops.seg 6 12 (by kernel_rfl) ⟨(dP e39 a0) :: q2 ((dB v124) :: q4 ((.ptr 0 0) :: (dI v105) :: (.ptr 1 0) :: (dI v118) :: (.ptr 2 0) :: q6 ((dP e39 a0) :: (dI ((a0.length : Int))) :: (dI v105) :: (dB (decide (v105 < (a0.length : Int)))) :: (dI v105) :: (.vptr [(vI v117.fLexical), (vI v117.fSurface)]) :: (.v (.agg [(vI v117.fLexical), (vI v117.fSurface)])) :: (.v (.agg [(vI v117.fLexical), (vI v117.fSurface)])) :: (dI v118) :: (dI v118) :: (dB (v118 != 0)) :: q3 ((dB v124) :: (dB v124) :: d122 :: d123 :: (dB v125) :: (dP e39 a0) :: (dI v105) :: (dI (w64 (v105 - 1))) :: (.vptr [(vI v144.fLexical), (vI v144.fSurface)]) :: (.v (.agg [(vI v144.fLexical), (vI v144.fSurface)])) :: (.ptr 2 0) :: (dI v144.fLexical) :: (.ptr 1 0) :: (dI v117.fLexical) :: (dB false) :: (dB false) :: (.ptr 2 0) :: (dI v144.fLexical) :: (.ptr 1 0) :: (dI v117.fLexical) :: (dB (v144.fLexical == v117.fLexical)) :: (dB (v144.fLexical == v117.fLexical)) :: q11 [])))), [(.cells [(dI 0), (dI 0)]), (.cells [(dI v117.fLexical), (dI v117.fSurface)]), (.cells [(dI v144.fLexical), (dI v144.fSurface)])]⟩ (by kernel_rfl) ?_
                    have G20g164 : ∀ v163 : Bool, (f20_r3 m v105 v124 ((false || ((v163 && (decide (v144.fSurface ≥ v117.fSurface))))))) = some sx113 → Ops (X20 n) (opl (subc [1, 1, 0, 1, 0, 0, 1, 1, 0, 0, 1, 1, 1, 0, 1, 0] C20)) 12 ⟨(dP e39 a0) :: q2 ((dB v124) :: q4 ((.ptr 0 0) :: (dI v105) :: (.ptr 1 0) :: (dI v118) :: (.ptr 2 0) :: q6 ((dP e39 a0) :: (dI ((a0.length : Int))) :: (dI v105) :: (dB (decide (v105 < (a0.length : Int)))) :: (dI v105) :: (.vptr [(vI v117.fLexical), (vI v117.fSurface)]) :: (.v (.agg [(vI v117.fLexical), (vI v117.fSurface)])) :: (.v (.agg [(vI v117.fLexical), (vI v117.fSurface)])) :: (dI v118) :: (dI v118) :: (dB (v118 != 0)) :: q3 ((dB v124) :: (dB v124) :: d122 :: d123 :: (dB v125) :: (dP e39 a0) :: (dI v105) :: (dI (w64 (v105 - 1))) :: (.vptr [(vI v144.fLexical), (vI v144.fSurface)]) :: (.v (.agg [(vI v144.fLexical), (vI v144.fSurface)])) :: (.ptr 2 0) :: (dI v144.fLexical) :: (.ptr 1 0) :: (dI v117.fLexical) :: (dB false) :: (dB false) :: (.ptr 2 0) :: (dI v144.fLexical) :: (.ptr 1 0) :: (dI v117.fLexical) :: (dB v163) :: (dB v163) :: q11 [])))), [(.cells [(dI 0), (dI 0)]), (.cells [(dI v117.fLexical), (dI v117.fSurface)]), (.cells [(dI v144.fLexical), (dI v144.fSurface)])]⟩ ((seqQ (X20 n) (subc [1, 1, 0, 1, 0, 0, 1, 1, 0, 0, 1, 1, 1, 0, 1, 1] C20) (sqQ (X20 n) [0, 3, 8, 19, 20, 21] 2 (blkQ (X20 n) 1 [0, 3, 8, 19, 20, 21] 1 (seqQ (X20 n) (subc [1, 1, 0, 1, 0, 0, 1, 1, 1] C20) (lpQ (X20 n) [0, 3, 8, 19, 20, 21] 1 (subc [1, 1, 0, 1, 0, 0] C20) nx108 (blkQ (X20 n) 0 [8] 1 (seqQ (X20 n) (subc [1, 1, 1] C20) (fnQ (X20 n).E.T (resOf Proofs.Try.prog 20) (e25 o))))))))) .normal) := by
                      intro v163 h
                      cases v163
                      · refine Ops.seg 7 19 (by kernel_rfl) ⟨(dP e39 a0) :: q2 ((dB v124) :: q4 ((.ptr 0 0) :: (dI v105) :: (.ptr 1 0) :: (dI v118) :: (.ptr 2 0) :: q6 ((dP e39 a0) :: (dI ((a0.length : Int))) :: (dI v105) :: (dB (decide (v105 < (a0.length : Int)))) :: (dI v105) :: (.vptr [(vI v117.fLexical), (vI v117.fSurface)]) :: (.v (.agg [(vI v117.fLexical), (vI v117.fSurface)])) :: (.v (.agg [(vI v117.fLexical), (vI v117.fSurface)])) :: (dI v118) :: (dI v118) :: (dB (v118 != 0)) :: q3 ((dB v124) :: (dB v124) :: d122 :: d123 :: (dB v125) :: (dP e39 a0) :: (dI v105) :: (dI (w64 (v105 - 1))) :: (.vptr [(vI v144.fLexical), (vI v144.fSurface)]) :: (.v (.agg [(vI v144.fLexical), (vI v144.fSurface)])) :: (.ptr 2 0) :: (dI v144.fLexical) :: (.ptr 1 0) :: (dI v117.fLexical) :: (dB false) :: (dB false) :: (.ptr 2 0) :: (dI v144.fLexical) :: (.ptr 1 0) :: (dI v117.fLexical) :: (dB false) :: (dB false) :: u5 ((dB false) :: (dB false) :: q4 []))))), [(.cells [(dI 0), (dI 0)]), (.cells [(dI v117.fLexical), (dI v117.fSurface)]), (.cells [(dI v144.fLexical), (dI v144.fSurface)])]⟩ (by kernel_rfl) ?_
                        exact J20j161 _ _ _ _ _ _ _ _ _ _ _ _ _ _ h
                      · refine Ops.seg 7 19 (by kernel_rfl) ⟨(dP e39 a0) :: q2 ((dB v124) :: q4 ((.ptr 0 0) :: (dI v105) :: (.ptr 1 0) :: (dI v118) :: (.ptr 2 0) :: q6 ((dP e39 a0) :: (dI ((a0.length : Int))) :: (dI v105) :: (dB (decide (v105 < (a0.length : Int)))) :: (dI v105) :: (.vptr [(vI v117.fLexical), (vI v117.fSurface)]) :: (.v (.agg [(vI v117.fLexical), (vI v117.fSurface)])) :: (.v (.agg [(vI v117.fLexical), (vI v117.fSurface)])) :: (dI v118) :: (dI v118) :: (dB (v118 != 0)) :: q3 ((dB v124) :: (dB v124) :: d122 :: d123 :: (dB v125) :: (dP e39 a0) :: (dI v105) :: (dI (w64 (v105 - 1))) :: (.vptr [(vI v144.fLexical), (vI v144.fSurface)]) :: (.v (.agg [(vI v144.fLexical), (vI v144.fSurface)])) :: (.ptr 2 0) :: (dI v144.fLexical) :: (.ptr 1 0) :: (dI v117.fLexical) :: (dB false) :: (dB false) :: (.ptr 2 0) :: (dI v144.fLexical) :: (.ptr 1 0) :: (dI v117.fLexical) :: (dB true) :: (dB true) :: (.ptr 2 1) :: (dI v144.fSurface) :: (.ptr 1 1) :: (dI v117.fSurface) :: (dB (decide (v144.fSurface ≥ v117.fSurface))) :: (dB (decide (v144.fSurface ≥ v117.fSurface))) :: (dB (decide (v144.fSurface ≥ v117.fSurface))) :: q4 [])))), [(.cells [(dI 0), (dI 0)]), (.cells [(dI v117.fLexical), (dI v117.fSurface)]), (.cells [(dI v144.fLexical), (dI v144.fSurface)])]⟩ (by kernel_rfl) ?_
                        exact J20j161 _ _ _ _ _ _ _ _ _ _ _ _ _ _ h
                    exact G20g164 (v144.fLexical == v117.fLexical) h
                  · refine Ops.seg 13 19 (by kernel_rfl) ⟨(dP e39 a0) :: q2 ((dB v124) :: q4 ((.ptr 0 0) :: (dI v105) :: (.ptr 1 0) :: (dI v118) :: (.ptr 2 0) :: q6 ((dP e39 a0) :: (dI ((a0.length : Int))) :: (dI v105) :: (dB (decide (v105 < (a0.length : Int)))) :: (dI v105) :: (.vptr [(vI v117.fLexical), (vI v117.fSurface)]) :: (.v (.agg [(vI v117.fLexical), (vI v117.fSurface)])) :: (.v (.agg [(vI v117.fLexical), (vI v117.fSurface)])) :: (dI v118) :: (dI v118) :: (dB (v118 != 0)) :: q3 ((dB v124) :: (dB v124) :: d122 :: d123 :: (dB v125) :: (dP e39 a0) :: (dI v105) :: (dI (w64 (v105 - 1))) :: (.vptr [(vI v144.fLexical), (vI v144.fSurface)]) :: (.v (.agg [(vI v144.fLexical), (vI v144.fSurface)])) :: (.ptr 2 0) :: (dI v144.fLexical) :: (.ptr 1 0) :: (dI v117.fLexical) :: (dB true) :: (dB true) :: u12 ((dB true) :: q4 []))))), [(.cells [(dI 0), (dI 0)]), (.cells [(dI v117.fLexical), (dI v117.fSurface)]), (.cells [(dI v144.fLexical), (dI v144.fSurface)])]⟩ (by kernel_rfl) ?_
                    exact J20j161 _ _ _ _ _ _ _ _ _ _ _ _ _ _ h
                exact G20g146 (decide (v144.fLexical > v117.fLexical)) h
              · refine Wp.cond v125 [0, 3, 8, 19, 20, 21] (by kernel_rfl) 2 (by kernel_rfl) (subc [1, 1, 0, 1, 0, 0, 1, 1, 0, 0, 1, 1, 1, 0] C20) (subc [1, 1, 0, 1, 0, 0, 1, 1, 0, 0, 1, 1, 1, 1] C20) (by kernel_rfl) (by kernel_rfl) (fun e => nomatch (hb.symm.trans e)) (fun _ => ?_)
                refine Wp.skip (by kernel_rfl) ?_
                refine sqQ.n ⟨(dP e39 a0) :: q2 ((dB v124) :: q4 ((.ptr 0 0) :: (dI v105) :: (.ptr 1 0) :: (dI v118) :: q7 ((dP e39 a0) :: (dI ((a0.length : Int))) :: (dI v105) :: (dB (decide (v105 < (a0.length : Int)))) :: (dI v105) :: (.vptr [(vI v117.fLexical), (vI v117.fSurface)]) :: (.v (.agg [(vI v117.fLexical), (vI v117.fSurface)])) :: (.v (.agg [(vI v117.fLexical), (vI v117.fSurface)])) :: (dI v118) :: (dI v118) :: (dB (v118 != 0)) :: q3 ((dB v124) :: (dB v124) :: d122 :: d123 :: (dB v125) :: q28 [])))), [(.cells [(dI 0), (dI 0)]), (.cells [(dI v117.fLexical), (dI v117.fSurface)])]⟩ (by kernel_rfl) ?_
                exact J20j143  _ _ _ _ _ _ _ _ _ _ _ _ _ _ _ _ h
            have G20g121 : ∀ v120 : Bool, f20_r4 m a0 v105 v117 v120 ((v120 && (decide (v105 > 0)))) = some sx113 → Ops (X20 n) (opl (subc [1, 1, 0, 1, 0, 0, 1, 1, 0, 0, 1, 1, 0] C20)) 2 ⟨(dP e39 a0) :: q2 ((dB v120) :: q4 ((.ptr 0 0) :: (dI v105) :: (.ptr 1 0) :: (dI v118) :: q7 ((dP e39 a0) :: (dI ((a0.length : Int))) :: (dI v105) :: (dB (decide (v105 < (a0.length : Int)))) :: (dI v105) :: (.vptr [(vI v117.fLexical), (vI v117.fSurface)]) :: (.v (.agg [(vI v117.fLexical), (vI v117.fSurface)])) :: (.v (.agg [(vI v117.fLexical), (vI v117.fSurface)])) :: (dI v118) :: (dI v118) :: (dB (v118 != 0)) :: q3 ((dB v120) :: (dB v120) :: q31 [])))), [(.cells [(dI 0), (dI 0)]), (.cells [(dI v117.fLexical), (dI v117.fSurface)])]⟩ ((seqQ (X20 n) (subc [1, 1, 0, 1, 0, 0, 1, 1, 0, 0, 1, 1, 1] C20) (blkQ (X20 n) 1 [0, 3, 8, 19, 20, 21] 1 (seqQ (X20 n) (subc [1, 1, 0, 1, 0, 0, 1, 1, 1] C20) (lpQ (X20 n) [0, 3, 8, 19, 20, 21] 1 (subc [1, 1, 0, 1, 0, 0] C20) nx108 (blkQ (X20 n) 0 [8] 1 (seqQ (X20 n) (subc [1, 1, 1] C20) (fnQ (X20 n).E.T (resOf Proofs.Try.prog 20) (e25 o)))))))) .normal) := by
              intro v120 h
              cases v120
              · refine Ops.seg 3 5 (by kernel_rfl) ⟨(dP e39 a0) :: q2 ((dB false) :: q4 ((.ptr 0 0) :: (dI v105) :: (.ptr 1 0) :: (dI v118) :: q7 ((dP e39 a0) :: (dI ((a0.length : Int))) :: (dI v105) :: (dB (decide (v105 < (a0.length : Int)))) :: (dI v105) :: (.vptr [(vI v117.fLexical), (vI v117.fSurface)]) :: (.v (.agg [(vI v117.fLexical), (vI v117.fSurface)])) :: (.v (.agg [(vI v117.fLexical), (vI v117.fSurface)])) :: (dI v118) :: (dI v118) :: (dB (v118 != 0)) :: q3 ((dB false) :: (dB false) :: u2 ((dB false) :: q28 []))))), [(.cells [(dI 0), (dI 0)]), (.cells [(dI v117.fLexical), (dI v117.fSurface)])]⟩ (by kernel_rfl) ?_
                exact J20j126 _ _ _ _ h
              · refine Ops.seg 3 5 (by kernel_rfl) ⟨(dP e39 a0) :: q2 ((dB true) :: q4 ((.ptr 0 0) :: (dI v105) :: (.ptr 1 0) :: (dI v118) :: q7 ((dP e39 a0) :: (dI ((a0.length : Int))) :: (dI v105) :: (dB (decide (v105 < (a0.length : Int)))) :: (dI v105) :: (.vptr [(vI v117.fLexical), (vI v117.fSurface)]) :: (.v (.agg [(vI v117.fLexical), (vI v117.fSurface)])) :: (.v (.agg [(vI v117.fLexical), (vI v117.fSurface)])) :: (dI v118) :: (dI v118) :: (dB (v118 != 0)) :: q3 ((dB true) :: (dB true) :: (dI v105) :: (dB (decide (v105 > 0))) :: (dB (decide (v105 > 0))) :: q28 [])))), [(.cells [(dI 0), (dI 0)]), (.cells [(dI v117.fLexical), (dI v117.fSurface)])]⟩ (by kernel_rfl) ?_
                exact J20j126 _ _ _ _ h
            exact G20g121 v104 h
        · refine Wp.cond (decide (v105 < (a0.length : Int))) [0, 3, 8, 19, 20, 21] (by kernel_rfl) 1 (by kernel_rfl) (subc [1, 1, 0, 1, 0, 0, 1, 0, 0] C20) (subc [1, 1, 0, 1, 0, 0, 1, 0, 1] C20) (by kernel_rfl) (by kernel_rfl) (fun e => nomatch (hb.symm.trans e)) (fun _ => ?_)
          refine Wp.exit (id := 0) (by kernel_rfl) ?_
          refine sqQ.x ?_
          refine seqQ.x ?_
          cases h
          refine lpQ.x ?_
          refine blkQ.x ⟨(dP e39 a0) :: q2 ((dB v104) :: q4 ((.ptr 0 0) :: q10 ((dP e39 a0) :: (dI ((a0.length : Int))) :: (dI v105) :: q40 (q4 [])))), [(.cells [(dI 0), (dI 0)])]⟩ (by kernel_rfl) ?_
          exact hxx111 (v104, v105) hsx114
    refine Wp.loop [0, 3, 8, 19, 20, 21] 1 (by kernel_rfl) (subc [1, 1, 0, 1, 0, 0] C20) (by kernel_rfl) (by kernel_rfl) ⟨(dP e39 a0) :: q2 ((dB a3) :: q4 ((.ptr 0 0) :: q10 ((dP e39 a0) :: (dI ((a0.length : Int))) :: (dI 0) :: q40 (q4 [])))), [(.cells [(dI 0), (dI 0)])]⟩ (by kernel_rfl) ?_
    rcases brk_some h with ⟨r167, er167, h⟩ | ⟨y166, ey166, h⟩
    · refine hLx165 _ a3 0 _ er167 n (by omega) (fun r er σ hσ => ?_) (fun y ey => by cases ey)
      cases er
      refine seqQ.r ?_
      exact fnQ.r' (X20 n) (fun z => (e25 z)) h hσ
    · refine hLx165 _ a3 0 _ ey166 n (by omega) (fun r er => by cases er) (fun y ey => ?_)
      cases ey
      refine seqQ.n ?_
      refine Wp.seq (subc [1, 1, 1, 0] C20) (subc [1, 1, 1, 1] C20) (by kernel_rfl) ?_
      refine Wp.region (by kernel_rfl) ?_
      refine Ops.seg 2 2 (by kernel_rfl) ⟨(dP e39 a0) :: q2 ((dB y166.1) :: q4 ((.ptr 0 0) :: q10 ((dP e39 a0) :: (dI ((a0.length : Int))) :: (dI y166.2) :: q40 (q3 ((.v (.agg [(vI 0), (vI 0)])) :: []))))), [(.cells [(dI 0), (dI 0)])]⟩ (by kernel_rfl) ?_
      refine Ops.done (by kernel_rfl) ?_
      refine seqQ.n ?_
      refine Wp.ret (by kernel_rfl) ?_
      exact fnQ.r' (X20 n) (fun z => (e25 z)) h (RetOk.mk' (.v (.agg [(vI 0), (vI 0)])) (by kernel_rfl) (by kernel_rfl))

/-! ### 47 glosswright/glosswrightref6.stands -/
def f47_r1 (m : Nat) (v74 : Int) (v114 : Bool) : Option (Stp Bool (Int)) :=
  cnd v114
  (some (.ret false))
  (some (.nxt (w64 (v74 + 1))))
def f47_r2 (m : Nat) (a1 : (List S39)) (v74 : Int) (v84 : S39) (v96 : Bool) : Option (Stp Bool (Int)) :=
  bnd (cnd v96
  (some true)
  (cnd (decide (v84.fSurface ≥ 0))
  (bnd (idx a1 v74) fun v118 =>
  some (v84.fSurface != v118.fSurface))
  (some false))) fun v114 =>
  f47_r1 m v74 v114
def f47_B3 (m : Nat) (a0 : (List S39)) (a1 : (List S39)) (v74 : Int) : Option (Stp Bool (Int)) :=
  cnd (decide (v74 < (a0.length : Int)))
  (bnd (idx a0 v74) fun v84 =>
  bnd (cnd (decide (v84.fLexical ≥ 0))
  (bnd (idx a1 v74) fun v119 =>
  some (v84.fLexical != v119.fLexical))
  (some false)) fun v96 =>
  f47_r2 m a1 v74 v84 v96)
  (some (.brk v74))
def f47 (m : Nat) (a0 : (List S39)) (a1 : (List S39)) : Option Bool :=
  cnd (((a0.length : Int)) != ((a1.length : Int)))
  (some false)
  (brk (iter (fun (y : Int) => f47_B3 m a0 a1 y) m 0) some fun y121 =>
  some true)
noncomputable abbrev X47 (n : Nat) : Cx := cxOf Proofs.Try.prog E 47 n
noncomputable def C47 : Code := bodyOf Proofs.Try.prog 47
theorem ok47 (m : Nat) (a0 : (List S39)) (a1 : (List S39)) (o : Bool) (h : f47 m a0 a1 = some o) (n : Nat) (hn : m + 1 ≤ n) : Fn Proofs.Try.prog E n 47 [(eL e39) a0, (eL e39) a1] (eB o) := by
  obtain ⟨n, rfl⟩ : ∃ q, n = q + 1 := ⟨n - 1, by omega⟩
  unfold f47 at h
  refine Fn.of (by kernel_rfl) (by kernel_rfl) ⟨(dP e39 a0) :: (dP e39 a1) :: u40 (u6 []), []⟩ (by kernel_rfl) ?_
  refine Wp.seq (subc [0] C47) (subc [1] C47) (by kernel_rfl) ?_
  refine Wp.region (by kernel_rfl) ?_
  refine Ops.seg 1 1 (by kernel_rfl) ⟨(dP e39 a0) :: (dP e39 a1) :: u2 ((dB false) :: u40 (u3 [])), []⟩ (by kernel_rfl) ?_
  refine Ops.done (by kernel_rfl) ?_
  refine seqQ.n ?_
  refine Wp.seq (subc [1, 0] C47) (subc [1, 1] C47) (by kernel_rfl) ?_
  refine Wp.seq (subc [1, 0, 0] C47) (subc [1, 0, 1] C47) (by kernel_rfl) ?_
  refine Wp.region (by kernel_rfl) ?_
  refine Ops.seg 1 1 (by kernel_rfl) ⟨(dP e39 a0) :: (dP e39 a1) :: u2 ((dB false) :: u2 ((dP e39 a0) :: u40 [])), []⟩ (by kernel_rfl) ?_
  refine Ops.one 2 (by kernel_rfl) ((lenD (X47 n).E.T 37 (D.unt (dP e39 a0))).map (·, [])) (dI ((a0.length : Int))) [] ⟨(dP e39 a0) :: (dP e39 a1) :: u2 ((dB false) :: u2 ((dP e39 a0) :: (dI ((a0.length : Int))) :: u39 [])), []⟩ (by kernel_rfl) (len_r _ 37 40 .plain e39 a0 (by kernel_rfl)) (by kernel_rfl) ?_
  refine Ops.seg 1 3 (by kernel_rfl) ⟨(dP e39 a0) :: (dP e39 a1) :: u2 ((dB false) :: u2 ((dP e39 a0) :: (dI ((a0.length : Int))) :: (dP e39 a1) :: u38 [])), []⟩ (by kernel_rfl) ?_
  refine Ops.one 4 (by kernel_rfl) ((lenD (X47 n).E.T 37 (D.unt (dP e39 a1))).map (·, [])) (dI ((a1.length : Int))) [] ⟨(dP e39 a0) :: (dP e39 a1) :: u2 ((dB false) :: u2 ((dP e39 a0) :: (dI ((a0.length : Int))) :: (dP e39 a1) :: (dI ((a1.length : Int))) :: u37 [])), []⟩ (by kernel_rfl) (len_r _ 37 40 .plain e39 a1 (by kernel_rfl)) (by kernel_rfl) ?_
  refine Ops.seg 1 5 (by kernel_rfl) ⟨(dP e39 a0) :: (dP e39 a1) :: u2 ((dB false) :: u2 ((dP e39 a0) :: (dI ((a0.length : Int))) :: (dP e39 a1) :: (dI ((a1.length : Int))) :: (dB (((a0.length : Int)) != ((a1.length : Int)))) :: u36 [])), []⟩ (by kernel_rfl) ?_
  refine Ops.done (by kernel_rfl) ?_
  refine seqQ.n ?_
  rcases cnd_some h with ⟨hb, h⟩ | ⟨hb, h⟩
  · refine Wp.cond (((a0.length : Int)) != ((a1.length : Int))) [0, 1, 4] (by kernel_rfl) 0 (by kernel_rfl) (subc [1, 0, 1, 0] C47) (subc [1, 0, 1, 1] C47) (by kernel_rfl) (by kernel_rfl) (fun _ => ?_) (fun e => nomatch (hb.symm.trans e))
    refine Wp.seq (subc [1, 0, 1, 0, 0] C47) (subc [1, 0, 1, 0, 1] C47) (by kernel_rfl) ?_
    refine Wp.region (by kernel_rfl) ?_
    refine Ops.seg 1 1 (by kernel_rfl) ⟨(dP e39 a0) :: (dP e39 a1) :: u2 ((dB false) :: u2 ((dP e39 a0) :: (dI ((a0.length : Int))) :: (dP e39 a1) :: (dI ((a1.length : Int))) :: (dB (((a0.length : Int)) != ((a1.length : Int)))) :: u36 [])), []⟩ (by kernel_rfl) ?_
    refine Ops.done (by kernel_rfl) ?_
    refine seqQ.n ?_
    refine Wp.ret (by kernel_rfl) ?_
    refine sqQ.r ?_
    refine seqQ.r ?_
    exact fnQ.r' (X47 n) (fun z => (eB z)) h (RetOk.mk' (dB false) (by kernel_rfl) (by kernel_rfl))
  · refine Wp.cond (((a0.length : Int)) != ((a1.length : Int))) [0, 1, 4] (by kernel_rfl) 0 (by kernel_rfl) (subc [1, 0, 1, 0] C47) (subc [1, 0, 1, 1] C47) (by kernel_rfl) (by kernel_rfl) (fun e => nomatch (hb.symm.trans e)) (fun _ => ?_)
    refine Wp.skip (by kernel_rfl) ?_
    refine sqQ.n ⟨(dP e39 a0) :: (dP e39 a1) :: u2 ((dB false) :: u2 ((dP e39 a0) :: (dI ((a0.length : Int))) :: (dP e39 a1) :: (dI ((a1.length : Int))) :: (dB (((a0.length : Int)) != ((a1.length : Int)))) :: u36 [])), []⟩ (by kernel_rfl) ?_
    refine seqQ.n ?_
    refine Wp.seq (subc [1, 1, 0] C47) (subc [1, 1, 1] C47) (by kernel_rfl) ?_
    refine Wp.seq (subc [1, 1, 0, 0] C47) (subc [1, 1, 0, 1] C47) (by kernel_rfl) ?_
    refine Wp.region (by kernel_rfl) ?_
    refine Ops.seg 1 1 (by kernel_rfl) ⟨(dP e39 a0) :: (dP e39 a1) :: u2 ((dB false) :: u2 ((dP e39 a0) :: (dI ((a0.length : Int))) :: (dP e39 a1) :: (dI ((a1.length : Int))) :: (dB (((a0.length : Int)) != ((a1.length : Int)))) :: (dP e39 a0) :: u35 [])), []⟩ (by kernel_rfl) ?_
    refine Ops.one 2 (by kernel_rfl) ((lenD (X47 n).E.T 37 (D.unt (dP e39 a0))).map (·, [])) (dI ((a0.length : Int))) [] ⟨(dP e39 a0) :: (dP e39 a1) :: u2 ((dB false) :: u2 ((dP e39 a0) :: (dI ((a0.length : Int))) :: (dP e39 a1) :: (dI ((a1.length : Int))) :: (dB (((a0.length : Int)) != ((a1.length : Int)))) :: (dP e39 a0) :: (dI ((a0.length : Int))) :: u34 [])), []⟩ (by kernel_rfl) (len_r _ 37 40 .plain e39 a0 (by kernel_rfl)) (by kernel_rfl) ?_
    refine Ops.seg 1 3 (by kernel_rfl) ⟨(dP e39 a0) :: (dP e39 a1) :: u2 ((dB false) :: u2 ((dP e39 a0) :: (dI ((a0.length : Int))) :: (dP e39 a1) :: (dI ((a1.length : Int))) :: (dB (((a0.length : Int)) != ((a1.length : Int)))) :: (dP e39 a0) :: (dI ((a0.length : Int))) :: (dI 0) :: u33 [])), []⟩ (by kernel_rfl) ?_
    refine Ops.done (by kernel_rfl) ?_
    refine seqQ.n ?_
    refine Wp.block (id := 0) [4] (by kernel_rfl) 0 (by kernel_rfl) (subc [1, 1, 0, 1, 0] C47) (by kernel_rfl) ?_
    have hLx120 : ∀ (kx76 : Nat) (v74 : Int) (ox75 : Bool ⊕ (Int)), iter (fun (y : Int) => f47_B3 m a0 a1 y) kx76 v74 = some ox75 → ∀ nx77, kx76 ≤ nx77 → (∀ r, ox75 = .inl r → ∀ σ, RetOk (X47 n) (resOf Proofs.Try.prog 47) (eB r) σ → (seqQ (X47 n) (subc [1, 1, 1] C47) (fnQ (X47 n).E.T (resOf Proofs.Try.prog 47) (eB o))) .ret σ) → (∀ y : Int, ox75 = .inr y → (seqQ (X47 n) (subc [1, 1, 1] C47) (fnQ (X47 n).E.T (resOf Proofs.Try.prog 47) (eB o))) .normal ⟨q1 ((dP e39 a1) :: q2 ((dB false) :: q7 ((dP e39 a0) :: (dI ((a0.length : Int))) :: (dI y) :: q33 []))), []⟩) → Lp (X47 n) [1, 4, 12, 13, 14] 0 (subc [1, 1, 0, 1, 0, 0] C47) nx77 ⟨q1 ((dP e39 a1) :: q2 ((dB false) :: q7 ((dP e39 a0) :: (dI ((a0.length : Int))) :: (dI v74) :: q33 []))), []⟩ (blkQ (X47 n) 0 [4] 0 (seqQ (X47 n) (subc [1, 1, 1] C47) (fnQ (X47 n).E.T (resOf Proofs.Try.prog 47) (eB o)))) := by
      intro kx76
      induction kx76 with
      | zero => intro v74 ox75 h; exact (iter_zero h).elim
      | succ kx76 ihx78 =>
        intro v74 ox75 h nx77 hnx81 hrx79 hxx80
        obtain ⟨nx77, rfl⟩ : ∃ q, nx77 = q + 1 := ⟨nx77 - 1, by omega⟩
        obtain ⟨sx82, h, hsx83⟩ := iter_some h
        have h : f47_B3 m a0 a1 v74 = some sx82 := h
        unfold f47_B3 at h
        refine Lp.succ ?_
        refine Wp.seq (subc [1, 1, 0, 1, 0, 0, 0] C47) (subc [1, 1, 0, 1, 0, 0, 1] C47) (by kernel_rfl) ?_
        refine Wp.region (by kernel_rfl) ?_
        refine Ops.seg 1 1 (by kernel_rfl) ⟨q1 ((dP e39 a1) :: q2 ((dB false) :: q7 ((dP e39 a0) :: (dI ((a0.length : Int))) :: (dI v74) :: (dB (decide (v74 < (a0.length : Int)))) :: q32 []))), []⟩ (by kernel_rfl) ?_
        refine Ops.done (by kernel_rfl) ?_
        refine seqQ.n ?_
        refine Wp.seq (subc [1, 1, 0, 1, 0, 0, 1, 0] C47) (subc [1, 1, 0, 1, 0, 0, 1, 1] C47) (by kernel_rfl) ?_
        rcases cnd_some h with ⟨hb, h⟩ | ⟨hb, h⟩
        · refine Wp.cond (decide (v74 < (a0.length : Int))) [1, 4, 12, 13, 14] (by kernel_rfl) 0 (by kernel_rfl) (subc [1, 1, 0, 1, 0, 0, 1, 0, 0] C47) (subc [1, 1, 0, 1, 0, 0, 1, 0, 1] C47) (by kernel_rfl) (by kernel_rfl) (fun _ => ?_) (fun e => nomatch (hb.symm.trans e))
          refine Wp.skip (by kernel_rfl) ?_
          refine sqQ.n ⟨q1 ((dP e39 a1) :: q2 ((dB false) :: q7 ((dP e39 a0) :: (dI ((a0.length : Int))) :: (dI v74) :: (dB (decide (v74 < (a0.length : Int)))) :: q32 []))), []⟩ (by kernel_rfl) ?_
          refine seqQ.n ?_
          refine Wp.seq (subc [1, 1, 0, 1, 0, 0, 1, 1, 0] C47) (subc [1, 1, 0, 1, 0, 0, 1, 1, 1] C47) (by kernel_rfl) ?_
          refine Wp.block (id := 1) [1, 4, 12, 13, 14] (by kernel_rfl) 0 (by kernel_rfl) (subc [1, 1, 0, 1, 0, 0, 1, 1, 0, 0] C47) (by kernel_rfl) ?_
          refine Wp.seq (subc [1, 1, 0, 1, 0, 0, 1, 1, 0, 0, 0] C47) (subc [1, 1, 0, 1, 0, 0, 1, 1, 0, 0, 1] C47) (by kernel_rfl) ?_
          refine Wp.region (by kernel_rfl) ?_
          refine Ops.seg 1 1 (by kernel_rfl) ⟨q1 ((dP e39 a1) :: q2 ((dB false) :: q7 ((dP e39 a0) :: (dI ((a0.length : Int))) :: (dI v74) :: (dB (decide (v74 < (a0.length : Int)))) :: (dI v74) :: q31 []))), []⟩ (by kernel_rfl) ?_
          obtain ⟨v84, ev84, h⟩ := bnd_some h
          refine Ops.one 2 (by kernel_rfl) ((indexAddrH (X47 n).E.T [] 37 (D.unt (dP e39 a0)) (dI v74)).map (·, [])) (.vptr [(vI v84.fLexical), (vI v84.fSurface)]) [] ⟨q1 ((dP e39 a1) :: q2 ((dB false) :: q7 ((dP e39 a0) :: (dI ((a0.length : Int))) :: (dI v74) :: (dB (decide (v74 < (a0.length : Int)))) :: (dI v74) :: (.vptr [(vI v84.fLexical), (vI v84.fSurface)]) :: q30 []))), []⟩ (by kernel_rfl) (ix_r _ 37 40 2 .plain e39 a0 v74 v84 ev84 (by kernel_rfl) (by kernel_rfl) (fun _ => rfl)) (by kernel_rfl) ?_
          refine Ops.seg 4 6 (by kernel_rfl) ⟨q1 ((dP e39 a1) :: q2 ((dB false) :: (dI v74) :: (.ptr 0 0) :: q5 ((dP e39 a0) :: (dI ((a0.length : Int))) :: (dI v74) :: (dB (decide (v74 < (a0.length : Int)))) :: (dI v74) :: (.vptr [(vI v84.fLexical), (vI v84.fSurface)]) :: (.v (.agg [(vI v84.fLexical), (vI v84.fSurface)])) :: q29 []))), [(.cells [(dI v84.fLexical), (dI v84.fSurface)])]⟩ (by kernel_rfl) ?_
          refine Ops.done (by kernel_rfl) ?_
          refine seqQ.n ?_
          refine Wp.seq (subc [1, 1, 0, 1, 0, 0, 1, 1, 0, 0, 1, 0] C47) (subc [1, 1, 0, 1, 0, 0, 1, 1, 0, 0, 1, 1] C47) (by kernel_rfl) ?_
          refine Wp.region (by kernel_rfl) ?_
          refine Ops.seg 4 4 (by kernel_rfl) ⟨q1 ((dP e39 a1) :: q2 ((dB false) :: (dI v74) :: (.ptr 0 0) :: q5 ((dP e39 a0) :: (dI ((a0.length : Int))) :: (dI v74) :: (dB (decide (v74 < (a0.length : Int)))) :: (dI v74) :: (.vptr [(vI v84.fLexical), (vI v84.fSurface)]) :: (.v (.agg [(vI v84.fLexical), (vI v84.fSurface)])) :: (.ptr 0 0) :: (dI v84.fLexical) :: (dB (decide (v84.fLexical ≥ 0))) :: (dB (decide (v84.fLexical ≥ 0))) :: q25 []))), [(.cells [(dI v84.fLexical), (dI v84.fSurface)])]⟩ (by kernel_rfl) ?_
          have J47j97 : ∀ (d87 d88 d89 d90 d91 d92 d93 d94 : D) (v95 : Bool) (v96 : Bool), f47_r2 m a1 v74 v84 v96 = some sx82 → Ops (X47 n) (opl (subc [1, 1, 0, 1, 0, 0, 1, 1, 0, 0, 1, 0] C47)) 13 ⟨q1 ((dP e39 a1) :: q2 ((dB false) :: (dI v74) :: (.ptr 0 0) :: q5 ((dP e39 a0) :: (dI ((a0.length : Int))) :: (dI v74) :: (dB (decide (v74 < (a0.length : Int)))) :: (dI v74) :: (.vptr [(vI v84.fLexical), (vI v84.fSurface)]) :: (.v (.agg [(vI v84.fLexical), (vI v84.fSurface)])) :: (.ptr 0 0) :: (dI v84.fLexical) :: (dB v95) :: (dB v95) :: d87 :: d88 :: d89 :: d90 :: d91 :: d92 :: d93 :: d94 :: (dB v96) :: q16 []))), [(.cells [(dI v84.fLexical), (dI v84.fSurface)])]⟩ ((seqQ (X47 n) (subc [1, 1, 0, 1, 0, 0, 1, 1, 0, 0, 1, 1] C47) (blkQ (X47 n) 1 [1, 4, 12, 13, 14] 0 (seqQ (X47 n) (subc [1, 1, 0, 1, 0, 0, 1, 1, 1] C47) (lpQ (X47 n) [1, 4, 12, 13, 14] 0 (subc [1, 1, 0, 1, 0, 0] C47) nx77 (blkQ (X47 n) 0 [4] 0 (seqQ (X47 n) (subc [1, 1, 1] C47) (fnQ (X47 n).E.T (resOf Proofs.Try.prog 47) (eB o)))))))) .normal) := by
            intro d87 d88 d89 d90 d91 d92 d93 d94 v95 v96 h
            unfold f47_r2 at h
            refine Ops.seg 1 14 (by kernel_rfl) ⟨q1 ((dP e39 a1) :: q2 ((dB false) :: (dI v74) :: (.ptr 0 0) :: q5 ((dP e39 a0) :: (dI ((a0.length : Int))) :: (dI v74) :: (dB (decide (v74 < (a0.length : Int)))) :: (dI v74) :: (.vptr [(vI v84.fLexical), (vI v84.fSurface)]) :: (.v (.agg [(vI v84.fLexical), (vI v84.fSurface)])) :: (.ptr 0 0) :: (dI v84.fLexical) :: (dB v95) :: (dB v95) :: d87 :: d88 :: d89 :: d90 :: d91 :: d92 :: d93 :: d94 :: (dB v96) :: (dB v96) :: q15 []))), [(.cells [(dI v84.fLexical), (dI v84.fSurface)])]⟩ (by kernel_rfl) ?_
            have J47j115 : ∀ (d100 d101 d102 d103 d104 d105 d106 d107 d108 d109 d110 d111 d112 : D) (v113 : Bool) (v114 : Bool), f47_r1 m v74 v114 = some sx82 → Ops (X47 n) (opl (subc [1, 1, 0, 1, 0, 0, 1, 1, 0, 0, 1, 0] C47)) 28 ⟨q1 ((dP e39 a1) :: q2 ((dB false) :: (dI v74) :: (.ptr 0 0) :: q5 ((dP e39 a0) :: (dI ((a0.length : Int))) :: (dI v74) :: (dB (decide (v74 < (a0.length : Int)))) :: (dI v74) :: (.vptr [(vI v84.fLexical), (vI v84.fSurface)]) :: (.v (.agg [(vI v84.fLexical), (vI v84.fSurface)])) :: (.ptr 0 0) :: (dI v84.fLexical) :: (dB v95) :: (dB v95) :: d87 :: d88 :: d89 :: d90 :: d91 :: d92 :: d93 :: d94 :: (dB v113) :: (dB v113) :: d100 :: d101 :: d102 :: d103 :: d104 :: d105 :: d106 :: d107 :: d108 :: d109 :: d110 :: d111 :: d112 :: (dB v114) :: q1 []))), [(.cells [(dI v84.fLexical), (dI v84.fSurface)])]⟩ ((seqQ (X47 n) (subc [1, 1, 0, 1, 0, 0, 1, 1, 0, 0, 1, 1] C47) (blkQ (X47 n) 1 [1, 4, 12, 13, 14] 0 (seqQ (X47 n) (subc [1, 1, 0, 1, 0, 0, 1, 1, 1] C47) (lpQ (X47 n) [1, 4, 12, 13, 14] 0 (subc [1, 1, 0, 1, 0, 0] C47) nx77 (blkQ (X47 n) 0 [4] 0 (seqQ (X47 n) (subc [1, 1, 1] C47) (fnQ (X47 n).E.T (resOf Proofs.Try.prog 47) (eB o)))))))) .normal) := by
              intro d100 d101 d102 d103 d104 d105 d106 d107 d108 d109 d110 d111 d112 v113 v114 h
              unfold f47_r1 at h
              refine Ops.done (by kernel_rfl) ?_
              refine seqQ.n ?_
              rcases cnd_some h with ⟨hb, h⟩ | ⟨hb, h⟩
              · refine Wp.cond v114 [1, 4, 12, 13, 14] (by kernel_rfl) 1 (by kernel_rfl) (subc [1, 1, 0, 1, 0, 0, 1, 1, 0, 0, 1, 1, 0] C47) (subc [1, 1, 0, 1, 0, 0, 1, 1, 0, 0, 1, 1, 1] C47) (by kernel_rfl) (by kernel_rfl) (fun _ => ?_) (fun e => nomatch (hb.symm.trans e))
                refine Wp.seq (subc [1, 1, 0, 1, 0, 0, 1, 1, 0, 0, 1, 1, 0, 0] C47) (subc [1, 1, 0, 1, 0, 0, 1, 1, 0, 0, 1, 1, 0, 1] C47) (by kernel_rfl) ?_
                refine Wp.region (by kernel_rfl) ?_
                refine Ops.seg 1 1 (by kernel_rfl) ⟨q1 ((dP e39 a1) :: q2 ((dB false) :: (dI v74) :: (.ptr 0 0) :: q5 ((dP e39 a0) :: (dI ((a0.length : Int))) :: (dI v74) :: (dB (decide (v74 < (a0.length : Int)))) :: (dI v74) :: (.vptr [(vI v84.fLexical), (vI v84.fSurface)]) :: (.v (.agg [(vI v84.fLexical), (vI v84.fSurface)])) :: (.ptr 0 0) :: (dI v84.fLexical) :: (dB v95) :: (dB v95) :: d87 :: d88 :: d89 :: d90 :: d91 :: d92 :: d93 :: d94 :: (dB v113) :: (dB v113) :: d100 :: d101 :: d102 :: d103 :: d104 :: d105 :: d106 :: d107 :: d108 :: d109 :: d110 :: d111 :: d112 :: (dB v114) :: q1 []))), [(.cells [(dI v84.fLexical), (dI v84.fSurface)])]⟩ (by kernel_rfl) ?_
                refine Ops.done (by kernel_rfl) ?_
                refine seqQ.n ?_
                refine Wp.ret (by kernel_rfl) ?_
                refine sqQ.r ?_
                refine blkQ.r ?_
                refine seqQ.r ?_
                cases h
                refine lpQ.r ?_
                refine blkQ.r ?_
                exact hrx79 _ hsx83 _ (RetOk.forget [1, 4, 12, 13, 14] (by kernel_rfl) (RetOk.mk' (dB false) (by kernel_rfl) (by kernel_rfl)))
              · refine Wp.cond v114 [1, 4, 12, 13, 14] (by kernel_rfl) 1 (by kernel_rfl) (subc [1, 1, 0, 1, 0, 0, 1, 1, 0, 0, 1, 1, 0] C47) (subc [1, 1, 0, 1, 0, 0, 1, 1, 0, 0, 1, 1, 1] C47) (by kernel_rfl) (by kernel_rfl) (fun e => nomatch (hb.symm.trans e)) (fun _ => ?_)
                refine Wp.skip (by kernel_rfl) ?_
                refine sqQ.n ⟨q1 ((dP e39 a1) :: q2 ((dB false) :: (dI v74) :: (.ptr 0 0) :: q5 ((dP e39 a0) :: (dI ((a0.length : Int))) :: (dI v74) :: (dB (decide (v74 < (a0.length : Int)))) :: (dI v74) :: (.vptr [(vI v84.fLexical), (vI v84.fSurface)]) :: (.v (.agg [(vI v84.fLexical), (vI v84.fSurface)])) :: (.ptr 0 0) :: (dI v84.fLexical) :: (dB v95) :: (dB v95) :: d87 :: d88 :: d89 :: d90 :: d91 :: d92 :: d93 :: d94 :: (dB v113) :: (dB v113) :: d100 :: d101 :: d102 :: d103 :: d104 :: d105 :: d106 :: d107 :: d108 :: d109 :: d110 :: d111 :: d112 :: (dB v114) :: q1 []))), [(.cells [(dI v84.fLexical), (dI v84.fSurface)])]⟩ (by kernel_rfl) ?_
                refine blkQ.n ⟨q1 ((dP e39 a1) :: q2 ((dB false) :: q7 ((dP e39 a0) :: (dI ((a0.length : Int))) :: (dI v74) :: q33 []))), []⟩ (by kernel_rfl) ?_
                refine seqQ.n ?_
                refine Wp.region (by kernel_rfl) ?_
                refine Ops.seg 2 2 (by kernel_rfl) ⟨q1 ((dP e39 a1) :: q2 ((dB false) :: q7 ((dP e39 a0) :: (dI ((a0.length : Int))) :: (dI (w64 (v74 + 1))) :: q32 ((dI (w64 (v74 + 1))) :: [])))), []⟩ (by kernel_rfl) ?_
                refine Ops.done (by kernel_rfl) ?_
                refine lpQ.n ⟨q1 ((dP e39 a1) :: q2 ((dB false) :: q7 ((dP e39 a0) :: (dI ((a0.length : Int))) :: (dI (w64 (v74 + 1))) :: q33 []))), []⟩ (by kernel_rfl) ?_
                cases h
                exact ihx78 (w64 (v74 + 1)) _ hsx83 _ (by omega) hrx79 hxx80
            obtain ⟨v114, ev114, h⟩ := bnd_some h
            have G47g99 : ∀ v98 : Bool, (cnd v98 (some true) (cnd (decide (v84.fSurface ≥ 0)) (bnd (idx a1 v74) fun v118 => some (v84.fSurface != v118.fSurface)) (some false))) = some v114 → Ops (X47 n) (opl (subc [1, 1, 0, 1, 0, 0, 1, 1, 0, 0, 1, 0] C47)) 14 ⟨q1 ((dP e39 a1) :: q2 ((dB false) :: (dI v74) :: (.ptr 0 0) :: q5 ((dP e39 a0) :: (dI ((a0.length : Int))) :: (dI v74) :: (dB (decide (v74 < (a0.length : Int)))) :: (dI v74) :: (.vptr [(vI v84.fLexical), (vI v84.fSurface)]) :: (.v (.agg [(vI v84.fLexical), (vI v84.fSurface)])) :: (.ptr 0 0) :: (dI v84.fLexical) :: (dB v95) :: (dB v95) :: d87 :: d88 :: d89 :: d90 :: d91 :: d92 :: d93 :: d94 :: (dB v98) :: (dB v98) :: q15 []))), [(.cells [(dI v84.fLexical), (dI v84.fSurface)])]⟩ ((seqQ (X47 n) (subc [1, 1, 0, 1, 0, 0, 1, 1, 0, 0, 1, 1] C47) (blkQ (X47 n) 1 [1, 4, 12, 13, 14] 0 (seqQ (X47 n) (subc [1, 1, 0, 1, 0, 0, 1, 1, 1] C47) (lpQ (X47 n) [1, 4, 12, 13, 14] 0 (subc [1, 1, 0, 1, 0, 0] C47) nx77 (blkQ (X47 n) 0 [4] 0 (seqQ (X47 n) (subc [1, 1, 1] C47) (fnQ (X47 n).E.T (resOf Proofs.Try.prog 47) (eB o)))))))) .normal) := by
              intro v98 ev114
              cases v98
              · have ev114 := cnd_f ev114
                refine Ops.seg 4 18 (by kernel_rfl) ⟨q1 ((dP e39 a1) :: q2 ((dB false) :: (dI v74) :: (.ptr 0 0) :: q5 ((dP e39 a0) :: (dI ((a0.length : Int))) :: (dI v74) :: (dB (decide (v74 < (a0.length : Int)))) :: (dI v74) :: (.vptr [(vI v84.fLexical), (vI v84.fSurface)]) :: (.v (.agg [(vI v84.fLexical), (vI v84.fSurface)])) :: (.ptr 0 0) :: (dI v84.fLexical) :: (dB v95) :: (dB v95) :: d87 :: d88 :: d89 :: d90 :: d91 :: d92 :: d93 :: d94 :: (dB false) :: (dB false) :: (.ptr 0 1) :: (dI v84.fSurface) :: (dB (decide (v84.fSurface ≥ 0))) :: (dB (decide (v84.fSurface ≥ 0))) :: q11 []))), [(.cells [(dI v84.fLexical), (dI v84.fSurface)])]⟩ (by kernel_rfl) ?_
                have G47g117 : ∀ v116 : Bool, (cnd v116 (bnd (idx a1 v74) fun v118 => some (v84.fSurface != v118.fSurface)) (some false)) = some v114 → Ops (X47 n) (opl (subc [1, 1, 0, 1, 0, 0, 1, 1, 0, 0, 1, 0] C47)) 18 ⟨q1 ((dP e39 a1) :: q2 ((dB false) :: (dI v74) :: (.ptr 0 0) :: q5 ((dP e39 a0) :: (dI ((a0.length : Int))) :: (dI v74) :: (dB (decide (v74 < (a0.length : Int)))) :: (dI v74) :: (.vptr [(vI v84.fLexical), (vI v84.fSurface)]) :: (.v (.agg [(vI v84.fLexical), (vI v84.fSurface)])) :: (.ptr 0 0) :: (dI v84.fLexical) :: (dB v95) :: (dB v95) :: d87 :: d88 :: d89 :: d90 :: d91 :: d92 :: d93 :: d94 :: (dB false) :: (dB false) :: (.ptr 0 1) :: (dI v84.fSurface) :: (dB v116) :: (dB v116) :: q11 []))), [(.cells [(dI v84.fLexical), (dI v84.fSurface)])]⟩ ((seqQ (X47 n) (subc [1, 1, 0, 1, 0, 0, 1, 1, 0, 0, 1, 1] C47) (blkQ (X47 n) 1 [1, 4, 12, 13, 14] 0 (seqQ (X47 n) (subc [1, 1, 0, 1, 0, 0, 1, 1, 1] C47) (lpQ (X47 n) [1, 4, 12, 13, 14] 0 (subc [1, 1, 0, 1, 0, 0] C47) nx77 (blkQ (X47 n) 0 [4] 0 (seqQ (X47 n) (subc [1, 1, 1] C47) (fnQ (X47 n).E.T (resOf Proofs.Try.prog 47) (eB o)))))))) .normal) := by
                  intro v116 ev114
                  cases v116
                  · have ev114 := cnd_f ev114
                    refine Ops.seg 10 28 (by kernel_rfl) ⟨q1 ((dP e39 a1) :: q2 ((dB false) :: (dI v74) :: (.ptr 0 0) :: q5 ((dP e39 a0) :: (dI ((a0.length : Int))) :: (dI v74) :: (dB (decide (v74 < (a0.length : Int)))) :: (dI v74) :: (.vptr [(vI v84.fLexical), (vI v84.fSurface)]) :: (.v (.agg [(vI v84.fLexical), (vI v84.fSurface)])) :: (.ptr 0 0) :: (dI v84.fLexical) :: (dB v95) :: (dB v95) :: d87 :: d88 :: d89 :: d90 :: d91 :: d92 :: d93 :: d94 :: (dB false) :: (dB false) :: (.ptr 0 1) :: (dI v84.fSurface) :: (dB false) :: (dB false) :: u8 ((dB false) :: (dB false) :: q1 [])))), [(.cells [(dI v84.fLexical), (dI v84.fSurface)])]⟩ (by kernel_rfl) ?_
                    exact J47j115 _ _ _ _ _ _ _ _ _ _ _ _ _ _ _ (some_sub (fun v114 => f47_r1 m v74 v114 = some sx82) ev114 h)
                  · have ev114 := cnd_t ev114
                    refine Ops.seg 4 22 (by kernel_rfl) ⟨q1 ((dP e39 a1) :: q2 ((dB false) :: (dI v74) :: (.ptr 0 0) :: q5 ((dP e39 a0) :: (dI ((a0.length : Int))) :: (dI v74) :: (dB (decide (v74 < (a0.length : Int)))) :: (dI v74) :: (.vptr [(vI v84.fLexical), (vI v84.fSurface)]) :: (.v (.agg [(vI v84.fLexical), (vI v84.fSurface)])) :: (.ptr 0 0) :: (dI v84.fLexical) :: (dB v95) :: (dB v95) :: d87 :: d88 :: d89 :: d90 :: d91 :: d92 :: d93 :: d94 :: (dB false) :: (dB false) :: (.ptr 0 1) :: (dI v84.fSurface) :: (dB true) :: (dB true) :: (.ptr 0 1) :: (dI v84.fSurface) :: (dP e39 a1) :: (dI v74) :: q7 []))), [(.cells [(dI v84.fLexical), (dI v84.fSurface)])]⟩ (by kernel_rfl) ?_
                    obtain ⟨v118, ev118, ev114⟩ := bnd_some ev114
                    refine Ops.one 23 (by kernel_rfl) ((indexAddrH (X47 n).E.T [(.cells [(dI v84.fLexical), (dI v84.fSurface)])] 37 (D.unt (dP e39 a1)) (dI v74)).map (·, [(.cells [(dI v84.fLexical), (dI v84.fSurface)])])) (.vptr [(vI v118.fLexical), (vI v118.fSurface)]) [(.cells [(dI v84.fLexical), (dI v84.fSurface)])] ⟨q1 ((dP e39 a1) :: q2 ((dB false) :: (dI v74) :: (.ptr 0 0) :: q5 ((dP e39 a0) :: (dI ((a0.length : Int))) :: (dI v74) :: (dB (decide (v74 < (a0.length : Int)))) :: (dI v74) :: (.vptr [(vI v84.fLexical), (vI v84.fSurface)]) :: (.v (.agg [(vI v84.fLexical), (vI v84.fSurface)])) :: (.ptr 0 0) :: (dI v84.fLexical) :: (dB v95) :: (dB v95) :: d87 :: d88 :: d89 :: d90 :: d91 :: d92 :: d93 :: d94 :: (dB false) :: (dB false) :: (.ptr 0 1) :: (dI v84.fSurface) :: (dB true) :: (dB true) :: (.ptr 0 1) :: (dI v84.fSurface) :: (dP e39 a1) :: (dI v74) :: (.vptr [(vI v118.fLexical), (vI v118.fSurface)]) :: q6 []))), [(.cells [(dI v84.fLexical), (dI v84.fSurface)])]⟩ (by kernel_rfl) (ix_r _ 37 40 2 .plain e39 a1 v74 v118 ev118 (by kernel_rfl) (by kernel_rfl) (fun _ => rfl)) (by kernel_rfl) ?_
                    refine Ops.seg 5 28 (by kernel_rfl) ⟨q1 ((dP e39 a1) :: q2 ((dB false) :: (dI v74) :: (.ptr 0 0) :: q5 ((dP e39 a0) :: (dI ((a0.length : Int))) :: (dI v74) :: (dB (decide (v74 < (a0.length : Int)))) :: (dI v74) :: (.vptr [(vI v84.fLexical), (vI v84.fSurface)]) :: (.v (.agg [(vI v84.fLexical), (vI v84.fSurface)])) :: (.ptr 0 0) :: (dI v84.fLexical) :: (dB v95) :: (dB v95) :: d87 :: d88 :: d89 :: d90 :: d91 :: d92 :: d93 :: d94 :: (dB false) :: (dB false) :: (.ptr 0 1) :: (dI v84.fSurface) :: (dB true) :: (dB true) :: (.ptr 0 1) :: (dI v84.fSurface) :: (dP e39 a1) :: (dI v74) :: (.vptr [(vI v118.fLexical), (vI v118.fSurface)]) :: (.vptr [(vI v118.fSurface)]) :: (dI v118.fSurface) :: (dB (v84.fSurface != v118.fSurface)) :: (dB (v84.fSurface != v118.fSurface)) :: (dB (v84.fSurface != v118.fSurface)) :: q1 []))), [(.cells [(dI v84.fLexical), (dI v84.fSurface)])]⟩ (by kernel_rfl) ?_
                    exact J47j115 _ _ _ _ _ _ _ _ _ _ _ _ _ _ _ (some_sub (fun v114 => f47_r1 m v74 v114 = some sx82) ev114 h)
                exact G47g117 (decide (v84.fSurface ≥ 0)) ev114
              · have ev114 := cnd_t ev114
                refine Ops.seg 14 28 (by kernel_rfl) ⟨q1 ((dP e39 a1) :: q2 ((dB false) :: (dI v74) :: (.ptr 0 0) :: q5 ((dP e39 a0) :: (dI ((a0.length : Int))) :: (dI v74) :: (dB (decide (v74 < (a0.length : Int)))) :: (dI v74) :: (.vptr [(vI v84.fLexical), (vI v84.fSurface)]) :: (.v (.agg [(vI v84.fLexical), (vI v84.fSurface)])) :: (.ptr 0 0) :: (dI v84.fLexical) :: (dB v95) :: (dB v95) :: d87 :: d88 :: d89 :: d90 :: d91 :: d92 :: d93 :: d94 :: (dB true) :: (dB true) :: u13 ((dB true) :: q1 [])))), [(.cells [(dI v84.fLexical), (dI v84.fSurface)])]⟩ (by kernel_rfl) ?_
                exact J47j115 _ _ _ _ _ _ _ _ _ _ _ _ _ _ _ (some_sub (fun v114 => f47_r1 m v74 v114 = some sx82) ev114 h)
            exact G47g99 v96 ev114
          obtain ⟨v96, ev96, h⟩ := bnd_some h
          have G47g86 : ∀ v85 : Bool, (cnd v85 (bnd (idx a1 v74) fun v119 => some (v84.fLexical != v119.fLexical)) (some false)) = some v96 → Ops (X47 n) (opl (subc [1, 1, 0, 1, 0, 0, 1, 1, 0, 0, 1, 0] C47)) 4 ⟨q1 ((dP e39 a1) :: q2 ((dB false) :: (dI v74) :: (.ptr 0 0) :: q5 ((dP e39 a0) :: (dI ((a0.length : Int))) :: (dI v74) :: (dB (decide (v74 < (a0.length : Int)))) :: (dI v74) :: (.vptr [(vI v84.fLexical), (vI v84.fSurface)]) :: (.v (.agg [(vI v84.fLexical), (vI v84.fSurface)])) :: (.ptr 0 0) :: (dI v84.fLexical) :: (dB v85) :: (dB v85) :: q25 []))), [(.cells [(dI v84.fLexical), (dI v84.fSurface)])]⟩ ((seqQ (X47 n) (subc [1, 1, 0, 1, 0, 0, 1, 1, 0, 0, 1, 1] C47) (blkQ (X47 n) 1 [1, 4, 12, 13, 14] 0 (seqQ (X47 n) (subc [1, 1, 0, 1, 0, 0, 1, 1, 1] C47) (lpQ (X47 n) [1, 4, 12, 13, 14] 0 (subc [1, 1, 0, 1, 0, 0] C47) nx77 (blkQ (X47 n) 0 [4] 0 (seqQ (X47 n) (subc [1, 1, 1] C47) (fnQ (X47 n).E.T (resOf Proofs.Try.prog 47) (eB o)))))))) .normal) := by
            intro v85 ev96
            cases v85
            · have ev96 := cnd_f ev96
              refine Ops.seg 9 13 (by kernel_rfl) ⟨q1 ((dP e39 a1) :: q2 ((dB false) :: (dI v74) :: (.ptr 0 0) :: q5 ((dP e39 a0) :: (dI ((a0.length : Int))) :: (dI v74) :: (dB (decide (v74 < (a0.length : Int)))) :: (dI v74) :: (.vptr [(vI v84.fLexical), (vI v84.fSurface)]) :: (.v (.agg [(vI v84.fLexical), (vI v84.fSurface)])) :: (.ptr 0 0) :: (dI v84.fLexical) :: (dB false) :: (dB false) :: u8 ((dB false) :: q16 [])))), [(.cells [(dI v84.fLexical), (dI v84.fSurface)])]⟩ (by kernel_rfl) ?_
              exact J47j97 _ _ _ _ _ _ _ _ _ _ (some_sub (fun v96 => f47_r2 m a1 v74 v84 v96 = some sx82) ev96 h)
            · have ev96 := cnd_t ev96
              refine Ops.seg 4 8 (by kernel_rfl) ⟨q1 ((dP e39 a1) :: q2 ((dB false) :: (dI v74) :: (.ptr 0 0) :: q5 ((dP e39 a0) :: (dI ((a0.length : Int))) :: (dI v74) :: (dB (decide (v74 < (a0.length : Int)))) :: (dI v74) :: (.vptr [(vI v84.fLexical), (vI v84.fSurface)]) :: (.v (.agg [(vI v84.fLexical), (vI v84.fSurface)])) :: (.ptr 0 0) :: (dI v84.fLexical) :: (dB true) :: (dB true) :: (.ptr 0 0) :: (dI v84.fLexical) :: (dP e39 a1) :: (dI v74) :: q21 []))), [(.cells [(dI v84.fLexical), (dI v84.fSurface)])]⟩ (by kernel_rfl) ?_
              obtain ⟨v119, ev119, ev96⟩ := bnd_some ev96
              refine Ops.one 9 (by kernel_rfl) ((indexAddrH (X47 n).E.T [(.cells [(dI v84.fLexical), (dI v84.fSurface)])] 37 (D.unt (dP e39 a1)) (dI v74)).map (·, [(.cells [(dI v84.fLexical), (dI v84.fSurface)])])) (.vptr [(vI v119.fLexical), (vI v119.fSurface)]) [(.cells [(dI v84.fLexical), (dI v84.fSurface)])] ⟨q1 ((dP e39 a1) :: q2 ((dB false) :: (dI v74) :: (.ptr 0 0) :: q5 ((dP e39 a0) :: (dI ((a0.length : Int))) :: (dI v74) :: (dB (decide (v74 < (a0.length : Int)))) :: (dI v74) :: (.vptr [(vI v84.fLexical), (vI v84.fSurface)]) :: (.v (.agg [(vI v84.fLexical), (vI v84.fSurface)])) :: (.ptr 0 0) :: (dI v84.fLexical) :: (dB true) :: (dB true) :: (.ptr 0 0) :: (dI v84.fLexical) :: (dP e39 a1) :: (dI v74) :: (.vptr [(vI v119.fLexical), (vI v119.fSurface)]) :: q20 []))), [(.cells [(dI v84.fLexical), (dI v84.fSurface)])]⟩ (by kernel_rfl) (ix_r _ 37 40 2 .plain e39 a1 v74 v119 ev119 (by kernel_rfl) (by kernel_rfl) (fun _ => rfl)) (by kernel_rfl) ?_
              refine Ops.seg 4 13 (by kernel_rfl) ⟨q1 ((dP e39 a1) :: q2 ((dB false) :: (dI v74) :: (.ptr 0 0) :: q5 ((dP e39 a0) :: (dI ((a0.length : Int))) :: (dI v74) :: (dB (decide (v74 < (a0.length : Int)))) :: (dI v74) :: (.vptr [(vI v84.fLexical), (vI v84.fSurface)]) :: (.v (.agg [(vI v84.fLexical), (vI v84.fSurface)])) :: (.ptr 0 0) :: (dI v84.fLexical) :: (dB true) :: (dB true) :: (.ptr 0 0) :: (dI v84.fLexical) :: (dP e39 a1) :: (dI v74) :: (.vptr [(vI v119.fLexical), (vI v119.fSurface)]) :: (.vptr [(vI v119.fLexical), (vI v119.fSurface)]) :: (dI v119.fLexical) :: (dB (v84.fLexical != v119.fLexical)) :: (dB (v84.fLexical != v119.fLexical)) :: q16 []))), [(.cells [(dI v84.fLexical), (dI v84.fSurface)])]⟩ (by kernel_rfl) ?_
              exact J47j97 _ _ _ _ _ _ _ _ _ _ (some_sub (fun v96 => f47_r2 m a1 v74 v84 v96 = some sx82) ev96 h)
          exact G47g86 (decide (v84.fLexical ≥ 0)) ev96
        · refine Wp.cond (decide (v74 < (a0.length : Int))) [1, 4, 12, 13, 14] (by kernel_rfl) 0 (by kernel_rfl) (subc [1, 1, 0, 1, 0, 0, 1, 0, 0] C47) (subc [1, 1, 0, 1, 0, 0, 1, 0, 1] C47) (by kernel_rfl) (by kernel_rfl) (fun e => nomatch (hb.symm.trans e)) (fun _ => ?_)
          refine Wp.exit (id := 0) (by kernel_rfl) ?_
          refine sqQ.x ?_
          refine seqQ.x ?_
          cases h
          refine lpQ.x ?_
          refine blkQ.x ⟨q1 ((dP e39 a1) :: q2 ((dB false) :: q7 ((dP e39 a0) :: (dI ((a0.length : Int))) :: (dI v74) :: q33 []))), []⟩ (by kernel_rfl) ?_
          exact hxx80 v74 hsx83
    refine Wp.loop [1, 4, 12, 13, 14] 0 (by kernel_rfl) (subc [1, 1, 0, 1, 0, 0] C47) (by kernel_rfl) (by kernel_rfl) ⟨q1 ((dP e39 a1) :: q2 ((dB false) :: q7 ((dP e39 a0) :: (dI ((a0.length : Int))) :: (dI 0) :: q33 []))), []⟩ (by kernel_rfl) ?_
    rcases brk_some h with ⟨r122, er122, h⟩ | ⟨y121, ey121, h⟩
    · refine hLx120 _ 0 _ er122 n (by omega) (fun r er σ hσ => ?_) (fun y ey => by cases ey)
      cases er
      refine seqQ.r ?_
      exact fnQ.r' (X47 n) (fun z => (eB z)) h hσ
    · refine hLx120 _ 0 _ ey121 n (by omega) (fun r er => by cases er) (fun y ey => ?_)
      cases ey
      refine seqQ.n ?_
      refine Wp.seq (subc [1, 1, 1, 0] C47) (subc [1, 1, 1, 1] C47) (by kernel_rfl) ?_
      refine Wp.region (by kernel_rfl) ?_
      refine Ops.seg 1 1 (by kernel_rfl) ⟨q1 ((dP e39 a1) :: q2 ((dB true) :: q7 ((dP e39 a0) :: (dI ((a0.length : Int))) :: (dI y121) :: q33 []))), []⟩ (by kernel_rfl) ?_
      refine Ops.done (by kernel_rfl) ?_
      refine seqQ.n ?_
      refine Wp.ret (by kernel_rfl) ?_
      exact fnQ.r' (X47 n) (fun z => (eB z)) h (RetOk.mk' (dB true) (by kernel_rfl) (by kernel_rfl))

/-! ### 45 glosswright/glosswrightref6.Around -/
def f45_r1 (m : Nat) (v41 : Bool) : Option Bool :=
  some v41
def f45_j2 (m : Nat) (a0 : S64) (v2 : (List S39)) : Option Bool :=
  cnd a0.fEnd
  (bnd (f47 m a0.fRight v2) fun v29 =>
  some v29)
  (bnd (cnd (decide ((v2.length : Int) ≥ (a0.fRight.length : Int)))
  (bnd (sub v2 0 ((a0.fRight.length : Int))) fun v43 =>
  bnd (f47 m a0.fRight v43) fun v44 =>
  some v44)
  (some false)) fun v41 =>
  f45_r1 m v41)
def f45_r3 (m : Nat) (a0 : S64) (v2 : (List S39)) (v61 : Bool) : Option Bool :=
  cnd v61
  (some false)
  (f45_j2 m a0 v2)
def f45 (m : Nat) (a0 : S64) (a1 : (List S39)) (a2 : Int) : Option Bool :=
  bnd (sub a1 0 a2) fun v1 =>
  bnd (sub a1 (w64 (a2 + 1)) (a1.length : Int)) fun v2 =>
  cnd a0.fBegin
  (bnd (f47 m a0.fLeft v1) fun v45 =>
  cnd (!v45)
  (some false)
  (f45_j2 m a0 v2))
  (bnd (cnd (decide ((v1.length : Int) < (a0.fLeft.length : Int)))
  (some true)
  (bnd (sub v1 (w64 ((v1.length : Int) - (a0.fLeft.length : Int))) (v1.length : Int)) fun v63 =>
  bnd (f47 m a0.fLeft v63) fun v64 =>
  some (!v64))) fun v61 =>
  f45_r3 m a0 v2 v61)
noncomputable abbrev X45 (n : Nat) : Cx := cxOf Proofs.Try.prog E 45 n
noncomputable def C45 : Code := bodyOf Proofs.Try.prog 45
theorem ok45 (m : Nat) (a0 : S64) (a1 : (List S39)) (a2 : Int) (o : Bool) (h : f45 m a0 a1 a2 = some o) (n : Nat) (hn : m + 2 ≤ n) : Fn Proofs.Try.prog E n 45 [e64 a0, (eL e39) a1, eI a2] (eB o) := by
  obtain ⟨n, rfl⟩ : ∃ q, n = q + 1 := ⟨n - 1, by omega⟩
  unfold f45 at h
  refine Fn.of (by kernel_rfl) (by kernel_rfl) ⟨(.v (.agg [(vP e39 a0.fLeft), (vP e39 a0.fRight), (vB a0.fBegin), (vB a0.fEnd)])) :: (dP e39 a1) :: (dI a2) :: u40 (u22 []), []⟩ (by kernel_rfl) ?_
  refine Wp.seq (subc [0] C45) (subc [1] C45) (by kernel_rfl) ?_
  refine Wp.region (by kernel_rfl) ?_
  refine Ops.seg 2 2 (by kernel_rfl) ⟨(.v (.agg [(vP e39 a0.fLeft), (vP e39 a0.fRight), (vB a0.fBegin), (vB a0.fEnd)])) :: (dP e39 a1) :: (dI a2) :: (.ptr 0 0) :: u2 ((dB false) :: u40 (u18 [])), [(.cells [(dP e39 a0.fLeft), (dP e39 a0.fRight), (dB a0.fBegin), (dB a0.fEnd)])]⟩ (by kernel_rfl) ?_
  refine Ops.done (by kernel_rfl) ?_
  refine seqQ.n ?_
  refine Wp.seq (subc [1, 0] C45) (subc [1, 1] C45) (by kernel_rfl) ?_
  refine Wp.region (by kernel_rfl) ?_
  refine Ops.seg 2 2 (by kernel_rfl) ⟨(.v (.agg [(vP e39 a0.fLeft), (vP e39 a0.fRight), (vB a0.fBegin), (vB a0.fEnd)])) :: (dP e39 a1) :: (dI a2) :: (.ptr 0 0) :: u2 ((dB false) :: u2 ((dP e39 a1) :: (dI a2) :: u40 (u14 []))), [(.cells [(dP e39 a0.fLeft), (dP e39 a0.fRight), (dB a0.fBegin), (dB a0.fEnd)])]⟩ (by kernel_rfl) ?_
  obtain ⟨v1, ev1, h⟩ := bnd_some h
  refine Ops.one 3 (by kernel_rfl) ((sliceD (X45 n).E.T [(.cells [(dP e39 a0.fLeft), (dP e39 a0.fRight), (dB a0.fBegin), (dB a0.fEnd)])] 37 (D.unt (dP e39 a1)) none (some ((dI a2))) none).map (·, [(.cells [(dP e39 a0.fLeft), (dP e39 a0.fRight), (dB a0.fBegin), (dB a0.fEnd)])])) (dP e39 v1) [(.cells [(dP e39 a0.fLeft), (dP e39 a0.fRight), (dB a0.fBegin), (dB a0.fEnd)])] ⟨(.v (.agg [(vP e39 a0.fLeft), (vP e39 a0.fRight), (vB a0.fBegin), (vB a0.fEnd)])) :: (dP e39 a1) :: (dI a2) :: (.ptr 0 0) :: u2 ((dB false) :: u2 ((dP e39 a1) :: (dI a2) :: (dP e39 v1) :: u40 (u13 []))), [(.cells [(dP e39 a0.fLeft), (dP e39 a0.fRight), (dB a0.fBegin), (dB a0.fEnd)])]⟩ (by kernel_rfl) (sub_r _ 37 40 2 .plain e39 a1 v1 none (some a2) rfl ev1 (by kernel_rfl) (by kernel_rfl) (fun _ => rfl)) (by kernel_rfl) ?_
  refine Ops.seg 3 6 (by kernel_rfl) ⟨(.v (.agg [(vP e39 a0.fLeft), (vP e39 a0.fRight), (vB a0.fBegin), (vB a0.fEnd)])) :: (dP e39 a1) :: (dI a2) :: (.ptr 0 0) :: u2 ((dB false) :: u2 ((dP e39 a1) :: (dI a2) :: (dP e39 v1) :: (dP e39 a1) :: (dI a2) :: (dI (w64 (a2 + 1))) :: u40 (u10 []))), [(.cells [(dP e39 a0.fLeft), (dP e39 a0.fRight), (dB a0.fBegin), (dB a0.fEnd)])]⟩ (by kernel_rfl) ?_
  obtain ⟨v2, ev2, h⟩ := bnd_some h
  refine Ops.one 7 (by kernel_rfl) ((sliceD (X45 n).E.T [(.cells [(dP e39 a0.fLeft), (dP e39 a0.fRight), (dB a0.fBegin), (dB a0.fEnd)])] 37 (D.unt (dP e39 a1)) (some ((dI (w64 (a2 + 1))))) none none).map (·, [(.cells [(dP e39 a0.fLeft), (dP e39 a0.fRight), (dB a0.fBegin), (dB a0.fEnd)])])) (dP e39 v2) [(.cells [(dP e39 a0.fLeft), (dP e39 a0.fRight), (dB a0.fBegin), (dB a0.fEnd)])] ⟨(.v (.agg [(vP e39 a0.fLeft), (vP e39 a0.fRight), (vB a0.fBegin), (vB a0.fEnd)])) :: (dP e39 a1) :: (dI a2) :: (.ptr 0 0) :: u2 ((dB false) :: u2 ((dP e39 a1) :: (dI a2) :: (dP e39 v1) :: (dP e39 a1) :: (dI a2) :: (dI (w64 (a2 + 1))) :: (dP e39 v2) :: u40 (u9 []))), [(.cells [(dP e39 a0.fLeft), (dP e39 a0.fRight), (dB a0.fBegin), (dB a0.fEnd)])]⟩ (by kernel_rfl) (sub_r _ 37 40 2 .plain e39 a1 v2 (some (w64 (a2 + 1))) none rfl ev2 (by kernel_rfl) (by kernel_rfl) (fun _ => rfl)) (by kernel_rfl) ?_
  refine Ops.seg 2 9 (by kernel_rfl) ⟨(.v (.agg [(vP e39 a0.fLeft), (vP e39 a0.fRight), (vB a0.fBegin), (vB a0.fEnd)])) :: (dP e39 a1) :: (dI a2) :: (.ptr 0 0) :: u2 ((dB false) :: (dP e39 v1) :: (dP e39 v2) :: (dP e39 a1) :: (dI a2) :: (dP e39 v1) :: (dP e39 a1) :: (dI a2) :: (dI (w64 (a2 + 1))) :: (dP e39 v2) :: u40 (u9 [])), [(.cells [(dP e39 a0.fLeft), (dP e39 a0.fRight), (dB a0.fBegin), (dB a0.fEnd)])]⟩ (by kernel_rfl) ?_
  refine Ops.done (by kernel_rfl) ?_
  refine seqQ.n ?_
  refine Wp.seq (subc [1, 1, 0] C45) (subc [1, 1, 1] C45) (by kernel_rfl) ?_
  refine Wp.seq (subc [1, 1, 0, 0] C45) (subc [1, 1, 0, 1] C45) (by kernel_rfl) ?_
  refine Wp.region (by kernel_rfl) ?_
  refine Ops.seg 2 2 (by kernel_rfl) ⟨(.v (.agg [(vP e39 a0.fLeft), (vP e39 a0.fRight), (vB a0.fBegin), (vB a0.fEnd)])) :: (dP e39 a1) :: (dI a2) :: (.ptr 0 0) :: u2 ((dB false) :: (dP e39 v1) :: (dP e39 v2) :: (dP e39 a1) :: (dI a2) :: (dP e39 v1) :: (dP e39 a1) :: (dI a2) :: (dI (w64 (a2 + 1))) :: (dP e39 v2) :: (.ptr 0 2) :: (dB a0.fBegin) :: u40 (u7 [])), [(.cells [(dP e39 a0.fLeft), (dP e39 a0.fRight), (dB a0.fBegin), (dB a0.fEnd)])]⟩ (by kernel_rfl) ?_
  refine Ops.done (by kernel_rfl) ?_
  refine seqQ.n ?_
  have J45j28 : ∀  (d3 : D) (d4 : D) (d5 : D) (d6 : D) (d7 : D) (d8 : D) (d9 : D) (d10 : D) (d11 : D) (d12 : D) (d13 : D) (d14 : D) (d15 : D) (d16 : D) (d17 : D) (d18 : D) (d19 : D) (d20 : D) (d21 : D) (d22 : D) (d23 : D) (d24 : D) (d25 : D) (d26 : D) (d27 : D), f45_j2 m a0 v2 = some o → (seqQ (X45 n) (subc [1, 1, 1] C45) (fnQ (X45 n).E.T (resOf Proofs.Try.prog 45) (eB o))) .normal ⟨(.v (.agg [(vP e39 a0.fLeft), (vP e39 a0.fRight), (vB a0.fBegin), (vB a0.fEnd)])) :: (dP e39 a1) :: (dI a2) :: (.ptr 0 0) :: u2 ((dB false) :: (dP e39 v1) :: (dP e39 v2) :: (dP e39 a1) :: (dI a2) :: (dP e39 v1) :: (dP e39 a1) :: (dI a2) :: (dI (w64 (a2 + 1))) :: (dP e39 v2) :: (.ptr 0 2) :: (dB a0.fBegin) :: d3 :: d4 :: d5 :: d6 :: d7 :: d8 :: d9 :: d10 :: d11 :: d12 :: d13 :: d14 :: d15 :: d16 :: d17 :: d18 :: d19 :: d20 :: d21 :: d22 :: d23 :: d24 :: d25 :: d26 :: d27 :: u22 []), [(.cells [(dP e39 a0.fLeft), (dP e39 a0.fRight), (dB a0.fBegin), (dB a0.fEnd)])]⟩ := by
    intro  d3 d4 d5 d6 d7 d8 d9 d10 d11 d12 d13 d14 d15 d16 d17 d18 d19 d20 d21 d22 d23 d24 d25 d26 d27 h
    unfold f45_j2 at h
    refine seqQ.n ?_
    refine Wp.seq (subc [1, 1, 1, 0] C45) (subc [1, 1, 1, 1] C45) (by kernel_rfl) ?_
    refine Wp.seq (subc [1, 1, 1, 0, 0] C45) (subc [1, 1, 1, 0, 1] C45) (by kernel_rfl) ?_
    refine Wp.region (by kernel_rfl) ?_
    refine Ops.seg 2 2 (by kernel_rfl) ⟨(.v (.agg [(vP e39 a0.fLeft), (vP e39 a0.fRight), (vB a0.fBegin), (vB a0.fEnd)])) :: (dP e39 a1) :: (dI a2) :: (.ptr 0 0) :: u2 ((dB false) :: (dP e39 v1) :: (dP e39 v2) :: (dP e39 a1) :: (dI a2) :: (dP e39 v1) :: (dP e39 a1) :: (dI a2) :: (dI (w64 (a2 + 1))) :: (dP e39 v2) :: (.ptr 0 2) :: (dB a0.fBegin) :: d3 :: d4 :: d5 :: d6 :: d7 :: d8 :: d9 :: d10 :: d11 :: d12 :: d13 :: d14 :: d15 :: d16 :: d17 :: d18 :: d19 :: d20 :: d21 :: d22 :: d23 :: d24 :: d25 :: d26 :: d27 :: (.ptr 0 3) :: (dB a0.fEnd) :: u20 []), [(.cells [(dP e39 a0.fLeft), (dP e39 a0.fRight), (dB a0.fBegin), (dB a0.fEnd)])]⟩ (by kernel_rfl) ?_
    refine Ops.done (by kernel_rfl) ?_
    refine seqQ.n ?_
    rcases cnd_some h with ⟨hb, h⟩ | ⟨hb, h⟩
    · refine Wp.cond a0.fEnd [3, 6, 8] (by kernel_rfl) 1 (by kernel_rfl) (subc [1, 1, 1, 0, 1, 0] C45) (subc [1, 1, 1, 0, 1, 1] C45) (by kernel_rfl) (by kernel_rfl) (fun _ => ?_) (fun e => nomatch (hb.symm.trans e))
      refine Wp.seq (subc [1, 1, 1, 0, 1, 0, 0] C45) (subc [1, 1, 1, 0, 1, 0, 1] C45) (by kernel_rfl) ?_
      refine Wp.region (by kernel_rfl) ?_
      refine Ops.seg 3 3 (by kernel_rfl) ⟨(.v (.agg [(vP e39 a0.fLeft), (vP e39 a0.fRight), (vB a0.fBegin), (vB a0.fEnd)])) :: (dP e39 a1) :: (dI a2) :: (.ptr 0 0) :: u2 ((dB false) :: (dP e39 v1) :: (dP e39 v2) :: (dP e39 a1) :: (dI a2) :: (dP e39 v1) :: (dP e39 a1) :: (dI a2) :: (dI (w64 (a2 + 1))) :: (dP e39 v2) :: (.ptr 0 2) :: (dB a0.fBegin) :: d3 :: d4 :: d5 :: d6 :: d7 :: d8 :: d9 :: d10 :: d11 :: d12 :: d13 :: d14 :: d15 :: d16 :: d17 :: d18 :: d19 :: d20 :: d21 :: d22 :: d23 :: d24 :: d25 :: d26 :: d27 :: (.ptr 0 3) :: (dB a0.fEnd) :: (.ptr 0 1) :: (dP e39 a0.fRight) :: (dP e39 v2) :: u17 []), [(.cells [(dP e39 a0.fLeft), (dP e39 a0.fRight), (dB a0.fBegin), (dB a0.fEnd)])]⟩ (by kernel_rfl) ?_
      obtain ⟨v29, ev29, h⟩ := bnd_some h
      refine Ops.one 4 (by kernel_rfl) (callD (X45 n).E (run Proofs.Try.prog E n) 47 [(dP e39 a0.fRight), (dP e39 v2)] [(.cells [(dP e39 a0.fLeft), (dP e39 a0.fRight), (dB a0.fBegin), (dB a0.fEnd)])]) (dB v29) [(.cells [(dP e39 a0.fLeft), (dP e39 a0.fRight), (dB a0.fBegin), (dB a0.fEnd)])] ⟨(.v (.agg [(vP e39 a0.fLeft), (vP e39 a0.fRight), (vB a0.fBegin), (vB a0.fEnd)])) :: (dP e39 a1) :: (dI a2) :: (.ptr 0 0) :: u2 ((dB false) :: (dP e39 v1) :: (dP e39 v2) :: (dP e39 a1) :: (dI a2) :: (dP e39 v1) :: (dP e39 a1) :: (dI a2) :: (dI (w64 (a2 + 1))) :: (dP e39 v2) :: (.ptr 0 2) :: (dB a0.fBegin) :: d3 :: d4 :: d5 :: d6 :: d7 :: d8 :: d9 :: d10 :: d11 :: d12 :: d13 :: d14 :: d15 :: d16 :: d17 :: d18 :: d19 :: d20 :: d21 :: d22 :: d23 :: d24 :: d25 :: d26 :: d27 :: (.ptr 0 3) :: (dB a0.fEnd) :: (.ptr 0 1) :: (dP e39 a0.fRight) :: (dP e39 v2) :: (dB v29) :: u16 []), [(.cells [(dP e39 a0.fLeft), (dP e39 a0.fRight), (dB a0.fBegin), (dB a0.fEnd)])]⟩ (by kernel_rfl) (call_ok (by kernel_rfl) (Args.v (vP e39 a0.fRight) ((eL e39) a0.fRight) (by kernel_rfl) (Args.v (vP e39 v2) ((eL e39) v2) (by kernel_rfl) Args.nil)) (ok47 m a0.fRight v2 v29 ev29 n (by omega))) (by kernel_rfl) ?_
      refine Ops.seg 1 5 (by kernel_rfl) ⟨(.v (.agg [(vP e39 a0.fLeft), (vP e39 a0.fRight), (vB a0.fBegin), (vB a0.fEnd)])) :: (dP e39 a1) :: (dI a2) :: (.ptr 0 0) :: u2 ((dB v29) :: (dP e39 v1) :: (dP e39 v2) :: (dP e39 a1) :: (dI a2) :: (dP e39 v1) :: (dP e39 a1) :: (dI a2) :: (dI (w64 (a2 + 1))) :: (dP e39 v2) :: (.ptr 0 2) :: (dB a0.fBegin) :: d3 :: d4 :: d5 :: d6 :: d7 :: d8 :: d9 :: d10 :: d11 :: d12 :: d13 :: d14 :: d15 :: d16 :: d17 :: d18 :: d19 :: d20 :: d21 :: d22 :: d23 :: d24 :: d25 :: d26 :: d27 :: (.ptr 0 3) :: (dB a0.fEnd) :: (.ptr 0 1) :: (dP e39 a0.fRight) :: (dP e39 v2) :: (dB v29) :: u16 []), [(.cells [(dP e39 a0.fLeft), (dP e39 a0.fRight), (dB a0.fBegin), (dB a0.fEnd)])]⟩ (by kernel_rfl) ?_
      refine Ops.done (by kernel_rfl) ?_
      refine seqQ.n ?_
      refine Wp.ret (by kernel_rfl) ?_
      refine sqQ.r ?_
      refine seqQ.r ?_
      exact fnQ.r' (X45 n) (fun z => (eB z)) h (RetOk.mk' (dB v29) (by kernel_rfl) (by kernel_rfl))
    · refine Wp.cond a0.fEnd [3, 6, 8] (by kernel_rfl) 1 (by kernel_rfl) (subc [1, 1, 1, 0, 1, 0] C45) (subc [1, 1, 1, 0, 1, 1] C45) (by kernel_rfl) (by kernel_rfl) (fun e => nomatch (hb.symm.trans e)) (fun _ => ?_)
      refine Wp.skip (by kernel_rfl) ?_
      refine sqQ.n ⟨(.v (.agg [(vP e39 a0.fLeft), (vP e39 a0.fRight), (vB a0.fBegin), (vB a0.fEnd)])) :: (dP e39 a1) :: (dI a2) :: (.ptr 0 0) :: u2 ((dB false) :: (dP e39 v1) :: (dP e39 v2) :: (dP e39 a1) :: (dI a2) :: (dP e39 v1) :: (dP e39 a1) :: (dI a2) :: (dI (w64 (a2 + 1))) :: (dP e39 v2) :: (.ptr 0 2) :: (dB a0.fBegin) :: d3 :: d4 :: d5 :: d6 :: d7 :: d8 :: d9 :: d10 :: d11 :: d12 :: d13 :: d14 :: d15 :: d16 :: d17 :: d18 :: d19 :: d20 :: d21 :: d22 :: d23 :: d24 :: d25 :: d26 :: d27 :: (.ptr 0 3) :: (dB a0.fEnd) :: u20 []), [(.cells [(dP e39 a0.fLeft), (dP e39 a0.fRight), (dB a0.fBegin), (dB a0.fEnd)])]⟩ (by kernel_rfl) ?_
      refine seqQ.n ?_
      refine Wp.seq (subc [1, 1, 1, 1, 0] C45) (subc [1, 1, 1, 1, 1] C45) (by kernel_rfl) ?_
      refine Wp.region (by kernel_rfl) ?_
      refine Ops.seg 1 1 (by kernel_rfl) ⟨(.v (.agg [(vP e39 a0.fLeft), (vP e39 a0.fRight), (vB a0.fBegin), (vB a0.fEnd)])) :: (dP e39 a1) :: (dI a2) :: (.ptr 0 0) :: u2 ((dB false) :: (dP e39 v1) :: (dP e39 v2) :: (dP e39 a1) :: (dI a2) :: (dP e39 v1) :: (dP e39 a1) :: (dI a2) :: (dI (w64 (a2 + 1))) :: (dP e39 v2) :: (.ptr 0 2) :: (dB a0.fBegin) :: d3 :: d4 :: d5 :: d6 :: d7 :: d8 :: d9 :: d10 :: d11 :: d12 :: d13 :: d14 :: d15 :: d16 :: d17 :: d18 :: d19 :: d20 :: d21 :: d22 :: d23 :: d24 :: d25 :: d26 :: d27 :: (.ptr 0 3) :: (dB a0.fEnd) :: u4 ((dP e39 v2) :: u15 [])), [(.cells [(dP e39 a0.fLeft), (dP e39 a0.fRight), (dB a0.fBegin), (dB a0.fEnd)])]⟩ (by kernel_rfl) ?_
      refine Ops.one 2 (by kernel_rfl) ((lenD (X45 n).E.T 37 (D.unt (dP e39 v2))).map (·, [(.cells [(dP e39 a0.fLeft), (dP e39 a0.fRight), (dB a0.fBegin), (dB a0.fEnd)])])) (dI ((v2.length : Int))) [(.cells [(dP e39 a0.fLeft), (dP e39 a0.fRight), (dB a0.fBegin), (dB a0.fEnd)])] ⟨(.v (.agg [(vP e39 a0.fLeft), (vP e39 a0.fRight), (vB a0.fBegin), (vB a0.fEnd)])) :: (dP e39 a1) :: (dI a2) :: (.ptr 0 0) :: u2 ((dB false) :: (dP e39 v1) :: (dP e39 v2) :: (dP e39 a1) :: (dI a2) :: (dP e39 v1) :: (dP e39 a1) :: (dI a2) :: (dI (w64 (a2 + 1))) :: (dP e39 v2) :: (.ptr 0 2) :: (dB a0.fBegin) :: d3 :: d4 :: d5 :: d6 :: d7 :: d8 :: d9 :: d10 :: d11 :: d12 :: d13 :: d14 :: d15 :: d16 :: d17 :: d18 :: d19 :: d20 :: d21 :: d22 :: d23 :: d24 :: d25 :: d26 :: d27 :: (.ptr 0 3) :: (dB a0.fEnd) :: u4 ((dP e39 v2) :: (dI ((v2.length : Int))) :: u14 [])), [(.cells [(dP e39 a0.fLeft), (dP e39 a0.fRight), (dB a0.fBegin), (dB a0.fEnd)])]⟩ (by kernel_rfl) (len_r _ 37 40 .plain e39 v2 (by kernel_rfl)) (by kernel_rfl) ?_
      refine Ops.seg 2 4 (by kernel_rfl) ⟨(.v (.agg [(vP e39 a0.fLeft), (vP e39 a0.fRight), (vB a0.fBegin), (vB a0.fEnd)])) :: (dP e39 a1) :: (dI a2) :: (.ptr 0 0) :: u2 ((dB false) :: (dP e39 v1) :: (dP e39 v2) :: (dP e39 a1) :: (dI a2) :: (dP e39 v1) :: (dP e39 a1) :: (dI a2) :: (dI (w64 (a2 + 1))) :: (dP e39 v2) :: (.ptr 0 2) :: (dB a0.fBegin) :: d3 :: d4 :: d5 :: d6 :: d7 :: d8 :: d9 :: d10 :: d11 :: d12 :: d13 :: d14 :: d15 :: d16 :: d17 :: d18 :: d19 :: d20 :: d21 :: d22 :: d23 :: d24 :: d25 :: d26 :: d27 :: (.ptr 0 3) :: (dB a0.fEnd) :: u4 ((dP e39 v2) :: (dI ((v2.length : Int))) :: (.ptr 0 1) :: (dP e39 a0.fRight) :: u12 [])), [(.cells [(dP e39 a0.fLeft), (dP e39 a0.fRight), (dB a0.fBegin), (dB a0.fEnd)])]⟩ (by kernel_rfl) ?_
      refine Ops.one 5 (by kernel_rfl) ((lenD (X45 n).E.T 37 (D.unt (dP e39 a0.fRight))).map (·, [(.cells [(dP e39 a0.fLeft), (dP e39 a0.fRight), (dB a0.fBegin), (dB a0.fEnd)])])) (dI ((a0.fRight.length : Int))) [(.cells [(dP e39 a0.fLeft), (dP e39 a0.fRight), (dB a0.fBegin), (dB a0.fEnd)])] ⟨(.v (.agg [(vP e39 a0.fLeft), (vP e39 a0.fRight), (vB a0.fBegin), (vB a0.fEnd)])) :: (dP e39 a1) :: (dI a2) :: (.ptr 0 0) :: u2 ((dB false) :: (dP e39 v1) :: (dP e39 v2) :: (dP e39 a1) :: (dI a2) :: (dP e39 v1) :: (dP e39 a1) :: (dI a2) :: (dI (w64 (a2 + 1))) :: (dP e39 v2) :: (.ptr 0 2) :: (dB a0.fBegin) :: d3 :: d4 :: d5 :: d6 :: d7 :: d8 :: d9 :: d10 :: d11 :: d12 :: d13 :: d14 :: d15 :: d16 :: d17 :: d18 :: d19 :: d20 :: d21 :: d22 :: d23 :: d24 :: d25 :: d26 :: d27 :: (.ptr 0 3) :: (dB a0.fEnd) :: u4 ((dP e39 v2) :: (dI ((v2.length : Int))) :: (.ptr 0 1) :: (dP e39 a0.fRight) :: (dI ((a0.fRight.length : Int))) :: u11 [])), [(.cells [(dP e39 a0.fLeft), (dP e39 a0.fRight), (dB a0.fBegin), (dB a0.fEnd)])]⟩ (by kernel_rfl) (len_r _ 37 40 .plain e39 a0.fRight (by kernel_rfl)) (by kernel_rfl) ?_
      refine Ops.seg 2 7 (by kernel_rfl) ⟨(.v (.agg [(vP e39 a0.fLeft), (vP e39 a0.fRight), (vB a0.fBegin), (vB a0.fEnd)])) :: (dP e39 a1) :: (dI a2) :: (.ptr 0 0) :: u2 ((dB false) :: (dP e39 v1) :: (dP e39 v2) :: (dP e39 a1) :: (dI a2) :: (dP e39 v1) :: (dP e39 a1) :: (dI a2) :: (dI (w64 (a2 + 1))) :: (dP e39 v2) :: (.ptr 0 2) :: (dB a0.fBegin) :: d3 :: d4 :: d5 :: d6 :: d7 :: d8 :: d9 :: d10 :: d11 :: d12 :: d13 :: d14 :: d15 :: d16 :: d17 :: d18 :: d19 :: d20 :: d21 :: d22 :: d23 :: d24 :: d25 :: d26 :: d27 :: (.ptr 0 3) :: (dB a0.fEnd) :: u4 ((dP e39 v2) :: (dI ((v2.length : Int))) :: (.ptr 0 1) :: (dP e39 a0.fRight) :: (dI ((a0.fRight.length : Int))) :: (dB (decide ((v2.length : Int) ≥ (a0.fRight.length : Int)))) :: (dB (decide ((v2.length : Int) ≥ (a0.fRight.length : Int)))) :: u9 [])), [(.cells [(dP e39 a0.fLeft), (dP e39 a0.fRight), (dB a0.fBegin), (dB a0.fEnd)])]⟩ (by kernel_rfl) ?_
      have J45j42 : ∀ (d32 d33 d34 d35 d36 d37 d38 d39 : D) (v40 : Bool) (v41 : Bool), f45_r1 m v41 = some o → Ops (X45 n) (opl (subc [1, 1, 1, 1, 0] C45)) 16 ⟨(.v (.agg [(vP e39 a0.fLeft), (vP e39 a0.fRight), (vB a0.fBegin), (vB a0.fEnd)])) :: (dP e39 a1) :: (dI a2) :: (.ptr 0 0) :: u2 ((dB false) :: (dP e39 v1) :: (dP e39 v2) :: (dP e39 a1) :: (dI a2) :: (dP e39 v1) :: (dP e39 a1) :: (dI a2) :: (dI (w64 (a2 + 1))) :: (dP e39 v2) :: (.ptr 0 2) :: (dB a0.fBegin) :: d3 :: d4 :: d5 :: d6 :: d7 :: d8 :: d9 :: d10 :: d11 :: d12 :: d13 :: d14 :: d15 :: d16 :: d17 :: d18 :: d19 :: d20 :: d21 :: d22 :: d23 :: d24 :: d25 :: d26 :: d27 :: (.ptr 0 3) :: (dB a0.fEnd) :: u4 ((dP e39 v2) :: (dI ((v2.length : Int))) :: (.ptr 0 1) :: (dP e39 a0.fRight) :: (dI ((a0.fRight.length : Int))) :: (dB v40) :: (dB v40) :: d32 :: d33 :: d34 :: d35 :: d36 :: d37 :: d38 :: d39 :: (dB v41) :: [])), [(.cells [(dP e39 a0.fLeft), (dP e39 a0.fRight), (dB a0.fBegin), (dB a0.fEnd)])]⟩ ((seqQ (X45 n) (subc [1, 1, 1, 1, 1] C45) (fnQ (X45 n).E.T (resOf Proofs.Try.prog 45) (eB o))) .normal) := by
        intro d32 d33 d34 d35 d36 d37 d38 d39 v40 v41 h
        unfold f45_r1 at h
        refine Ops.seg 1 17 (by kernel_rfl) ⟨(.v (.agg [(vP e39 a0.fLeft), (vP e39 a0.fRight), (vB a0.fBegin), (vB a0.fEnd)])) :: (dP e39 a1) :: (dI a2) :: (.ptr 0 0) :: u2 ((dB v41) :: (dP e39 v1) :: (dP e39 v2) :: (dP e39 a1) :: (dI a2) :: (dP e39 v1) :: (dP e39 a1) :: (dI a2) :: (dI (w64 (a2 + 1))) :: (dP e39 v2) :: (.ptr 0 2) :: (dB a0.fBegin) :: d3 :: d4 :: d5 :: d6 :: d7 :: d8 :: d9 :: d10 :: d11 :: d12 :: d13 :: d14 :: d15 :: d16 :: d17 :: d18 :: d19 :: d20 :: d21 :: d22 :: d23 :: d24 :: d25 :: d26 :: d27 :: (.ptr 0 3) :: (dB a0.fEnd) :: u4 ((dP e39 v2) :: (dI ((v2.length : Int))) :: (.ptr 0 1) :: (dP e39 a0.fRight) :: (dI ((a0.fRight.length : Int))) :: (dB v40) :: (dB v40) :: d32 :: d33 :: d34 :: d35 :: d36 :: d37 :: d38 :: d39 :: (dB v41) :: [])), [(.cells [(dP e39 a0.fLeft), (dP e39 a0.fRight), (dB a0.fBegin), (dB a0.fEnd)])]⟩ (by kernel_rfl) ?_
        refine Ops.done (by kernel_rfl) ?_
        refine seqQ.n ?_
        refine Wp.ret (by kernel_rfl) ?_
        exact fnQ.r' (X45 n) (fun z => (eB z)) h (RetOk.mk' (dB v41) (by kernel_rfl) (by kernel_rfl))
      obtain ⟨v41, ev41, h⟩ := bnd_some h
      have G45g31 : ∀ v30 : Bool, (cnd v30 (bnd (sub v2 0 ((a0.fRight.length : Int))) fun v43 => bnd (f47 m a0.fRight v43) fun v44 => some v44) (some false)) = some v41 → Ops (X45 n) (opl (subc [1, 1, 1, 1, 0] C45)) 7 ⟨(.v (.agg [(vP e39 a0.fLeft), (vP e39 a0.fRight), (vB a0.fBegin), (vB a0.fEnd)])) :: (dP e39 a1) :: (dI a2) :: (.ptr 0 0) :: u2 ((dB false) :: (dP e39 v1) :: (dP e39 v2) :: (dP e39 a1) :: (dI a2) :: (dP e39 v1) :: (dP e39 a1) :: (dI a2) :: (dI (w64 (a2 + 1))) :: (dP e39 v2) :: (.ptr 0 2) :: (dB a0.fBegin) :: d3 :: d4 :: d5 :: d6 :: d7 :: d8 :: d9 :: d10 :: d11 :: d12 :: d13 :: d14 :: d15 :: d16 :: d17 :: d18 :: d19 :: d20 :: d21 :: d22 :: d23 :: d24 :: d25 :: d26 :: d27 :: (.ptr 0 3) :: (dB a0.fEnd) :: u4 ((dP e39 v2) :: (dI ((v2.length : Int))) :: (.ptr 0 1) :: (dP e39 a0.fRight) :: (dI ((a0.fRight.length : Int))) :: (dB v30) :: (dB v30) :: u9 [])), [(.cells [(dP e39 a0.fLeft), (dP e39 a0.fRight), (dB a0.fBegin), (dB a0.fEnd)])]⟩ ((seqQ (X45 n) (subc [1, 1, 1, 1, 1] C45) (fnQ (X45 n).E.T (resOf Proofs.Try.prog 45) (eB o))) .normal) := by
        intro v30 ev41
        cases v30
        · have ev41 := cnd_f ev41
          refine Ops.seg 9 16 (by kernel_rfl) ⟨(.v (.agg [(vP e39 a0.fLeft), (vP e39 a0.fRight), (vB a0.fBegin), (vB a0.fEnd)])) :: (dP e39 a1) :: (dI a2) :: (.ptr 0 0) :: u2 ((dB false) :: (dP e39 v1) :: (dP e39 v2) :: (dP e39 a1) :: (dI a2) :: (dP e39 v1) :: (dP e39 a1) :: (dI a2) :: (dI (w64 (a2 + 1))) :: (dP e39 v2) :: (.ptr 0 2) :: (dB a0.fBegin) :: d3 :: d4 :: d5 :: d6 :: d7 :: d8 :: d9 :: d10 :: d11 :: d12 :: d13 :: d14 :: d15 :: d16 :: d17 :: d18 :: d19 :: d20 :: d21 :: d22 :: d23 :: d24 :: d25 :: d26 :: d27 :: (.ptr 0 3) :: (dB a0.fEnd) :: u4 ((dP e39 v2) :: (dI ((v2.length : Int))) :: (.ptr 0 1) :: (dP e39 a0.fRight) :: (dI ((a0.fRight.length : Int))) :: (dB false) :: (dB false) :: u8 ((dB false) :: []))), [(.cells [(dP e39 a0.fLeft), (dP e39 a0.fRight), (dB a0.fBegin), (dB a0.fEnd)])]⟩ (by kernel_rfl) ?_
          exact J45j42 _ _ _ _ _ _ _ _ _ _ (some_sub (fun v41 => f45_r1 m v41 = some o) ev41 h)
        · have ev41 := cnd_t ev41
          refine Ops.seg 5 12 (by kernel_rfl) ⟨(.v (.agg [(vP e39 a0.fLeft), (vP e39 a0.fRight), (vB a0.fBegin), (vB a0.fEnd)])) :: (dP e39 a1) :: (dI a2) :: (.ptr 0 0) :: u2 ((dB false) :: (dP e39 v1) :: (dP e39 v2) :: (dP e39 a1) :: (dI a2) :: (dP e39 v1) :: (dP e39 a1) :: (dI a2) :: (dI (w64 (a2 + 1))) :: (dP e39 v2) :: (.ptr 0 2) :: (dB a0.fBegin) :: d3 :: d4 :: d5 :: d6 :: d7 :: d8 :: d9 :: d10 :: d11 :: d12 :: d13 :: d14 :: d15 :: d16 :: d17 :: d18 :: d19 :: d20 :: d21 :: d22 :: d23 :: d24 :: d25 :: d26 :: d27 :: (.ptr 0 3) :: (dB a0.fEnd) :: u4 ((dP e39 v2) :: (dI ((v2.length : Int))) :: (.ptr 0 1) :: (dP e39 a0.fRight) :: (dI ((a0.fRight.length : Int))) :: (dB true) :: (dB true) :: (.ptr 0 1) :: (dP e39 a0.fRight) :: (dP e39 v2) :: (.ptr 0 1) :: (dP e39 a0.fRight) :: u4 [])), [(.cells [(dP e39 a0.fLeft), (dP e39 a0.fRight), (dB a0.fBegin), (dB a0.fEnd)])]⟩ (by kernel_rfl) ?_
          refine Ops.one 13 (by kernel_rfl) ((lenD (X45 n).E.T 37 (D.unt (dP e39 a0.fRight))).map (·, [(.cells [(dP e39 a0.fLeft), (dP e39 a0.fRight), (dB a0.fBegin), (dB a0.fEnd)])])) (dI ((a0.fRight.length : Int))) [(.cells [(dP e39 a0.fLeft), (dP e39 a0.fRight), (dB a0.fBegin), (dB a0.fEnd)])] ⟨(.v (.agg [(vP e39 a0.fLeft), (vP e39 a0.fRight), (vB a0.fBegin), (vB a0.fEnd)])) :: (dP e39 a1) :: (dI a2) :: (.ptr 0 0) :: u2 ((dB false) :: (dP e39 v1) :: (dP e39 v2) :: (dP e39 a1) :: (dI a2) :: (dP e39 v1) :: (dP e39 a1) :: (dI a2) :: (dI (w64 (a2 + 1))) :: (dP e39 v2) :: (.ptr 0 2) :: (dB a0.fBegin) :: d3 :: d4 :: d5 :: d6 :: d7 :: d8 :: d9 :: d10 :: d11 :: d12 :: d13 :: d14 :: d15 :: d16 :: d17 :: d18 :: d19 :: d20 :: d21 :: d22 :: d23 :: d24 :: d25 :: d26 :: d27 :: (.ptr 0 3) :: (dB a0.fEnd) :: u4 ((dP e39 v2) :: (dI ((v2.length : Int))) :: (.ptr 0 1) :: (dP e39 a0.fRight) :: (dI ((a0.fRight.length : Int))) :: (dB true) :: (dB true) :: (.ptr 0 1) :: (dP e39 a0.fRight) :: (dP e39 v2) :: (.ptr 0 1) :: (dP e39 a0.fRight) :: (dI ((a0.fRight.length : Int))) :: u3 [])), [(.cells [(dP e39 a0.fLeft), (dP e39 a0.fRight), (dB a0.fBegin), (dB a0.fEnd)])]⟩ (by kernel_rfl) (len_r _ 37 40 .plain e39 a0.fRight (by kernel_rfl)) (by kernel_rfl) ?_
          obtain ⟨v43, ev43, ev41⟩ := bnd_some ev41
          refine Ops.one 14 (by kernel_rfl) ((sliceD (X45 n).E.T [(.cells [(dP e39 a0.fLeft), (dP e39 a0.fRight), (dB a0.fBegin), (dB a0.fEnd)])] 37 (D.unt (dP e39 v2)) none (some ((dI ((a0.fRight.length : Int))))) none).map (·, [(.cells [(dP e39 a0.fLeft), (dP e39 a0.fRight), (dB a0.fBegin), (dB a0.fEnd)])])) (dP e39 v43) [(.cells [(dP e39 a0.fLeft), (dP e39 a0.fRight), (dB a0.fBegin), (dB a0.fEnd)])] ⟨(.v (.agg [(vP e39 a0.fLeft), (vP e39 a0.fRight), (vB a0.fBegin), (vB a0.fEnd)])) :: (dP e39 a1) :: (dI a2) :: (.ptr 0 0) :: u2 ((dB false) :: (dP e39 v1) :: (dP e39 v2) :: (dP e39 a1) :: (dI a2) :: (dP e39 v1) :: (dP e39 a1) :: (dI a2) :: (dI (w64 (a2 + 1))) :: (dP e39 v2) :: (.ptr 0 2) :: (dB a0.fBegin) :: d3 :: d4 :: d5 :: d6 :: d7 :: d8 :: d9 :: d10 :: d11 :: d12 :: d13 :: d14 :: d15 :: d16 :: d17 :: d18 :: d19 :: d20 :: d21 :: d22 :: d23 :: d24 :: d25 :: d26 :: d27 :: (.ptr 0 3) :: (dB a0.fEnd) :: u4 ((dP e39 v2) :: (dI ((v2.length : Int))) :: (.ptr 0 1) :: (dP e39 a0.fRight) :: (dI ((a0.fRight.length : Int))) :: (dB true) :: (dB true) :: (.ptr 0 1) :: (dP e39 a0.fRight) :: (dP e39 v2) :: (.ptr 0 1) :: (dP e39 a0.fRight) :: (dI ((a0.fRight.length : Int))) :: (dP e39 v43) :: u2 [])), [(.cells [(dP e39 a0.fLeft), (dP e39 a0.fRight), (dB a0.fBegin), (dB a0.fEnd)])]⟩ (by kernel_rfl) (sub_r _ 37 40 2 .plain e39 v2 v43 none (some ((a0.fRight.length : Int))) rfl ev43 (by kernel_rfl) (by kernel_rfl) (fun _ => rfl)) (by kernel_rfl) ?_
          obtain ⟨v44, ev44, ev41⟩ := bnd_some ev41
          refine Ops.one 15 (by kernel_rfl) (callD (X45 n).E (run Proofs.Try.prog E n) 47 [(dP e39 a0.fRight), (dP e39 v43)] [(.cells [(dP e39 a0.fLeft), (dP e39 a0.fRight), (dB a0.fBegin), (dB a0.fEnd)])]) (dB v44) [(.cells [(dP e39 a0.fLeft), (dP e39 a0.fRight), (dB a0.fBegin), (dB a0.fEnd)])] ⟨(.v (.agg [(vP e39 a0.fLeft), (vP e39 a0.fRight), (vB a0.fBegin), (vB a0.fEnd)])) :: (dP e39 a1) :: (dI a2) :: (.ptr 0 0) :: u2 ((dB false) :: (dP e39 v1) :: (dP e39 v2) :: (dP e39 a1) :: (dI a2) :: (dP e39 v1) :: (dP e39 a1) :: (dI a2) :: (dI (w64 (a2 + 1))) :: (dP e39 v2) :: (.ptr 0 2) :: (dB a0.fBegin) :: d3 :: d4 :: d5 :: d6 :: d7 :: d8 :: d9 :: d10 :: d11 :: d12 :: d13 :: d14 :: d15 :: d16 :: d17 :: d18 :: d19 :: d20 :: d21 :: d22 :: d23 :: d24 :: d25 :: d26 :: d27 :: (.ptr 0 3) :: (dB a0.fEnd) :: u4 ((dP e39 v2) :: (dI ((v2.length : Int))) :: (.ptr 0 1) :: (dP e39 a0.fRight) :: (dI ((a0.fRight.length : Int))) :: (dB true) :: (dB true) :: (.ptr 0 1) :: (dP e39 a0.fRight) :: (dP e39 v2) :: (.ptr 0 1) :: (dP e39 a0.fRight) :: (dI ((a0.fRight.length : Int))) :: (dP e39 v43) :: (dB v44) :: u1 [])), [(.cells [(dP e39 a0.fLeft), (dP e39 a0.fRight), (dB a0.fBegin), (dB a0.fEnd)])]⟩ (by kernel_rfl) (call_ok (by kernel_rfl) (Args.v (vP e39 a0.fRight) ((eL e39) a0.fRight) (by kernel_rfl) (Args.v (vP e39 v43) ((eL e39) v43) (by kernel_rfl) Args.nil)) (ok47 m a0.fRight v43 v44 ev44 n (by omega))) (by kernel_rfl) ?_
          refine Ops.seg 1 16 (by kernel_rfl) ⟨(.v (.agg [(vP e39 a0.fLeft), (vP e39 a0.fRight), (vB a0.fBegin), (vB a0.fEnd)])) :: (dP e39 a1) :: (dI a2) :: (.ptr 0 0) :: u2 ((dB false) :: (dP e39 v1) :: (dP e39 v2) :: (dP e39 a1) :: (dI a2) :: (dP e39 v1) :: (dP e39 a1) :: (dI a2) :: (dI (w64 (a2 + 1))) :: (dP e39 v2) :: (.ptr 0 2) :: (dB a0.fBegin) :: d3 :: d4 :: d5 :: d6 :: d7 :: d8 :: d9 :: d10 :: d11 :: d12 :: d13 :: d14 :: d15 :: d16 :: d17 :: d18 :: d19 :: d20 :: d21 :: d22 :: d23 :: d24 :: d25 :: d26 :: d27 :: (.ptr 0 3) :: (dB a0.fEnd) :: u4 ((dP e39 v2) :: (dI ((v2.length : Int))) :: (.ptr 0 1) :: (dP e39 a0.fRight) :: (dI ((a0.fRight.length : Int))) :: (dB true) :: (dB true) :: (.ptr 0 1) :: (dP e39 a0.fRight) :: (dP e39 v2) :: (.ptr 0 1) :: (dP e39 a0.fRight) :: (dI ((a0.fRight.length : Int))) :: (dP e39 v43) :: (dB v44) :: (dB v44) :: [])), [(.cells [(dP e39 a0.fLeft), (dP e39 a0.fRight), (dB a0.fBegin), (dB a0.fEnd)])]⟩ (by kernel_rfl) ?_
          exact J45j42 _ _ _ _ _ _ _ _ _ _ (some_sub (fun v41 => f45_r1 m v41 = some o) ev41 h)
      exact G45g31 (decide ((v2.length : Int) ≥ (a0.fRight.length : Int))) ev41
  rcases cnd_some h with ⟨hb, h⟩ | ⟨hb, h⟩
  · refine Wp.cond a0.fBegin [3, 6, 8] (by kernel_rfl) 1 (by kernel_rfl) (subc [1, 1, 0, 1, 0] C45) (subc [1, 1, 0, 1, 1] C45) (by kernel_rfl) (by kernel_rfl) (fun _ => ?_) (fun e => nomatch (hb.symm.trans e))
    refine Wp.seq (subc [1, 1, 0, 1, 0, 0] C45) (subc [1, 1, 0, 1, 0, 1] C45) (by kernel_rfl) ?_
    refine Wp.region (by kernel_rfl) ?_
    refine Ops.seg 3 3 (by kernel_rfl) ⟨(.v (.agg [(vP e39 a0.fLeft), (vP e39 a0.fRight), (vB a0.fBegin), (vB a0.fEnd)])) :: (dP e39 a1) :: (dI a2) :: (.ptr 0 0) :: u2 ((dB false) :: (dP e39 v1) :: (dP e39 v2) :: (dP e39 a1) :: (dI a2) :: (dP e39 v1) :: (dP e39 a1) :: (dI a2) :: (dI (w64 (a2 + 1))) :: (dP e39 v2) :: (.ptr 0 2) :: (dB a0.fBegin) :: (.ptr 0 0) :: (dP e39 a0.fLeft) :: (dP e39 v1) :: u40 (u4 [])), [(.cells [(dP e39 a0.fLeft), (dP e39 a0.fRight), (dB a0.fBegin), (dB a0.fEnd)])]⟩ (by kernel_rfl) ?_
    obtain ⟨v45, ev45, h⟩ := bnd_some h
    refine Ops.one 4 (by kernel_rfl) (callD (X45 n).E (run Proofs.Try.prog E n) 47 [(dP e39 a0.fLeft), (dP e39 v1)] [(.cells [(dP e39 a0.fLeft), (dP e39 a0.fRight), (dB a0.fBegin), (dB a0.fEnd)])]) (dB v45) [(.cells [(dP e39 a0.fLeft), (dP e39 a0.fRight), (dB a0.fBegin), (dB a0.fEnd)])] ⟨(.v (.agg [(vP e39 a0.fLeft), (vP e39 a0.fRight), (vB a0.fBegin), (vB a0.fEnd)])) :: (dP e39 a1) :: (dI a2) :: (.ptr 0 0) :: u2 ((dB false) :: (dP e39 v1) :: (dP e39 v2) :: (dP e39 a1) :: (dI a2) :: (dP e39 v1) :: (dP e39 a1) :: (dI a2) :: (dI (w64 (a2 + 1))) :: (dP e39 v2) :: (.ptr 0 2) :: (dB a0.fBegin) :: (.ptr 0 0) :: (dP e39 a0.fLeft) :: (dP e39 v1) :: (dB v45) :: u40 (u3 [])), [(.cells [(dP e39 a0.fLeft), (dP e39 a0.fRight), (dB a0.fBegin), (dB a0.fEnd)])]⟩ (by kernel_rfl) (call_ok (by kernel_rfl) (Args.v (vP e39 a0.fLeft) ((eL e39) a0.fLeft) (by kernel_rfl) (Args.v (vP e39 v1) ((eL e39) v1) (by kernel_rfl) Args.nil)) (ok47 m a0.fLeft v1 v45 ev45 n (by omega))) (by kernel_rfl) ?_
    refine Ops.seg 1 5 (by kernel_rfl) ⟨(.v (.agg [(vP e39 a0.fLeft), (vP e39 a0.fRight), (vB a0.fBegin), (vB a0.fEnd)])) :: (dP e39 a1) :: (dI a2) :: (.ptr 0 0) :: u2 ((dB false) :: (dP e39 v1) :: (dP e39 v2) :: (dP e39 a1) :: (dI a2) :: (dP e39 v1) :: (dP e39 a1) :: (dI a2) :: (dI (w64 (a2 + 1))) :: (dP e39 v2) :: (.ptr 0 2) :: (dB a0.fBegin) :: (.ptr 0 0) :: (dP e39 a0.fLeft) :: (dP e39 v1) :: (dB v45) :: (dB (!v45)) :: u40 (u2 [])), [(.cells [(dP e39 a0.fLeft), (dP e39 a0.fRight), (dB a0.fBegin), (dB a0.fEnd)])]⟩ (by kernel_rfl) ?_
    refine Ops.done (by kernel_rfl) ?_
    refine seqQ.n ?_
    rcases cnd_some h with ⟨hb, h⟩ | ⟨hb, h⟩
    · refine Wp.cond (!v45) [3, 6, 8] (by kernel_rfl) 1 (by kernel_rfl) (subc [1, 1, 0, 1, 0, 1, 0] C45) (subc [1, 1, 0, 1, 0, 1, 1] C45) (by kernel_rfl) (by kernel_rfl) (fun _ => ?_) (fun e => nomatch (hb.symm.trans e))
      refine Wp.seq (subc [1, 1, 0, 1, 0, 1, 0, 0] C45) (subc [1, 1, 0, 1, 0, 1, 0, 1] C45) (by kernel_rfl) ?_
      refine Wp.region (by kernel_rfl) ?_
      refine Ops.seg 1 1 (by kernel_rfl) ⟨(.v (.agg [(vP e39 a0.fLeft), (vP e39 a0.fRight), (vB a0.fBegin), (vB a0.fEnd)])) :: (dP e39 a1) :: (dI a2) :: (.ptr 0 0) :: u2 ((dB false) :: (dP e39 v1) :: (dP e39 v2) :: (dP e39 a1) :: (dI a2) :: (dP e39 v1) :: (dP e39 a1) :: (dI a2) :: (dI (w64 (a2 + 1))) :: (dP e39 v2) :: (.ptr 0 2) :: (dB a0.fBegin) :: (.ptr 0 0) :: (dP e39 a0.fLeft) :: (dP e39 v1) :: (dB v45) :: (dB (!v45)) :: u40 (u2 [])), [(.cells [(dP e39 a0.fLeft), (dP e39 a0.fRight), (dB a0.fBegin), (dB a0.fEnd)])]⟩ (by kernel_rfl) ?_
      refine Ops.done (by kernel_rfl) ?_
      refine seqQ.n ?_
      refine Wp.ret (by kernel_rfl) ?_
      refine sqQ.r ?_
      refine sqQ.r ?_
      refine seqQ.r ?_
      exact fnQ.r' (X45 n) (fun z => (eB z)) h (RetOk.mk' (dB false) (by kernel_rfl) (by kernel_rfl))
    · refine Wp.cond (!v45) [3, 6, 8] (by kernel_rfl) 1 (by kernel_rfl) (subc [1, 1, 0, 1, 0, 1, 0] C45) (subc [1, 1, 0, 1, 0, 1, 1] C45) (by kernel_rfl) (by kernel_rfl) (fun e => nomatch (hb.symm.trans e)) (fun _ => ?_)
      refine Wp.skip (by kernel_rfl) ?_
      refine sqQ.n ⟨(.v (.agg [(vP e39 a0.fLeft), (vP e39 a0.fRight), (vB a0.fBegin), (vB a0.fEnd)])) :: (dP e39 a1) :: (dI a2) :: (.ptr 0 0) :: u2 ((dB false) :: (dP e39 v1) :: (dP e39 v2) :: (dP e39 a1) :: (dI a2) :: (dP e39 v1) :: (dP e39 a1) :: (dI a2) :: (dI (w64 (a2 + 1))) :: (dP e39 v2) :: (.ptr 0 2) :: (dB a0.fBegin) :: (.ptr 0 0) :: (dP e39 a0.fLeft) :: (dP e39 v1) :: (dB v45) :: (dB (!v45)) :: u40 (u2 [])), [(.cells [(dP e39 a0.fLeft), (dP e39 a0.fRight), (dB a0.fBegin), (dB a0.fEnd)])]⟩ (by kernel_rfl) ?_
      refine sqQ.n ⟨(.v (.agg [(vP e39 a0.fLeft), (vP e39 a0.fRight), (vB a0.fBegin), (vB a0.fEnd)])) :: (dP e39 a1) :: (dI a2) :: (.ptr 0 0) :: u2 ((dB false) :: (dP e39 v1) :: (dP e39 v2) :: (dP e39 a1) :: (dI a2) :: (dP e39 v1) :: (dP e39 a1) :: (dI a2) :: (dI (w64 (a2 + 1))) :: (dP e39 v2) :: (.ptr 0 2) :: (dB a0.fBegin) :: (.ptr 0 0) :: (dP e39 a0.fLeft) :: (dP e39 v1) :: (dB v45) :: (dB (!v45)) :: u40 (u2 [])), [(.cells [(dP e39 a0.fLeft), (dP e39 a0.fRight), (dB a0.fBegin), (dB a0.fEnd)])]⟩ (by kernel_rfl) ?_
      exact J45j28  _ _ _ _ _ _ _ _ _ _ _ _ _ _ _ _ _ _ _ _ _ _ _ _ _ h
  · refine Wp.cond a0.fBegin [3, 6, 8] (by kernel_rfl) 1 (by kernel_rfl) (subc [1, 1, 0, 1, 0] C45) (subc [1, 1, 0, 1, 1] C45) (by kernel_rfl) (by kernel_rfl) (fun e => nomatch (hb.symm.trans e)) (fun _ => ?_)
    refine Wp.seq (subc [1, 1, 0, 1, 1, 0] C45) (subc [1, 1, 0, 1, 1, 1] C45) (by kernel_rfl) ?_
    refine Wp.region (by kernel_rfl) ?_
    refine Ops.seg 1 1 (by kernel_rfl) ⟨(.v (.agg [(vP e39 a0.fLeft), (vP e39 a0.fRight), (vB a0.fBegin), (vB a0.fEnd)])) :: (dP e39 a1) :: (dI a2) :: (.ptr 0 0) :: u2 ((dB false) :: (dP e39 v1) :: (dP e39 v2) :: (dP e39 a1) :: (dI a2) :: (dP e39 v1) :: (dP e39 a1) :: (dI a2) :: (dI (w64 (a2 + 1))) :: (dP e39 v2) :: (.ptr 0 2) :: (dB a0.fBegin) :: u5 ((dP e39 v1) :: u40 (u1 []))), [(.cells [(dP e39 a0.fLeft), (dP e39 a0.fRight), (dB a0.fBegin), (dB a0.fEnd)])]⟩ (by kernel_rfl) ?_
    refine Ops.one 2 (by kernel_rfl) ((lenD (X45 n).E.T 37 (D.unt (dP e39 v1))).map (·, [(.cells [(dP e39 a0.fLeft), (dP e39 a0.fRight), (dB a0.fBegin), (dB a0.fEnd)])])) (dI ((v1.length : Int))) [(.cells [(dP e39 a0.fLeft), (dP e39 a0.fRight), (dB a0.fBegin), (dB a0.fEnd)])] ⟨(.v (.agg [(vP e39 a0.fLeft), (vP e39 a0.fRight), (vB a0.fBegin), (vB a0.fEnd)])) :: (dP e39 a1) :: (dI a2) :: (.ptr 0 0) :: u2 ((dB false) :: (dP e39 v1) :: (dP e39 v2) :: (dP e39 a1) :: (dI a2) :: (dP e39 v1) :: (dP e39 a1) :: (dI a2) :: (dI (w64 (a2 + 1))) :: (dP e39 v2) :: (.ptr 0 2) :: (dB a0.fBegin) :: u5 ((dP e39 v1) :: (dI ((v1.length : Int))) :: u40 [])), [(.cells [(dP e39 a0.fLeft), (dP e39 a0.fRight), (dB a0.fBegin), (dB a0.fEnd)])]⟩ (by kernel_rfl) (len_r _ 37 40 .plain e39 v1 (by kernel_rfl)) (by kernel_rfl) ?_
    refine Ops.seg 2 4 (by kernel_rfl) ⟨(.v (.agg [(vP e39 a0.fLeft), (vP e39 a0.fRight), (vB a0.fBegin), (vB a0.fEnd)])) :: (dP e39 a1) :: (dI a2) :: (.ptr 0 0) :: u2 ((dB false) :: (dP e39 v1) :: (dP e39 v2) :: (dP e39 a1) :: (dI a2) :: (dP e39 v1) :: (dP e39 a1) :: (dI a2) :: (dI (w64 (a2 + 1))) :: (dP e39 v2) :: (.ptr 0 2) :: (dB a0.fBegin) :: u5 ((dP e39 v1) :: (dI ((v1.length : Int))) :: (.ptr 0 0) :: (dP e39 a0.fLeft) :: u38 [])), [(.cells [(dP e39 a0.fLeft), (dP e39 a0.fRight), (dB a0.fBegin), (dB a0.fEnd)])]⟩ (by kernel_rfl) ?_
    refine Ops.one 5 (by kernel_rfl) ((lenD (X45 n).E.T 37 (D.unt (dP e39 a0.fLeft))).map (·, [(.cells [(dP e39 a0.fLeft), (dP e39 a0.fRight), (dB a0.fBegin), (dB a0.fEnd)])])) (dI ((a0.fLeft.length : Int))) [(.cells [(dP e39 a0.fLeft), (dP e39 a0.fRight), (dB a0.fBegin), (dB a0.fEnd)])] ⟨(.v (.agg [(vP e39 a0.fLeft), (vP e39 a0.fRight), (vB a0.fBegin), (vB a0.fEnd)])) :: (dP e39 a1) :: (dI a2) :: (.ptr 0 0) :: u2 ((dB false) :: (dP e39 v1) :: (dP e39 v2) :: (dP e39 a1) :: (dI a2) :: (dP e39 v1) :: (dP e39 a1) :: (dI a2) :: (dI (w64 (a2 + 1))) :: (dP e39 v2) :: (.ptr 0 2) :: (dB a0.fBegin) :: u5 ((dP e39 v1) :: (dI ((v1.length : Int))) :: (.ptr 0 0) :: (dP e39 a0.fLeft) :: (dI ((a0.fLeft.length : Int))) :: u37 [])), [(.cells [(dP e39 a0.fLeft), (dP e39 a0.fRight), (dB a0.fBegin), (dB a0.fEnd)])]⟩ (by kernel_rfl) (len_r _ 37 40 .plain e39 a0.fLeft (by kernel_rfl)) (by kernel_rfl) ?_
    refine Ops.seg 2 7 (by kernel_rfl) ⟨(.v (.agg [(vP e39 a0.fLeft), (vP e39 a0.fRight), (vB a0.fBegin), (vB a0.fEnd)])) :: (dP e39 a1) :: (dI a2) :: (.ptr 0 0) :: u2 ((dB false) :: (dP e39 v1) :: (dP e39 v2) :: (dP e39 a1) :: (dI a2) :: (dP e39 v1) :: (dP e39 a1) :: (dI a2) :: (dI (w64 (a2 + 1))) :: (dP e39 v2) :: (.ptr 0 2) :: (dB a0.fBegin) :: u5 ((dP e39 v1) :: (dI ((v1.length : Int))) :: (.ptr 0 0) :: (dP e39 a0.fLeft) :: (dI ((a0.fLeft.length : Int))) :: (dB (decide ((v1.length : Int) < (a0.fLeft.length : Int)))) :: (dB (decide ((v1.length : Int) < (a0.fLeft.length : Int)))) :: u35 [])), [(.cells [(dP e39 a0.fLeft), (dP e39 a0.fRight), (dB a0.fBegin), (dB a0.fEnd)])]⟩ (by kernel_rfl) ?_
    have J45j62 : ∀ (d48 d49 d50 d51 d52 d53 d54 d55 d56 d57 d58 d59 : D) (v60 : Bool) (v61 : Bool), f45_r3 m a0 v2 v61 = some o → Ops (X45 n) (opl (subc [1, 1, 0, 1, 1, 0] C45)) 20 ⟨(.v (.agg [(vP e39 a0.fLeft), (vP e39 a0.fRight), (vB a0.fBegin), (vB a0.fEnd)])) :: (dP e39 a1) :: (dI a2) :: (.ptr 0 0) :: u2 ((dB false) :: (dP e39 v1) :: (dP e39 v2) :: (dP e39 a1) :: (dI a2) :: (dP e39 v1) :: (dP e39 a1) :: (dI a2) :: (dI (w64 (a2 + 1))) :: (dP e39 v2) :: (.ptr 0 2) :: (dB a0.fBegin) :: u5 ((dP e39 v1) :: (dI ((v1.length : Int))) :: (.ptr 0 0) :: (dP e39 a0.fLeft) :: (dI ((a0.fLeft.length : Int))) :: (dB v60) :: (dB v60) :: d48 :: d49 :: d50 :: d51 :: d52 :: d53 :: d54 :: d55 :: d56 :: d57 :: d58 :: d59 :: (dB v61) :: u22 [])), [(.cells [(dP e39 a0.fLeft), (dP e39 a0.fRight), (dB a0.fBegin), (dB a0.fEnd)])]⟩ ((seqQ (X45 n) (subc [1, 1, 0, 1, 1, 1] C45) (sqQ (X45 n) [3, 6, 8] 1 (seqQ (X45 n) (subc [1, 1, 1] C45) (fnQ (X45 n).E.T (resOf Proofs.Try.prog 45) (eB o))))) .normal) := by
      intro d48 d49 d50 d51 d52 d53 d54 d55 d56 d57 d58 d59 v60 v61 h
      unfold f45_r3 at h
      refine Ops.done (by kernel_rfl) ?_
      refine seqQ.n ?_
      rcases cnd_some h with ⟨hb, h⟩ | ⟨hb, h⟩
      · refine Wp.cond v61 [3, 6, 8] (by kernel_rfl) 1 (by kernel_rfl) (subc [1, 1, 0, 1, 1, 1, 0] C45) (subc [1, 1, 0, 1, 1, 1, 1] C45) (by kernel_rfl) (by kernel_rfl) (fun _ => ?_) (fun e => nomatch (hb.symm.trans e))
        refine Wp.seq (subc [1, 1, 0, 1, 1, 1, 0, 0] C45) (subc [1, 1, 0, 1, 1, 1, 0, 1] C45) (by kernel_rfl) ?_
        refine Wp.region (by kernel_rfl) ?_
        refine Ops.seg 1 1 (by kernel_rfl) ⟨(.v (.agg [(vP e39 a0.fLeft), (vP e39 a0.fRight), (vB a0.fBegin), (vB a0.fEnd)])) :: (dP e39 a1) :: (dI a2) :: (.ptr 0 0) :: u2 ((dB false) :: (dP e39 v1) :: (dP e39 v2) :: (dP e39 a1) :: (dI a2) :: (dP e39 v1) :: (dP e39 a1) :: (dI a2) :: (dI (w64 (a2 + 1))) :: (dP e39 v2) :: (.ptr 0 2) :: (dB a0.fBegin) :: u5 ((dP e39 v1) :: (dI ((v1.length : Int))) :: (.ptr 0 0) :: (dP e39 a0.fLeft) :: (dI ((a0.fLeft.length : Int))) :: (dB v60) :: (dB v60) :: d48 :: d49 :: d50 :: d51 :: d52 :: d53 :: d54 :: d55 :: d56 :: d57 :: d58 :: d59 :: (dB v61) :: u22 [])), [(.cells [(dP e39 a0.fLeft), (dP e39 a0.fRight), (dB a0.fBegin), (dB a0.fEnd)])]⟩ (by kernel_rfl) ?_
        refine Ops.done (by kernel_rfl) ?_
        refine seqQ.n ?_
        refine Wp.ret (by kernel_rfl) ?_
        refine sqQ.r ?_
        refine sqQ.r ?_
        refine seqQ.r ?_
        exact fnQ.r' (X45 n) (fun z => (eB z)) h (RetOk.mk' (dB false) (by kernel_rfl) (by kernel_rfl))
      · refine Wp.cond v61 [3, 6, 8] (by kernel_rfl) 1 (by kernel_rfl) (subc [1, 1, 0, 1, 1, 1, 0] C45) (subc [1, 1, 0, 1, 1, 1, 1] C45) (by kernel_rfl) (by kernel_rfl) (fun e => nomatch (hb.symm.trans e)) (fun _ => ?_)
        refine Wp.skip (by kernel_rfl) ?_
        refine sqQ.n ⟨(.v (.agg [(vP e39 a0.fLeft), (vP e39 a0.fRight), (vB a0.fBegin), (vB a0.fEnd)])) :: (dP e39 a1) :: (dI a2) :: (.ptr 0 0) :: u2 ((dB false) :: (dP e39 v1) :: (dP e39 v2) :: (dP e39 a1) :: (dI a2) :: (dP e39 v1) :: (dP e39 a1) :: (dI a2) :: (dI (w64 (a2 + 1))) :: (dP e39 v2) :: (.ptr 0 2) :: (dB a0.fBegin) :: u5 ((dP e39 v1) :: (dI ((v1.length : Int))) :: (.ptr 0 0) :: (dP e39 a0.fLeft) :: (dI ((a0.fLeft.length : Int))) :: (dB v60) :: (dB v60) :: d48 :: d49 :: d50 :: d51 :: d52 :: d53 :: d54 :: d55 :: d56 :: d57 :: d58 :: d59 :: (dB v61) :: u22 [])), [(.cells [(dP e39 a0.fLeft), (dP e39 a0.fRight), (dB a0.fBegin), (dB a0.fEnd)])]⟩ (by kernel_rfl) ?_
        refine sqQ.n ⟨(.v (.agg [(vP e39 a0.fLeft), (vP e39 a0.fRight), (vB a0.fBegin), (vB a0.fEnd)])) :: (dP e39 a1) :: (dI a2) :: (.ptr 0 0) :: u2 ((dB false) :: (dP e39 v1) :: (dP e39 v2) :: (dP e39 a1) :: (dI a2) :: (dP e39 v1) :: (dP e39 a1) :: (dI a2) :: (dI (w64 (a2 + 1))) :: (dP e39 v2) :: (.ptr 0 2) :: (dB a0.fBegin) :: u5 ((dP e39 v1) :: (dI ((v1.length : Int))) :: (.ptr 0 0) :: (dP e39 a0.fLeft) :: (dI ((a0.fLeft.length : Int))) :: (dB v60) :: (dB v60) :: d48 :: d49 :: d50 :: d51 :: d52 :: d53 :: d54 :: d55 :: d56 :: d57 :: d58 :: d59 :: (dB v61) :: u22 [])), [(.cells [(dP e39 a0.fLeft), (dP e39 a0.fRight), (dB a0.fBegin), (dB a0.fEnd)])]⟩ (by kernel_rfl) ?_
        exact J45j28  _ _ _ _ _ _ _ _ _ _ _ _ _ _ _ _ _ _ _ _ _ _ _ _ _ h
    obtain ⟨v61, ev61, h⟩ := bnd_some h
    have G45g47 : ∀ v46 : Bool, (cnd v46 (some true) (bnd (sub v1 (w64 ((v1.length : Int) - (a0.fLeft.length : Int))) (v1.length : Int)) fun v63 => bnd (f47 m a0.fLeft v63) fun v64 => some (!v64))) = some v61 → Ops (X45 n) (opl (subc [1, 1, 0, 1, 1, 0] C45)) 7 ⟨(.v (.agg [(vP e39 a0.fLeft), (vP e39 a0.fRight), (vB a0.fBegin), (vB a0.fEnd)])) :: (dP e39 a1) :: (dI a2) :: (.ptr 0 0) :: u2 ((dB false) :: (dP e39 v1) :: (dP e39 v2) :: (dP e39 a1) :: (dI a2) :: (dP e39 v1) :: (dP e39 a1) :: (dI a2) :: (dI (w64 (a2 + 1))) :: (dP e39 v2) :: (.ptr 0 2) :: (dB a0.fBegin) :: u5 ((dP e39 v1) :: (dI ((v1.length : Int))) :: (.ptr 0 0) :: (dP e39 a0.fLeft) :: (dI ((a0.fLeft.length : Int))) :: (dB v46) :: (dB v46) :: u35 [])), [(.cells [(dP e39 a0.fLeft), (dP e39 a0.fRight), (dB a0.fBegin), (dB a0.fEnd)])]⟩ ((seqQ (X45 n) (subc [1, 1, 0, 1, 1, 1] C45) (sqQ (X45 n) [3, 6, 8] 1 (seqQ (X45 n) (subc [1, 1, 1] C45) (fnQ (X45 n).E.T (resOf Proofs.Try.prog 45) (eB o))))) .normal) := by
      intro v46 ev61
      cases v46
      · have ev61 := cnd_f ev61
        refine Ops.seg 4 11 (by kernel_rfl) ⟨(.v (.agg [(vP e39 a0.fLeft), (vP e39 a0.fRight), (vB a0.fBegin), (vB a0.fEnd)])) :: (dP e39 a1) :: (dI a2) :: (.ptr 0 0) :: u2 ((dB false) :: (dP e39 v1) :: (dP e39 v2) :: (dP e39 a1) :: (dI a2) :: (dP e39 v1) :: (dP e39 a1) :: (dI a2) :: (dI (w64 (a2 + 1))) :: (dP e39 v2) :: (.ptr 0 2) :: (dB a0.fBegin) :: u5 ((dP e39 v1) :: (dI ((v1.length : Int))) :: (.ptr 0 0) :: (dP e39 a0.fLeft) :: (dI ((a0.fLeft.length : Int))) :: (dB false) :: (dB false) :: (.ptr 0 0) :: (dP e39 a0.fLeft) :: (dP e39 v1) :: (dP e39 v1) :: u31 [])), [(.cells [(dP e39 a0.fLeft), (dP e39 a0.fRight), (dB a0.fBegin), (dB a0.fEnd)])]⟩ (by kernel_rfl) ?_
        refine Ops.one 12 (by kernel_rfl) ((lenD (X45 n).E.T 37 (D.unt (dP e39 v1))).map (·, [(.cells [(dP e39 a0.fLeft), (dP e39 a0.fRight), (dB a0.fBegin), (dB a0.fEnd)])])) (dI ((v1.length : Int))) [(.cells [(dP e39 a0.fLeft), (dP e39 a0.fRight), (dB a0.fBegin), (dB a0.fEnd)])] ⟨(.v (.agg [(vP e39 a0.fLeft), (vP e39 a0.fRight), (vB a0.fBegin), (vB a0.fEnd)])) :: (dP e39 a1) :: (dI a2) :: (.ptr 0 0) :: u2 ((dB false) :: (dP e39 v1) :: (dP e39 v2) :: (dP e39 a1) :: (dI a2) :: (dP e39 v1) :: (dP e39 a1) :: (dI a2) :: (dI (w64 (a2 + 1))) :: (dP e39 v2) :: (.ptr 0 2) :: (dB a0.fBegin) :: u5 ((dP e39 v1) :: (dI ((v1.length : Int))) :: (.ptr 0 0) :: (dP e39 a0.fLeft) :: (dI ((a0.fLeft.length : Int))) :: (dB false) :: (dB false) :: (.ptr 0 0) :: (dP e39 a0.fLeft) :: (dP e39 v1) :: (dP e39 v1) :: (dI ((v1.length : Int))) :: u30 [])), [(.cells [(dP e39 a0.fLeft), (dP e39 a0.fRight), (dB a0.fBegin), (dB a0.fEnd)])]⟩ (by kernel_rfl) (len_r _ 37 40 .plain e39 v1 (by kernel_rfl)) (by kernel_rfl) ?_
        refine Ops.seg 2 14 (by kernel_rfl) ⟨(.v (.agg [(vP e39 a0.fLeft), (vP e39 a0.fRight), (vB a0.fBegin), (vB a0.fEnd)])) :: (dP e39 a1) :: (dI a2) :: (.ptr 0 0) :: u2 ((dB false) :: (dP e39 v1) :: (dP e39 v2) :: (dP e39 a1) :: (dI a2) :: (dP e39 v1) :: (dP e39 a1) :: (dI a2) :: (dI (w64 (a2 + 1))) :: (dP e39 v2) :: (.ptr 0 2) :: (dB a0.fBegin) :: u5 ((dP e39 v1) :: (dI ((v1.length : Int))) :: (.ptr 0 0) :: (dP e39 a0.fLeft) :: (dI ((a0.fLeft.length : Int))) :: (dB false) :: (dB false) :: (.ptr 0 0) :: (dP e39 a0.fLeft) :: (dP e39 v1) :: (dP e39 v1) :: (dI ((v1.length : Int))) :: (.ptr 0 0) :: (dP e39 a0.fLeft) :: u28 [])), [(.cells [(dP e39 a0.fLeft), (dP e39 a0.fRight), (dB a0.fBegin), (dB a0.fEnd)])]⟩ (by kernel_rfl) ?_
        refine Ops.one 15 (by kernel_rfl) ((lenD (X45 n).E.T 37 (D.unt (dP e39 a0.fLeft))).map (·, [(.cells [(dP e39 a0.fLeft), (dP e39 a0.fRight), (dB a0.fBegin), (dB a0.fEnd)])])) (dI ((a0.fLeft.length : Int))) [(.cells [(dP e39 a0.fLeft), (dP e39 a0.fRight), (dB a0.fBegin), (dB a0.fEnd)])] ⟨(.v (.agg [(vP e39 a0.fLeft), (vP e39 a0.fRight), (vB a0.fBegin), (vB a0.fEnd)])) :: (dP e39 a1) :: (dI a2) :: (.ptr 0 0) :: u2 ((dB false) :: (dP e39 v1) :: (dP e39 v2) :: (dP e39 a1) :: (dI a2) :: (dP e39 v1) :: (dP e39 a1) :: (dI a2) :: (dI (w64 (a2 + 1))) :: (dP e39 v2) :: (.ptr 0 2) :: (dB a0.fBegin) :: u5 ((dP e39 v1) :: (dI ((v1.length : Int))) :: (.ptr 0 0) :: (dP e39 a0.fLeft) :: (dI ((a0.fLeft.length : Int))) :: (dB false) :: (dB false) :: (.ptr 0 0) :: (dP e39 a0.fLeft) :: (dP e39 v1) :: (dP e39 v1) :: (dI ((v1.length : Int))) :: (.ptr 0 0) :: (dP e39 a0.fLeft) :: (dI ((a0.fLeft.length : Int))) :: u27 [])), [(.cells [(dP e39 a0.fLeft), (dP e39 a0.fRight), (dB a0.fBegin), (dB a0.fEnd)])]⟩ (by kernel_rfl) (len_r _ 37 40 .plain e39 a0.fLeft (by kernel_rfl)) (by kernel_rfl) ?_
        refine Ops.seg 1 16 (by kernel_rfl) ⟨(.v (.agg [(vP e39 a0.fLeft), (vP e39 a0.fRight), (vB a0.fBegin), (vB a0.fEnd)])) :: (dP e39 a1) :: (dI a2) :: (.ptr 0 0) :: u2 ((dB false) :: (dP e39 v1) :: (dP e39 v2) :: (dP e39 a1) :: (dI a2) :: (dP e39 v1) :: (dP e39 a1) :: (dI a2) :: (dI (w64 (a2 + 1))) :: (dP e39 v2) :: (.ptr 0 2) :: (dB a0.fBegin) :: u5 ((dP e39 v1) :: (dI ((v1.length : Int))) :: (.ptr 0 0) :: (dP e39 a0.fLeft) :: (dI ((a0.fLeft.length : Int))) :: (dB false) :: (dB false) :: (.ptr 0 0) :: (dP e39 a0.fLeft) :: (dP e39 v1) :: (dP e39 v1) :: (dI ((v1.length : Int))) :: (.ptr 0 0) :: (dP e39 a0.fLeft) :: (dI ((a0.fLeft.length : Int))) :: (dI (w64 ((v1.length : Int) - (a0.fLeft.length : Int)))) :: u26 [])), [(.cells [(dP e39 a0.fLeft), (dP e39 a0.fRight), (dB a0.fBegin), (dB a0.fEnd)])]⟩ (by kernel_rfl) ?_
        obtain ⟨v63, ev63, ev61⟩ := bnd_some ev61
        refine Ops.one 17 (by kernel_rfl) ((sliceD (X45 n).E.T [(.cells [(dP e39 a0.fLeft), (dP e39 a0.fRight), (dB a0.fBegin), (dB a0.fEnd)])] 37 (D.unt (dP e39 v1)) (some ((dI (w64 ((v1.length : Int) - (a0.fLeft.length : Int)))))) none none).map (·, [(.cells [(dP e39 a0.fLeft), (dP e39 a0.fRight), (dB a0.fBegin), (dB a0.fEnd)])])) (dP e39 v63) [(.cells [(dP e39 a0.fLeft), (dP e39 a0.fRight), (dB a0.fBegin), (dB a0.fEnd)])] ⟨(.v (.agg [(vP e39 a0.fLeft), (vP e39 a0.fRight), (vB a0.fBegin), (vB a0.fEnd)])) :: (dP e39 a1) :: (dI a2) :: (.ptr 0 0) :: u2 ((dB false) :: (dP e39 v1) :: (dP e39 v2) :: (dP e39 a1) :: (dI a2) :: (dP e39 v1) :: (dP e39 a1) :: (dI a2) :: (dI (w64 (a2 + 1))) :: (dP e39 v2) :: (.ptr 0 2) :: (dB a0.fBegin) :: u5 ((dP e39 v1) :: (dI ((v1.length : Int))) :: (.ptr 0 0) :: (dP e39 a0.fLeft) :: (dI ((a0.fLeft.length : Int))) :: (dB false) :: (dB false) :: (.ptr 0 0) :: (dP e39 a0.fLeft) :: (dP e39 v1) :: (dP e39 v1) :: (dI ((v1.length : Int))) :: (.ptr 0 0) :: (dP e39 a0.fLeft) :: (dI ((a0.fLeft.length : Int))) :: (dI (w64 ((v1.length : Int) - (a0.fLeft.length : Int)))) :: (dP e39 v63) :: u25 [])), [(.cells [(dP e39 a0.fLeft), (dP e39 a0.fRight), (dB a0.fBegin), (dB a0.fEnd)])]⟩ (by kernel_rfl) (sub_r _ 37 40 2 .plain e39 v1 v63 (some (w64 ((v1.length : Int) - (a0.fLeft.length : Int)))) none rfl ev63 (by kernel_rfl) (by kernel_rfl) (fun _ => rfl)) (by kernel_rfl) ?_
        obtain ⟨v64, ev64, ev61⟩ := bnd_some ev61
        refine Ops.one 18 (by kernel_rfl) (callD (X45 n).E (run Proofs.Try.prog E n) 47 [(dP e39 a0.fLeft), (dP e39 v63)] [(.cells [(dP e39 a0.fLeft), (dP e39 a0.fRight), (dB a0.fBegin), (dB a0.fEnd)])]) (dB v64) [(.cells [(dP e39 a0.fLeft), (dP e39 a0.fRight), (dB a0.fBegin), (dB a0.fEnd)])] ⟨(.v (.agg [(vP e39 a0.fLeft), (vP e39 a0.fRight), (vB a0.fBegin), (vB a0.fEnd)])) :: (dP e39 a1) :: (dI a2) :: (.ptr 0 0) :: u2 ((dB false) :: (dP e39 v1) :: (dP e39 v2) :: (dP e39 a1) :: (dI a2) :: (dP e39 v1) :: (dP e39 a1) :: (dI a2) :: (dI (w64 (a2 + 1))) :: (dP e39 v2) :: (.ptr 0 2) :: (dB a0.fBegin) :: u5 ((dP e39 v1) :: (dI ((v1.length : Int))) :: (.ptr 0 0) :: (dP e39 a0.fLeft) :: (dI ((a0.fLeft.length : Int))) :: (dB false) :: (dB false) :: (.ptr 0 0) :: (dP e39 a0.fLeft) :: (dP e39 v1) :: (dP e39 v1) :: (dI ((v1.length : Int))) :: (.ptr 0 0) :: (dP e39 a0.fLeft) :: (dI ((a0.fLeft.length : Int))) :: (dI (w64 ((v1.length : Int) - (a0.fLeft.length : Int)))) :: (dP e39 v63) :: (dB v64) :: u24 [])), [(.cells [(dP e39 a0.fLeft), (dP e39 a0.fRight), (dB a0.fBegin), (dB a0.fEnd)])]⟩ (by kernel_rfl) (call_ok (by kernel_rfl) (Args.v (vP e39 a0.fLeft) ((eL e39) a0.fLeft) (by kernel_rfl) (Args.v (vP e39 v63) ((eL e39) v63) (by kernel_rfl) Args.nil)) (ok47 m a0.fLeft v63 v64 ev64 n (by omega))) (by kernel_rfl) ?_
        refine Ops.seg 2 20 (by kernel_rfl) ⟨(.v (.agg [(vP e39 a0.fLeft), (vP e39 a0.fRight), (vB a0.fBegin), (vB a0.fEnd)])) :: (dP e39 a1) :: (dI a2) :: (.ptr 0 0) :: u2 ((dB false) :: (dP e39 v1) :: (dP e39 v2) :: (dP e39 a1) :: (dI a2) :: (dP e39 v1) :: (dP e39 a1) :: (dI a2) :: (dI (w64 (a2 + 1))) :: (dP e39 v2) :: (.ptr 0 2) :: (dB a0.fBegin) :: u5 ((dP e39 v1) :: (dI ((v1.length : Int))) :: (.ptr 0 0) :: (dP e39 a0.fLeft) :: (dI ((a0.fLeft.length : Int))) :: (dB false) :: (dB false) :: (.ptr 0 0) :: (dP e39 a0.fLeft) :: (dP e39 v1) :: (dP e39 v1) :: (dI ((v1.length : Int))) :: (.ptr 0 0) :: (dP e39 a0.fLeft) :: (dI ((a0.fLeft.length : Int))) :: (dI (w64 ((v1.length : Int) - (a0.fLeft.length : Int)))) :: (dP e39 v63) :: (dB v64) :: (dB (!v64)) :: (dB (!v64)) :: u22 [])), [(.cells [(dP e39 a0.fLeft), (dP e39 a0.fRight), (dB a0.fBegin), (dB a0.fEnd)])]⟩ (by kernel_rfl) ?_
        exact J45j62 _ _ _ _ _ _ _ _ _ _ _ _ _ _ (some_sub (fun v61 => f45_r3 m a0 v2 v61 = some o) ev61 h)
      · have ev61 := cnd_t ev61
        refine Ops.seg 13 20 (by kernel_rfl) ⟨(.v (.agg [(vP e39 a0.fLeft), (vP e39 a0.fRight), (vB a0.fBegin), (vB a0.fEnd)])) :: (dP e39 a1) :: (dI a2) :: (.ptr 0 0) :: u2 ((dB false) :: (dP e39 v1) :: (dP e39 v2) :: (dP e39 a1) :: (dI a2) :: (dP e39 v1) :: (dP e39 a1) :: (dI a2) :: (dI (w64 (a2 + 1))) :: (dP e39 v2) :: (.ptr 0 2) :: (dB a0.fBegin) :: u5 ((dP e39 v1) :: (dI ((v1.length : Int))) :: (.ptr 0 0) :: (dP e39 a0.fLeft) :: (dI ((a0.fLeft.length : Int))) :: (dB true) :: (dB true) :: u12 ((dB true) :: u22 []))), [(.cells [(dP e39 a0.fLeft), (dP e39 a0.fRight), (dB a0.fBegin), (dB a0.fEnd)])]⟩ (by kernel_rfl) ?_
        exact J45j62 _ _ _ _ _ _ _ _ _ _ _ _ _ _ (some_sub (fun v61 => f45_r3 m a0 v2 v61 = some o) ev61 h)
    exact G45g47 (decide ((v1.length : Int) < (a0.fLeft.length : Int))) ev61

end Go.Abs
