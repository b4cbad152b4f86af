import Derived.Test.YthjhdnonlkooiaaDoorWF1
namespace Go.Abs
set_option linter.unusedVariables false
set_option maxRecDepth 100000

/-! ### 14 glosswright/glosswrightref6.ParadigmFault -/
def f14_r1 (m : Nat) (v44 : Int) (v65 : Bool) : Option (Stp S27 (Int)) :=
  cnd v65
  (bnd (f36 m 5 v44) fun v67 =>
  some (.ret v67))
  (some (.nxt (w64 (v44 + 1))))
def f14_B2 (m : Nat) (a0 : S23) (v44 : Int) : Option (Stp S27 (Int)) :=
  cnd (decide (v44 < (a0.fCells.length : Int)))
  (bnd (idx a0.fCells v44) fun v54 =>
  bnd (f37 m v54.fTags 4) fun v55 =>
  cnd (v55 != 0)
  (bnd (f36 m v55 v44) fun v56 =>
  some (.ret v56))
  (bnd (f38 m v54.fCut) fun v57 =>
  bnd (cnd (!v57)
  (some true)
  (bnd (f38 m v54.fAdd) fun v68 =>
  some (!v68))) fun v65 =>
  f14_r1 m v44 v65))
  (some (.brk v44))
def f14_r3 (m : Nat) (a0 : S23) (v10 : Bool) : Option S27 :=
  cnd v10
  (bnd (f36 m 9 ((-1))) fun v12 =>
  some v12)
  (brk (iter (fun (y : Int) => f14_B2 m a0 y) m 0) some fun y70 =>
  some ((⟨0, 0⟩ : S27)))
def f14 (m : Nat) (a0 : S23) : Option S27 :=
  bnd (f35 m a0.fName) fun v1 =>
  cnd (!v1)
  (bnd (f36 m 10 ((-1))) fun v2 =>
  some v2)
  (f14_r3 m a0 (((((a0.fCells.length : Int)) == 0) || (decide ((a0.fCells.length : Int) > 40)))))
noncomputable abbrev X14 (n : Nat) : Cx := cxOf Proofs.Tryd.prog E 14 n
noncomputable def C14 : Code := bodyOf Proofs.Tryd.prog 14
theorem ok14 (m : Nat) (a0 : S23) (o : S27) (h : f14 m a0 = some o) (n : Nat) (hn : m + 6 ≤ n) : Fn Proofs.Tryd.prog E n 14 [.v (e23 a0)] (e27 o) := by
  obtain ⟨n, rfl⟩ : ∃ q, n = q + 1 := ⟨n - 1, by omega⟩
  unfold f14 at h
  refine Fn.of (by kernel_rfl) (by kernel_rfl) (by kernel_rfl) ⟨(.v (.agg [(.str a0.fName), (vP e67 a0.fCells)])) :: u40 (u11 []), []⟩ (by kernel_rfl) ?_
  refine Wp.seq' (by kernel_rfl) ?_
  refine Wp.region (by kernel_rfl) ?_
  refine Ops.seg' 2 2 (by kernel_rfl) ?_
  refine Ops.done (by kernel_rfl) ?_
  refine seqQ.n ?_
  refine Wp.seq' (by kernel_rfl) ?_
  refine Wp.seq' (by kernel_rfl) ?_
  refine Wp.region (by kernel_rfl) ?_
  refine Ops.seg' 2 2 (by kernel_rfl) ?_
  obtain ⟨v1, ev1, h⟩ := bnd_some h
  refine Ops.one' 3 (fun h0 e0 => (call_ok (E' := E) (h := h0) (by kernel_rfl) (Args.v (.str a0.fName) (eS a0.fName) (by kernel_rfl) Args.nil) (ok35 m a0.fName v1 ev1 n (by omega)))) (by kernel_rfl) (by kernel_rfl) ?_
  refine Ops.seg' 1 4 (by kernel_rfl) ?_
  refine Ops.done (by kernel_rfl) ?_
  refine seqQ.n ?_
  refine Wp.cnd h [1, 2] 2 (by kernel_rfl) (fun h => ?_) (fun h => ?_)
  · refine Wp.seq' (by kernel_rfl) ?_
    refine Wp.region (by kernel_rfl) ?_
    obtain ⟨v2, ev2, h⟩ := bnd_some h
    refine Ops.one' 1 (fun h0 e0 => (call_ok (E' := E) (h := h0) (by kernel_rfl) (Args.v (vI 10) (eI 10) (by kernel_rfl) (Args.v (vI ((-1))) (eI ((-1))) (by kernel_rfl) Args.nil)) (ok36 m 10 ((-1)) v2 ev2 n (by omega)))) (by kernel_rfl) (by kernel_rfl) ?_
    refine Ops.seg' 1 2 (by kernel_rfl) ?_
    refine Ops.done (by kernel_rfl) ?_
    refine seqQ.n ?_
    refine Wp.ret (by kernel_rfl) ?_
    refine sqQ.r ?_
    refine seqQ.r ?_
    exact fnQ.r' (X14 n) (fun z => (e27 z)) h (RetOk.mk' (.v (.agg [(vI v2.fCode), (vI v2.fIndex)])) (by kernel_rfl) (by kernel_rfl))
  · refine Wp.skip (by kernel_rfl) ?_
    refine sqQ.n' ?_
    refine seqQ.n ?_
    refine Wp.seq' (by kernel_rfl) ?_
    refine Wp.seq' (by kernel_rfl) ?_
    refine Wp.region (by kernel_rfl) ?_
    refine Ops.seg' 2 2 (by kernel_rfl) ?_
    refine Ops.one' 3 (fun h0 e0 => (len_r (T := T) h0 22 68 .plain e67 a0.fCells (by kernel_rfl))) (by kernel_rfl) (by kernel_rfl) ?_
    refine Ops.seg' 2 5 (by kernel_rfl) ?_
    have J14j11 : ∀ (d5 d6 d7 d8 : D) (v9 : Bool) (v10 : Bool), f14_r3 m a0 v10 = some o → Ops (X14 n) (opl (cL (cL (cR (cR C14))))) 10 ⟨(.v (.agg [(.str a0.fName), (vP e67 a0.fCells)])) :: (.ptr 0 0) :: (.ptr 1 0) :: u3 ((.ptr 0 0) :: (.v (.str a0.fName)) :: (dB v1) :: (dB (!v1)) :: u1 ((.ptr 0 1) :: (dP e67 a0.fCells) :: (dI ((a0.fCells.length : Int))) :: (dB v9) :: (dB v9) :: d5 :: d6 :: d7 :: d8 :: (dB v10) :: u31 [])), [(.cells [(.v (.str a0.fName)), (dP e67 a0.fCells)]), (.cells [(dI 0), (dI 0)])]⟩ ((seqQ (X14 n) (cR (cL (cR (cR C14)))) (seqQ (X14 n) (cR (cR (cR C14))) (fnQ (X14 n).E.T (resOf Proofs.Tryd.prog 14) (e27 o)))) .normal) := by
      intro d5 d6 d7 d8 v9 v10 h
      unfold f14_r3 at h
      refine Ops.done (by kernel_rfl) ?_
      refine seqQ.n ?_
      refine Wp.cnd h [1, 2] 2 (by kernel_rfl) (fun h => ?_) (fun h => ?_)
      · refine Wp.seq' (by kernel_rfl) ?_
        refine Wp.region (by kernel_rfl) ?_
        obtain ⟨v12, ev12, h⟩ := bnd_some h
        refine Ops.one' 1 (fun h0 e0 => (call_ok (E' := E) (h := h0) (by kernel_rfl) (Args.v (vI 9) (eI 9) (by kernel_rfl) (Args.v (vI ((-1))) (eI ((-1))) (by kernel_rfl) Args.nil)) (ok36 m 9 ((-1)) v12 ev12 n (by omega)))) (by kernel_rfl) (by kernel_rfl) ?_
        refine Ops.seg' 1 2 (by kernel_rfl) ?_
        refine Ops.done (by kernel_rfl) ?_
        refine seqQ.n ?_
        refine Wp.ret (by kernel_rfl) ?_
        refine sqQ.r ?_
        refine seqQ.r ?_
        exact fnQ.r' (X14 n) (fun z => (e27 z)) h (RetOk.mk' (.v (.agg [(vI v12.fCode), (vI v12.fIndex)])) (by kernel_rfl) (by kernel_rfl))
      · refine Wp.skip (by kernel_rfl) ?_
        refine sqQ.n' ?_
        refine seqQ.n ?_
        refine Wp.seq' (by kernel_rfl) ?_
        refine Wp.seq' (by kernel_rfl) ?_
        refine Wp.region (by kernel_rfl) ?_
        refine Ops.seg' 2 2 (by kernel_rfl) ?_
        refine Ops.one' 3 (fun h0 e0 => (len_r (T := T) h0 22 68 .plain e67 a0.fCells (by kernel_rfl))) (by kernel_rfl) (by kernel_rfl) ?_
        refine Ops.seg' 1 4 (by kernel_rfl) ?_
        refine Ops.done (by kernel_rfl) ?_
        refine seqQ.n ?_
        refine Wp.block' 0 [2] 2 (by kernel_rfl) ?_
        have hLx69 : ∀ (kx46 : Nat) (v44 : Int)  (ox45 : S27 ⊕ (Int)), iter (fun (y : Int) => f14_B2 m a0 y) kx46 v44 = some ox45 → ∀ nx47, kx46 ≤ nx47 → (∀ r, ox45 = .inl r → ∀ σ, RetOk (X14 n) (resOf Proofs.Tryd.prog 14) (e27 r) σ → (seqQ (X14 n) (cR (cR (cR (cR C14)))) (fnQ (X14 n).E.T (resOf Proofs.Tryd.prog 14) (e27 o))) .ret σ) → (∀ (y : Int) , ox45 = .inr y → (seqQ (X14 n) (cR (cR (cR (cR C14)))) (fnQ (X14 n).E.T (resOf Proofs.Tryd.prog 14) (e27 o))) .normal ⟨q2 ((.ptr 1 0) :: q20 ((dP e67 a0.fCells) :: (dI ((a0.fCells.length : Int))) :: (dI y) :: q26 [])), [(.cells [(.v (.str a0.fName)), (dP e67 a0.fCells)]), (.cells [(dI 0), (dI 0)])]⟩) → Lp (X14 n) [2, 23, 24, 25] 2 (cL (cL (cR (cL (cR (cR (cR C14))))))) nx47 ⟨q2 ((.ptr 1 0) :: q20 ((dP e67 a0.fCells) :: (dI ((a0.fCells.length : Int))) :: (dI v44) :: q26 [])), [(.cells [(.v (.str a0.fName)), (dP e67 a0.fCells)]), (.cells [(dI 0), (dI 0)])]⟩ (blkQ (X14 n) 0 [2] 2 (seqQ (X14 n) (cR (cR (cR (cR C14)))) (fnQ (X14 n).E.T (resOf Proofs.Tryd.prog 14) (e27 o)))) := by
          intro kx46
          induction kx46 with
          | zero => intro v44  ox45 h; exact (iter_zero h).elim
          | succ kx46 ihx48 =>
            intro v44  ox45 h nx47 hnx51 hrx49 hxx50
            obtain ⟨nx47, rfl⟩ : ∃ q, nx47 = q + 1 := ⟨nx47 - 1, by omega⟩
            obtain ⟨sx52, h, hsx53⟩ := iter_some h
            have h : f14_B2 m a0 v44 = some sx52 := h
            unfold f14_B2 at h
            refine Lp.succ ?_
            refine Wp.seq' (by kernel_rfl) ?_
            refine Wp.region (by kernel_rfl) ?_
            refine Ops.seg' 1 1 (by kernel_rfl) ?_
            refine Ops.done (by kernel_rfl) ?_
            refine seqQ.n ?_
            refine Wp.seq' (by kernel_rfl) ?_
            refine Wp.cnd h [2, 23, 24, 25] 2 (by kernel_rfl) (fun h => ?_) (fun h => ?_)
            · refine Wp.skip (by kernel_rfl) ?_
              refine sqQ.n' ?_
              refine seqQ.n ?_
              refine Wp.seq' (by kernel_rfl) ?_
              refine Wp.block' 1 [2, 23, 24, 25] 2 (by kernel_rfl) ?_
              refine Wp.seq' (by kernel_rfl) ?_
              refine Wp.region (by kernel_rfl) ?_
              refine Ops.seg' 1 1 (by kernel_rfl) ?_
              obtain ⟨v54, ev54, h⟩ := bnd_some h
              refine Ops.one' 2 (fun h0 e0 => (ix_r (T := T) h0 22 68 3 .plain e67 a0.fCells v44 v54 ev54 (by kernel_rfl) (by kernel_rfl) (fun _ => rfl))) (by kernel_rfl) (by kernel_rfl) ?_
              refine Ops.seg' 4 6 (by kernel_rfl) ?_
              refine Ops.done (by kernel_rfl) ?_
              refine seqQ.n ?_
              refine Wp.seq' (by kernel_rfl) ?_
              refine Wp.seq' (by kernel_rfl) ?_
              refine Wp.region (by kernel_rfl) ?_
              refine Ops.seg' 2 2 (by kernel_rfl) ?_
              obtain ⟨v55, ev55, h⟩ := bnd_some h
              refine Ops.one' 3 (fun h0 e0 => (call_ok (E' := E) (h := h0) (by kernel_rfl) (Args.v (vP eS v54.fTags) ((eL eS) v54.fTags) (by kernel_rfl) (Args.v (vI 4) (eI 4) (by kernel_rfl) Args.nil)) (ok37 m v54.fTags 4 v55 ev55 n (by omega)))) (by kernel_rfl) (by kernel_rfl) ?_
              refine Ops.seg' 1 4 (by kernel_rfl) ?_
              refine Ops.done (by kernel_rfl) ?_
              refine seqQ.n ?_
              refine Wp.seq' (by kernel_rfl) ?_
              refine Wp.region (by kernel_rfl) ?_
              refine Ops.seg' 2 2 (by kernel_rfl) ?_
              refine Ops.done (by kernel_rfl) ?_
              refine seqQ.n ?_
              refine Wp.cnd h [2, 3, 4, 23, 24, 25] 3 (by kernel_rfl) (fun h => ?_) (fun h => ?_)
              · refine Wp.seq' (by kernel_rfl) ?_
                refine Wp.region (by kernel_rfl) ?_
                refine Ops.seg' 2 2 (by kernel_rfl) ?_
                obtain ⟨v56, ev56, h⟩ := bnd_some h
                refine Ops.one' 3 (fun h0 e0 => (call_ok (E' := E) (h := h0) (by kernel_rfl) (Args.v (vI v55) (eI v55) (by kernel_rfl) (Args.v (vI v44) (eI v44) (by kernel_rfl) Args.nil)) (ok36 m v55 v44 v56 ev56 n (by omega)))) (by kernel_rfl) (by kernel_rfl) ?_
                refine Ops.seg' 1 4 (by kernel_rfl) ?_
                refine Ops.done (by kernel_rfl) ?_
                refine seqQ.n ?_
                refine Wp.ret (by kernel_rfl) ?_
                refine sqQ.r ?_
                refine seqQ.r ?_
                refine blkQ.r ?_
                refine seqQ.r ?_
                cases h
                refine lpQ.r ?_
                refine blkQ.r ?_
                exact hrx49 _ hsx53 _ (RetOk.forget [2, 23, 24, 25] (by kernel_rfl) (RetOk.mk' (.v (.agg [(vI v56.fCode), (vI v56.fIndex)])) (by kernel_rfl) (by kernel_rfl)))
              · refine Wp.skip (by kernel_rfl) ?_
                refine sqQ.n' ?_
                refine seqQ.n ?_
                refine Wp.seq' (by kernel_rfl) ?_
                refine Wp.region (by kernel_rfl) ?_
                refine Ops.seg' 2 2 (by kernel_rfl) ?_
                obtain ⟨v57, ev57, h⟩ := bnd_some h
                refine Ops.one' 3 (fun h0 e0 => (call_ok (E' := E) (h := h0) (by kernel_rfl) (Args.v (.str v54.fCut) (eS v54.fCut) (by kernel_rfl) Args.nil) (ok38 m v54.fCut v57 ev57 n (by omega)))) (by kernel_rfl) (by kernel_rfl) ?_
                refine Ops.seg' 2 5 (by kernel_rfl) ?_
                have J14j66 : ∀ (d60 d61 d62 d63 : D) (v64 : Bool) (v65 : Bool), f14_r1 m v44 v65 = some sx52 → Ops (X14 n) (opl (cL (cR (cR (cL (cL (cR (cR (cL (cL (cR (cL (cR (cR (cR C14))))))))))))))) 10 ⟨q2 ((.ptr 1 0) :: (dI v44) :: (.ptr 2 0) :: (dI v55) :: q17 ((dP e67 a0.fCells) :: (dI ((a0.fCells.length : Int))) :: (dI v44) :: (dB (decide (v44 < (a0.fCells.length : Int)))) :: (dI v44) :: (.vptr [(vP eS v54.fTags), (.str v54.fCut), (.str v54.fAdd)]) :: (.v (.agg [(vP eS v54.fTags), (.str v54.fCut), (.str v54.fAdd)])) :: (.ptr 2 0) :: (dP eS v54.fTags) :: (dI v55) :: (dI v55) :: (dB (v55 != 0)) :: q3 ((.ptr 2 1) :: (.v (.str v54.fCut)) :: (dB v57) :: (dB v64) :: (dB v64) :: d60 :: d61 :: d62 :: d63 :: (dB v65) :: q4 []))), [(.cells [(.v (.str a0.fName)), (dP e67 a0.fCells)]), (.cells [(dI 0), (dI 0)]), (.cells [(dP eS v54.fTags), (.v (.str v54.fCut)), (.v (.str v54.fAdd))])]⟩ ((seqQ (X14 n) (cR (cR (cR (cL (cL (cR (cR (cL (cL (cR (cL (cR (cR (cR C14)))))))))))))) (blkQ (X14 n) 1 [2, 23, 24, 25] 2 (seqQ (X14 n) (cR (cR (cR (cL (cL (cR (cL (cR (cR (cR C14)))))))))) (lpQ (X14 n) [2, 23, 24, 25] 2 (cL (cL (cR (cL (cR (cR (cR C14))))))) nx47 (blkQ (X14 n) 0 [2] 2 (seqQ (X14 n) (cR (cR (cR (cR C14)))) (fnQ (X14 n).E.T (resOf Proofs.Tryd.prog 14) (e27 o)))))))) .normal) := by
                  intro d60 d61 d62 d63 v64 v65 h
                  unfold f14_r1 at h
                  refine Ops.done (by kernel_rfl) ?_
                  refine seqQ.n ?_
                  refine Wp.cnd h [2, 23, 24, 25] 3 (by kernel_rfl) (fun h => ?_) (fun h => ?_)
                  · refine Wp.seq' (by kernel_rfl) ?_
                    refine Wp.region (by kernel_rfl) ?_
                    refine Ops.seg' 1 1 (by kernel_rfl) ?_
                    obtain ⟨v67, ev67, h⟩ := bnd_some h
                    refine Ops.one' 2 (fun h0 e0 => (call_ok (E' := E) (h := h0) (by kernel_rfl) (Args.v (vI 5) (eI 5) (by kernel_rfl) (Args.v (vI v44) (eI v44) (by kernel_rfl) Args.nil)) (ok36 m 5 v44 v67 ev67 n (by omega)))) (by kernel_rfl) (by kernel_rfl) ?_
                    refine Ops.seg' 1 3 (by kernel_rfl) ?_
                    refine Ops.done (by kernel_rfl) ?_
                    refine seqQ.n ?_
                    refine Wp.ret (by kernel_rfl) ?_
                    refine sqQ.r ?_
                    refine blkQ.r ?_
                    refine seqQ.r ?_
                    cases h
                    refine lpQ.r ?_
                    refine blkQ.r ?_
                    exact hrx49 _ hsx53 _ (RetOk.forget [2, 23, 24, 25] (by kernel_rfl) (RetOk.mk' (.v (.agg [(vI v67.fCode), (vI v67.fIndex)])) (by kernel_rfl) (by kernel_rfl)))
                  · refine Wp.skip (by kernel_rfl) ?_
                    refine sqQ.n' ?_
                    refine blkQ.n' ?_
                    refine seqQ.n ?_
                    refine Wp.region (by kernel_rfl) ?_
                    refine Ops.seg' 2 2 (by kernel_rfl) ?_
                    refine Ops.done (by kernel_rfl) ?_
                    refine lpQ.n ⟨q2 ((.ptr 1 0) :: q20 ((dP e67 a0.fCells) :: (dI ((a0.fCells.length : Int))) :: (dI (w64 (v44 + 1))) :: q26 [])), [(.cells [(.v (.str a0.fName)), (dP e67 a0.fCells)]), (.cells [(dI 0), (dI 0)])]⟩ (by kernel_rfl) ?_
                    cases h
                    exact ihx48 (w64 (v44 + 1))  _ hsx53 _ (by omega) hrx49 hxx50
                obtain ⟨v65, ev65, h⟩ := bnd_some h
                have G14g59 : ∀ v58 : Bool, (cnd v58 (some true) (bnd (f38 m v54.fAdd) fun v68 => some (!v68))) = some v65 → Ops (X14 n) (opl (cL (cR (cR (cL (cL (cR (cR (cL (cL (cR (cL (cR (cR (cR C14))))))))))))))) 5 ⟨q2 ((.ptr 1 0) :: (dI v44) :: (.ptr 2 0) :: (dI v55) :: q17 ((dP e67 a0.fCells) :: (dI ((a0.fCells.length : Int))) :: (dI v44) :: (dB (decide (v44 < (a0.fCells.length : Int)))) :: (dI v44) :: (.vptr [(vP eS v54.fTags), (.str v54.fCut), (.str v54.fAdd)]) :: (.v (.agg [(vP eS v54.fTags), (.str v54.fCut), (.str v54.fAdd)])) :: (.ptr 2 0) :: (dP eS v54.fTags) :: (dI v55) :: (dI v55) :: (dB (v55 != 0)) :: q3 ((.ptr 2 1) :: (.v (.str v54.fCut)) :: (dB v57) :: (dB v58) :: (dB v58) :: q9 []))), [(.cells [(.v (.str a0.fName)), (dP e67 a0.fCells)]), (.cells [(dI 0), (dI 0)]), (.cells [(dP eS v54.fTags), (.v (.str v54.fCut)), (.v (.str v54.fAdd))])]⟩ ((seqQ (X14 n) (cR (cR (cR (cL (cL (cR (cR (cL (cL (cR (cL (cR (cR (cR C14)))))))))))))) (blkQ (X14 n) 1 [2, 23, 24, 25] 2 (seqQ (X14 n) (cR (cR (cR (cL (cL (cR (cL (cR (cR (cR C14)))))))))) (lpQ (X14 n) [2, 23, 24, 25] 2 (cL (cL (cR (cL (cR (cR (cR C14))))))) nx47 (blkQ (X14 n) 0 [2] 2 (seqQ (X14 n) (cR (cR (cR (cR C14)))) (fnQ (X14 n).E.T (resOf Proofs.Tryd.prog 14) (e27 o)))))))) .normal) := by
                  intro v58 ev65
                  cases v58
                  · have ev65 := cnd_f ev65
                    refine Ops.seg' 2 7 (by kernel_rfl) ?_
                    obtain ⟨v68, ev68, ev65⟩ := bnd_some ev65
                    refine Ops.one' 8 (fun h0 e0 => (call_ok (E' := E) (h := h0) (by kernel_rfl) (Args.v (.str v54.fAdd) (eS v54.fAdd) (by kernel_rfl) Args.nil) (ok38 m v54.fAdd v68 ev68 n (by omega)))) (by kernel_rfl) (by kernel_rfl) ?_
                    refine Ops.seg' 2 10 (by kernel_rfl) ?_
                    refine Ops.st ⟨q2 ((.ptr 1 0) :: (dI v44) :: (.ptr 2 0) :: (dI v55) :: q17 ((dP e67 a0.fCells) :: (dI ((a0.fCells.length : Int))) :: (dI v44) :: (dB (decide (v44 < (a0.fCells.length : Int)))) :: (dI v44) :: (.vptr [(vP eS v54.fTags), (.str v54.fCut), (.str v54.fAdd)]) :: (.v (.agg [(vP eS v54.fTags), (.str v54.fCut), (.str v54.fAdd)])) :: (.ptr 2 0) :: (dP eS v54.fTags) :: (dI v55) :: (dI v55) :: (dB (v55 != 0)) :: q3 ((.ptr 2 1) :: (.v (.str v54.fCut)) :: (dB v57) :: (dB false) :: (dB false) :: (.ptr 2 2) :: (.v (.str v54.fAdd)) :: (dB v68) :: (dB (!v68)) :: (dB (!v68)) :: q4 []))), [(.cells [(.v (.str a0.fName)), (dP e67 a0.fCells)]), (.cells [(dI 0), (dI 0)]), (.cells [(dP eS v54.fTags), (.v (.str v54.fCut)), (.v (.str v54.fAdd))])]⟩ (by kernel_rfl) ?_
                    exact J14j66 _ _ _ _ _ _ (some_sub (fun v65 => f14_r1 m v44 v65 = some sx52) ev65 h)
                  · have ev65 := cnd_t ev65
                    refine Ops.seg' 5 10 (by kernel_rfl) ?_
                    refine Ops.st ⟨q2 ((.ptr 1 0) :: (dI v44) :: (.ptr 2 0) :: (dI v55) :: q17 ((dP e67 a0.fCells) :: (dI ((a0.fCells.length : Int))) :: (dI v44) :: (dB (decide (v44 < (a0.fCells.length : Int)))) :: (dI v44) :: (.vptr [(vP eS v54.fTags), (.str v54.fCut), (.str v54.fAdd)]) :: (.v (.agg [(vP eS v54.fTags), (.str v54.fCut), (.str v54.fAdd)])) :: (.ptr 2 0) :: (dP eS v54.fTags) :: (dI v55) :: (dI v55) :: (dB (v55 != 0)) :: q3 ((.ptr 2 1) :: (.v (.str v54.fCut)) :: (dB v57) :: (dB true) :: (dB true) :: u4 ((dB true) :: q4 [])))), [(.cells [(.v (.str a0.fName)), (dP e67 a0.fCells)]), (.cells [(dI 0), (dI 0)]), (.cells [(dP eS v54.fTags), (.v (.str v54.fCut)), (.v (.str v54.fAdd))])]⟩ (by kernel_rfl) ?_
                    exact J14j66 _ _ _ _ _ _ (some_sub (fun v65 => f14_r1 m v44 v65 = some sx52) ev65 h)
                exact Ops.st ⟨q2 ((.ptr 1 0) :: (dI v44) :: (.ptr 2 0) :: (dI v55) :: q17 ((dP e67 a0.fCells) :: (dI ((a0.fCells.length : Int))) :: (dI v44) :: (dB (decide (v44 < (a0.fCells.length : Int)))) :: (dI v44) :: (.vptr [(vP eS v54.fTags), (.str v54.fCut), (.str v54.fAdd)]) :: (.v (.agg [(vP eS v54.fTags), (.str v54.fCut), (.str v54.fAdd)])) :: (.ptr 2 0) :: (dP eS v54.fTags) :: (dI v55) :: (dI v55) :: (dB (v55 != 0)) :: q3 ((.ptr 2 1) :: (.v (.str v54.fCut)) :: (dB v57) :: (dB ((!v57))) :: (dB ((!v57))) :: q9 []))), [(.cells [(.v (.str a0.fName)), (dP e67 a0.fCells)]), (.cells [(dI 0), (dI 0)]), (.cells [(dP eS v54.fTags), (.v (.str v54.fCut)), (.v (.str v54.fAdd))])]⟩ (by kernel_rfl) (G14g59 (!v57) ev65)
            · refine Wp.exit (id := 0) (by kernel_rfl) ?_
              refine sqQ.x ?_
              refine seqQ.x ?_
              cases h
              refine lpQ.x ?_
              refine blkQ.x ⟨q2 ((.ptr 1 0) :: q20 ((dP e67 a0.fCells) :: (dI ((a0.fCells.length : Int))) :: (dI v44) :: q26 [])), [(.cells [(.v (.str a0.fName)), (dP e67 a0.fCells)]), (.cells [(dI 0), (dI 0)])]⟩ (by kernel_rfl) ?_
              exact hxx50 v44  hsx53
        refine Wp.loop' [2, 23, 24, 25] 2 (by kernel_rfl) ⟨q2 ((.ptr 1 0) :: q20 ((dP e67 a0.fCells) :: (dI ((a0.fCells.length : Int))) :: (dI 0) :: q26 [])), [(.cells [(.v (.str a0.fName)), (dP e67 a0.fCells)]), (.cells [(dI 0), (dI 0)])]⟩ (by kernel_rfl) ?_
        rcases brk_some h with ⟨r71, er71, h⟩ | ⟨y70, ey70, h⟩
        · refine hLx69 _ 0  _ er71 n (by omega) (fun r er σ hσ => ?_) (fun y  ey => by cases ey)
          cases er
          refine seqQ.r ?_
          exact fnQ.r' (X14 n) (fun z => (e27 z)) h hσ
        · refine hLx69 _ 0  _ ey70 n (by omega) (fun r er => by cases er) (fun y  ey => ?_)
          cases ey
          refine seqQ.n ?_
          refine Wp.seq' (by kernel_rfl) ?_
          refine Wp.region (by kernel_rfl) ?_
          refine Ops.seg' 2 2 (by kernel_rfl) ?_
          refine Ops.done (by kernel_rfl) ?_
          refine seqQ.n ?_
          refine Wp.ret (by kernel_rfl) ?_
          exact fnQ.r' (X14 n) (fun z => (e27 z)) h (RetOk.mk' (.v (.agg [(vI 0), (vI 0)])) (by kernel_rfl) (by kernel_rfl))
    have G14g4 : ∀ v3 : Bool, f14_r3 m a0 ((v3 || (decide ((a0.fCells.length : Int) > 40)))) = some o → Ops (X14 n) (opl (cL (cL (cR (cR C14))))) 5 ⟨(.v (.agg [(.str a0.fName), (vP e67 a0.fCells)])) :: (.ptr 0 0) :: (.ptr 1 0) :: u3 ((.ptr 0 0) :: (.v (.str a0.fName)) :: (dB v1) :: (dB (!v1)) :: u1 ((.ptr 0 1) :: (dP e67 a0.fCells) :: (dI ((a0.fCells.length : Int))) :: (dB v3) :: (dB v3) :: u36 [])), [(.cells [(.v (.str a0.fName)), (dP e67 a0.fCells)]), (.cells [(dI 0), (dI 0)])]⟩ ((seqQ (X14 n) (cR (cL (cR (cR C14)))) (seqQ (X14 n) (cR (cR (cR C14))) (fnQ (X14 n).E.T (resOf Proofs.Tryd.prog 14) (e27 o)))) .normal) := by
      intro v3 h
      cases v3
      · refine Ops.seg' 2 7 (by kernel_rfl) ?_
        refine Ops.one' 8 (fun h0 e0 => (len_r (T := T) h0 22 68 .plain e67 a0.fCells (by kernel_rfl))) (by kernel_rfl) (by kernel_rfl) ?_
        refine Ops.seg' 2 10 (by kernel_rfl) ?_
        refine Ops.st ⟨(.v (.agg [(.str a0.fName), (vP e67 a0.fCells)])) :: (.ptr 0 0) :: (.ptr 1 0) :: u3 ((.ptr 0 0) :: (.v (.str a0.fName)) :: (dB v1) :: (dB (!v1)) :: u1 ((.ptr 0 1) :: (dP e67 a0.fCells) :: (dI ((a0.fCells.length : Int))) :: (dB false) :: (dB false) :: (.ptr 0 1) :: (dP e67 a0.fCells) :: (dI ((a0.fCells.length : Int))) :: (dB (decide ((a0.fCells.length : Int) > 40))) :: (dB (decide ((a0.fCells.length : Int) > 40))) :: u31 [])), [(.cells [(.v (.str a0.fName)), (dP e67 a0.fCells)]), (.cells [(dI 0), (dI 0)])]⟩ (by kernel_rfl) ?_
        exact J14j11 _ _ _ _ _ _ h
      · refine Ops.seg' 5 10 (by kernel_rfl) ?_
        refine Ops.st ⟨(.v (.agg [(.str a0.fName), (vP e67 a0.fCells)])) :: (.ptr 0 0) :: (.ptr 1 0) :: u3 ((.ptr 0 0) :: (.v (.str a0.fName)) :: (dB v1) :: (dB (!v1)) :: u1 ((.ptr 0 1) :: (dP e67 a0.fCells) :: (dI ((a0.fCells.length : Int))) :: (dB true) :: (dB true) :: u4 ((dB true) :: u31 []))), [(.cells [(.v (.str a0.fName)), (dP e67 a0.fCells)]), (.cells [(dI 0), (dI 0)])]⟩ (by kernel_rfl) ?_
        exact J14j11 _ _ _ _ _ _ h
    exact Ops.st ⟨(.v (.agg [(.str a0.fName), (vP e67 a0.fCells)])) :: (.ptr 0 0) :: (.ptr 1 0) :: u3 ((.ptr 0 0) :: (.v (.str a0.fName)) :: (dB v1) :: (dB (!v1)) :: u1 ((.ptr 0 1) :: (dP e67 a0.fCells) :: (dI ((a0.fCells.length : Int))) :: (dB ((((a0.fCells.length : Int)) == 0))) :: (dB ((((a0.fCells.length : Int)) == 0))) :: u36 [])), [(.cells [(.v (.str a0.fName)), (dP e67 a0.fCells)]), (.cells [(dI 0), (dI 0)])]⟩ (by kernel_rfl) (G14g4 (((a0.fCells.length : Int)) == 0) h)

/-! ### 42 glosswright/glosswrightref6.Ended -/
def f42_r1 (m : Nat) (a0 : ByteArray) (a1 : ByteArray) (a2 : ByteArray) (v9 : Bool) : Option ByteArray :=
  cnd v9
  (some ((⟨#[]⟩ : ByteArray)))
  (bnd (ssub a0 0 (w64 ((a0.size : Int) - (a1.size : Int)))) fun v11 =>
  bnd (scat v11 a2) fun v12 =>
  bnd (f16 m v12) fun v13 =>
  cnd (!v13)
  (some ((⟨#[]⟩ : ByteArray)))
  (some v12))
def f42 (m : Nat) (a0 : ByteArray) (a1 : ByteArray) (a2 : ByteArray) : Option ByteArray :=
  bnd (cnd (decide (w64 ((a0.size : Int) - (a1.size : Int)) < 0))
  (some true)
  (bnd (ssub a0 (w64 ((a0.size : Int) - (a1.size : Int))) (a0.size : Int)) fun v14 =>
  some (!(v14.toList == a1.toList)))) fun v9 =>
  f42_r1 m a0 a1 a2 v9
noncomputable abbrev X42 (n : Nat) : Cx := cxOf Proofs.Tryd.prog E 42 n
noncomputable def C42 : Code := bodyOf Proofs.Tryd.prog 42
theorem ok42 (m : Nat) (a0 : ByteArray) (a1 : ByteArray) (a2 : ByteArray) (o : ByteArray) (h : f42 m a0 a1 a2 = some o) (n : Nat) (hn : m + 5 ≤ n) : Fn Proofs.Tryd.prog E n 42 [.v (eS a0), .v (eS a1), .v (eS a2)] (eS o) := by
  obtain ⟨n, rfl⟩ : ∃ q, n = q + 1 := ⟨n - 1, by omega⟩
  unfold f42 at h
  refine Fn.of (by kernel_rfl) (by kernel_rfl) (by kernel_rfl) ⟨(.v (.str a0)) :: (.v (.str a1)) :: (.v (.str a2)) :: u29 [], []⟩ (by kernel_rfl) ?_
  refine Wp.seq' (by kernel_rfl) ?_
  refine Wp.region (by kernel_rfl) ?_
  refine Ops.seg' 1 1 (by kernel_rfl) ?_
  refine Ops.done (by kernel_rfl) ?_
  refine seqQ.n ?_
  refine Wp.seq' (by kernel_rfl) ?_
  refine Wp.region (by kernel_rfl) ?_
  refine Ops.seg' 6 6 (by kernel_rfl) ?_
  refine Ops.done (by kernel_rfl) ?_
  refine seqQ.n ?_
  refine Wp.seq' (by kernel_rfl) ?_
  refine Wp.seq' (by kernel_rfl) ?_
  refine Wp.region (by kernel_rfl) ?_
  refine Ops.seg' 3 3 (by kernel_rfl) ?_
  have J42j10 : ∀ (d3 d4 d5 d6 d7 : D) (v8 : Bool) (v9 : Bool), f42_r1 m a0 a1 a2 v9 = some o → Ops (X42 n) (opl (cL (cL (cR (cR C42))))) 9 ⟨(.v (.str a0)) :: (.v (.str a1)) :: (.v (.str a2)) :: u3 ((.v (.str ((⟨#[]⟩ : ByteArray)))) :: (dI (w64 ((a0.size : Int) - (a1.size : Int)))) :: u1 ((.v (.str a0)) :: (dI ((a0.size : Int))) :: (.v (.str a1)) :: (dI ((a1.size : Int))) :: (dI (w64 ((a0.size : Int) - (a1.size : Int)))) :: (dI (w64 ((a0.size : Int) - (a1.size : Int)))) :: (dB v8) :: (dB v8) :: d3 :: d4 :: d5 :: d6 :: d7 :: (dB v9) :: u9 [])), []⟩ ((seqQ (X42 n) (cR (cL (cR (cR C42)))) (seqQ (X42 n) (cR (cR (cR C42))) (fnQ (X42 n).E.T (resOf Proofs.Tryd.prog 42) (eS o)))) .normal) := by
    intro d3 d4 d5 d6 d7 v8 v9 h
    unfold f42_r1 at h
    refine Ops.done (by kernel_rfl) ?_
    refine seqQ.n ?_
    refine Wp.cnd h [0, 2, 6, 7] 0 (by kernel_rfl) (fun h => ?_) (fun h => ?_)
    · refine Wp.seq' (by kernel_rfl) ?_
      refine Wp.region (by kernel_rfl) ?_
      refine Ops.seg' 1 1 (by kernel_rfl) ?_
      refine Ops.done (by kernel_rfl) ?_
      refine seqQ.n ?_
      refine Wp.ret (by kernel_rfl) ?_
      refine sqQ.r ?_
      refine seqQ.r ?_
      exact fnQ.r' (X42 n) (fun z => (eS z)) h (RetOk.mk' (.v (.str ((⟨#[]⟩ : ByteArray)))) (by kernel_rfl) (by kernel_rfl))
    · refine Wp.skip (by kernel_rfl) ?_
      refine sqQ.n' ?_
      refine seqQ.n ?_
      refine Wp.seq' (by kernel_rfl) ?_
      refine Wp.region (by kernel_rfl) ?_
      refine Ops.seg' 2 2 (by kernel_rfl) ?_
      obtain ⟨v11, ev11, h⟩ := bnd_some h
      refine Ops.one' 3 (fun h0 e0 => (str_sub (T := T) h0 9 a0 v11 none (some (w64 ((a0.size : Int) - (a1.size : Int)))) ev11 (by kernel_rfl))) (by kernel_rfl) (by kernel_rfl) ?_
      refine Ops.seg' 1 4 (by kernel_rfl) ?_
      obtain ⟨v12, ev12, h⟩ := bnd_some h
      refine Ops.one' 5 (fun h0 e0 => (str_cat (T := T) h0 9 v11 a2 v12 ev12)) (by kernel_rfl) (by kernel_rfl) ?_
      refine Ops.seg' 1 6 (by kernel_rfl) ?_
      refine Ops.done (by kernel_rfl) ?_
      refine seqQ.n ?_
      refine Wp.seq' (by kernel_rfl) ?_
      refine Wp.seq' (by kernel_rfl) ?_
      refine Wp.region (by kernel_rfl) ?_
      refine Ops.seg' 1 1 (by kernel_rfl) ?_
      obtain ⟨v13, ev13, h⟩ := bnd_some h
      refine Ops.one' 2 (fun h0 e0 => (call_ok (E' := E) (h := h0) (by kernel_rfl) (Args.v (.str v12) (eS v12) (by kernel_rfl) Args.nil) (ok16 m v12 v13 ev13 n (by omega)))) (by kernel_rfl) (by kernel_rfl) ?_
      refine Ops.seg' 1 3 (by kernel_rfl) ?_
      refine Ops.done (by kernel_rfl) ?_
      refine seqQ.n ?_
      refine Wp.cnd h [6, 8] 0 (by kernel_rfl) (fun h => ?_) (fun h => ?_)
      · refine Wp.seq' (by kernel_rfl) ?_
        refine Wp.region (by kernel_rfl) ?_
        refine Ops.seg' 1 1 (by kernel_rfl) ?_
        refine Ops.done (by kernel_rfl) ?_
        refine seqQ.n ?_
        refine Wp.ret (by kernel_rfl) ?_
        refine sqQ.r ?_
        refine seqQ.r ?_
        exact fnQ.r' (X42 n) (fun z => (eS z)) h (RetOk.mk' (.v (.str ((⟨#[]⟩ : ByteArray)))) (by kernel_rfl) (by kernel_rfl))
      · refine Wp.skip (by kernel_rfl) ?_
        refine sqQ.n' ?_
        refine seqQ.n ?_
        refine Wp.seq' (by kernel_rfl) ?_
        refine Wp.region (by kernel_rfl) ?_
        refine Ops.seg' 2 2 (by kernel_rfl) ?_
        refine Ops.done (by kernel_rfl) ?_
        refine seqQ.n ?_
        refine Wp.ret (by kernel_rfl) ?_
        exact fnQ.r' (X42 n) (fun z => (eS z)) h (RetOk.mk' (.v (.str v12)) (by kernel_rfl) (by kernel_rfl))
  obtain ⟨v9, ev9, h⟩ := bnd_some h
  have G42g2 : ∀ v1 : Bool, (cnd v1 (some true) (bnd (ssub a0 (w64 ((a0.size : Int) - (a1.size : Int))) (a0.size : Int)) fun v14 => some (!(v14.toList == a1.toList)))) = some v9 → Ops (X42 n) (opl (cL (cL (cR (cR C42))))) 3 ⟨(.v (.str a0)) :: (.v (.str a1)) :: (.v (.str a2)) :: u3 ((.v (.str ((⟨#[]⟩ : ByteArray)))) :: (dI (w64 ((a0.size : Int) - (a1.size : Int)))) :: u1 ((.v (.str a0)) :: (dI ((a0.size : Int))) :: (.v (.str a1)) :: (dI ((a1.size : Int))) :: (dI (w64 ((a0.size : Int) - (a1.size : Int)))) :: (dI (w64 ((a0.size : Int) - (a1.size : Int)))) :: (dB v1) :: (dB v1) :: u15 [])), []⟩ ((seqQ (X42 n) (cR (cL (cR (cR C42)))) (seqQ (X42 n) (cR (cR (cR C42))) (fnQ (X42 n).E.T (resOf Proofs.Tryd.prog 42) (eS o)))) .normal) := by
    intro v1 ev9
    cases v1
    · have ev9 := cnd_f ev9
      refine Ops.seg' 2 5 (by kernel_rfl) ?_
      obtain ⟨v14, ev14, ev9⟩ := bnd_some ev9
      refine Ops.one' 6 (fun h0 e0 => (str_sub (T := T) h0 9 a0 v14 (some (w64 ((a0.size : Int) - (a1.size : Int)))) none ev14 (by kernel_rfl))) (by kernel_rfl) (by kernel_rfl) ?_
      refine Ops.seg' 3 9 (by kernel_rfl) ?_
      refine Ops.st ⟨(.v (.str a0)) :: (.v (.str a1)) :: (.v (.str a2)) :: u3 ((.v (.str ((⟨#[]⟩ : ByteArray)))) :: (dI (w64 ((a0.size : Int) - (a1.size : Int)))) :: u1 ((.v (.str a0)) :: (dI ((a0.size : Int))) :: (.v (.str a1)) :: (dI ((a1.size : Int))) :: (dI (w64 ((a0.size : Int) - (a1.size : Int)))) :: (dI (w64 ((a0.size : Int) - (a1.size : Int)))) :: (dB false) :: (dB false) :: (.v (.str a0)) :: (dI (w64 ((a0.size : Int) - (a1.size : Int)))) :: (.v (.str v14)) :: (.v (.str a1)) :: (dB (!(v14.toList == a1.toList))) :: (dB (!(v14.toList == a1.toList))) :: u9 [])), []⟩ (by kernel_rfl) ?_
      exact J42j10 _ _ _ _ _ _ _ (some_sub (fun v9 => f42_r1 m a0 a1 a2 v9 = some o) ev9 h)
    · have ev9 := cnd_t ev9
      refine Ops.seg' 6 9 (by kernel_rfl) ?_
      refine Ops.st ⟨(.v (.str a0)) :: (.v (.str a1)) :: (.v (.str a2)) :: u3 ((.v (.str ((⟨#[]⟩ : ByteArray)))) :: (dI (w64 ((a0.size : Int) - (a1.size : Int)))) :: u1 ((.v (.str a0)) :: (dI ((a0.size : Int))) :: (.v (.str a1)) :: (dI ((a1.size : Int))) :: (dI (w64 ((a0.size : Int) - (a1.size : Int)))) :: (dI (w64 ((a0.size : Int) - (a1.size : Int)))) :: (dB true) :: (dB true) :: u5 ((dB true) :: u9 []))), []⟩ (by kernel_rfl) ?_
      exact J42j10 _ _ _ _ _ _ _ (some_sub (fun v9 => f42_r1 m a0 a1 a2 v9 = some o) ev9 h)
  exact Ops.st ⟨(.v (.str a0)) :: (.v (.str a1)) :: (.v (.str a2)) :: u3 ((.v (.str ((⟨#[]⟩ : ByteArray)))) :: (dI (w64 ((a0.size : Int) - (a1.size : Int)))) :: u1 ((.v (.str a0)) :: (dI ((a0.size : Int))) :: (.v (.str a1)) :: (dI ((a1.size : Int))) :: (dI (w64 ((a0.size : Int) - (a1.size : Int)))) :: (dI (w64 ((a0.size : Int) - (a1.size : Int)))) :: (dB ((decide (w64 ((a0.size : Int) - (a1.size : Int)) < 0)))) :: (dB ((decide (w64 ((a0.size : Int) - (a1.size : Int)) < 0)))) :: u15 [])), []⟩ (by kernel_rfl) (G42g2 (decide (w64 ((a0.size : Int) - (a1.size : Int)) < 0)) ev9)

/-! ### 18 glosswright/glosswrightref6.TableOf -/
def f18_j1 (m : Nat) (v18 : Int) (v28 : (List S41)) : Option (Stp ((List S41)) ((List S41) × Int)) :=
  some (.nxt (v28, w64 (v18 + 1)))
def f18_j2 (m : Nat) (v18 : Int) (v32 : (List S41)) : Option (Stp ((List S41)) ((List S41) × Int)) :=
  f18_j1 m v18 v32
def f18_B3 (m : Nat) (a0 : S23) (a1 : ByteArray) (v17 : (List S41)) (v18 : Int) : Option (Stp ((List S41)) ((List S41) × Int)) :=
  cnd (decide (v18 < (a0.fCells.length : Int)))
  (bnd (idx a0.fCells v18) fun v30 =>
  bnd (f42 m a1 v30.fCut v30.fAdd) fun v31 =>
  cnd (!(v31.toList == ((⟨#[]⟩ : ByteArray)).toList))
  (bnd (app 40 v17 ([(⟨v30.fTags, v31⟩ : S41)])) fun v34 =>
  f18_j2 m v18 v34)
  (f18_j2 m v18 v17))
  (some (.brk (v17, v18)))
def f18 (m : Nat) (a0 : S23) (a1 : ByteArray) : Option (List S41) :=
  brk (iter (fun (y : (List S41) × Int) => f18_B3 m a0 a1 y.1 y.2) m ([], 0)) some fun y36 =>
  some y36.1
noncomputable abbrev X18 (n : Nat) : Cx := cxOf Proofs.Tryd.prog E 18 n
noncomputable def C18 : Code := bodyOf Proofs.Tryd.prog 18
theorem ok18 (m : Nat) (a0 : S23) (a1 : ByteArray) (o : (List S41)) (h : f18 m a0 a1 = some o) (n : Nat) (hn : m + 6 ≤ n) : Fn Proofs.Tryd.prog E n 18 [.v (e23 a0), .v (eS a1)] ((eL e41) o) := by
  obtain ⟨n, rfl⟩ : ∃ q, n = q + 1 := ⟨n - 1, by omega⟩
  unfold f18 at h
  refine Fn.of (by kernel_rfl) (by kernel_rfl) (by kernel_rfl) ⟨(.v (.agg [(.str a0.fName), (vP e67 a0.fCells)])) :: (.v (.str a1)) :: u31 [], []⟩ (by kernel_rfl) ?_
  refine Wp.seq' (by kernel_rfl) ?_
  refine Wp.region (by kernel_rfl) ?_
  refine Ops.seg' 2 2 (by kernel_rfl) ?_
  refine Ops.done (by kernel_rfl) ?_
  refine seqQ.n ?_
  refine Wp.seq' (by kernel_rfl) ?_
  refine Wp.region (by kernel_rfl) ?_
  refine Ops.seg' 1 1 (by kernel_rfl) ?_
  refine Ops.done (by kernel_rfl) ?_
  refine seqQ.n ?_
  refine Wp.seq' (by kernel_rfl) ?_
  refine Wp.seq' (by kernel_rfl) ?_
  refine Wp.region (by kernel_rfl) ?_
  refine Ops.seg' 2 2 (by kernel_rfl) ?_
  refine Ops.one' 3 (fun h0 e0 => (len_r (T := T) h0 22 68 .plain e67 a0.fCells (by kernel_rfl))) (by kernel_rfl) (by kernel_rfl) ?_
  refine Ops.seg' 1 4 (by kernel_rfl) ?_
  refine Ops.done (by kernel_rfl) ?_
  refine seqQ.n ?_
  refine Wp.block' 0 [4, 5] 1 (by kernel_rfl) ?_
  have hLx35 : ∀ (kx20 : Nat) (v17 : (List S41)) (v18 : Int)  (ox19 : (List S41) ⊕ ((List S41) × Int)), iter (fun (y : (List S41) × Int) => f18_B3 m a0 a1 y.1 y.2) kx20 (v17, v18) = some ox19 → ∀ nx21, kx20 ≤ nx21 → (∀ r, ox19 = .inl r → ∀ σ, RetOk (X18 n) (resOf Proofs.Tryd.prog 18) ((eL e41) r) σ → (seqQ (X18 n) (cR (cR (cR C18))) (fnQ (X18 n).E.T (resOf Proofs.Tryd.prog 18) ((eL e41) o))) .ret σ) → (∀ (y : (List S41) × Int) , ox19 = .inr y → (seqQ (X18 n) (cR (cR (cR C18))) (fnQ (X18 n).E.T (resOf Proofs.Tryd.prog 18) ((eL e41) o))) .normal ⟨q4 ((.v (.sl .nil (List.map e41 []))) :: (appD 1 (List.map e41 y.1)) :: q27 []), [(.cells [(.v (.str a0.fName)), (dP e67 a0.fCells)]), (appO 2 (List.map e41 y.1))]⟩) → Lp (X18 n) [1, 4, 5, 10, 11, 12] 1 (cL (cL (cR (cL (cR (cR C18)))))) nx21 ⟨q1 ((.v (.str a1)) :: q2 ((.v (.sl .nil (List.map e41 []))) :: (appD 1 (List.map e41 v17)) :: q4 ((dP e67 a0.fCells) :: (dI ((a0.fCells.length : Int))) :: (dI v18) :: q20 []))), [(.cells [(.v (.str a0.fName)), (dP e67 a0.fCells)]), (appO 2 (List.map e41 v17))]⟩ (blkQ (X18 n) 0 [4, 5] 1 (seqQ (X18 n) (cR (cR (cR C18))) (fnQ (X18 n).E.T (resOf Proofs.Tryd.prog 18) ((eL e41) o)))) := by
    intro kx20
    induction kx20 with
    | zero => intro v17 v18  ox19 h; exact (iter_zero h).elim
    | succ kx20 ihx22 =>
      intro v17 v18  ox19 h nx21 hnx25 hrx23 hxx24
      obtain ⟨nx21, rfl⟩ : ∃ q, nx21 = q + 1 := ⟨nx21 - 1, by omega⟩
      obtain ⟨sx26, h, hsx27⟩ := iter_some h
      have h : f18_B3 m a0 a1 v17 v18 = some sx26 := h
      unfold f18_B3 at h
      refine Lp.succ ?_
      refine Wp.seq' (by kernel_rfl) ?_
      refine Wp.region (by kernel_rfl) ?_
      refine Ops.seg' 1 1 (by kernel_rfl) ?_
      refine Ops.done (by kernel_rfl) ?_
      refine seqQ.n ?_
      refine Wp.seq' (by kernel_rfl) ?_
      refine Wp.cnd h [1, 4, 5, 10, 11, 12] 2 (by kernel_rfl) (fun h => ?_) (fun h => ?_)
      · refine Wp.skip (by kernel_rfl) ?_
        refine sqQ.n ⟨q1 ((.v (.str a1)) :: q2 ((.v (.sl .nil (List.map e41 []))) :: (appD 2 (List.map e41 v17)) :: q4 ((dP e67 a0.fCells) :: (dI ((a0.fCells.length : Int))) :: (dI v18) :: q20 []))), [(.cells [(.v (.str a0.fName)), (dP e67 a0.fCells)]), .dead, (appO 2 (List.map e41 v17))]⟩ (by generalize v17 = z0; cases z0 <;> kernel_rfl) ?_
        refine seqQ.n ?_
        refine Wp.seq' (by kernel_rfl) ?_
        have J18j29 : ∀ (v28 : (List S41)) , f18_j1 m v18 v28 = some sx26 → (seqQ (X18 n) (cR (cR (cR (cL (cL (cR (cL (cR (cR C18))))))))) (lpQ (X18 n) [1, 4, 5, 10, 11, 12] 1 (cL (cL (cR (cL (cR (cR C18)))))) nx21 (blkQ (X18 n) 0 [4, 5] 1 (seqQ (X18 n) (cR (cR (cR C18))) (fnQ (X18 n).E.T (resOf Proofs.Tryd.prog 18) ((eL e41) o)))))) .normal ⟨q1 ((.v (.str a1)) :: q2 ((.v (.sl .nil (List.map e41 []))) :: (appD 3 (List.map e41 v28)) :: q4 ((dP e67 a0.fCells) :: (dI ((a0.fCells.length : Int))) :: (dI v18) :: q20 []))), [(.cells [(.v (.str a0.fName)), (dP e67 a0.fCells)]), .dead, .dead, (appO 2 (List.map e41 v28))]⟩ := by
          intro v28  h
          unfold f18_j1 at h
          refine seqQ.n ?_
          refine Wp.region (by kernel_rfl) ?_
          refine Ops.seg' 2 2 (by kernel_rfl) ?_
          refine Ops.done (by kernel_rfl) ?_
          refine lpQ.n ⟨q1 ((.v (.str a1)) :: q2 ((.v (.sl .nil (List.map e41 []))) :: (appD 1 (List.map e41 v28)) :: q4 ((dP e67 a0.fCells) :: (dI ((a0.fCells.length : Int))) :: (dI (w64 (v18 + 1))) :: q20 []))), [(.cells [(.v (.str a0.fName)), (dP e67 a0.fCells)]), (appO 2 (List.map e41 v28))]⟩ (by generalize v28 = z0; cases z0 <;> kernel_rfl) ?_
          cases h
          exact ihx22 v28 (w64 (v18 + 1))  _ hsx27 _ (by omega) hrx23 hxx24
        refine Wp.block' 1 [1, 4, 5, 10, 11, 12] 3 (by kernel_rfl) ?_
        refine Wp.seq' (by kernel_rfl) ?_
        refine Wp.region (by kernel_rfl) ?_
        obtain ⟨v30, ev30, h⟩ := bnd_some h
        refine Ops.one' 1 (fun h0 e0 => (ix_r (T := T) h0 22 68 3 .plain e67 a0.fCells v18 v30 ev30 (by kernel_rfl) (by kernel_rfl) (fun _ => rfl))) (by kernel_rfl) (by kernel_rfl) ?_
        refine Ops.seg' 3 4 (by kernel_rfl) ?_
        refine Ops.done (by kernel_rfl) ?_
        refine seqQ.n ?_
        refine Wp.seq' (by kernel_rfl) ?_
        refine Wp.region (by kernel_rfl) ?_
        refine Ops.seg' 5 5 (by kernel_rfl) ?_
        obtain ⟨v31, ev31, h⟩ := bnd_some h
        refine Ops.one' 6 (fun h0 e0 => (call_ok (E' := E) (h := h0) (by kernel_rfl) (Args.v (.str a1) (eS a1) (by kernel_rfl) (Args.v (.str v30.fCut) (eS v30.fCut) (by kernel_rfl) (Args.v (.str v30.fAdd) (eS v30.fAdd) (by kernel_rfl) Args.nil))) (ok42 m a1 v30.fCut v30.fAdd v31 ev31 n (by omega)))) (by kernel_rfl) (by kernel_rfl) ?_
        refine Ops.seg' 1 7 (by kernel_rfl) ?_
        refine Ops.done (by kernel_rfl) ?_
        refine seqQ.n ?_
        refine Wp.seq' (by kernel_rfl) ?_
        refine Wp.region (by kernel_rfl) ?_
        refine Ops.seg' 2 2 (by kernel_rfl) ?_
        refine Ops.done (by kernel_rfl) ?_
        refine seqQ.n ?_
        have J18j33 : ∀ (v32 : (List S41)) , f18_j2 m v18 v32 = some sx26 → (blkQ (X18 n) 1 [1, 4, 5, 10, 11, 12] 3 (seqQ (X18 n) (cR (cR (cR (cL (cL (cR (cL (cR (cR C18))))))))) (lpQ (X18 n) [1, 4, 5, 10, 11, 12] 1 (cL (cL (cR (cL (cR (cR C18)))))) nx21 (blkQ (X18 n) 0 [4, 5] 1 (seqQ (X18 n) (cR (cR (cR C18))) (fnQ (X18 n).E.T (resOf Proofs.Tryd.prog 18) ((eL e41) o))))))) .normal ⟨q1 ((.v (.str a1)) :: q2 ((.v (.sl .nil (List.map e41 []))) :: (appD 4 (List.map e41 v32)) :: q4 ((dP e67 a0.fCells) :: (dI ((a0.fCells.length : Int))) :: (dI v18) :: q20 []))), [(.cells [(.v (.str a0.fName)), (dP e67 a0.fCells)]), .dead, .dead, (.cells [(dP eS v30.fTags), (.v (.str v30.fCut)), (.v (.str v30.fAdd))]), (appO 2 (List.map e41 v32))]⟩ := by
          intro v32  h
          unfold f18_j2 at h
          refine blkQ.n ⟨q1 ((.v (.str a1)) :: q2 ((.v (.sl .nil (List.map e41 []))) :: (appD 3 (List.map e41 v32)) :: q4 ((dP e67 a0.fCells) :: (dI ((a0.fCells.length : Int))) :: (dI v18) :: q20 []))), [(.cells [(.v (.str a0.fName)), (dP e67 a0.fCells)]), .dead, .dead, (appO 2 (List.map e41 v32))]⟩ (by generalize v32 = z0; cases z0 <;> kernel_rfl) ?_
          exact J18j29 v32  h
        refine Wp.cnd h [1, 4, 5, 10, 11, 12] 4 (by kernel_rfl) (fun h => ?_) (fun h => ?_)
        · refine Wp.region (by kernel_rfl) ?_
          refine Ops.seg' 6 6 (by kernel_rfl) ?_
          obtain ⟨v34, ev34, h⟩ := bnd_some h
          refine Ops.one' 7 (fun h0 e0 => (app_r (T := T) (g := .nil) h0 26 42 2 2 ti42 .nonfull e41 v17 ([(⟨v30.fTags, v31⟩ : S41)]) v34 ev34 (by kernel_rfl) (by kernel_rfl) (by kernel_rfl) (by kernel_rfl) (fun _ => rfl) (hq_of e0 (by kernel_rfl)))) (by kernel_rfl) (by kernel_rfl) ?_
          refine Ops.seg' 1 8 (by kernel_rfl) ?_
          refine Ops.done (by kernel_rfl) ?_
          refine sqQ.n ⟨q1 ((.v (.str a1)) :: q2 ((.v (.sl .nil (List.map e41 []))) :: (appD 4 (List.map e41 v34)) :: q4 ((dP e67 a0.fCells) :: (dI ((a0.fCells.length : Int))) :: (dI v18) :: q20 []))), [(.cells [(.v (.str a0.fName)), (dP e67 a0.fCells)]), .dead, .dead, (.cells [(dP eS v30.fTags), (.v (.str v30.fCut)), (.v (.str v30.fAdd))]), (appO 2 (List.map e41 v34))]⟩ (by generalize v34 = z0; cases z0 <;> kernel_rfl) ?_
          exact J18j33 v34  h
        · refine Wp.skip (by kernel_rfl) ?_
          refine sqQ.n ⟨q1 ((.v (.str a1)) :: q2 ((.v (.sl .nil (List.map e41 []))) :: (appD 4 (List.map e41 v17)) :: q4 ((dP e67 a0.fCells) :: (dI ((a0.fCells.length : Int))) :: (dI v18) :: q20 []))), [(.cells [(.v (.str a0.fName)), (dP e67 a0.fCells)]), .dead, .dead, (.cells [(dP eS v30.fTags), (.v (.str v30.fCut)), (.v (.str v30.fAdd))]), (appO 2 (List.map e41 v17))]⟩ (by generalize v17 = z0; cases z0 <;> kernel_rfl) ?_
          exact J18j33 v17  h
      · refine Wp.exit (id := 0) (by kernel_rfl) ?_
        refine sqQ.x ?_
        refine seqQ.x ?_
        cases h
        refine lpQ.x ?_
        refine blkQ.x ⟨q4 ((.v (.sl .nil (List.map e41 []))) :: (appD 1 (List.map e41 v17)) :: q27 []), [(.cells [(.v (.str a0.fName)), (dP e67 a0.fCells)]), (appO 2 (List.map e41 v17))]⟩ (by generalize v17 = z0; cases z0 <;> kernel_rfl) ?_
        exact hxx24 (v17, v18)  hsx27
  refine Wp.loop' [1, 4, 5, 10, 11, 12] 1 (by kernel_rfl) ⟨q1 ((.v (.str a1)) :: q2 ((.v (.sl .nil (List.map e41 []))) :: (appD 1 (List.map e41 [])) :: q4 ((dP e67 a0.fCells) :: (dI ((a0.fCells.length : Int))) :: (dI 0) :: q20 []))), [(.cells [(.v (.str a0.fName)), (dP e67 a0.fCells)]), .dead]⟩ (by kernel_rfl) ?_
  rcases brk_some h with ⟨r37, er37, h⟩ | ⟨y36, ey36, h⟩
  · refine hLx35 _ [] 0  _ er37 n (by omega) (fun r er σ hσ => ?_) (fun y  ey => by cases ey)
    cases er
    refine seqQ.r ?_
    exact fnQ.r' (X18 n) (fun z => ((eL e41) z)) h hσ
  · refine hLx35 _ [] 0  _ ey36 n (by omega) (fun r er => by cases er) (fun y  ey => ?_)
    cases ey
    refine seqQ.n ?_
    refine Wp.seq' (by kernel_rfl) ?_
    refine Wp.region (by kernel_rfl) ?_
    refine Ops.seg' 2 2 (by kernel_rfl) ?_
    refine Ops.done (by kernel_rfl) ?_
    refine seqQ.n ?_
    refine Wp.ret (by kernel_rfl) ?_
    exact fnQ.r' (X18 n) (fun z => ((eL e41) z)) h (RetOk.mk' (appD 1 (List.map e41 y36.1)) (by kernel_rfl) (appD_frz _ _ _ _))

/-! ### 21 glosswright/glosswrightref6.BasesOf -/
def f21_j1 (m : Nat) (v931 : Int) (v941 : (List ByteArray)) : Option (Stp ((List ByteArray)) ((List ByteArray) × Int)) :=
  some (.nxt (v941, w64 (v931 + 1)))
def f21_j2 (m : Nat) (v961 : Int) (v971 : Bool) : Option (Stp ((List ByteArray)) (Bool × Int)) :=
  some (.nxt (v971, w64 (v961 + 1)))
def f21_j3 (m : Nat) (v961 : Int) (v974 : Bool) : Option (Stp ((List ByteArray)) (Bool × Int)) :=
  f21_j2 m v961 v974
def f21_B4 (m : Nat) (a1 : ByteArray) (v947 : (List S41)) (v960 : Bool) (v961 : Int) : Option (Stp ((List ByteArray)) (Bool × Int)) :=
  cnd (decide (v961 < (v947.length : Int)))
  (bnd (idx v947 v961) fun v973 =>
  cnd ((v973.fForm.toList == a1.toList))
  (f21_j3 m v961 true)
  (f21_j3 m v961 v960))
  (some (.brk (v960, v961)))
def f21_r5 (m : Nat) (v1004 : Int) (v1023 : Bool) : Option (Stp ((List ByteArray)) (Int)) :=
  cnd v1023
  (some (.nxt (w64 (v1004 + 1))))
  (some (.brk v1004))
def f21_B6 (m : Nat) (v929 : (List ByteArray)) (v945 : ByteArray) (v1004 : Int) : Option (Stp ((List ByteArray)) (Int)) :=
  bnd (cnd (decide (v1004 < (v929.length : Int)))
  (bnd (idx v929 v1004) fun v1025 =>
  some (Op.bytesLess v1025.toList v945.toList))
  (some false)) fun v1023 =>
  f21_r5 m v1004 v1023
def f21_j7 (m : Nat) (v931 : Int) (v1040 : (List ByteArray)) : Option (Stp ((List ByteArray)) ((List ByteArray) × Int)) :=
  f21_j1 m v931 v1040
def f21_r8 (m : Nat) (v929 : (List ByteArray)) (v931 : Int) (v945 : ByteArray) (y1027 : Int) (v1038 : Bool) : Option (Stp ((List ByteArray)) ((List ByteArray) × Int)) :=
  cnd v1038
  (bnd (sub v929 0 y1027) fun v1044 =>
  bnd (app 16 [] v1044) fun v1045 =>
  bnd (app 16 v1045 [v945]) fun v1046 =>
  bnd (sub v929 y1027 (v929.length : Int)) fun v1047 =>
  bnd (app 16 v1046 v1047) fun v1048 =>
  f21_j7 m v931 v1048)
  (f21_j7 m v931 v929)
def f21_B9 (m : Nat) (a0 : S23) (a1 : ByteArray) (v707 : S67) (v929 : (List ByteArray)) (v931 : Int) : Option (Stp ((List ByteArray)) ((List ByteArray) × Int)) :=
  cnd (decide (v931 ≤ (a1.size : Int)))
  (bnd (ssub a1 0 v931) fun v944 =>
  bnd (scat v944 v707.fCut) fun v945 =>
  bnd (f16 m v945) fun v946 =>
  cnd (!v946)
  (f21_j1 m v931 v929)
  (bnd (f18 m a0 v945) fun v947 =>
  brk (iter (fun (y : Bool × Int) => f21_B4 m a1 v947 y.1 y.2) m (false, 0)) (fun r => some (.ret r)) fun y977 =>
  cnd (!y977.1)
  (f21_j1 m v931 v929)
  (brk (iter (fun (y : Int) => f21_B6 m v929 v945 y) m 0) (fun r => some (.ret r)) fun y1027 =>
  bnd (cnd (y1027 == ((v929.length : Int)))
  (some true)
  (bnd (idx v929 y1027) fun v1049 =>
  some (!(v1049.toList == v945.toList)))) fun v1038 =>
  f21_r8 m v929 v931 v945 y1027 v1038)))
  (some (.brk (v929, v931)))
def f21_B10 (m : Nat) (a0 : S23) (a1 : ByteArray) (v695 : (List ByteArray)) (v697 : Int) : Option (Stp ((List ByteArray)) ((List ByteArray) × Int)) :=
  cnd (decide (v697 < (a0.fCells.length : Int)))
  (bnd (idx a0.fCells v697) fun v707 =>
  brk (iter (fun (y : (List ByteArray) × Int) => f21_B9 m a0 a1 v707 y.1 y.2) m (v695, 0)) (fun r => some (.ret r)) fun y1051 =>
  some (.nxt (y1051.1, w64 (v697 + 1))))
  (some (.brk (v695, v697)))
def f21 (m : Nat) (a0 : S23) (a1 : ByteArray) : Option (List ByteArray) :=
  brk (iter (fun (y : (List ByteArray) × Int) => f21_B10 m a0 a1 y.1 y.2) m ([], 0)) some fun y1054 =>
  some y1054.1
noncomputable abbrev X21 (n : Nat) : Cx := cxOf Proofs.Tryd.prog E 21 n
noncomputable def C21 : Code := bodyOf Proofs.Tryd.prog 21
theorem ok21 (m : Nat) (a0 : S23) (a1 : ByteArray) (o : (List ByteArray)) (h : f21 m a0 a1 = some o) (n : Nat) (hn : m + 7 ≤ n) : Fn Proofs.Tryd.prog E n 21 [.v (e23 a0), .v (eS a1)] ((eL eS) o) := by
  obtain ⟨n, rfl⟩ : ∃ q, n = q + 1 := ⟨n - 1, by omega⟩
  unfold f21 at h
  refine Fn.of (by kernel_rfl) (by kernel_rfl) (by kernel_rfl) ⟨(.v (.agg [(.str a0.fName), (vP e67 a0.fCells)])) :: (.v (.str a1)) :: u40 (u40 (u9 [])), []⟩ (by kernel_rfl) ?_
  refine Wp.seq' (by kernel_rfl) ?_
  refine Wp.region (by kernel_rfl) ?_
  refine Ops.seg' 2 2 (by kernel_rfl) ?_
  refine Ops.done (by kernel_rfl) ?_
  refine seqQ.n ?_
  refine Wp.seq' (by kernel_rfl) ?_
  refine Wp.region (by kernel_rfl) ?_
  refine Ops.seg' 1 1 (by kernel_rfl) ?_
  refine Ops.done (by kernel_rfl) ?_
  refine seqQ.n ?_
  refine Wp.seq' (by kernel_rfl) ?_
  refine Wp.seq' (by kernel_rfl) ?_
  refine Wp.region (by kernel_rfl) ?_
  refine Ops.seg' 2 2 (by kernel_rfl) ?_
  refine Ops.one' 3 (fun h0 e0 => (len_r (T := T) h0 22 68 .plain e67 a0.fCells (by kernel_rfl))) (by kernel_rfl) (by kernel_rfl) ?_
  refine Ops.seg' 1 4 (by kernel_rfl) ?_
  refine Ops.done (by kernel_rfl) ?_
  refine seqQ.n ?_
  refine Wp.block' 0 [4, 5] 1 (by kernel_rfl) ?_
  have hLx1053 : ∀ (kx699 : Nat) (v695 : (List ByteArray)) (v697 : Int) (ag696 : AG) (ox698 : (List ByteArray) ⊕ ((List ByteArray) × Int)), iter (fun (y : (List ByteArray) × Int) => f21_B10 m a0 a1 y.1 y.2) kx699 (v695, v697) = some ox698 → ∀ nx700, kx699 ≤ nx700 → (∀ r, ox698 = .inl r → ∀ σ, RetOk (X21 n) (resOf Proofs.Tryd.prog 21) ((eL eS) r) σ → (seqQ (X21 n) (cR (cR (cR C21))) (fnQ (X21 n).E.T (resOf Proofs.Tryd.prog 21) ((eL eS) o))) .ret σ) → (∀ (y : (List ByteArray) × Int) (ag696 : AG), ox698 = .inr y → (seqQ (X21 n) (cR (cR (cR C21))) (fnQ (X21 n).E.T (resOf Proofs.Tryd.prog 21) ((eL eS) o))) .normal ⟨q4 ((.v (.sl .nil (List.map eS []))) :: (AG.d ag696 1 (List.map eS y.1)) :: q40 (q40 (q5 []))), [(.cells [(.v (.str a0.fName)), (dP e67 a0.fCells)]), (AG.o ag696 1 (List.map eS y.1))]⟩) → Lp (X21 n) [1, 2, 4, 5, 15, 16, 17] 1 (cL (cL (cR (cL (cR (cR C21)))))) nx700 ⟨q1 ((.v (.str a1)) :: (.ptr 0 0) :: q1 ((.v (.sl .nil (List.map eS []))) :: (AG.d ag696 1 (List.map eS v695)) :: q9 ((dP e67 a0.fCells) :: (dI ((a0.fCells.length : Int))) :: (dI v697) :: q40 (q33 [])))), [(.cells [(.v (.str a0.fName)), (dP e67 a0.fCells)]), (AG.o ag696 1 (List.map eS v695))]⟩ (blkQ (X21 n) 0 [4, 5] 1 (seqQ (X21 n) (cR (cR (cR C21))) (fnQ (X21 n).E.T (resOf Proofs.Tryd.prog 21) ((eL eS) o)))) := by
    intro kx699
    induction kx699 with
    | zero => intro v695 v697 ag696 ox698 h; exact (iter_zero h).elim
    | succ kx699 ihx701 =>
      intro v695 v697 ag696 ox698 h nx700 hnx704 hrx702 hxx703
      obtain ⟨nx700, rfl⟩ : ∃ q, nx700 = q + 1 := ⟨nx700 - 1, by omega⟩
      obtain ⟨sx705, h, hsx706⟩ := iter_some h
      have h : f21_B10 m a0 a1 v695 v697 = some sx705 := h
      unfold f21_B10 at h
      refine Lp.succ ?_
      refine Wp.seq' (by kernel_rfl) ?_
      refine Wp.region (by kernel_rfl) ?_
      refine Ops.seg' 1 1 (by kernel_rfl) ?_
      refine Ops.done (by kernel_rfl) ?_
      refine seqQ.n ?_
      refine Wp.seq' (by kernel_rfl) ?_
      refine Wp.cnd h [1, 2, 4, 5, 15, 16, 17] 2 (by kernel_rfl) (fun h => ?_) (fun h => ?_)
      · refine Wp.skip (by kernel_rfl) ?_
        refine sqQ.n ⟨q1 ((.v (.str a1)) :: (.ptr 0 0) :: q1 ((.v (.sl .nil (List.map eS []))) :: (AG.d ag696 2 (List.map eS v695)) :: q9 ((dP e67 a0.fCells) :: (dI ((a0.fCells.length : Int))) :: (dI v697) :: q40 (q33 [])))), [(.cells [(.v (.str a0.fName)), (dP e67 a0.fCells)]), .dead, (AG.o ag696 1 (List.map eS v695))]⟩ (by cases ag696 <;> kernel_rfl) ?_
        refine seqQ.n ?_
        refine Wp.seq' (by kernel_rfl) ?_
        refine Wp.block' 1 [1, 2, 4, 5, 15, 16, 17] 3 (by kernel_rfl) ?_
        refine Wp.seq' (by kernel_rfl) ?_
        refine Wp.region (by kernel_rfl) ?_
        obtain ⟨v707, ev707, h⟩ := bnd_some h
        refine Ops.one' 1 (fun h0 e0 => (ix_r (T := T) h0 22 68 3 .plain e67 a0.fCells v697 v707 ev707 (by kernel_rfl) (by kernel_rfl) (fun _ => rfl))) (by kernel_rfl) (by kernel_rfl) ?_
        refine Ops.seg' 3 4 (by kernel_rfl) ?_
        refine Ops.done (by kernel_rfl) ?_
        refine seqQ.n ?_
        refine Wp.seq' (by kernel_rfl) ?_
        refine Wp.region (by kernel_rfl) ?_
        refine Ops.seg' 1 1 (by kernel_rfl) ?_
        refine Ops.done (by kernel_rfl) ?_
        refine seqQ.n ?_
        refine Wp.block' 2 [1, 2, 4, 5, 15, 16, 17] 4 (by kernel_rfl) ?_
        have hLx1050 : ∀ (kx933 : Nat) (v929 : (List ByteArray)) (v931 : Int) (ag930 : AG) (ox932 : (List ByteArray) ⊕ ((List ByteArray) × Int)), iter (fun (y : (List ByteArray) × Int) => f21_B9 m a0 a1 v707 y.1 y.2) kx933 (v929, v931) = some ox932 → ∀ nx934, kx933 ≤ nx934 → (∀ r, ox932 = .inl r → ∀ σ, RetOk (X21 n) (resOf Proofs.Tryd.prog 21) ((eL eS) r) σ → (blkQ (X21 n) 1 [1, 2, 4, 5, 15, 16, 17] 3 (seqQ (X21 n) (cR (cR (cR (cL (cL (cR (cL (cR (cR C21))))))))) (lpQ (X21 n) [1, 2, 4, 5, 15, 16, 17] 1 (cL (cL (cR (cL (cR (cR C21)))))) nx700 (blkQ (X21 n) 0 [4, 5] 1 (seqQ (X21 n) (cR (cR (cR C21))) (fnQ (X21 n).E.T (resOf Proofs.Tryd.prog 21) ((eL eS) o))))))) .ret σ) → (∀ (y : (List ByteArray) × Int) (ag930 : AG), ox932 = .inr y → (blkQ (X21 n) 1 [1, 2, 4, 5, 15, 16, 17] 3 (seqQ (X21 n) (cR (cR (cR (cL (cL (cR (cL (cR (cR C21))))))))) (lpQ (X21 n) [1, 2, 4, 5, 15, 16, 17] 1 (cL (cL (cR (cL (cR (cR C21)))))) nx700 (blkQ (X21 n) 0 [4, 5] 1 (seqQ (X21 n) (cR (cR (cR C21))) (fnQ (X21 n).E.T (resOf Proofs.Tryd.prog 21) ((eL eS) o))))))) .normal ⟨q1 ((.v (.str a1)) :: (.ptr 0 0) :: q1 ((.v (.sl .nil (List.map eS []))) :: (AG.d ag930 4 (List.map eS y.1)) :: q9 ((dP e67 a0.fCells) :: (dI ((a0.fCells.length : Int))) :: (dI v697) :: q40 (q33 [])))), [(.cells [(.v (.str a0.fName)), (dP e67 a0.fCells)]), .dead, .dead, (.cells [(dP eS v707.fTags), (.v (.str v707.fCut)), (.v (.str v707.fAdd))]), (AG.o ag930 1 (List.map eS y.1))]⟩) → Lp (X21 n) [1, 2, 4, 5, 7, 8, 15, 16, 17] 4 (cL (cL (cR (cR (cL (cL (cR (cR (cL (cL (cR (cL (cR (cR C21)))))))))))))) nx934 ⟨q1 ((.v (.str a1)) :: (.ptr 0 0) :: q1 ((.v (.sl .nil (List.map eS []))) :: (AG.d ag930 4 (List.map eS v929)) :: q1 ((.ptr 3 0) :: (dI v931) :: q6 ((dP e67 a0.fCells) :: (dI ((a0.fCells.length : Int))) :: (dI v697) :: q40 (q33 []))))), [(.cells [(.v (.str a0.fName)), (dP e67 a0.fCells)]), .dead, .dead, (.cells [(dP eS v707.fTags), (.v (.str v707.fCut)), (.v (.str v707.fAdd))]), (AG.o ag930 1 (List.map eS v929))]⟩ (blkQ (X21 n) 2 [1, 2, 4, 5, 15, 16, 17] 4 (blkQ (X21 n) 1 [1, 2, 4, 5, 15, 16, 17] 3 (seqQ (X21 n) (cR (cR (cR (cL (cL (cR (cL (cR (cR C21))))))))) (lpQ (X21 n) [1, 2, 4, 5, 15, 16, 17] 1 (cL (cL (cR (cL (cR (cR C21)))))) nx700 (blkQ (X21 n) 0 [4, 5] 1 (seqQ (X21 n) (cR (cR (cR C21))) (fnQ (X21 n).E.T (resOf Proofs.Tryd.prog 21) ((eL eS) o)))))))) := by
          intro kx933
          induction kx933 with
          | zero => intro v929 v931 ag930 ox932 h; exact (iter_zero h).elim
          | succ kx933 ihx935 =>
            intro v929 v931 ag930 ox932 h nx934 hnx938 hrx936 hxx937
            obtain ⟨nx934, rfl⟩ : ∃ q, nx934 = q + 1 := ⟨nx934 - 1, by omega⟩
            obtain ⟨sx939, h, hsx940⟩ := iter_some h
            have h : f21_B9 m a0 a1 v707 v929 v931 = some sx939 := h
            unfold f21_B9 at h
            refine Lp.succ ?_
            refine Wp.seq' (by kernel_rfl) ?_
            refine Wp.seq' (by kernel_rfl) ?_
            refine Wp.region (by kernel_rfl) ?_
            refine Ops.seg' 4 4 (by kernel_rfl) ?_
            refine Ops.done (by kernel_rfl) ?_
            refine seqQ.n ?_
            refine Wp.cnd h [1, 2, 4, 5, 7, 8, 15, 16, 17] 5 (by kernel_rfl) (fun h => ?_) (fun h => ?_)
            · refine Wp.skip (by kernel_rfl) ?_
              refine sqQ.n ⟨q1 ((.v (.str a1)) :: (.ptr 0 0) :: q1 ((.v (.sl .nil (List.map eS []))) :: (AG.d ag930 5 (List.map eS v929)) :: q1 ((.ptr 3 0) :: (dI v931) :: q6 ((dP e67 a0.fCells) :: (dI ((a0.fCells.length : Int))) :: (dI v697) :: q40 (q33 []))))), [(.cells [(.v (.str a0.fName)), (dP e67 a0.fCells)]), .dead, .dead, (.cells [(dP eS v707.fTags), (.v (.str v707.fCut)), (.v (.str v707.fAdd))]), .dead, (AG.o ag930 1 (List.map eS v929))]⟩ (by cases ag930 <;> kernel_rfl) ?_
              refine seqQ.n ?_
              refine Wp.seq' (by kernel_rfl) ?_
              have J21j943 : ∀ (v941 : (List ByteArray)) (ag942 : AG), f21_j1 m v931 v941 = some sx939 → (seqQ (X21 n) (cR (cR (cL (cL (cR (cR (cL (cL (cR (cR (cL (cL (cR (cL (cR (cR C21)))))))))))))))) (lpQ (X21 n) [1, 2, 4, 5, 7, 8, 15, 16, 17] 4 (cL (cL (cR (cR (cL (cL (cR (cR (cL (cL (cR (cL (cR (cR C21)))))))))))))) nx934 (blkQ (X21 n) 2 [1, 2, 4, 5, 15, 16, 17] 4 (blkQ (X21 n) 1 [1, 2, 4, 5, 15, 16, 17] 3 (seqQ (X21 n) (cR (cR (cR (cL (cL (cR (cL (cR (cR C21))))))))) (lpQ (X21 n) [1, 2, 4, 5, 15, 16, 17] 1 (cL (cL (cR (cL (cR (cR C21)))))) nx700 (blkQ (X21 n) 0 [4, 5] 1 (seqQ (X21 n) (cR (cR (cR C21))) (fnQ (X21 n).E.T (resOf Proofs.Tryd.prog 21) ((eL eS) o)))))))))) .normal ⟨q1 ((.v (.str a1)) :: (.ptr 0 0) :: q1 ((.v (.sl .nil (List.map eS []))) :: (AG.d ag942 6 (List.map eS v941)) :: q1 ((.ptr 3 0) :: (dI v931) :: q6 ((dP e67 a0.fCells) :: (dI ((a0.fCells.length : Int))) :: (dI v697) :: q40 (q33 []))))), [(.cells [(.v (.str a0.fName)), (dP e67 a0.fCells)]), .dead, .dead, (.cells [(dP eS v707.fTags), (.v (.str v707.fCut)), (.v (.str v707.fAdd))]), .dead, .dead, (AG.o ag942 1 (List.map eS v941))]⟩ := by
                intro v941 ag942 h
                unfold f21_j1 at h
                refine seqQ.n ?_
                refine Wp.region (by kernel_rfl) ?_
                refine Ops.seg' 3 3 (by kernel_rfl) ?_
                refine Ops.done (by kernel_rfl) ?_
                refine lpQ.n ⟨q1 ((.v (.str a1)) :: (.ptr 0 0) :: q1 ((.v (.sl .nil (List.map eS []))) :: (AG.d ag942 4 (List.map eS v941)) :: q1 ((.ptr 3 0) :: (dI (w64 (v931 + 1))) :: q6 ((dP e67 a0.fCells) :: (dI ((a0.fCells.length : Int))) :: (dI v697) :: q40 (q33 []))))), [(.cells [(.v (.str a0.fName)), (dP e67 a0.fCells)]), .dead, .dead, (.cells [(dP eS v707.fTags), (.v (.str v707.fCut)), (.v (.str v707.fAdd))]), (AG.o ag942 1 (List.map eS v941))]⟩ (by cases ag942 <;> kernel_rfl) ?_
                cases h
                exact ihx935 v941 (w64 (v931 + 1)) _ _ hsx940 _ (by omega) hrx936 hxx937
              refine Wp.block' 3 [1, 2, 4, 5, 7, 8, 15, 16, 17] 6 (by kernel_rfl) ?_
              refine Wp.seq' (by kernel_rfl) ?_
              refine Wp.region (by kernel_rfl) ?_
              refine Ops.seg' 2 2 (by kernel_rfl) ?_
              obtain ⟨v944, ev944, h⟩ := bnd_some h
              refine Ops.one' 3 (fun h0 e0 => (str_sub (T := T) h0 9 a1 v944 none (some v931) ev944 (by kernel_rfl))) (by kernel_rfl) (by kernel_rfl) ?_
              refine Ops.seg' 2 5 (by kernel_rfl) ?_
              obtain ⟨v945, ev945, h⟩ := bnd_some h
              refine Ops.one' 6 (fun h0 e0 => (str_cat (T := T) h0 9 v944 v707.fCut v945 ev945)) (by kernel_rfl) (by kernel_rfl) ?_
              refine Ops.seg' 1 7 (by kernel_rfl) ?_
              refine Ops.done (by kernel_rfl) ?_
              refine seqQ.n ?_
              refine Wp.seq' (by kernel_rfl) ?_
              refine Wp.seq' (by kernel_rfl) ?_
              refine Wp.region (by kernel_rfl) ?_
              refine Ops.seg' 1 1 (by kernel_rfl) ?_
              obtain ⟨v946, ev946, h⟩ := bnd_some h
              refine Ops.one' 2 (fun h0 e0 => (call_ok (E' := E) (h := h0) (by kernel_rfl) (Args.v (.str v945) (eS v945) (by kernel_rfl) Args.nil) (ok16 m v945 v946 ev946 n (by omega)))) (by kernel_rfl) (by kernel_rfl) ?_
              refine Ops.seg' 1 3 (by kernel_rfl) ?_
              refine Ops.done (by kernel_rfl) ?_
              refine seqQ.n ?_
              refine Wp.cnd h [1, 2, 4, 5, 7, 8, 9, 15, 16, 17] 6 (by kernel_rfl) (fun h => ?_) (fun h => ?_)
              · refine Wp.exit (id := 3) (by kernel_rfl) ?_
                refine sqQ.x ?_
                refine seqQ.x ?_
                refine blkQ.x ⟨q1 ((.v (.str a1)) :: (.ptr 0 0) :: q1 ((.v (.sl .nil (List.map eS []))) :: (AG.d ag930 6 (List.map eS v929)) :: q1 ((.ptr 3 0) :: (dI v931) :: q6 ((dP e67 a0.fCells) :: (dI ((a0.fCells.length : Int))) :: (dI v697) :: q40 (q33 []))))), [(.cells [(.v (.str a0.fName)), (dP e67 a0.fCells)]), .dead, .dead, (.cells [(dP eS v707.fTags), (.v (.str v707.fCut)), (.v (.str v707.fAdd))]), .dead, .dead, (AG.o ag930 1 (List.map eS v929))]⟩ (by cases ag930 <;> kernel_rfl) ?_
                exact J21j943 v929 _ h
              · refine Wp.skip (by kernel_rfl) ?_
                refine sqQ.n ⟨q1 ((.v (.str a1)) :: (.ptr 0 0) :: q1 ((.v (.sl .nil (List.map eS []))) :: (AG.d ag930 6 (List.map eS v929)) :: q1 ((.ptr 3 0) :: (dI v931) :: (.v (.str v945)) :: q5 ((dP e67 a0.fCells) :: (dI ((a0.fCells.length : Int))) :: (dI v697) :: q40 (q33 []))))), [(.cells [(.v (.str a0.fName)), (dP e67 a0.fCells)]), .dead, .dead, (.cells [(dP eS v707.fTags), (.v (.str v707.fCut)), (.v (.str v707.fAdd))]), .dead, .dead, (AG.o ag930 1 (List.map eS v929))]⟩ (by cases ag930 <;> kernel_rfl) ?_
                refine seqQ.n ?_
                refine Wp.seq' (by kernel_rfl) ?_
                refine Wp.region (by kernel_rfl) ?_
                refine Ops.seg' 1 1 (by kernel_rfl) ?_
                refine Ops.done (by kernel_rfl) ?_
                refine seqQ.n ?_
                refine Wp.seq' (by kernel_rfl) ?_
                refine Wp.seq' (by kernel_rfl) ?_
                refine Wp.region (by kernel_rfl) ?_
                refine Ops.seg' 2 2 (by kernel_rfl) ?_
                obtain ⟨v947, ev947, h⟩ := bnd_some h
                refine Ops.one' 3 (fun h0 e0 => (call_ok (E' := E) (h := h0) (by kernel_rfl) (Args.v (.agg [(.str a0.fName), (vP e67 a0.fCells)]) (e23 a0) (by kernel_rfl) (Args.v (.str v945) (eS v945) (by kernel_rfl) Args.nil)) (ok18 m a0 v945 v947 ev947 n (by omega)))) (by kernel_rfl) (by kernel_rfl) ?_
                refine Ops.one' 4 (fun h0 e0 => (len_r (T := T) h0 26 42 .plain e41 v947 (by kernel_rfl))) (by kernel_rfl) (by kernel_rfl) ?_
                refine Ops.seg' 1 5 (by kernel_rfl) ?_
                refine Ops.done (by kernel_rfl) ?_
                refine seqQ.n ?_
                refine Wp.block' 4 [1, 2, 4, 5, 7, 8, 9, 10, 15, 16, 17] 7 (by kernel_rfl) ?_
                have hLx976 : ∀ (kx963 : Nat) (v960 : Bool) (v961 : Int)  (ox962 : (List ByteArray) ⊕ (Bool × Int)), iter (fun (y : Bool × Int) => f21_B4 m a1 v947 y.1 y.2) kx963 (v960, v961) = some ox962 → ∀ nx964, kx963 ≤ nx964 → (∀ r, ox962 = .inl r → ∀ σ, RetOk (X21 n) (resOf Proofs.Tryd.prog 21) ((eL eS) r) σ → (seqQ (X21 n) (cR (cR (cR (cR (cL (cL (cR (cL (cL (cR (cR (cL (cL (cR (cR (cL (cL (cR (cL (cR (cR C21))))))))))))))))))))) (blkQ (X21 n) 3 [1, 2, 4, 5, 7, 8, 15, 16, 17] 6 (seqQ (X21 n) (cR (cR (cL (cL (cR (cR (cL (cL (cR (cR (cL (cL (cR (cL (cR (cR C21)))))))))))))))) (lpQ (X21 n) [1, 2, 4, 5, 7, 8, 15, 16, 17] 4 (cL (cL (cR (cR (cL (cL (cR (cR (cL (cL (cR (cL (cR (cR C21)))))))))))))) nx934 (blkQ (X21 n) 2 [1, 2, 4, 5, 15, 16, 17] 4 (blkQ (X21 n) 1 [1, 2, 4, 5, 15, 16, 17] 3 (seqQ (X21 n) (cR (cR (cR (cL (cL (cR (cL (cR (cR C21))))))))) (lpQ (X21 n) [1, 2, 4, 5, 15, 16, 17] 1 (cL (cL (cR (cL (cR (cR C21)))))) nx700 (blkQ (X21 n) 0 [4, 5] 1 (seqQ (X21 n) (cR (cR (cR C21))) (fnQ (X21 n).E.T (resOf Proofs.Tryd.prog 21) ((eL eS) o)))))))))))) .ret σ) → (∀ (y : Bool × Int) , ox962 = .inr y → (seqQ (X21 n) (cR (cR (cR (cR (cL (cL (cR (cL (cL (cR (cR (cL (cL (cR (cR (cL (cL (cR (cL (cR (cR C21))))))))))))))))))))) (blkQ (X21 n) 3 [1, 2, 4, 5, 7, 8, 15, 16, 17] 6 (seqQ (X21 n) (cR (cR (cL (cL (cR (cR (cL (cL (cR (cR (cL (cL (cR (cL (cR (cR C21)))))))))))))))) (lpQ (X21 n) [1, 2, 4, 5, 7, 8, 15, 16, 17] 4 (cL (cL (cR (cR (cL (cL (cR (cR (cL (cL (cR (cL (cR (cR C21)))))))))))))) nx934 (blkQ (X21 n) 2 [1, 2, 4, 5, 15, 16, 17] 4 (blkQ (X21 n) 1 [1, 2, 4, 5, 15, 16, 17] 3 (seqQ (X21 n) (cR (cR (cR (cL (cL (cR (cL (cR (cR C21))))))))) (lpQ (X21 n) [1, 2, 4, 5, 15, 16, 17] 1 (cL (cL (cR (cL (cR (cR C21)))))) nx700 (blkQ (X21 n) 0 [4, 5] 1 (seqQ (X21 n) (cR (cR (cR C21))) (fnQ (X21 n).E.T (resOf Proofs.Tryd.prog 21) ((eL eS) o)))))))))))) .normal ⟨q1 ((.v (.str a1)) :: (.ptr 0 0) :: q1 ((.v (.sl .nil (List.map eS []))) :: (AG.d ag930 7 (List.map eS v929)) :: q1 ((.ptr 3 0) :: (dI v931) :: (.v (.str v945)) :: (dB y.1) :: q4 ((dP e67 a0.fCells) :: (dI ((a0.fCells.length : Int))) :: (dI v697) :: q40 (q33 []))))), [(.cells [(.v (.str a0.fName)), (dP e67 a0.fCells)]), .dead, .dead, (.cells [(dP eS v707.fTags), (.v (.str v707.fCut)), (.v (.str v707.fAdd))]), .dead, .dead, .dead, (AG.o ag930 1 (List.map eS v929))]⟩) → Lp (X21 n) [1, 2, 4, 5, 7, 8, 9, 10, 15, 16, 17, 38, 39, 40] 7 (cL (cL (cR (cL (cR (cR (cR (cL (cL (cR (cL (cL (cR (cR (cL (cL (cR (cR (cL (cL (cR (cL (cR (cR C21)))))))))))))))))))))))) nx964 ⟨q1 ((.v (.str a1)) :: (.ptr 0 0) :: q1 ((.v (.sl .nil (List.map eS []))) :: (AG.d ag930 7 (List.map eS v929)) :: q1 ((.ptr 3 0) :: (dI v931) :: (.v (.str v945)) :: (dB v960) :: q4 ((dP e67 a0.fCells) :: (dI ((a0.fCells.length : Int))) :: (dI v697) :: q20 ((dP e41 v947) :: (dI ((v947.length : Int))) :: (dI v961) :: q40 (q10 [])))))), [(.cells [(.v (.str a0.fName)), (dP e67 a0.fCells)]), .dead, .dead, (.cells [(dP eS v707.fTags), (.v (.str v707.fCut)), (.v (.str v707.fAdd))]), .dead, .dead, .dead, (AG.o ag930 1 (List.map eS v929))]⟩ (blkQ (X21 n) 4 [1, 2, 4, 5, 7, 8, 9, 10, 15, 16, 17] 7 (seqQ (X21 n) (cR (cR (cR (cR (cL (cL (cR (cL (cL (cR (cR (cL (cL (cR (cR (cL (cL (cR (cL (cR (cR C21))))))))))))))))))))) (blkQ (X21 n) 3 [1, 2, 4, 5, 7, 8, 15, 16, 17] 6 (seqQ (X21 n) (cR (cR (cL (cL (cR (cR (cL (cL (cR (cR (cL (cL (cR (cL (cR (cR C21)))))))))))))))) (lpQ (X21 n) [1, 2, 4, 5, 7, 8, 15, 16, 17] 4 (cL (cL (cR (cR (cL (cL (cR (cR (cL (cL (cR (cL (cR (cR C21)))))))))))))) nx934 (blkQ (X21 n) 2 [1, 2, 4, 5, 15, 16, 17] 4 (blkQ (X21 n) 1 [1, 2, 4, 5, 15, 16, 17] 3 (seqQ (X21 n) (cR (cR (cR (cL (cL (cR (cL (cR (cR C21))))))))) (lpQ (X21 n) [1, 2, 4, 5, 15, 16, 17] 1 (cL (cL (cR (cL (cR (cR C21)))))) nx700 (blkQ (X21 n) 0 [4, 5] 1 (seqQ (X21 n) (cR (cR (cR C21))) (fnQ (X21 n).E.T (resOf Proofs.Tryd.prog 21) ((eL eS) o))))))))))))) := by
                  intro kx963
                  induction kx963 with
                  | zero => intro v960 v961  ox962 h; exact (iter_zero h).elim
                  | succ kx963 ihx965 =>
                    intro v960 v961  ox962 h nx964 hnx968 hrx966 hxx967
                    obtain ⟨nx964, rfl⟩ : ∃ q, nx964 = q + 1 := ⟨nx964 - 1, by omega⟩
                    obtain ⟨sx969, h, hsx970⟩ := iter_some h
                    have h : f21_B4 m a1 v947 v960 v961 = some sx969 := h
                    unfold f21_B4 at h
                    refine Lp.succ ?_
                    refine Wp.seq' (by kernel_rfl) ?_
                    refine Wp.region (by kernel_rfl) ?_
                    refine Ops.seg' 1 1 (by kernel_rfl) ?_
                    refine Ops.done (by kernel_rfl) ?_
                    refine seqQ.n ?_
                    refine Wp.seq' (by kernel_rfl) ?_
                    refine Wp.cnd h [1, 2, 4, 5, 7, 8, 9, 10, 15, 16, 17, 38, 39, 40] 8 (by kernel_rfl) (fun h => ?_) (fun h => ?_)
                    · refine Wp.skip (by kernel_rfl) ?_
                      refine sqQ.n ⟨q1 ((.v (.str a1)) :: (.ptr 0 0) :: q1 ((.v (.sl .nil (List.map eS []))) :: (AG.d ag930 8 (List.map eS v929)) :: q1 ((.ptr 3 0) :: (dI v931) :: (.v (.str v945)) :: (dB v960) :: q4 ((dP e67 a0.fCells) :: (dI ((a0.fCells.length : Int))) :: (dI v697) :: q20 ((dP e41 v947) :: (dI ((v947.length : Int))) :: (dI v961) :: q40 (q10 [])))))), [(.cells [(.v (.str a0.fName)), (dP e67 a0.fCells)]), .dead, .dead, (.cells [(dP eS v707.fTags), (.v (.str v707.fCut)), (.v (.str v707.fAdd))]), .dead, .dead, .dead, .dead, (AG.o ag930 1 (List.map eS v929))]⟩ (by cases ag930 <;> kernel_rfl) ?_
                      refine seqQ.n ?_
                      refine Wp.seq' (by kernel_rfl) ?_
                      have J21j972 : ∀ (v971 : Bool) , f21_j2 m v961 v971 = some sx969 → (seqQ (X21 n) (cR (cR (cR (cL (cL (cR (cL (cR (cR (cR (cL (cL (cR (cL (cL (cR (cR (cL (cL (cR (cR (cL (cL (cR (cL (cR (cR C21))))))))))))))))))))))))))) (lpQ (X21 n) [1, 2, 4, 5, 7, 8, 9, 10, 15, 16, 17, 38, 39, 40] 7 (cL (cL (cR (cL (cR (cR (cR (cL (cL (cR (cL (cL (cR (cR (cL (cL (cR (cR (cL (cL (cR (cL (cR (cR C21)))))))))))))))))))))))) nx964 (blkQ (X21 n) 4 [1, 2, 4, 5, 7, 8, 9, 10, 15, 16, 17] 7 (seqQ (X21 n) (cR (cR (cR (cR (cL (cL (cR (cL (cL (cR (cR (cL (cL (cR (cR (cL (cL (cR (cL (cR (cR C21))))))))))))))))))))) (blkQ (X21 n) 3 [1, 2, 4, 5, 7, 8, 15, 16, 17] 6 (seqQ (X21 n) (cR (cR (cL (cL (cR (cR (cL (cL (cR (cR (cL (cL (cR (cL (cR (cR C21)))))))))))))))) (lpQ (X21 n) [1, 2, 4, 5, 7, 8, 15, 16, 17] 4 (cL (cL (cR (cR (cL (cL (cR (cR (cL (cL (cR (cL (cR (cR C21)))))))))))))) nx934 (blkQ (X21 n) 2 [1, 2, 4, 5, 15, 16, 17] 4 (blkQ (X21 n) 1 [1, 2, 4, 5, 15, 16, 17] 3 (seqQ (X21 n) (cR (cR (cR (cL (cL (cR (cL (cR (cR C21))))))))) (lpQ (X21 n) [1, 2, 4, 5, 15, 16, 17] 1 (cL (cL (cR (cL (cR (cR C21)))))) nx700 (blkQ (X21 n) 0 [4, 5] 1 (seqQ (X21 n) (cR (cR (cR C21))) (fnQ (X21 n).E.T (resOf Proofs.Tryd.prog 21) ((eL eS) o))))))))))))))) .normal ⟨q1 ((.v (.str a1)) :: (.ptr 0 0) :: q1 ((.v (.sl .nil (List.map eS []))) :: (AG.d ag930 9 (List.map eS v929)) :: q1 ((.ptr 3 0) :: (dI v931) :: (.v (.str v945)) :: (dB v971) :: q4 ((dP e67 a0.fCells) :: (dI ((a0.fCells.length : Int))) :: (dI v697) :: q20 ((dP e41 v947) :: (dI ((v947.length : Int))) :: (dI v961) :: q40 (q10 [])))))), [(.cells [(.v (.str a0.fName)), (dP e67 a0.fCells)]), .dead, .dead, (.cells [(dP eS v707.fTags), (.v (.str v707.fCut)), (.v (.str v707.fAdd))]), .dead, .dead, .dead, .dead, .dead, (AG.o ag930 1 (List.map eS v929))]⟩ := by
                        intro v971  h
                        unfold f21_j2 at h
                        refine seqQ.n ?_
                        refine Wp.region (by kernel_rfl) ?_
                        refine Ops.seg' 2 2 (by kernel_rfl) ?_
                        refine Ops.done (by kernel_rfl) ?_
                        refine lpQ.n ⟨q1 ((.v (.str a1)) :: (.ptr 0 0) :: q1 ((.v (.sl .nil (List.map eS []))) :: (AG.d ag930 7 (List.map eS v929)) :: q1 ((.ptr 3 0) :: (dI v931) :: (.v (.str v945)) :: (dB v971) :: q4 ((dP e67 a0.fCells) :: (dI ((a0.fCells.length : Int))) :: (dI v697) :: q20 ((dP e41 v947) :: (dI ((v947.length : Int))) :: (dI (w64 (v961 + 1))) :: q40 (q10 [])))))), [(.cells [(.v (.str a0.fName)), (dP e67 a0.fCells)]), .dead, .dead, (.cells [(dP eS v707.fTags), (.v (.str v707.fCut)), (.v (.str v707.fAdd))]), .dead, .dead, .dead, (AG.o ag930 1 (List.map eS v929))]⟩ (by cases ag930 <;> kernel_rfl) ?_
                        cases h
                        exact ihx965 v971 (w64 (v961 + 1))  _ hsx970 _ (by omega) hrx966 hxx967
                      refine Wp.block' 5 [1, 2, 4, 5, 7, 8, 9, 10, 15, 16, 17, 38, 39, 40] 9 (by kernel_rfl) ?_
                      refine Wp.seq' (by kernel_rfl) ?_
                      refine Wp.region (by kernel_rfl) ?_
                      obtain ⟨v973, ev973, h⟩ := bnd_some h
                      refine Ops.one' 1 (fun h0 e0 => (ix_r (T := T) h0 26 42 2 .plain e41 v947 v961 v973 ev973 (by kernel_rfl) (by kernel_rfl) (fun _ => rfl))) (by kernel_rfl) (by kernel_rfl) ?_
                      refine Ops.seg' 3 4 (by kernel_rfl) ?_
                      refine Ops.done (by kernel_rfl) ?_
                      refine seqQ.n ?_
                      refine Wp.seq' (by kernel_rfl) ?_
                      refine Wp.region (by kernel_rfl) ?_
                      refine Ops.seg' 4 4 (by kernel_rfl) ?_
                      refine Ops.done (by kernel_rfl) ?_
                      refine seqQ.n ?_
                      have J21j975 : ∀ (v974 : Bool) , f21_j3 m v961 v974 = some sx969 → (blkQ (X21 n) 5 [1, 2, 4, 5, 7, 8, 9, 10, 15, 16, 17, 38, 39, 40] 9 (seqQ (X21 n) (cR (cR (cR (cL (cL (cR (cL (cR (cR (cR (cL (cL (cR (cL (cL (cR (cR (cL (cL (cR (cR (cL (cL (cR (cL (cR (cR C21))))))))))))))))))))))))))) (lpQ (X21 n) [1, 2, 4, 5, 7, 8, 9, 10, 15, 16, 17, 38, 39, 40] 7 (cL (cL (cR (cL (cR (cR (cR (cL (cL (cR (cL (cL (cR (cR (cL (cL (cR (cR (cL (cL (cR (cL (cR (cR C21)))))))))))))))))))))))) nx964 (blkQ (X21 n) 4 [1, 2, 4, 5, 7, 8, 9, 10, 15, 16, 17] 7 (seqQ (X21 n) (cR (cR (cR (cR (cL (cL (cR (cL (cL (cR (cR (cL (cL (cR (cR (cL (cL (cR (cL (cR (cR C21))))))))))))))))))))) (blkQ (X21 n) 3 [1, 2, 4, 5, 7, 8, 15, 16, 17] 6 (seqQ (X21 n) (cR (cR (cL (cL (cR (cR (cL (cL (cR (cR (cL (cL (cR (cL (cR (cR C21)))))))))))))))) (lpQ (X21 n) [1, 2, 4, 5, 7, 8, 15, 16, 17] 4 (cL (cL (cR (cR (cL (cL (cR (cR (cL (cL (cR (cL (cR (cR C21)))))))))))))) nx934 (blkQ (X21 n) 2 [1, 2, 4, 5, 15, 16, 17] 4 (blkQ (X21 n) 1 [1, 2, 4, 5, 15, 16, 17] 3 (seqQ (X21 n) (cR (cR (cR (cL (cL (cR (cL (cR (cR C21))))))))) (lpQ (X21 n) [1, 2, 4, 5, 15, 16, 17] 1 (cL (cL (cR (cL (cR (cR C21)))))) nx700 (blkQ (X21 n) 0 [4, 5] 1 (seqQ (X21 n) (cR (cR (cR C21))) (fnQ (X21 n).E.T (resOf Proofs.Tryd.prog 21) ((eL eS) o)))))))))))))))) .normal ⟨q1 ((.v (.str a1)) :: (.ptr 0 0) :: q1 ((.v (.sl .nil (List.map eS []))) :: (AG.d ag930 10 (List.map eS v929)) :: q1 ((.ptr 3 0) :: (dI v931) :: (.v (.str v945)) :: (dB v974) :: q4 ((dP e67 a0.fCells) :: (dI ((a0.fCells.length : Int))) :: (dI v697) :: q20 ((dP e41 v947) :: (dI ((v947.length : Int))) :: (dI v961) :: q40 (q10 [])))))), [(.cells [(.v (.str a0.fName)), (dP e67 a0.fCells)]), .dead, .dead, (.cells [(dP eS v707.fTags), (.v (.str v707.fCut)), (.v (.str v707.fAdd))]), .dead, .dead, .dead, .dead, .dead, (.cells [(dP eS v973.fTags), (.v (.str v973.fForm))]), (AG.o ag930 1 (List.map eS v929))]⟩ := by
                        intro v974  h
                        unfold f21_j3 at h
                        refine blkQ.n ⟨q1 ((.v (.str a1)) :: (.ptr 0 0) :: q1 ((.v (.sl .nil (List.map eS []))) :: (AG.d ag930 9 (List.map eS v929)) :: q1 ((.ptr 3 0) :: (dI v931) :: (.v (.str v945)) :: (dB v974) :: q4 ((dP e67 a0.fCells) :: (dI ((a0.fCells.length : Int))) :: (dI v697) :: q20 ((dP e41 v947) :: (dI ((v947.length : Int))) :: (dI v961) :: q40 (q10 [])))))), [(.cells [(.v (.str a0.fName)), (dP e67 a0.fCells)]), .dead, .dead, (.cells [(dP eS v707.fTags), (.v (.str v707.fCut)), (.v (.str v707.fAdd))]), .dead, .dead, .dead, .dead, .dead, (AG.o ag930 1 (List.map eS v929))]⟩ (by cases ag930 <;> kernel_rfl) ?_
                        exact J21j972 v974  h
                      refine Wp.cnd h [1, 2, 4, 5, 7, 8, 9, 10, 15, 16, 17, 38, 39, 40] 10 (by kernel_rfl) (fun h => ?_) (fun h => ?_)
                      · refine Wp.region (by kernel_rfl) ?_
                        refine Ops.seg' 1 1 (by kernel_rfl) ?_
                        refine Ops.done (by kernel_rfl) ?_
                        refine sqQ.n ⟨q1 ((.v (.str a1)) :: (.ptr 0 0) :: q1 ((.v (.sl .nil (List.map eS []))) :: (AG.d ag930 10 (List.map eS v929)) :: q1 ((.ptr 3 0) :: (dI v931) :: (.v (.str v945)) :: (dB true) :: q4 ((dP e67 a0.fCells) :: (dI ((a0.fCells.length : Int))) :: (dI v697) :: q20 ((dP e41 v947) :: (dI ((v947.length : Int))) :: (dI v961) :: q40 (q10 [])))))), [(.cells [(.v (.str a0.fName)), (dP e67 a0.fCells)]), .dead, .dead, (.cells [(dP eS v707.fTags), (.v (.str v707.fCut)), (.v (.str v707.fAdd))]), .dead, .dead, .dead, .dead, .dead, (.cells [(dP eS v973.fTags), (.v (.str v973.fForm))]), (AG.o ag930 1 (List.map eS v929))]⟩ (by cases ag930 <;> kernel_rfl) ?_
                        exact J21j975 true  h
                      · refine Wp.skip (by kernel_rfl) ?_
                        refine sqQ.n ⟨q1 ((.v (.str a1)) :: (.ptr 0 0) :: q1 ((.v (.sl .nil (List.map eS []))) :: (AG.d ag930 10 (List.map eS v929)) :: q1 ((.ptr 3 0) :: (dI v931) :: (.v (.str v945)) :: (dB v960) :: q4 ((dP e67 a0.fCells) :: (dI ((a0.fCells.length : Int))) :: (dI v697) :: q20 ((dP e41 v947) :: (dI ((v947.length : Int))) :: (dI v961) :: q40 (q10 [])))))), [(.cells [(.v (.str a0.fName)), (dP e67 a0.fCells)]), .dead, .dead, (.cells [(dP eS v707.fTags), (.v (.str v707.fCut)), (.v (.str v707.fAdd))]), .dead, .dead, .dead, .dead, .dead, (.cells [(dP eS v973.fTags), (.v (.str v973.fForm))]), (AG.o ag930 1 (List.map eS v929))]⟩ (by cases ag930 <;> kernel_rfl) ?_
                        exact J21j975 v960  h
                    · refine Wp.exit (id := 4) (by kernel_rfl) ?_
                      refine sqQ.x ?_
                      refine seqQ.x ?_
                      cases h
                      refine lpQ.x ?_
                      refine blkQ.x ⟨q1 ((.v (.str a1)) :: (.ptr 0 0) :: q1 ((.v (.sl .nil (List.map eS []))) :: (AG.d ag930 7 (List.map eS v929)) :: q1 ((.ptr 3 0) :: (dI v931) :: (.v (.str v945)) :: (dB v960) :: q4 ((dP e67 a0.fCells) :: (dI ((a0.fCells.length : Int))) :: (dI v697) :: q40 (q33 []))))), [(.cells [(.v (.str a0.fName)), (dP e67 a0.fCells)]), .dead, .dead, (.cells [(dP eS v707.fTags), (.v (.str v707.fCut)), (.v (.str v707.fAdd))]), .dead, .dead, .dead, (AG.o ag930 1 (List.map eS v929))]⟩ (by cases ag930 <;> kernel_rfl) ?_
                      exact hxx967 (v960, v961)  hsx970
                refine Wp.loop' [1, 2, 4, 5, 7, 8, 9, 10, 15, 16, 17, 38, 39, 40] 7 (by kernel_rfl) ⟨q1 ((.v (.str a1)) :: (.ptr 0 0) :: q1 ((.v (.sl .nil (List.map eS []))) :: (AG.d ag930 7 (List.map eS v929)) :: q1 ((.ptr 3 0) :: (dI v931) :: (.v (.str v945)) :: (dB false) :: q4 ((dP e67 a0.fCells) :: (dI ((a0.fCells.length : Int))) :: (dI v697) :: q20 ((dP e41 v947) :: (dI ((v947.length : Int))) :: (dI 0) :: q40 (q10 [])))))), [(.cells [(.v (.str a0.fName)), (dP e67 a0.fCells)]), .dead, .dead, (.cells [(dP eS v707.fTags), (.v (.str v707.fCut)), (.v (.str v707.fAdd))]), .dead, .dead, .dead, (AG.o ag930 1 (List.map eS v929))]⟩ (by cases ag930 <;> kernel_rfl) ?_
                rcases brk_some h with ⟨r978, er978, h⟩ | ⟨y977, ey977, h⟩
                · refine hLx976 _ false 0  _ er978 n (by omega) (fun r er σ hσ => ?_) (fun y  ey => by cases ey)
                  cases er
                  refine seqQ.r ?_
                  refine blkQ.r ?_
                  refine seqQ.r ?_
                  refine lpQ.r ?_
                  cases h
                  refine blkQ.r ?_
                  exact hrx936 _ hsx940 _ (RetOk.forget [1, 2, 4, 5, 7, 8, 15, 16, 17] (by kernel_rfl) hσ)
                · refine hLx976 _ false 0  _ ey977 n (by omega) (fun r er => by cases er) (fun y  ey => ?_)
                  cases ey
                  refine seqQ.n ?_
                  refine Wp.seq' (by kernel_rfl) ?_
                  refine Wp.seq' (by kernel_rfl) ?_
                  refine Wp.region (by kernel_rfl) ?_
                  refine Ops.seg' 2 2 (by kernel_rfl) ?_
                  refine Ops.done (by kernel_rfl) ?_
                  refine seqQ.n ?_
                  refine Wp.cnd h [1, 2, 4, 5, 7, 8, 9, 15, 16, 17] 8 (by kernel_rfl) (fun h => ?_) (fun h => ?_)
                  · refine Wp.exit (id := 3) (by kernel_rfl) ?_
                    refine sqQ.x ?_
                    refine seqQ.x ?_
                    refine blkQ.x ⟨q1 ((.v (.str a1)) :: (.ptr 0 0) :: q1 ((.v (.sl .nil (List.map eS []))) :: (AG.d ag930 6 (List.map eS v929)) :: q1 ((.ptr 3 0) :: (dI v931) :: q6 ((dP e67 a0.fCells) :: (dI ((a0.fCells.length : Int))) :: (dI v697) :: q40 (q33 []))))), [(.cells [(.v (.str a0.fName)), (dP e67 a0.fCells)]), .dead, .dead, (.cells [(dP eS v707.fTags), (.v (.str v707.fCut)), (.v (.str v707.fAdd))]), .dead, .dead, (AG.o ag930 1 (List.map eS v929))]⟩ (by cases ag930 <;> kernel_rfl) ?_
                    exact J21j943 v929 _ h
                  · refine Wp.skip (by kernel_rfl) ?_
                    refine sqQ.n ⟨q1 ((.v (.str a1)) :: (.ptr 0 0) :: q1 ((.v (.sl .nil (List.map eS []))) :: (AG.d ag930 8 (List.map eS v929)) :: q1 ((.ptr 3 0) :: (dI v931) :: (.v (.str v945)) :: q5 ((dP e67 a0.fCells) :: (dI ((a0.fCells.length : Int))) :: (dI v697) :: q40 (q33 []))))), [(.cells [(.v (.str a0.fName)), (dP e67 a0.fCells)]), .dead, .dead, (.cells [(dP eS v707.fTags), (.v (.str v707.fCut)), (.v (.str v707.fAdd))]), .dead, .dead, .dead, .dead, (AG.o ag930 1 (List.map eS v929))]⟩ (by cases ag930 <;> kernel_rfl) ?_
                    refine seqQ.n ?_
                    refine Wp.seq' (by kernel_rfl) ?_
                    refine Wp.region (by kernel_rfl) ?_
                    refine Ops.seg' 1 1 (by kernel_rfl) ?_
                    refine Ops.done (by kernel_rfl) ?_
                    refine seqQ.n ?_
                    refine Wp.seq' (by kernel_rfl) ?_
                    refine Wp.block' 6 [1, 2, 4, 5, 7, 8, 9, 13, 15, 16, 17] 9 (by kernel_rfl) ?_
                    have hLx1026 : ∀ (kx1006 : Nat) (v1004 : Int)  (ox1005 : (List ByteArray) ⊕ (Int)), iter (fun (y : Int) => f21_B6 m v929 v945 y) kx1006 v1004 = some ox1005 → ∀ nx1007, kx1006 ≤ nx1007 → (∀ r, ox1005 = .inl r → ∀ σ, RetOk (X21 n) (resOf Proofs.Tryd.prog 21) ((eL eS) r) σ → (seqQ (X21 n) (cR (cR (cR (cR (cR (cR (cR (cL (cL (cR (cL (cL (cR (cR (cL (cL (cR (cR (cL (cL (cR (cL (cR (cR C21)))))))))))))))))))))))) (blkQ (X21 n) 3 [1, 2, 4, 5, 7, 8, 15, 16, 17] 6 (seqQ (X21 n) (cR (cR (cL (cL (cR (cR (cL (cL (cR (cR (cL (cL (cR (cL (cR (cR C21)))))))))))))))) (lpQ (X21 n) [1, 2, 4, 5, 7, 8, 15, 16, 17] 4 (cL (cL (cR (cR (cL (cL (cR (cR (cL (cL (cR (cL (cR (cR C21)))))))))))))) nx934 (blkQ (X21 n) 2 [1, 2, 4, 5, 15, 16, 17] 4 (blkQ (X21 n) 1 [1, 2, 4, 5, 15, 16, 17] 3 (seqQ (X21 n) (cR (cR (cR (cL (cL (cR (cL (cR (cR C21))))))))) (lpQ (X21 n) [1, 2, 4, 5, 15, 16, 17] 1 (cL (cL (cR (cL (cR (cR C21)))))) nx700 (blkQ (X21 n) 0 [4, 5] 1 (seqQ (X21 n) (cR (cR (cR C21))) (fnQ (X21 n).E.T (resOf Proofs.Tryd.prog 21) ((eL eS) o)))))))))))) .ret σ) → (∀ (y : Int) , ox1005 = .inr y → (seqQ (X21 n) (cR (cR (cR (cR (cR (cR (cR (cL (cL (cR (cL (cL (cR (cR (cL (cL (cR (cR (cL (cL (cR (cL (cR (cR C21)))))))))))))))))))))))) (blkQ (X21 n) 3 [1, 2, 4, 5, 7, 8, 15, 16, 17] 6 (seqQ (X21 n) (cR (cR (cL (cL (cR (cR (cL (cL (cR (cR (cL (cL (cR (cL (cR (cR C21)))))))))))))))) (lpQ (X21 n) [1, 2, 4, 5, 7, 8, 15, 16, 17] 4 (cL (cL (cR (cR (cL (cL (cR (cR (cL (cL (cR (cL (cR (cR C21)))))))))))))) nx934 (blkQ (X21 n) 2 [1, 2, 4, 5, 15, 16, 17] 4 (blkQ (X21 n) 1 [1, 2, 4, 5, 15, 16, 17] 3 (seqQ (X21 n) (cR (cR (cR (cL (cL (cR (cL (cR (cR C21))))))))) (lpQ (X21 n) [1, 2, 4, 5, 15, 16, 17] 1 (cL (cL (cR (cL (cR (cR C21)))))) nx700 (blkQ (X21 n) 0 [4, 5] 1 (seqQ (X21 n) (cR (cR (cR C21))) (fnQ (X21 n).E.T (resOf Proofs.Tryd.prog 21) ((eL eS) o)))))))))))) .normal ⟨q1 ((.v (.str a1)) :: (.ptr 0 0) :: q1 ((.v (.sl .nil (List.map eS []))) :: (AG.d ag930 9 (List.map eS v929)) :: q1 ((.ptr 3 0) :: (dI v931) :: (.v (.str v945)) :: q3 ((dI y) :: q1 ((dP e67 a0.fCells) :: (dI ((a0.fCells.length : Int))) :: (dI v697) :: q40 (q33 [])))))), [(.cells [(.v (.str a0.fName)), (dP e67 a0.fCells)]), .dead, .dead, (.cells [(dP eS v707.fTags), (.v (.str v707.fCut)), (.v (.str v707.fAdd))]), .dead, .dead, .dead, .dead, .dead, (AG.o ag930 1 (List.map eS v929))]⟩) → Lp (X21 n) [1, 2, 4, 5, 7, 8, 9, 13, 15, 16, 17] 9 (cL (cL (cL (cR (cR (cR (cR (cR (cR (cL (cL (cR (cL (cL (cR (cR (cL (cL (cR (cR (cL (cL (cR (cL (cR (cR C21)))))))))))))))))))))))))) nx1007 ⟨q1 ((.v (.str a1)) :: (.ptr 0 0) :: q1 ((.v (.sl .nil (List.map eS []))) :: (AG.d ag930 9 (List.map eS v929)) :: q1 ((.ptr 3 0) :: (dI v931) :: (.v (.str v945)) :: q3 ((dI v1004) :: q1 ((dP e67 a0.fCells) :: (dI ((a0.fCells.length : Int))) :: (dI v697) :: q40 (q33 [])))))), [(.cells [(.v (.str a0.fName)), (dP e67 a0.fCells)]), .dead, .dead, (.cells [(dP eS v707.fTags), (.v (.str v707.fCut)), (.v (.str v707.fAdd))]), .dead, .dead, .dead, .dead, .dead, (AG.o ag930 1 (List.map eS v929))]⟩ (blkQ (X21 n) 6 [1, 2, 4, 5, 7, 8, 9, 13, 15, 16, 17] 9 (seqQ (X21 n) (cR (cR (cR (cR (cR (cR (cR (cL (cL (cR (cL (cL (cR (cR (cL (cL (cR (cR (cL (cL (cR (cL (cR (cR C21)))))))))))))))))))))))) (blkQ (X21 n) 3 [1, 2, 4, 5, 7, 8, 15, 16, 17] 6 (seqQ (X21 n) (cR (cR (cL (cL (cR (cR (cL (cL (cR (cR (cL (cL (cR (cL (cR (cR C21)))))))))))))))) (lpQ (X21 n) [1, 2, 4, 5, 7, 8, 15, 16, 17] 4 (cL (cL (cR (cR (cL (cL (cR (cR (cL (cL (cR (cL (cR (cR C21)))))))))))))) nx934 (blkQ (X21 n) 2 [1, 2, 4, 5, 15, 16, 17] 4 (blkQ (X21 n) 1 [1, 2, 4, 5, 15, 16, 17] 3 (seqQ (X21 n) (cR (cR (cR (cL (cL (cR (cL (cR (cR C21))))))))) (lpQ (X21 n) [1, 2, 4, 5, 15, 16, 17] 1 (cL (cL (cR (cL (cR (cR C21)))))) nx700 (blkQ (X21 n) 0 [4, 5] 1 (seqQ (X21 n) (cR (cR (cR C21))) (fnQ (X21 n).E.T (resOf Proofs.Tryd.prog 21) ((eL eS) o))))))))))))) := by
                      intro kx1006
                      induction kx1006 with
                      | zero => intro v1004  ox1005 h; exact (iter_zero h).elim
                      | succ kx1006 ihx1008 =>
                        intro v1004  ox1005 h nx1007 hnx1011 hrx1009 hxx1010
                        obtain ⟨nx1007, rfl⟩ : ∃ q, nx1007 = q + 1 := ⟨nx1007 - 1, by omega⟩
                        obtain ⟨sx1012, h, hsx1013⟩ := iter_some h
                        have h : f21_B6 m v929 v945 v1004 = some sx1012 := h
                        unfold f21_B6 at h
                        refine Lp.succ ?_
                        refine Wp.seq' (by kernel_rfl) ?_
                        refine Wp.seq' (by kernel_rfl) ?_
                        refine Wp.region (by kernel_rfl) ?_
                        refine Ops.seg' 2 2 (by kernel_rfl) ?_
                        refine Ops.one' 3 (fun h0 e0 => (len_g (T := T) h0 36 9 9 ag930 eS v929 (by kernel_rfl))) (by kernel_rfl) (by kernel_rfl) ?_
                        refine Ops.seg' 2 5 (by kernel_rfl) ?_
                        have J21j1024 : ∀ (d1016 d1017 d1018 d1019 d1020 d1021 : D) (v1022 : Bool) (v1023 : Bool), f21_r5 m v1004 v1023 = some sx1012 → Ops (X21 n) (opl (cL (cL (cL (cL (cL (cR (cR (cR (cR (cR (cR (cL (cL (cR (cL (cL (cR (cR (cL (cL (cR (cR (cL (cL (cR (cL (cR (cR C21))))))))))))))))))))))))))))) 12 ⟨q1 ((.v (.str a1)) :: (.ptr 0 0) :: q1 ((.v (.sl .nil (List.map eS []))) :: (AG.d ag930 9 (List.map eS v929)) :: q1 ((.ptr 3 0) :: (dI v931) :: (.v (.str v945)) :: q3 ((dI v1004) :: q1 ((dP e67 a0.fCells) :: (dI ((a0.fCells.length : Int))) :: (dI v697) :: q33 ((dI v1004) :: (AG.d ag930 9 (List.map eS v929)) :: (dI ((v929.length : Int))) :: (dB v1022) :: (dB v1022) :: d1016 :: d1017 :: d1018 :: d1019 :: d1020 :: d1021 :: (dB v1023) :: q28 [])))))), [(.cells [(.v (.str a0.fName)), (dP e67 a0.fCells)]), .dead, .dead, (.cells [(dP eS v707.fTags), (.v (.str v707.fCut)), (.v (.str v707.fAdd))]), .dead, .dead, .dead, .dead, .dead, (AG.o ag930 1 (List.map eS v929))]⟩ ((seqQ (X21 n) (cR (cL (cL (cL (cL (cR (cR (cR (cR (cR (cR (cL (cL (cR (cL (cL (cR (cR (cL (cL (cR (cR (cL (cL (cR (cL (cR (cR C21)))))))))))))))))))))))))))) (seqQ (X21 n) (cR (cL (cL (cL (cR (cR (cR (cR (cR (cR (cL (cL (cR (cL (cL (cR (cR (cL (cL (cR (cR (cL (cL (cR (cL (cR (cR C21))))))))))))))))))))))))))) (lpQ (X21 n) [1, 2, 4, 5, 7, 8, 9, 13, 15, 16, 17] 9 (cL (cL (cL (cR (cR (cR (cR (cR (cR (cL (cL (cR (cL (cL (cR (cR (cL (cL (cR (cR (cL (cL (cR (cL (cR (cR C21)))))))))))))))))))))))))) nx1007 (blkQ (X21 n) 6 [1, 2, 4, 5, 7, 8, 9, 13, 15, 16, 17] 9 (seqQ (X21 n) (cR (cR (cR (cR (cR (cR (cR (cL (cL (cR (cL (cL (cR (cR (cL (cL (cR (cR (cL (cL (cR (cL (cR (cR C21)))))))))))))))))))))))) (blkQ (X21 n) 3 [1, 2, 4, 5, 7, 8, 15, 16, 17] 6 (seqQ (X21 n) (cR (cR (cL (cL (cR (cR (cL (cL (cR (cR (cL (cL (cR (cL (cR (cR C21)))))))))))))))) (lpQ (X21 n) [1, 2, 4, 5, 7, 8, 15, 16, 17] 4 (cL (cL (cR (cR (cL (cL (cR (cR (cL (cL (cR (cL (cR (cR C21)))))))))))))) nx934 (blkQ (X21 n) 2 [1, 2, 4, 5, 15, 16, 17] 4 (blkQ (X21 n) 1 [1, 2, 4, 5, 15, 16, 17] 3 (seqQ (X21 n) (cR (cR (cR (cL (cL (cR (cL (cR (cR C21))))))))) (lpQ (X21 n) [1, 2, 4, 5, 15, 16, 17] 1 (cL (cL (cR (cL (cR (cR C21)))))) nx700 (blkQ (X21 n) 0 [4, 5] 1 (seqQ (X21 n) (cR (cR (cR C21))) (fnQ (X21 n).E.T (resOf Proofs.Tryd.prog 21) ((eL eS) o)))))))))))))))) .normal) := by
                          intro d1016 d1017 d1018 d1019 d1020 d1021 v1022 v1023 h
                          unfold f21_r5 at h
                          refine Ops.done (by kernel_rfl) ?_
                          refine seqQ.n ?_
                          refine Wp.cnd h [1, 2, 4, 5, 7, 8, 9, 13, 15, 16, 17] 10 (by kernel_rfl) (fun h => ?_) (fun h => ?_)
                          · refine Wp.skip (by kernel_rfl) ?_
                            refine sqQ.n ⟨q1 ((.v (.str a1)) :: (.ptr 0 0) :: q1 ((.v (.sl .nil (List.map eS []))) :: (AG.d ag930 10 (List.map eS v929)) :: q1 ((.ptr 3 0) :: (dI v931) :: (.v (.str v945)) :: q3 ((dI v1004) :: q1 ((dP e67 a0.fCells) :: (dI ((a0.fCells.length : Int))) :: (dI v697) :: q40 (q33 [])))))), [(.cells [(.v (.str a0.fName)), (dP e67 a0.fCells)]), .dead, .dead, (.cells [(dP eS v707.fTags), (.v (.str v707.fCut)), (.v (.str v707.fAdd))]), .dead, .dead, .dead, .dead, .dead, .dead, (AG.o ag930 1 (List.map eS v929))]⟩ (by cases ag930 <;> kernel_rfl) ?_
                            refine seqQ.n ?_
                            refine Wp.block' 7 [1, 2, 4, 5, 7, 8, 9, 13, 15, 16, 17] 11 (by kernel_rfl) ?_
                            refine Wp.region (by kernel_rfl) ?_
                            refine Ops.seg' 3 3 (by kernel_rfl) ?_
                            refine Ops.done (by kernel_rfl) ?_
                            refine blkQ.n ⟨q1 ((.v (.str a1)) :: (.ptr 0 0) :: q1 ((.v (.sl .nil (List.map eS []))) :: (AG.d ag930 11 (List.map eS v929)) :: q1 ((.ptr 3 0) :: (dI v931) :: (.v (.str v945)) :: q3 ((dI (w64 (v1004 + 1))) :: q1 ((dP e67 a0.fCells) :: (dI ((a0.fCells.length : Int))) :: (dI v697) :: q40 (q33 [])))))), [(.cells [(.v (.str a0.fName)), (dP e67 a0.fCells)]), .dead, .dead, (.cells [(dP eS v707.fTags), (.v (.str v707.fCut)), (.v (.str v707.fAdd))]), .dead, .dead, .dead, .dead, .dead, .dead, .dead, (AG.o ag930 1 (List.map eS v929))]⟩ (by cases ag930 <;> kernel_rfl) ?_
                            refine lpQ.n ⟨q1 ((.v (.str a1)) :: (.ptr 0 0) :: q1 ((.v (.sl .nil (List.map eS []))) :: (AG.d ag930 9 (List.map eS v929)) :: q1 ((.ptr 3 0) :: (dI v931) :: (.v (.str v945)) :: q3 ((dI (w64 (v1004 + 1))) :: q1 ((dP e67 a0.fCells) :: (dI ((a0.fCells.length : Int))) :: (dI v697) :: q40 (q33 [])))))), [(.cells [(.v (.str a0.fName)), (dP e67 a0.fCells)]), .dead, .dead, (.cells [(dP eS v707.fTags), (.v (.str v707.fCut)), (.v (.str v707.fAdd))]), .dead, .dead, .dead, .dead, .dead, (AG.o ag930 1 (List.map eS v929))]⟩ (by cases ag930 <;> kernel_rfl) ?_
                            cases h
                            exact ihx1008 (w64 (v1004 + 1))  _ hsx1013 _ (by omega) hrx1009 hxx1010
                          · refine Wp.exit (id := 6) (by kernel_rfl) ?_
                            refine sqQ.x ?_
                            refine seqQ.x ?_
                            cases h
                            refine lpQ.x ?_
                            refine blkQ.x ⟨q1 ((.v (.str a1)) :: (.ptr 0 0) :: q1 ((.v (.sl .nil (List.map eS []))) :: (AG.d ag930 9 (List.map eS v929)) :: q1 ((.ptr 3 0) :: (dI v931) :: (.v (.str v945)) :: q3 ((dI v1004) :: q1 ((dP e67 a0.fCells) :: (dI ((a0.fCells.length : Int))) :: (dI v697) :: q40 (q33 [])))))), [(.cells [(.v (.str a0.fName)), (dP e67 a0.fCells)]), .dead, .dead, (.cells [(dP eS v707.fTags), (.v (.str v707.fCut)), (.v (.str v707.fAdd))]), .dead, .dead, .dead, .dead, .dead, (AG.o ag930 1 (List.map eS v929))]⟩ (by cases ag930 <;> kernel_rfl) ?_
                            exact hxx1010 v1004  hsx1013
                        obtain ⟨v1023, ev1023, h⟩ := bnd_some h
                        have G21g1015 : ∀ v1014 : Bool, (cnd v1014 (bnd (idx v929 v1004) fun v1025 => some (Op.bytesLess v1025.toList v945.toList)) (some false)) = some v1023 → Ops (X21 n) (opl (cL (cL (cL (cL (cL (cR (cR (cR (cR (cR (cR (cL (cL (cR (cL (cL (cR (cR (cL (cL (cR (cR (cL (cL (cR (cL (cR (cR C21))))))))))))))))))))))))))))) 5 ⟨q1 ((.v (.str a1)) :: (.ptr 0 0) :: q1 ((.v (.sl .nil (List.map eS []))) :: (AG.d ag930 9 (List.map eS v929)) :: q1 ((.ptr 3 0) :: (dI v931) :: (.v (.str v945)) :: q3 ((dI v1004) :: q1 ((dP e67 a0.fCells) :: (dI ((a0.fCells.length : Int))) :: (dI v697) :: q33 ((dI v1004) :: (AG.d ag930 9 (List.map eS v929)) :: (dI ((v929.length : Int))) :: (dB v1014) :: (dB v1014) :: q35 [])))))), [(.cells [(.v (.str a0.fName)), (dP e67 a0.fCells)]), .dead, .dead, (.cells [(dP eS v707.fTags), (.v (.str v707.fCut)), (.v (.str v707.fAdd))]), .dead, .dead, .dead, .dead, .dead, (AG.o ag930 1 (List.map eS v929))]⟩ ((seqQ (X21 n) (cR (cL (cL (cL (cL (cR (cR (cR (cR (cR (cR (cL (cL (cR (cL (cL (cR (cR (cL (cL (cR (cR (cL (cL (cR (cL (cR (cR C21)))))))))))))))))))))))))))) (seqQ (X21 n) (cR (cL (cL (cL (cR (cR (cR (cR (cR (cR (cL (cL (cR (cL (cL (cR (cR (cL (cL (cR (cR (cL (cL (cR (cL (cR (cR C21))))))))))))))))))))))))))) (lpQ (X21 n) [1, 2, 4, 5, 7, 8, 9, 13, 15, 16, 17] 9 (cL (cL (cL (cR (cR (cR (cR (cR (cR (cL (cL (cR (cL (cL (cR (cR (cL (cL (cR (cR (cL (cL (cR (cL (cR (cR C21)))))))))))))))))))))))))) nx1007 (blkQ (X21 n) 6 [1, 2, 4, 5, 7, 8, 9, 13, 15, 16, 17] 9 (seqQ (X21 n) (cR (cR (cR (cR (cR (cR (cR (cL (cL (cR (cL (cL (cR (cR (cL (cL (cR (cR (cL (cL (cR (cL (cR (cR C21)))))))))))))))))))))))) (blkQ (X21 n) 3 [1, 2, 4, 5, 7, 8, 15, 16, 17] 6 (seqQ (X21 n) (cR (cR (cL (cL (cR (cR (cL (cL (cR (cR (cL (cL (cR (cL (cR (cR C21)))))))))))))))) (lpQ (X21 n) [1, 2, 4, 5, 7, 8, 15, 16, 17] 4 (cL (cL (cR (cR (cL (cL (cR (cR (cL (cL (cR (cL (cR (cR C21)))))))))))))) nx934 (blkQ (X21 n) 2 [1, 2, 4, 5, 15, 16, 17] 4 (blkQ (X21 n) 1 [1, 2, 4, 5, 15, 16, 17] 3 (seqQ (X21 n) (cR (cR (cR (cL (cL (cR (cL (cR (cR C21))))))))) (lpQ (X21 n) [1, 2, 4, 5, 15, 16, 17] 1 (cL (cL (cR (cL (cR (cR C21)))))) nx700 (blkQ (X21 n) 0 [4, 5] 1 (seqQ (X21 n) (cR (cR (cR C21))) (fnQ (X21 n).E.T (resOf Proofs.Tryd.prog 21) ((eL eS) o)))))))))))))))) .normal) := by
                          intro v1014 ev1023
                          cases v1014
                          · have ev1023 := cnd_f ev1023
                            refine Ops.seg' 7 12 (by kernel_rfl) ?_
                            refine Ops.st ⟨q1 ((.v (.str a1)) :: (.ptr 0 0) :: q1 ((.v (.sl .nil (List.map eS []))) :: (AG.d ag930 9 (List.map eS v929)) :: q1 ((.ptr 3 0) :: (dI v931) :: (.v (.str v945)) :: q3 ((dI v1004) :: q1 ((dP e67 a0.fCells) :: (dI ((a0.fCells.length : Int))) :: (dI v697) :: q33 ((dI v1004) :: (AG.d ag930 9 (List.map eS v929)) :: (dI ((v929.length : Int))) :: (dB false) :: (dB false) :: u6 ((dB false) :: q28 []))))))), [(.cells [(.v (.str a0.fName)), (dP e67 a0.fCells)]), .dead, .dead, (.cells [(dP eS v707.fTags), (.v (.str v707.fCut)), (.v (.str v707.fAdd))]), .dead, .dead, .dead, .dead, .dead, (AG.o ag930 1 (List.map eS v929))]⟩ (by kernel_rfl) ?_
                            exact J21j1024 _ _ _ _ _ _ _ _ (some_sub (fun v1023 => f21_r5 m v1004 v1023 = some sx1012) ev1023 h)
                          · have ev1023 := cnd_t ev1023
                            refine Ops.seg' 2 7 (by kernel_rfl) ?_
                            obtain ⟨v1025, ev1025, ev1023⟩ := bnd_some ev1023
                            refine Ops.one' 8 (fun h0 e0 => (ix_g (T := T) h0 36 9 1 9 ag930 eS v929 v1004 v1025 ev1025 (by kernel_rfl) (by kernel_rfl) (fun _ => rfl))) (by kernel_rfl) (by kernel_rfl) ?_
                            refine Ops.seg' 4 12 (by kernel_rfl) ?_
                            refine Ops.st ⟨q1 ((.v (.str a1)) :: (.ptr 0 0) :: q1 ((.v (.sl .nil (List.map eS []))) :: (AG.d ag930 9 (List.map eS v929)) :: q1 ((.ptr 3 0) :: (dI v931) :: (.v (.str v945)) :: q3 ((dI v1004) :: q1 ((dP e67 a0.fCells) :: (dI ((a0.fCells.length : Int))) :: (dI v697) :: q33 ((dI v1004) :: (AG.d ag930 9 (List.map eS v929)) :: (dI ((v929.length : Int))) :: (dB true) :: (dB true) :: (AG.d ag930 9 (List.map eS v929)) :: (dI v1004) :: (.vptr [(.str v1025)]) :: (.v (.str v1025)) :: (.v (.str v945)) :: (dB (Op.bytesLess v1025.toList v945.toList)) :: (dB (Op.bytesLess v1025.toList v945.toList)) :: q28 [])))))), [(.cells [(.v (.str a0.fName)), (dP e67 a0.fCells)]), .dead, .dead, (.cells [(dP eS v707.fTags), (.v (.str v707.fCut)), (.v (.str v707.fAdd))]), .dead, .dead, .dead, .dead, .dead, (AG.o ag930 1 (List.map eS v929))]⟩ (by kernel_rfl) ?_
                            exact J21j1024 _ _ _ _ _ _ _ _ (some_sub (fun v1023 => f21_r5 m v1004 v1023 = some sx1012) ev1023 h)
                        exact Ops.st ⟨q1 ((.v (.str a1)) :: (.ptr 0 0) :: q1 ((.v (.sl .nil (List.map eS []))) :: (AG.d ag930 9 (List.map eS v929)) :: q1 ((.ptr 3 0) :: (dI v931) :: (.v (.str v945)) :: q3 ((dI v1004) :: q1 ((dP e67 a0.fCells) :: (dI ((a0.fCells.length : Int))) :: (dI v697) :: q33 ((dI v1004) :: (AG.d ag930 9 (List.map eS v929)) :: (dI ((v929.length : Int))) :: (dB ((decide (v1004 < (v929.length : Int))))) :: (dB ((decide (v1004 < (v929.length : Int))))) :: q35 [])))))), [(.cells [(.v (.str a0.fName)), (dP e67 a0.fCells)]), .dead, .dead, (.cells [(dP eS v707.fTags), (.v (.str v707.fCut)), (.v (.str v707.fAdd))]), .dead, .dead, .dead, .dead, .dead, (AG.o ag930 1 (List.map eS v929))]⟩ (by kernel_rfl) (G21g1015 (decide (v1004 < (v929.length : Int))) ev1023)
                    refine Wp.loop' [1, 2, 4, 5, 7, 8, 9, 13, 15, 16, 17] 9 (by kernel_rfl) ⟨q1 ((.v (.str a1)) :: (.ptr 0 0) :: q1 ((.v (.sl .nil (List.map eS []))) :: (AG.d ag930 9 (List.map eS v929)) :: q1 ((.ptr 3 0) :: (dI v931) :: (.v (.str v945)) :: q3 ((dI 0) :: q1 ((dP e67 a0.fCells) :: (dI ((a0.fCells.length : Int))) :: (dI v697) :: q40 (q33 [])))))), [(.cells [(.v (.str a0.fName)), (dP e67 a0.fCells)]), .dead, .dead, (.cells [(dP eS v707.fTags), (.v (.str v707.fCut)), (.v (.str v707.fAdd))]), .dead, .dead, .dead, .dead, .dead, (AG.o ag930 1 (List.map eS v929))]⟩ (by cases ag930 <;> kernel_rfl) ?_
                    rcases brk_some h with ⟨r1028, er1028, h⟩ | ⟨y1027, ey1027, h⟩
                    · refine hLx1026 _ 0  _ er1028 n (by omega) (fun r er σ hσ => ?_) (fun y  ey => by cases ey)
                      cases er
                      refine seqQ.r ?_
                      refine blkQ.r ?_
                      refine seqQ.r ?_
                      refine lpQ.r ?_
                      cases h
                      refine blkQ.r ?_
                      exact hrx936 _ hsx940 _ (RetOk.forget [1, 2, 4, 5, 7, 8, 15, 16, 17] (by kernel_rfl) hσ)
                    · refine hLx1026 _ 0  _ ey1027 n (by omega) (fun r er => by cases er) (fun y  ey => ?_)
                      cases ey
                      refine seqQ.n ?_
                      refine Wp.seq' (by kernel_rfl) ?_
                      refine Wp.region (by kernel_rfl) ?_
                      refine Ops.seg' 2 2 (by kernel_rfl) ?_
                      refine Ops.one' 3 (fun h0 e0 => (len_g (T := T) h0 36 9 9 ag930 eS v929 (by kernel_rfl))) (by kernel_rfl) (by kernel_rfl) ?_
                      refine Ops.seg' 2 5 (by kernel_rfl) ?_
                      have J21j1039 : ∀ (d1031 d1032 d1033 d1034 d1035 d1036 : D) (v1037 : Bool) (v1038 : Bool), f21_r8 m v929 v931 v945 y1027 v1038 = some sx939 → Ops (X21 n) (opl (cL (cR (cR (cR (cR (cR (cR (cR (cL (cL (cR (cL (cL (cR (cR (cL (cL (cR (cR (cL (cL (cR (cL (cR (cR C21)))))))))))))))))))))))))) 12 ⟨q1 ((.v (.str a1)) :: (.ptr 0 0) :: q1 ((.v (.sl .nil (List.map eS []))) :: (AG.d ag930 9 (List.map eS v929)) :: q1 ((.ptr 3 0) :: (dI v931) :: (.v (.str v945)) :: q3 ((dI y1027) :: q1 ((dP e67 a0.fCells) :: (dI ((a0.fCells.length : Int))) :: (dI v697) :: q40 (q7 ((dI y1027) :: (AG.d ag930 9 (List.map eS v929)) :: (dI ((v929.length : Int))) :: (dB v1037) :: (dB v1037) :: d1031 :: d1032 :: d1033 :: d1034 :: d1035 :: d1036 :: (dB v1038) :: q14 []))))))), [(.cells [(.v (.str a0.fName)), (dP e67 a0.fCells)]), .dead, .dead, (.cells [(dP eS v707.fTags), (.v (.str v707.fCut)), (.v (.str v707.fAdd))]), .dead, .dead, .dead, .dead, .dead, (AG.o ag930 1 (List.map eS v929))]⟩ ((seqQ (X21 n) (cR (cR (cR (cR (cR (cR (cR (cR (cL (cL (cR (cL (cL (cR (cR (cL (cL (cR (cR (cL (cL (cR (cL (cR (cR C21))))))))))))))))))))))))) (blkQ (X21 n) 3 [1, 2, 4, 5, 7, 8, 15, 16, 17] 6 (seqQ (X21 n) (cR (cR (cL (cL (cR (cR (cL (cL (cR (cR (cL (cL (cR (cL (cR (cR C21)))))))))))))))) (lpQ (X21 n) [1, 2, 4, 5, 7, 8, 15, 16, 17] 4 (cL (cL (cR (cR (cL (cL (cR (cR (cL (cL (cR (cL (cR (cR C21)))))))))))))) nx934 (blkQ (X21 n) 2 [1, 2, 4, 5, 15, 16, 17] 4 (blkQ (X21 n) 1 [1, 2, 4, 5, 15, 16, 17] 3 (seqQ (X21 n) (cR (cR (cR (cL (cL (cR (cL (cR (cR C21))))))))) (lpQ (X21 n) [1, 2, 4, 5, 15, 16, 17] 1 (cL (cL (cR (cL (cR (cR C21)))))) nx700 (blkQ (X21 n) 0 [4, 5] 1 (seqQ (X21 n) (cR (cR (cR C21))) (fnQ (X21 n).E.T (resOf Proofs.Tryd.prog 21) ((eL eS) o)))))))))))) .normal) := by
                        intro d1031 d1032 d1033 d1034 d1035 d1036 v1037 v1038 h
                        unfold f21_r8 at h
                        refine Ops.done (by kernel_rfl) ?_
                        refine seqQ.n ?_
                        have J21j1043 : ∀ (v1040 : (List ByteArray)) (ag1041 : AG) (oo1042 : OO), f21_j7 m v931 v1040 = some sx939 → (blkQ (X21 n) 3 [1, 2, 4, 5, 7, 8, 15, 16, 17] 6 (seqQ (X21 n) (cR (cR (cL (cL (cR (cR (cL (cL (cR (cR (cL (cL (cR (cL (cR (cR C21)))))))))))))))) (lpQ (X21 n) [1, 2, 4, 5, 7, 8, 15, 16, 17] 4 (cL (cL (cR (cR (cL (cL (cR (cR (cL (cL (cR (cL (cR (cR C21)))))))))))))) nx934 (blkQ (X21 n) 2 [1, 2, 4, 5, 15, 16, 17] 4 (blkQ (X21 n) 1 [1, 2, 4, 5, 15, 16, 17] 3 (seqQ (X21 n) (cR (cR (cR (cL (cL (cR (cL (cR (cR C21))))))))) (lpQ (X21 n) [1, 2, 4, 5, 15, 16, 17] 1 (cL (cL (cR (cL (cR (cR C21)))))) nx700 (blkQ (X21 n) 0 [4, 5] 1 (seqQ (X21 n) (cR (cR (cR C21))) (fnQ (X21 n).E.T (resOf Proofs.Tryd.prog 21) ((eL eS) o))))))))))) .normal ⟨q1 ((.v (.str a1)) :: (.ptr 0 0) :: q1 ((.v (.sl .nil (List.map eS []))) :: (AG.d ag1041 10 (List.map eS v1040)) :: q1 ((.ptr 3 0) :: (dI v931) :: q6 ((dP e67 a0.fCells) :: (dI ((a0.fCells.length : Int))) :: (dI v697) :: q40 (q33 []))))), [(.cells [(.v (.str a0.fName)), (dP e67 a0.fCells)]), .dead, .dead, (.cells [(dP eS v707.fTags), (.v (.str v707.fCut)), (.v (.str v707.fAdd))]), .dead, .dead, .dead, .dead, .dead, (OO.o oo1042), (AG.o ag1041 1 (List.map eS v1040))]⟩ := by
                          intro v1040 ag1041 oo1042 h
                          unfold f21_j7 at h
                          refine blkQ.n ⟨q1 ((.v (.str a1)) :: (.ptr 0 0) :: q1 ((.v (.sl .nil (List.map eS []))) :: (AG.d ag1041 6 (List.map eS v1040)) :: q1 ((.ptr 3 0) :: (dI v931) :: q6 ((dP e67 a0.fCells) :: (dI ((a0.fCells.length : Int))) :: (dI v697) :: q40 (q33 []))))), [(.cells [(.v (.str a0.fName)), (dP e67 a0.fCells)]), .dead, .dead, (.cells [(dP eS v707.fTags), (.v (.str v707.fCut)), (.v (.str v707.fAdd))]), .dead, .dead, (AG.o ag1041 1 (List.map eS v1040))]⟩ (by cases ag1041 <;> kernel_rfl) ?_
                          exact J21j943 v1040 _ h
                        refine Wp.cnd h [1, 2, 4, 5, 7, 8, 15, 16, 17] 10 (by kernel_rfl) (fun h => ?_) (fun h => ?_)
                        · refine Wp.region (by kernel_rfl) ?_
                          refine Ops.seg' 3 3 (by kernel_rfl) ?_
                          obtain ⟨v1044, ev1044, h⟩ := bnd_some h
                          refine Ops.one' 4 (fun h0 e0 => (sub_x (T := T) h0 36 9 1 (AG.d ag930 9 (List.map eS v929)) eS v929 v1044 none (some y1027) (AG.hd _ _ _) ev1044 (by kernel_rfl) (by kernel_rfl) (fun _ => rfl))) (by kernel_rfl) (by kernel_rfl) ?_
                          obtain ⟨v1045, ev1045, h⟩ := bnd_some h
                          refine Ops.one' 5 (fun h0 e0 => (app_n (T := T) (g := .nonfull) h0 36 9 1 ti9 (sfl (dfl (AG.d ag930 9 (List.map eS v929))) v929.length (some y1027)) eS v1044 v1045 ev1045 (by kernel_rfl) (by kernel_rfl) (by kernel_rfl) (by kernel_rfl) (fun _ => rfl))) (by kernel_rfl) (by kernel_rfl) ?_
                          refine Ops.seg' 2 7 (by kernel_rfl) ?_
                          obtain ⟨v1046, ev1046, h⟩ := bnd_some h
                          refine Ops.one' 8 (fun h0 e0 => (app_r (T := T) (g := .nonfull) h0 36 9 10 1 ti9 .nonfull eS v1045 [v945] v1046 ev1046 (by kernel_rfl) (by kernel_rfl) (by kernel_rfl) (by kernel_rfl) (fun _ => rfl) (hq_of e0 (by kernel_rfl)))) (by kernel_rfl) (by kernel_rfl) ?_
                          refine Ops.seg' 2 10 (by kernel_rfl) ?_
                          obtain ⟨v1047, ev1047, h⟩ := bnd_some h
                          refine Ops.one' 11 (fun h0 e0 => (sub_x (T := T) h0 36 9 1 (AG.d ag930 9 (List.map eS v929)) eS v929 v1047 (some y1027) none (AG.hd _ _ _) ev1047 (by kernel_rfl) (by kernel_rfl) (fun _ => rfl))) (by kernel_rfl) (by kernel_rfl) ?_
                          obtain ⟨v1048, ev1048, h⟩ := bnd_some h
                          refine Ops.one' 12 (fun h0 e0 => (app_r (T := T) (g := .nonfull) h0 36 9 11 1 ti9 (sfl (dfl (AG.d ag930 9 (List.map eS v929))) v929.length none) eS v1046 v1047 v1048 ev1048 (by kernel_rfl) (by kernel_rfl) (by kernel_rfl) (by kernel_rfl) (fun _ => rfl) (hq_of e0 (by kernel_rfl)))) (by kernel_rfl) (by kernel_rfl) ?_
                          refine Ops.seg' 1 13 (by kernel_rfl) ?_
                          refine Ops.done (by kernel_rfl) ?_
                          refine sqQ.n ⟨q1 ((.v (.str a1)) :: (.ptr 0 0) :: q1 ((.v (.sl .nil (List.map eS []))) :: (AG.d ((AG.of .nonfull (List.map eS v1048))) 10 (List.map eS v1048)) :: q1 ((.ptr 3 0) :: (dI v931) :: q6 ((dP e67 a0.fCells) :: (dI ((a0.fCells.length : Int))) :: (dI v697) :: q40 (q33 []))))), [(.cells [(.v (.str a0.fName)), (dP e67 a0.fCells)]), .dead, .dead, (.cells [(dP eS v707.fTags), (.v (.str v707.fCut)), (.v (.str v707.fAdd))]), .dead, .dead, .dead, .dead, .dead, (OO.o ((OO.ofg ag930 1 (List.map eS v929)))), (AG.o ((AG.of .nonfull (List.map eS v1048))) 1 (List.map eS v1048))]⟩ (by generalize v1048 = z0; cases ag930 <;> cases z0 <;> kernel_rfl) ?_
                          exact J21j1043 v1048 _ _ h
                        · refine Wp.skip (by kernel_rfl) ?_
                          refine sqQ.n ⟨q1 ((.v (.str a1)) :: (.ptr 0 0) :: q1 ((.v (.sl .nil (List.map eS []))) :: (AG.d ag930 10 (List.map eS v929)) :: q1 ((.ptr 3 0) :: (dI v931) :: q6 ((dP e67 a0.fCells) :: (dI ((a0.fCells.length : Int))) :: (dI v697) :: q40 (q33 []))))), [(.cells [(.v (.str a0.fName)), (dP e67 a0.fCells)]), .dead, .dead, (.cells [(dP eS v707.fTags), (.v (.str v707.fCut)), (.v (.str v707.fAdd))]), .dead, .dead, .dead, .dead, .dead, (OO.o none), (AG.o ag930 1 (List.map eS v929))]⟩ (by cases ag930 <;> kernel_rfl) ?_
                          exact J21j1043 v929 _ _ h
                      obtain ⟨v1038, ev1038, h⟩ := bnd_some h
                      have G21g1030 : ∀ v1029 : Bool, (cnd v1029 (some true) (bnd (idx v929 y1027) fun v1049 => some (!(v1049.toList == v945.toList)))) = some v1038 → Ops (X21 n) (opl (cL (cR (cR (cR (cR (cR (cR (cR (cL (cL (cR (cL (cL (cR (cR (cL (cL (cR (cR (cL (cL (cR (cL (cR (cR C21)))))))))))))))))))))))))) 5 ⟨q1 ((.v (.str a1)) :: (.ptr 0 0) :: q1 ((.v (.sl .nil (List.map eS []))) :: (AG.d ag930 9 (List.map eS v929)) :: q1 ((.ptr 3 0) :: (dI v931) :: (.v (.str v945)) :: q3 ((dI y1027) :: q1 ((dP e67 a0.fCells) :: (dI ((a0.fCells.length : Int))) :: (dI v697) :: q40 (q7 ((dI y1027) :: (AG.d ag930 9 (List.map eS v929)) :: (dI ((v929.length : Int))) :: (dB v1029) :: (dB v1029) :: q21 []))))))), [(.cells [(.v (.str a0.fName)), (dP e67 a0.fCells)]), .dead, .dead, (.cells [(dP eS v707.fTags), (.v (.str v707.fCut)), (.v (.str v707.fAdd))]), .dead, .dead, .dead, .dead, .dead, (AG.o ag930 1 (List.map eS v929))]⟩ ((seqQ (X21 n) (cR (cR (cR (cR (cR (cR (cR (cR (cL (cL (cR (cL (cL (cR (cR (cL (cL (cR (cR (cL (cL (cR (cL (cR (cR C21))))))))))))))))))))))))) (blkQ (X21 n) 3 [1, 2, 4, 5, 7, 8, 15, 16, 17] 6 (seqQ (X21 n) (cR (cR (cL (cL (cR (cR (cL (cL (cR (cR (cL (cL (cR (cL (cR (cR C21)))))))))))))))) (lpQ (X21 n) [1, 2, 4, 5, 7, 8, 15, 16, 17] 4 (cL (cL (cR (cR (cL (cL (cR (cR (cL (cL (cR (cL (cR (cR C21)))))))))))))) nx934 (blkQ (X21 n) 2 [1, 2, 4, 5, 15, 16, 17] 4 (blkQ (X21 n) 1 [1, 2, 4, 5, 15, 16, 17] 3 (seqQ (X21 n) (cR (cR (cR (cL (cL (cR (cL (cR (cR C21))))))))) (lpQ (X21 n) [1, 2, 4, 5, 15, 16, 17] 1 (cL (cL (cR (cL (cR (cR C21)))))) nx700 (blkQ (X21 n) 0 [4, 5] 1 (seqQ (X21 n) (cR (cR (cR C21))) (fnQ (X21 n).E.T (resOf Proofs.Tryd.prog 21) ((eL eS) o)))))))))))) .normal) := by
                        intro v1029 ev1038
                        cases v1029
                        · have ev1038 := cnd_f ev1038
                          refine Ops.seg' 2 7 (by kernel_rfl) ?_
                          obtain ⟨v1049, ev1049, ev1038⟩ := bnd_some ev1038
                          refine Ops.one' 8 (fun h0 e0 => (ix_g (T := T) h0 36 9 1 9 ag930 eS v929 y1027 v1049 ev1049 (by kernel_rfl) (by kernel_rfl) (fun _ => rfl))) (by kernel_rfl) (by kernel_rfl) ?_
                          refine Ops.seg' 4 12 (by kernel_rfl) ?_
                          refine Ops.st ⟨q1 ((.v (.str a1)) :: (.ptr 0 0) :: q1 ((.v (.sl .nil (List.map eS []))) :: (AG.d ag930 9 (List.map eS v929)) :: q1 ((.ptr 3 0) :: (dI v931) :: (.v (.str v945)) :: q3 ((dI y1027) :: q1 ((dP e67 a0.fCells) :: (dI ((a0.fCells.length : Int))) :: (dI v697) :: q40 (q7 ((dI y1027) :: (AG.d ag930 9 (List.map eS v929)) :: (dI ((v929.length : Int))) :: (dB false) :: (dB false) :: (AG.d ag930 9 (List.map eS v929)) :: (dI y1027) :: (.vptr [(.str v1049)]) :: (.v (.str v1049)) :: (.v (.str v945)) :: (dB (!(v1049.toList == v945.toList))) :: (dB (!(v1049.toList == v945.toList))) :: q14 []))))))), [(.cells [(.v (.str a0.fName)), (dP e67 a0.fCells)]), .dead, .dead, (.cells [(dP eS v707.fTags), (.v (.str v707.fCut)), (.v (.str v707.fAdd))]), .dead, .dead, .dead, .dead, .dead, (AG.o ag930 1 (List.map eS v929))]⟩ (by kernel_rfl) ?_
                          exact J21j1039 _ _ _ _ _ _ _ _ (some_sub (fun v1038 => f21_r8 m v929 v931 v945 y1027 v1038 = some sx939) ev1038 h)
                        · have ev1038 := cnd_t ev1038
                          refine Ops.seg' 7 12 (by kernel_rfl) ?_
                          refine Ops.st ⟨q1 ((.v (.str a1)) :: (.ptr 0 0) :: q1 ((.v (.sl .nil (List.map eS []))) :: (AG.d ag930 9 (List.map eS v929)) :: q1 ((.ptr 3 0) :: (dI v931) :: (.v (.str v945)) :: q3 ((dI y1027) :: q1 ((dP e67 a0.fCells) :: (dI ((a0.fCells.length : Int))) :: (dI v697) :: q40 (q7 ((dI y1027) :: (AG.d ag930 9 (List.map eS v929)) :: (dI ((v929.length : Int))) :: (dB true) :: (dB true) :: u6 ((dB true) :: q14 [])))))))), [(.cells [(.v (.str a0.fName)), (dP e67 a0.fCells)]), .dead, .dead, (.cells [(dP eS v707.fTags), (.v (.str v707.fCut)), (.v (.str v707.fAdd))]), .dead, .dead, .dead, .dead, .dead, (AG.o ag930 1 (List.map eS v929))]⟩ (by kernel_rfl) ?_
                          exact J21j1039 _ _ _ _ _ _ _ _ (some_sub (fun v1038 => f21_r8 m v929 v931 v945 y1027 v1038 = some sx939) ev1038 h)
                      exact Ops.st ⟨q1 ((.v (.str a1)) :: (.ptr 0 0) :: q1 ((.v (.sl .nil (List.map eS []))) :: (AG.d ag930 9 (List.map eS v929)) :: q1 ((.ptr 3 0) :: (dI v931) :: (.v (.str v945)) :: q3 ((dI y1027) :: q1 ((dP e67 a0.fCells) :: (dI ((a0.fCells.length : Int))) :: (dI v697) :: q40 (q7 ((dI y1027) :: (AG.d ag930 9 (List.map eS v929)) :: (dI ((v929.length : Int))) :: (dB ((y1027 == ((v929.length : Int))))) :: (dB ((y1027 == ((v929.length : Int))))) :: q21 []))))))), [(.cells [(.v (.str a0.fName)), (dP e67 a0.fCells)]), .dead, .dead, (.cells [(dP eS v707.fTags), (.v (.str v707.fCut)), (.v (.str v707.fAdd))]), .dead, .dead, .dead, .dead, .dead, (AG.o ag930 1 (List.map eS v929))]⟩ (by kernel_rfl) (G21g1030 (y1027 == ((v929.length : Int))) ev1038)
            · refine Wp.exit (id := 2) (by kernel_rfl) ?_
              refine sqQ.x ?_
              refine seqQ.x ?_
              cases h
              refine lpQ.x ?_
              refine blkQ.x ⟨q1 ((.v (.str a1)) :: (.ptr 0 0) :: q1 ((.v (.sl .nil (List.map eS []))) :: (AG.d ag930 4 (List.map eS v929)) :: q9 ((dP e67 a0.fCells) :: (dI ((a0.fCells.length : Int))) :: (dI v697) :: q40 (q33 [])))), [(.cells [(.v (.str a0.fName)), (dP e67 a0.fCells)]), .dead, .dead, (.cells [(dP eS v707.fTags), (.v (.str v707.fCut)), (.v (.str v707.fAdd))]), (AG.o ag930 1 (List.map eS v929))]⟩ (by cases ag930 <;> kernel_rfl) ?_
              exact hxx937 (v929, v931) _ hsx940
        refine Wp.loop' [1, 2, 4, 5, 7, 8, 15, 16, 17] 4 (by kernel_rfl) ⟨q1 ((.v (.str a1)) :: (.ptr 0 0) :: q1 ((.v (.sl .nil (List.map eS []))) :: (AG.d ag696 4 (List.map eS v695)) :: q1 ((.ptr 3 0) :: (dI 0) :: q6 ((dP e67 a0.fCells) :: (dI ((a0.fCells.length : Int))) :: (dI v697) :: q40 (q33 []))))), [(.cells [(.v (.str a0.fName)), (dP e67 a0.fCells)]), .dead, .dead, (.cells [(dP eS v707.fTags), (.v (.str v707.fCut)), (.v (.str v707.fAdd))]), (AG.o ag696 1 (List.map eS v695))]⟩ (by cases ag696 <;> kernel_rfl) ?_
        rcases brk_some h with ⟨r1052, er1052, h⟩ | ⟨y1051, ey1051, h⟩
        · refine hLx1050 _ v695 0 _ _ er1052 n (by omega) (fun r er σ hσ => ?_) (fun y ag930 ey => by cases ey)
          cases er
          refine blkQ.r ?_
          refine seqQ.r ?_
          refine lpQ.r ?_
          cases h
          refine blkQ.r ?_
          exact hrx702 _ hsx706 _ (RetOk.forget [1, 2, 4, 5, 15, 16, 17] (by kernel_rfl) hσ)
        · refine hLx1050 _ v695 0 _ _ ey1051 n (by omega) (fun r er => by cases er) (fun y ag930 ey => ?_)
          cases ey
          refine blkQ.n ⟨q1 ((.v (.str a1)) :: (.ptr 0 0) :: q1 ((.v (.sl .nil (List.map eS []))) :: (AG.d ag930 3 (List.map eS y1051.1)) :: q9 ((dP e67 a0.fCells) :: (dI ((a0.fCells.length : Int))) :: (dI v697) :: q40 (q33 [])))), [(.cells [(.v (.str a0.fName)), (dP e67 a0.fCells)]), .dead, .dead, (AG.o ag930 1 (List.map eS y1051.1))]⟩ (by cases ag930 <;> kernel_rfl) ?_
          refine seqQ.n ?_
          refine Wp.region (by kernel_rfl) ?_
          refine Ops.seg' 2 2 (by kernel_rfl) ?_
          refine Ops.done (by kernel_rfl) ?_
          refine lpQ.n ⟨q1 ((.v (.str a1)) :: (.ptr 0 0) :: q1 ((.v (.sl .nil (List.map eS []))) :: (AG.d ag930 1 (List.map eS y1051.1)) :: q9 ((dP e67 a0.fCells) :: (dI ((a0.fCells.length : Int))) :: (dI (w64 (v697 + 1))) :: q40 (q33 [])))), [(.cells [(.v (.str a0.fName)), (dP e67 a0.fCells)]), (AG.o ag930 1 (List.map eS y1051.1))]⟩ (by cases ag930 <;> kernel_rfl) ?_
          cases h
          exact ihx701 y1051.1 (w64 (v697 + 1)) _ _ hsx706 _ (by omega) hrx702 hxx703
      · refine Wp.exit (id := 0) (by kernel_rfl) ?_
        refine sqQ.x ?_
        refine seqQ.x ?_
        cases h
        refine lpQ.x ?_
        refine blkQ.x ⟨q4 ((.v (.sl .nil (List.map eS []))) :: (AG.d ag696 1 (List.map eS v695)) :: q40 (q40 (q5 []))), [(.cells [(.v (.str a0.fName)), (dP e67 a0.fCells)]), (AG.o ag696 1 (List.map eS v695))]⟩ (by cases ag696 <;> kernel_rfl) ?_
        exact hxx703 (v695, v697) _ hsx706
  refine Wp.loop' [1, 2, 4, 5, 15, 16, 17] 1 (by kernel_rfl) ⟨q1 ((.v (.str a1)) :: (.ptr 0 0) :: q1 ((.v (.sl .nil (List.map eS []))) :: (AG.d ((AG.of .nil (List.map eS []))) 1 (List.map eS [])) :: q9 ((dP e67 a0.fCells) :: (dI ((a0.fCells.length : Int))) :: (dI 0) :: q40 (q33 [])))), [(.cells [(.v (.str a0.fName)), (dP e67 a0.fCells)]), (AG.o ((AG.of .nil (List.map eS []))) 1 (List.map eS []))]⟩ (by kernel_rfl) ?_
  rcases brk_some h with ⟨r1055, er1055, h⟩ | ⟨y1054, ey1054, h⟩
  · refine hLx1053 _ [] 0 _ _ er1055 n (by omega) (fun r er σ hσ => ?_) (fun y ag696 ey => by cases ey)
    cases er
    refine seqQ.r ?_
    exact fnQ.r' (X21 n) (fun z => ((eL eS) z)) h hσ
  · refine hLx1053 _ [] 0 _ _ ey1054 n (by omega) (fun r er => by cases er) (fun y ag696 ey => ?_)
    cases ey
    refine seqQ.n ?_
    refine Wp.seq' (by kernel_rfl) ?_
    refine Wp.region (by kernel_rfl) ?_
    refine Ops.seg' 2 2 (by kernel_rfl) ?_
    refine Ops.done (by kernel_rfl) ?_
    refine seqQ.n ?_
    refine Wp.ret (by kernel_rfl) ?_
    exact fnQ.r' (X21 n) (fun z => ((eL eS) z)) h (RetOk.mk' (AG.d ag696 1 (List.map eS y1054.1)) (by kernel_rfl) (AG.frz _ _ _ _ _))

/-! ### 20 glosswright/glosswrightequal.TextLists -/
def f20_B1 (m : Nat) (a0 : (List ByteArray)) (a1 : (List ByteArray)) (v6 : Int) : Option (Stp Bool (Int)) :=
  cnd (decide (v6 < (a0.length : Int)))
  (bnd (idx a0 v6) fun v16 =>
  bnd (idx a1 v6) fun v17 =>
  cnd (!(v16.toList == v17.toList))
  (some (.ret false))
  (some (.nxt (w64 (v6 + 1)))))
  (some (.brk v6))
def f20 (m : Nat) (a0 : (List ByteArray)) (a1 : (List ByteArray)) : Option Bool :=
  cnd (((a0.length : Int)) != ((a1.length : Int)))
  (some false)
  (brk (iter (fun (y : Int) => f20_B1 m a0 a1 y) m 0) some fun y19 =>
  some true)
noncomputable abbrev X20 (n : Nat) : Cx := cxOf Proofs.Tryd.prog E 20 n
noncomputable def C20 : Code := bodyOf Proofs.Tryd.prog 20
theorem ok20 (m : Nat) (a0 : (List ByteArray)) (a1 : (List ByteArray)) (o : Bool) (h : f20 m a0 a1 = some o) (n : Nat) (hn : m + 1 ≤ n) : Fn Proofs.Tryd.prog E n 20 [.v ((eL eS) a0), .v ((eL eS) a1)] (eB o) := by
  obtain ⟨n, rfl⟩ : ∃ q, n = q + 1 := ⟨n - 1, by omega⟩
  unfold f20 at h
  refine Fn.of (by kernel_rfl) (by kernel_rfl) (by kernel_rfl) ⟨(dP eS a0) :: (dP eS a1) :: u24 [], []⟩ (by kernel_rfl) ?_
  refine Wp.seq' (by kernel_rfl) ?_
  refine Wp.region (by kernel_rfl) ?_
  refine Ops.seg' 1 1 (by kernel_rfl) ?_
  refine Ops.done (by kernel_rfl) ?_
  refine seqQ.n ?_
  refine Wp.seq' (by kernel_rfl) ?_
  refine Wp.seq' (by kernel_rfl) ?_
  refine Wp.region (by kernel_rfl) ?_
  refine Ops.seg' 1 1 (by kernel_rfl) ?_
  refine Ops.one' 2 (fun h0 e0 => (len_r (T := T) h0 36 9 .plain eS a0 (by kernel_rfl))) (by kernel_rfl) (by kernel_rfl) ?_
  refine Ops.seg' 1 3 (by kernel_rfl) ?_
  refine Ops.one' 4 (fun h0 e0 => (len_r (T := T) h0 36 9 .plain eS a1 (by kernel_rfl))) (by kernel_rfl) (by kernel_rfl) ?_
  refine Ops.seg' 1 5 (by kernel_rfl) ?_
  refine Ops.done (by kernel_rfl) ?_
  refine seqQ.n ?_
  refine Wp.cnd h [0, 1, 4] 0 (by kernel_rfl) (fun h => ?_) (fun h => ?_)
  · refine Wp.seq' (by kernel_rfl) ?_
    refine Wp.region (by kernel_rfl) ?_
    refine Ops.seg' 1 1 (by kernel_rfl) ?_
    refine Ops.done (by kernel_rfl) ?_
    refine seqQ.n ?_
    refine Wp.ret (by kernel_rfl) ?_
    refine sqQ.r ?_
    refine seqQ.r ?_
    exact fnQ.r' (X20 n) (fun z => (eB z)) h (RetOk.mk' (dB false) (by kernel_rfl) (by kernel_rfl))
  · refine Wp.skip (by kernel_rfl) ?_
    refine sqQ.n' ?_
    refine seqQ.n ?_
    refine Wp.seq' (by kernel_rfl) ?_
    refine Wp.seq' (by kernel_rfl) ?_
    refine Wp.region (by kernel_rfl) ?_
    refine Ops.seg' 1 1 (by kernel_rfl) ?_
    refine Ops.one' 2 (fun h0 e0 => (len_r (T := T) h0 36 9 .plain eS a0 (by kernel_rfl))) (by kernel_rfl) (by kernel_rfl) ?_
    refine Ops.seg' 1 3 (by kernel_rfl) ?_
    refine Ops.done (by kernel_rfl) ?_
    refine seqQ.n ?_
    refine Wp.block' 0 [4] 0 (by kernel_rfl) ?_
    have hLx18 : ∀ (kx8 : Nat) (v6 : Int)  (ox7 : Bool ⊕ (Int)), iter (fun (y : Int) => f20_B1 m a0 a1 y) kx8 v6 = some ox7 → ∀ nx9, kx8 ≤ nx9 → (∀ r, ox7 = .inl r → ∀ σ, RetOk (X20 n) (resOf Proofs.Tryd.prog 20) (eB r) σ → (seqQ (X20 n) (cR (cR (cR C20))) (fnQ (X20 n).E.T (resOf Proofs.Tryd.prog 20) (eB o))) .ret σ) → (∀ (y : Int) , ox7 = .inr y → (seqQ (X20 n) (cR (cR (cR C20))) (fnQ (X20 n).E.T (resOf Proofs.Tryd.prog 20) (eB o))) .normal ⟨(dP eS a0) :: (dP eS a1) :: q2 ((dB false) :: q7 ((dI ((a0.length : Int))) :: (dI y) :: q12 [])), []⟩) → Lp (X20 n) [0, 1, 4, 12, 13] 0 (cL (cL (cR (cL (cR (cR C20)))))) nx9 ⟨(dP eS a0) :: (dP eS a1) :: q2 ((dB false) :: q7 ((dI ((a0.length : Int))) :: (dI v6) :: q12 [])), []⟩ (blkQ (X20 n) 0 [4] 0 (seqQ (X20 n) (cR (cR (cR C20))) (fnQ (X20 n).E.T (resOf Proofs.Tryd.prog 20) (eB o)))) := by
      intro kx8
      induction kx8 with
      | zero => intro v6  ox7 h; exact (iter_zero h).elim
      | succ kx8 ihx10 =>
        intro v6  ox7 h nx9 hnx13 hrx11 hxx12
        obtain ⟨nx9, rfl⟩ : ∃ q, nx9 = q + 1 := ⟨nx9 - 1, by omega⟩
        obtain ⟨sx14, h, hsx15⟩ := iter_some h
        have h : f20_B1 m a0 a1 v6 = some sx14 := h
        unfold f20_B1 at h
        refine Lp.succ ?_
        refine Wp.seq' (by kernel_rfl) ?_
        refine Wp.region (by kernel_rfl) ?_
        refine Ops.seg' 1 1 (by kernel_rfl) ?_
        refine Ops.done (by kernel_rfl) ?_
        refine seqQ.n ?_
        refine Wp.seq' (by kernel_rfl) ?_
        refine Wp.cnd h [0, 1, 4, 12, 13] 0 (by kernel_rfl) (fun h => ?_) (fun h => ?_)
        · refine Wp.skip (by kernel_rfl) ?_
          refine sqQ.n' ?_
          refine seqQ.n ?_
          refine Wp.seq' (by kernel_rfl) ?_
          refine Wp.block' 1 [0, 1, 4, 12, 13] 0 (by kernel_rfl) ?_
          refine Wp.seq' (by kernel_rfl) ?_
          refine Wp.region (by kernel_rfl) ?_
          refine Ops.seg' 2 2 (by kernel_rfl) ?_
          refine Ops.done (by kernel_rfl) ?_
          refine seqQ.n ?_
          refine Wp.seq' (by kernel_rfl) ?_
          refine Wp.region (by kernel_rfl) ?_
          refine Ops.seg' 2 2 (by kernel_rfl) ?_
          obtain ⟨v16, ev16, h⟩ := bnd_some h
          refine Ops.one' 3 (fun h0 e0 => (ix_r (T := T) h0 36 9 1 .plain eS a0 v6 v16 ev16 (by kernel_rfl) (by kernel_rfl) (fun _ => rfl))) (by kernel_rfl) (by kernel_rfl) ?_
          refine Ops.seg' 3 6 (by kernel_rfl) ?_
          obtain ⟨v17, ev17, h⟩ := bnd_some h
          refine Ops.one' 7 (fun h0 e0 => (ix_r (T := T) h0 36 9 1 .plain eS a1 v6 v17 ev17 (by kernel_rfl) (by kernel_rfl) (fun _ => rfl))) (by kernel_rfl) (by kernel_rfl) ?_
          refine Ops.seg' 2 9 (by kernel_rfl) ?_
          refine Ops.done (by kernel_rfl) ?_
          refine seqQ.n ?_
          refine Wp.cnd h [0, 1, 4, 12, 13] 0 (by kernel_rfl) (fun h => ?_) (fun h => ?_)
          · refine Wp.seq' (by kernel_rfl) ?_
            refine Wp.region (by kernel_rfl) ?_
            refine Ops.seg' 1 1 (by kernel_rfl) ?_
            refine Ops.done (by kernel_rfl) ?_
            refine seqQ.n ?_
            refine Wp.ret (by kernel_rfl) ?_
            refine sqQ.r ?_
            refine blkQ.r ?_
            refine seqQ.r ?_
            cases h
            refine lpQ.r ?_
            refine blkQ.r ?_
            exact hrx11 _ hsx15 _ (RetOk.forget [0, 1, 4, 12, 13] (by kernel_rfl) (RetOk.mk' (dB false) (by kernel_rfl) (by kernel_rfl)))
          · refine Wp.skip (by kernel_rfl) ?_
            refine sqQ.n' ?_
            refine blkQ.n' ?_
            refine seqQ.n ?_
            refine Wp.region (by kernel_rfl) ?_
            refine Ops.seg' 2 2 (by kernel_rfl) ?_
            refine Ops.done (by kernel_rfl) ?_
            refine lpQ.n ⟨(dP eS a0) :: (dP eS a1) :: q2 ((dB false) :: q7 ((dI ((a0.length : Int))) :: (dI (w64 (v6 + 1))) :: q12 [])), []⟩ (by kernel_rfl) ?_
            cases h
            exact ihx10 (w64 (v6 + 1))  _ hsx15 _ (by omega) hrx11 hxx12
        · refine Wp.exit (id := 0) (by kernel_rfl) ?_
          refine sqQ.x ?_
          refine seqQ.x ?_
          cases h
          refine lpQ.x ?_
          refine blkQ.x ⟨(dP eS a0) :: (dP eS a1) :: q2 ((dB false) :: q7 ((dI ((a0.length : Int))) :: (dI v6) :: q12 [])), []⟩ (by kernel_rfl) ?_
          exact hxx12 v6  hsx15
    refine Wp.loop' [0, 1, 4, 12, 13] 0 (by kernel_rfl) ⟨(dP eS a0) :: (dP eS a1) :: q2 ((dB false) :: q7 ((dI ((a0.length : Int))) :: (dI 0) :: q12 [])), []⟩ (by kernel_rfl) ?_
    rcases brk_some h with ⟨r20, er20, h⟩ | ⟨y19, ey19, h⟩
    · refine hLx18 _ 0  _ er20 n (by omega) (fun r er σ hσ => ?_) (fun y  ey => by cases ey)
      cases er
      refine seqQ.r ?_
      exact fnQ.r' (X20 n) (fun z => (eB z)) h hσ
    · refine hLx18 _ 0  _ ey19 n (by omega) (fun r er => by cases er) (fun y  ey => ?_)
      cases ey
      refine seqQ.n ?_
      refine Wp.seq' (by kernel_rfl) ?_
      refine Wp.region (by kernel_rfl) ?_
      refine Ops.seg' 1 1 (by kernel_rfl) ?_
      refine Ops.done (by kernel_rfl) ?_
      refine seqQ.n ?_
      refine Wp.ret (by kernel_rfl) ?_
      exact fnQ.r' (X20 n) (fun z => (eB z)) h (RetOk.mk' (dB true) (by kernel_rfl) (by kernel_rfl))

/-! ### 4 glosswright/glosswrightlaw6.ParadigmBasesMatchSpec -/
def f4_r1 (m : Nat) (v25 : Bool) : Option Bool :=
  some v25
def f4_r2 (m : Nat) (v35 : Bool) : Option Bool :=
  some v35
def f4_j3 (m : Nat) (a0 : S23) (a1 : ByteArray) (v2 : ((List ByteArray) × S27)) (v16 : Int) (v17 : Int) : Option Bool :=
  cnd (!((v16 == 0) && ((v17 == 0) && true)))
  (f4_r1 m (((((v2.2.fCode == v16) && ((v2.2.fIndex == v17) && true))) && (((v2.1.length : Int)) == 0))))
  (bnd (cnd (((v2.2.fCode == 0) && ((v2.2.fIndex == 0) && true)))
  (bnd (f21 m a0 a1) fun v37 =>
  bnd (f20 m v2.1 v37) fun v38 =>
  some v38)
  (some false)) fun v35 =>
  f4_r2 m v35)
def f4_r4 (m : Nat) (a0 : S23) (a1 : ByteArray) (v2 : ((List ByteArray) × S27)) (v3 : S27) (v10 : Bool) : Option Bool :=
  cnd v10
  (f4_j3 m a0 a1 v2 5 ((-2)))
  (f4_j3 m a0 a1 v2 v3.fCode v3.fIndex)
def f4 (m : Nat) (a0 : S23) (a1 : ByteArray) : Option Bool :=
  bnd (f12 m ) fun v1 =>
  cnd (!v1)
  (some false)
  (bnd (f19 m a0 a1) fun v2 =>
  bnd (f14 m a0) fun v3 =>
  bnd (cnd (((v3.fCode == 0) && ((v3.fIndex == 0) && true)))
  (bnd (f16 m a1) fun v39 =>
  some (!v39))
  (some false)) fun v10 =>
  f4_r4 m a0 a1 v2 v3 v10)
noncomputable abbrev X4 (n : Nat) : Cx := cxOf Proofs.Tryd.prog E 4 n
noncomputable def C4 : Code := bodyOf Proofs.Tryd.prog 4
theorem ok4 (m : Nat) (a0 : S23) (a1 : ByteArray) (o : Bool) (h : f4 m a0 a1 = some o) (n : Nat) (hn : m + 8 ≤ n) : Fn Proofs.Tryd.prog E n 4 [.v (e23 a0), .v (eS a1)] (eB o) := by
  obtain ⟨n, rfl⟩ : ∃ q, n = q + 1 := ⟨n - 1, by omega⟩
  unfold f4 at h
  refine Fn.of (by kernel_rfl) (by kernel_rfl) (by kernel_rfl) ⟨(.v (.agg [(.str a0.fName), (vP e67 a0.fCells)])) :: (.v (.str a1)) :: u40 (u6 []), []⟩ (by kernel_rfl) ?_
  refine Wp.seq' (by kernel_rfl) ?_
  refine Wp.region (by kernel_rfl) ?_
  refine Ops.seg' 2 2 (by kernel_rfl) ?_
  refine Ops.done (by kernel_rfl) ?_
  refine seqQ.n ?_
  refine Wp.seq' (by kernel_rfl) ?_
  refine Wp.seq' (by kernel_rfl) ?_
  refine Wp.region (by kernel_rfl) ?_
  obtain ⟨v1, ev1, h⟩ := bnd_some h
  refine Ops.one' 1 (fun h0 e0 => (call_ok (E' := E) (h := h0) (by kernel_rfl) Args.nil (ok12 m  v1 ev1 n (by omega)))) (by kernel_rfl) (by kernel_rfl) ?_
  refine Ops.seg' 1 2 (by kernel_rfl) ?_
  refine Ops.done (by kernel_rfl) ?_
  refine seqQ.n ?_
  refine Wp.cnd h [1, 2, 4] 1 (by kernel_rfl) (fun h => ?_) (fun h => ?_)
  · refine Wp.seq' (by kernel_rfl) ?_
    refine Wp.region (by kernel_rfl) ?_
    refine Ops.seg' 1 1 (by kernel_rfl) ?_
    refine Ops.done (by kernel_rfl) ?_
    refine seqQ.n ?_
    refine Wp.ret (by kernel_rfl) ?_
    refine sqQ.r ?_
    refine seqQ.r ?_
    exact fnQ.r' (X4 n) (fun z => (eB z)) h (RetOk.mk' (dB false) (by kernel_rfl) (by kernel_rfl))
  · refine Wp.skip (by kernel_rfl) ?_
    refine sqQ.n' ?_
    refine seqQ.n ?_
    refine Wp.seq' (by kernel_rfl) ?_
    refine Wp.region (by kernel_rfl) ?_
    refine Ops.seg' 2 2 (by kernel_rfl) ?_
    obtain ⟨v2, ev2, h⟩ := bnd_some h
    refine Ops.one' 3 (fun h0 e0 => (call_ok (E' := E) (h := h0) (by kernel_rfl) (Args.v (.agg [(.str a0.fName), (vP e67 a0.fCells)]) (e23 a0) (by kernel_rfl) (Args.v (.str a1) (eS a1) (by kernel_rfl) Args.nil)) (ok19 m a0 a1 v2 ev2 n (by omega)))) (by kernel_rfl) (by kernel_rfl) ?_
    refine Ops.seg' 6 9 (by kernel_rfl) ?_
    refine Ops.done (by kernel_rfl) ?_
    refine seqQ.n ?_
    refine Wp.seq' (by kernel_rfl) ?_
    refine Wp.region (by kernel_rfl) ?_
    refine Ops.seg' 1 1 (by kernel_rfl) ?_
    obtain ⟨v3, ev3, h⟩ := bnd_some h
    refine Ops.one' 2 (fun h0 e0 => (call_ok (E' := E) (h := h0) (by kernel_rfl) (Args.v (.agg [(.str a0.fName), (vP e67 a0.fCells)]) (e23 a0) (by kernel_rfl) Args.nil) (ok14 m a0 v3 ev3 n (by omega)))) (by kernel_rfl) (by kernel_rfl) ?_
    refine Ops.seg' 2 4 (by kernel_rfl) ?_
    refine Ops.done (by kernel_rfl) ?_
    refine seqQ.n ?_
    refine Wp.seq' (by kernel_rfl) ?_
    refine Wp.seq' (by kernel_rfl) ?_
    refine Wp.region (by kernel_rfl) ?_
    refine Ops.seg' 4 4 (by kernel_rfl) ?_
    have J4j11 : ∀ (d6 d7 d8 : D) (v9 : Bool) (v10 : Bool), f4_r4 m a0 a1 v2 v3 v10 = some o → Ops (X4 n) (opl (cL (cL (cR (cR (cR (cR C4))))))) 8 ⟨(.v (.agg [(.str a0.fName), (vP e67 a0.fCells)])) :: (.v (.str a1)) :: (.ptr 0 0) :: u1 ((dB false) :: (dP eS v2.1) :: (.ptr 1 0) :: (.ptr 2 0) :: (dB v1) :: (dB (!v1)) :: (.v (.tuple [(vP eS v2.1), (.agg [(vI v2.2.fCode), (vI v2.2.fIndex)])])) :: (.v (.agg [(.str a0.fName), (vP e67 a0.fCells)])) :: (.v (.str a1)) :: (.v (.tuple [(vP eS v2.1), (.agg [(vI v2.2.fCode), (vI v2.2.fIndex)])])) :: (dP eS v2.1) :: (.v (.agg [(vI v2.2.fCode), (vI v2.2.fIndex)])) :: (.v (.agg [(.str a0.fName), (vP e67 a0.fCells)])) :: (.v (.agg [(vI v3.fCode), (vI v3.fIndex)])) :: (.v (.agg [(vI v3.fCode), (vI v3.fIndex)])) :: (.v (.agg [(vI 0), (vI 0)])) :: (dB v9) :: (dB v9) :: d6 :: d7 :: d8 :: (dB v10) :: u22 []), [(.cells [(.v (.str a0.fName)), (dP e67 a0.fCells)]), (.cells [(dI v2.2.fCode), (dI v2.2.fIndex)]), (.cells [(dI v3.fCode), (dI v3.fIndex)])]⟩ ((seqQ (X4 n) (cR (cL (cR (cR (cR (cR C4)))))) (seqQ (X4 n) (cR (cR (cR (cR (cR C4))))) (fnQ (X4 n).E.T (resOf Proofs.Tryd.prog 4) (eB o)))) .normal) := by
      intro d6 d7 d8 v9 v10 h
      unfold f4_r4 at h
      refine Ops.done (by kernel_rfl) ?_
      refine seqQ.n ?_
      have J4j18 : ∀ (v16 : Int) (v17 : Int) (d12 : D) (d13 : D) (d14 : D) (d15 : D), f4_j3 m a0 a1 v2 v16 v17 = some o → (seqQ (X4 n) (cR (cR (cR (cR (cR C4))))) (fnQ (X4 n).E.T (resOf Proofs.Tryd.prog 4) (eB o))) .normal ⟨(.v (.agg [(.str a0.fName), (vP e67 a0.fCells)])) :: (.v (.str a1)) :: (.ptr 0 0) :: u1 ((dB false) :: (dP eS v2.1) :: (.ptr 1 0) :: (.ptr 2 0) :: (dB v1) :: (dB (!v1)) :: (.v (.tuple [(vP eS v2.1), (.agg [(vI v2.2.fCode), (vI v2.2.fIndex)])])) :: (.v (.agg [(.str a0.fName), (vP e67 a0.fCells)])) :: (.v (.str a1)) :: (.v (.tuple [(vP eS v2.1), (.agg [(vI v2.2.fCode), (vI v2.2.fIndex)])])) :: (dP eS v2.1) :: (.v (.agg [(vI v2.2.fCode), (vI v2.2.fIndex)])) :: (.v (.agg [(.str a0.fName), (vP e67 a0.fCells)])) :: (.v (.agg [(vI v3.fCode), (vI v3.fIndex)])) :: (.v (.agg [(vI v3.fCode), (vI v3.fIndex)])) :: (.v (.agg [(vI 0), (vI 0)])) :: (dB v9) :: (dB v9) :: d12 :: d13 :: d14 :: (dB v10) :: d15 :: u21 []), [(.cells [(.v (.str a0.fName)), (dP e67 a0.fCells)]), (.cells [(dI v2.2.fCode), (dI v2.2.fIndex)]), (.cells [(dI v16), (dI v17)])]⟩ := by
        intro v16 v17 d12 d13 d14 d15 h
        unfold f4_j3 at h
        refine seqQ.n ?_
        refine Wp.seq' (by kernel_rfl) ?_
        refine Wp.seq' (by kernel_rfl) ?_
        refine Wp.region (by kernel_rfl) ?_
        refine Ops.seg' 3 3 (by kernel_rfl) ?_
        refine Ops.done (by kernel_rfl) ?_
        refine seqQ.n ?_
        refine Wp.cnd h [1, 2, 4, 5, 6] 3 (by kernel_rfl) (fun h => ?_) (fun h => ?_)
        · refine Wp.seq' (by kernel_rfl) ?_
          refine Wp.region (by kernel_rfl) ?_
          refine Ops.seg' 4 4 (by kernel_rfl) ?_
          have J4j26 : ∀ (d21 d22 d23 : D) (v24 : Bool) (v25 : Bool), f4_r1 m v25 = some o → Ops (X4 n) (opl (cL (cL (cR (cL (cR (cR (cR (cR (cR C4)))))))))) 8 ⟨(.v (.agg [(.str a0.fName), (vP e67 a0.fCells)])) :: (.v (.str a1)) :: (.ptr 0 0) :: u1 ((dB false) :: (dP eS v2.1) :: (.ptr 1 0) :: (.ptr 2 0) :: (dB v1) :: (dB (!v1)) :: (.v (.tuple [(vP eS v2.1), (.agg [(vI v2.2.fCode), (vI v2.2.fIndex)])])) :: (.v (.agg [(.str a0.fName), (vP e67 a0.fCells)])) :: (.v (.str a1)) :: (.v (.tuple [(vP eS v2.1), (.agg [(vI v2.2.fCode), (vI v2.2.fIndex)])])) :: (dP eS v2.1) :: (.v (.agg [(vI v2.2.fCode), (vI v2.2.fIndex)])) :: (.v (.agg [(.str a0.fName), (vP e67 a0.fCells)])) :: (.v (.agg [(vI v3.fCode), (vI v3.fIndex)])) :: (.v (.agg [(vI v3.fCode), (vI v3.fIndex)])) :: (.v (.agg [(vI 0), (vI 0)])) :: (dB v9) :: (dB v9) :: d12 :: d13 :: d14 :: (dB v10) :: d15 :: (.v (.agg [(vI v16), (vI v17)])) :: (.v (.agg [(vI 0), (vI 0)])) :: (dB (!((v16 == 0) && ((v17 == 0) && true)))) :: (.v (.agg [(vI v2.2.fCode), (vI v2.2.fIndex)])) :: (.v (.agg [(vI v16), (vI v17)])) :: (dB v24) :: (dB v24) :: d21 :: d22 :: d23 :: (dB v25) :: u10 []), [(.cells [(.v (.str a0.fName)), (dP e67 a0.fCells)]), (.cells [(dI v2.2.fCode), (dI v2.2.fIndex)]), (.cells [(dI v16), (dI v17)])]⟩ ((seqQ (X4 n) (cR (cL (cR (cL (cR (cR (cR (cR (cR C4))))))))) (sqQ (X4 n) [1, 2, 4, 5, 6] 3 (seqQ (X4 n) (cR (cR (cR (cR (cR (cR C4)))))) (fnQ (X4 n).E.T (resOf Proofs.Tryd.prog 4) (eB o))))) .normal) := by
            intro d21 d22 d23 v24 v25 h
            unfold f4_r1 at h
            refine Ops.seg' 1 9 (by kernel_rfl) ?_
            refine Ops.done (by kernel_rfl) ?_
            refine seqQ.n ?_
            refine Wp.ret (by kernel_rfl) ?_
            refine sqQ.r ?_
            refine seqQ.r ?_
            exact fnQ.r' (X4 n) (fun z => (eB z)) h (RetOk.mk' (dB v25) (by kernel_rfl) (by kernel_rfl))
          have G4g20 : ∀ v19 : Bool, f4_r1 m ((v19 && (((v2.1.length : Int)) == 0))) = some o → Ops (X4 n) (opl (cL (cL (cR (cL (cR (cR (cR (cR (cR C4)))))))))) 4 ⟨(.v (.agg [(.str a0.fName), (vP e67 a0.fCells)])) :: (.v (.str a1)) :: (.ptr 0 0) :: u1 ((dB false) :: (dP eS v2.1) :: (.ptr 1 0) :: (.ptr 2 0) :: (dB v1) :: (dB (!v1)) :: (.v (.tuple [(vP eS v2.1), (.agg [(vI v2.2.fCode), (vI v2.2.fIndex)])])) :: (.v (.agg [(.str a0.fName), (vP e67 a0.fCells)])) :: (.v (.str a1)) :: (.v (.tuple [(vP eS v2.1), (.agg [(vI v2.2.fCode), (vI v2.2.fIndex)])])) :: (dP eS v2.1) :: (.v (.agg [(vI v2.2.fCode), (vI v2.2.fIndex)])) :: (.v (.agg [(.str a0.fName), (vP e67 a0.fCells)])) :: (.v (.agg [(vI v3.fCode), (vI v3.fIndex)])) :: (.v (.agg [(vI v3.fCode), (vI v3.fIndex)])) :: (.v (.agg [(vI 0), (vI 0)])) :: (dB v9) :: (dB v9) :: d12 :: d13 :: d14 :: (dB v10) :: d15 :: (.v (.agg [(vI v16), (vI v17)])) :: (.v (.agg [(vI 0), (vI 0)])) :: (dB (!((v16 == 0) && ((v17 == 0) && true)))) :: (.v (.agg [(vI v2.2.fCode), (vI v2.2.fIndex)])) :: (.v (.agg [(vI v16), (vI v17)])) :: (dB v19) :: (dB v19) :: u14 []), [(.cells [(.v (.str a0.fName)), (dP e67 a0.fCells)]), (.cells [(dI v2.2.fCode), (dI v2.2.fIndex)]), (.cells [(dI v16), (dI v17)])]⟩ ((seqQ (X4 n) (cR (cL (cR (cL (cR (cR (cR (cR (cR C4))))))))) (sqQ (X4 n) [1, 2, 4, 5, 6] 3 (seqQ (X4 n) (cR (cR (cR (cR (cR (cR C4)))))) (fnQ (X4 n).E.T (resOf Proofs.Tryd.prog 4) (eB o))))) .normal) := by
            intro v19 h
            cases v19
            · refine Ops.seg' 4 8 (by kernel_rfl) ?_
              refine Ops.st ⟨(.v (.agg [(.str a0.fName), (vP e67 a0.fCells)])) :: (.v (.str a1)) :: (.ptr 0 0) :: u1 ((dB false) :: (dP eS v2.1) :: (.ptr 1 0) :: (.ptr 2 0) :: (dB v1) :: (dB (!v1)) :: (.v (.tuple [(vP eS v2.1), (.agg [(vI v2.2.fCode), (vI v2.2.fIndex)])])) :: (.v (.agg [(.str a0.fName), (vP e67 a0.fCells)])) :: (.v (.str a1)) :: (.v (.tuple [(vP eS v2.1), (.agg [(vI v2.2.fCode), (vI v2.2.fIndex)])])) :: (dP eS v2.1) :: (.v (.agg [(vI v2.2.fCode), (vI v2.2.fIndex)])) :: (.v (.agg [(.str a0.fName), (vP e67 a0.fCells)])) :: (.v (.agg [(vI v3.fCode), (vI v3.fIndex)])) :: (.v (.agg [(vI v3.fCode), (vI v3.fIndex)])) :: (.v (.agg [(vI 0), (vI 0)])) :: (dB v9) :: (dB v9) :: d12 :: d13 :: d14 :: (dB v10) :: d15 :: (.v (.agg [(vI v16), (vI v17)])) :: (.v (.agg [(vI 0), (vI 0)])) :: (dB (!((v16 == 0) && ((v17 == 0) && true)))) :: (.v (.agg [(vI v2.2.fCode), (vI v2.2.fIndex)])) :: (.v (.agg [(vI v16), (vI v17)])) :: (dB false) :: (dB false) :: u3 ((dB false) :: u10 [])), [(.cells [(.v (.str a0.fName)), (dP e67 a0.fCells)]), (.cells [(dI v2.2.fCode), (dI v2.2.fIndex)]), (.cells [(dI v16), (dI v17)])]⟩ (by kernel_rfl) ?_
              exact J4j26 _ _ _ _ _ h
            · refine Ops.seg' 1 5 (by kernel_rfl) ?_
              refine Ops.one' 6 (fun h0 e0 => (len_r (T := T) h0 36 9 .plain eS v2.1 (by kernel_rfl))) (by kernel_rfl) (by kernel_rfl) ?_
              refine Ops.seg' 2 8 (by kernel_rfl) ?_
              refine Ops.st ⟨(.v (.agg [(.str a0.fName), (vP e67 a0.fCells)])) :: (.v (.str a1)) :: (.ptr 0 0) :: u1 ((dB false) :: (dP eS v2.1) :: (.ptr 1 0) :: (.ptr 2 0) :: (dB v1) :: (dB (!v1)) :: (.v (.tuple [(vP eS v2.1), (.agg [(vI v2.2.fCode), (vI v2.2.fIndex)])])) :: (.v (.agg [(.str a0.fName), (vP e67 a0.fCells)])) :: (.v (.str a1)) :: (.v (.tuple [(vP eS v2.1), (.agg [(vI v2.2.fCode), (vI v2.2.fIndex)])])) :: (dP eS v2.1) :: (.v (.agg [(vI v2.2.fCode), (vI v2.2.fIndex)])) :: (.v (.agg [(.str a0.fName), (vP e67 a0.fCells)])) :: (.v (.agg [(vI v3.fCode), (vI v3.fIndex)])) :: (.v (.agg [(vI v3.fCode), (vI v3.fIndex)])) :: (.v (.agg [(vI 0), (vI 0)])) :: (dB v9) :: (dB v9) :: d12 :: d13 :: d14 :: (dB v10) :: d15 :: (.v (.agg [(vI v16), (vI v17)])) :: (.v (.agg [(vI 0), (vI 0)])) :: (dB (!((v16 == 0) && ((v17 == 0) && true)))) :: (.v (.agg [(vI v2.2.fCode), (vI v2.2.fIndex)])) :: (.v (.agg [(vI v16), (vI v17)])) :: (dB true) :: (dB true) :: (dP eS v2.1) :: (dI ((v2.1.length : Int))) :: (dB (((v2.1.length : Int)) == 0)) :: (dB (((v2.1.length : Int)) == 0)) :: u10 []), [(.cells [(.v (.str a0.fName)), (dP e67 a0.fCells)]), (.cells [(dI v2.2.fCode), (dI v2.2.fIndex)]), (.cells [(dI v16), (dI v17)])]⟩ (by kernel_rfl) ?_
              exact J4j26 _ _ _ _ _ h
          exact Ops.st ⟨(.v (.agg [(.str a0.fName), (vP e67 a0.fCells)])) :: (.v (.str a1)) :: (.ptr 0 0) :: u1 ((dB false) :: (dP eS v2.1) :: (.ptr 1 0) :: (.ptr 2 0) :: (dB v1) :: (dB (!v1)) :: (.v (.tuple [(vP eS v2.1), (.agg [(vI v2.2.fCode), (vI v2.2.fIndex)])])) :: (.v (.agg [(.str a0.fName), (vP e67 a0.fCells)])) :: (.v (.str a1)) :: (.v (.tuple [(vP eS v2.1), (.agg [(vI v2.2.fCode), (vI v2.2.fIndex)])])) :: (dP eS v2.1) :: (.v (.agg [(vI v2.2.fCode), (vI v2.2.fIndex)])) :: (.v (.agg [(.str a0.fName), (vP e67 a0.fCells)])) :: (.v (.agg [(vI v3.fCode), (vI v3.fIndex)])) :: (.v (.agg [(vI v3.fCode), (vI v3.fIndex)])) :: (.v (.agg [(vI 0), (vI 0)])) :: (dB v9) :: (dB v9) :: d12 :: d13 :: d14 :: (dB v10) :: d15 :: (.v (.agg [(vI v16), (vI v17)])) :: (.v (.agg [(vI 0), (vI 0)])) :: (dB (!((v16 == 0) && ((v17 == 0) && true)))) :: (.v (.agg [(vI v2.2.fCode), (vI v2.2.fIndex)])) :: (.v (.agg [(vI v16), (vI v17)])) :: (dB ((((v2.2.fCode == v16) && ((v2.2.fIndex == v17) && true))))) :: (dB ((((v2.2.fCode == v16) && ((v2.2.fIndex == v17) && true))))) :: u14 []), [(.cells [(.v (.str a0.fName)), (dP e67 a0.fCells)]), (.cells [(dI v2.2.fCode), (dI v2.2.fIndex)]), (.cells [(dI v16), (dI v17)])]⟩ (by kernel_rfl) (G4g20 (((v2.2.fCode == v16) && ((v2.2.fIndex == v17) && true))) h)
        · refine Wp.skip (by kernel_rfl) ?_
          refine sqQ.n' ?_
          refine seqQ.n ?_
          refine Wp.seq' (by kernel_rfl) ?_
          refine Wp.region (by kernel_rfl) ?_
          refine Ops.seg' 4 4 (by kernel_rfl) ?_
          have J4j36 : ∀ (d29 d30 d31 d32 d33 : D) (v34 : Bool) (v35 : Bool), f4_r2 m v35 = some o → Ops (X4 n) (opl (cL (cR (cR (cR (cR (cR (cR C4)))))))) 10 ⟨(.v (.agg [(.str a0.fName), (vP e67 a0.fCells)])) :: (.v (.str a1)) :: (.ptr 0 0) :: u1 ((dB false) :: (dP eS v2.1) :: (.ptr 1 0) :: (.ptr 2 0) :: (dB v1) :: (dB (!v1)) :: (.v (.tuple [(vP eS v2.1), (.agg [(vI v2.2.fCode), (vI v2.2.fIndex)])])) :: (.v (.agg [(.str a0.fName), (vP e67 a0.fCells)])) :: (.v (.str a1)) :: (.v (.tuple [(vP eS v2.1), (.agg [(vI v2.2.fCode), (vI v2.2.fIndex)])])) :: (dP eS v2.1) :: (.v (.agg [(vI v2.2.fCode), (vI v2.2.fIndex)])) :: (.v (.agg [(.str a0.fName), (vP e67 a0.fCells)])) :: (.v (.agg [(vI v3.fCode), (vI v3.fIndex)])) :: (.v (.agg [(vI v3.fCode), (vI v3.fIndex)])) :: (.v (.agg [(vI 0), (vI 0)])) :: (dB v9) :: (dB v9) :: d12 :: d13 :: d14 :: (dB v10) :: d15 :: (.v (.agg [(vI v16), (vI v17)])) :: (.v (.agg [(vI 0), (vI 0)])) :: (dB (!((v16 == 0) && ((v17 == 0) && true)))) :: u8 ((.v (.agg [(vI v2.2.fCode), (vI v2.2.fIndex)])) :: (.v (.agg [(vI 0), (vI 0)])) :: (dB v34) :: (dB v34) :: d29 :: d30 :: d31 :: d32 :: d33 :: (dB v35) :: [])), [(.cells [(.v (.str a0.fName)), (dP e67 a0.fCells)]), (.cells [(dI v2.2.fCode), (dI v2.2.fIndex)]), (.cells [(dI v16), (dI v17)])]⟩ ((seqQ (X4 n) (cR (cR (cR (cR (cR (cR (cR C4))))))) (fnQ (X4 n).E.T (resOf Proofs.Tryd.prog 4) (eB o))) .normal) := by
            intro d29 d30 d31 d32 d33 v34 v35 h
            unfold f4_r2 at h
            refine Ops.seg' 1 11 (by kernel_rfl) ?_
            refine Ops.done (by kernel_rfl) ?_
            refine seqQ.n ?_
            refine Wp.ret (by kernel_rfl) ?_
            exact fnQ.r' (X4 n) (fun z => (eB z)) h (RetOk.mk' (dB v35) (by kernel_rfl) (by kernel_rfl))
          obtain ⟨v35, ev35, h⟩ := bnd_some h
          have G4g28 : ∀ v27 : Bool, (cnd v27 (bnd (f21 m a0 a1) fun v37 => bnd (f20 m v2.1 v37) fun v38 => some v38) (some false)) = some v35 → Ops (X4 n) (opl (cL (cR (cR (cR (cR (cR (cR C4)))))))) 4 ⟨(.v (.agg [(.str a0.fName), (vP e67 a0.fCells)])) :: (.v (.str a1)) :: (.ptr 0 0) :: u1 ((dB false) :: (dP eS v2.1) :: (.ptr 1 0) :: (.ptr 2 0) :: (dB v1) :: (dB (!v1)) :: (.v (.tuple [(vP eS v2.1), (.agg [(vI v2.2.fCode), (vI v2.2.fIndex)])])) :: (.v (.agg [(.str a0.fName), (vP e67 a0.fCells)])) :: (.v (.str a1)) :: (.v (.tuple [(vP eS v2.1), (.agg [(vI v2.2.fCode), (vI v2.2.fIndex)])])) :: (dP eS v2.1) :: (.v (.agg [(vI v2.2.fCode), (vI v2.2.fIndex)])) :: (.v (.agg [(.str a0.fName), (vP e67 a0.fCells)])) :: (.v (.agg [(vI v3.fCode), (vI v3.fIndex)])) :: (.v (.agg [(vI v3.fCode), (vI v3.fIndex)])) :: (.v (.agg [(vI 0), (vI 0)])) :: (dB v9) :: (dB v9) :: d12 :: d13 :: d14 :: (dB v10) :: d15 :: (.v (.agg [(vI v16), (vI v17)])) :: (.v (.agg [(vI 0), (vI 0)])) :: (dB (!((v16 == 0) && ((v17 == 0) && true)))) :: u8 ((.v (.agg [(vI v2.2.fCode), (vI v2.2.fIndex)])) :: (.v (.agg [(vI 0), (vI 0)])) :: (dB v27) :: (dB v27) :: u6 [])), [(.cells [(.v (.str a0.fName)), (dP e67 a0.fCells)]), (.cells [(dI v2.2.fCode), (dI v2.2.fIndex)]), (.cells [(dI v16), (dI v17)])]⟩ ((seqQ (X4 n) (cR (cR (cR (cR (cR (cR (cR C4))))))) (fnQ (X4 n).E.T (resOf Proofs.Tryd.prog 4) (eB o))) .normal) := by
            intro v27 ev35
            cases v27
            · have ev35 := cnd_f ev35
              refine Ops.seg' 6 10 (by kernel_rfl) ?_
              refine Ops.st ⟨(.v (.agg [(.str a0.fName), (vP e67 a0.fCells)])) :: (.v (.str a1)) :: (.ptr 0 0) :: u1 ((dB false) :: (dP eS v2.1) :: (.ptr 1 0) :: (.ptr 2 0) :: (dB v1) :: (dB (!v1)) :: (.v (.tuple [(vP eS v2.1), (.agg [(vI v2.2.fCode), (vI v2.2.fIndex)])])) :: (.v (.agg [(.str a0.fName), (vP e67 a0.fCells)])) :: (.v (.str a1)) :: (.v (.tuple [(vP eS v2.1), (.agg [(vI v2.2.fCode), (vI v2.2.fIndex)])])) :: (dP eS v2.1) :: (.v (.agg [(vI v2.2.fCode), (vI v2.2.fIndex)])) :: (.v (.agg [(.str a0.fName), (vP e67 a0.fCells)])) :: (.v (.agg [(vI v3.fCode), (vI v3.fIndex)])) :: (.v (.agg [(vI v3.fCode), (vI v3.fIndex)])) :: (.v (.agg [(vI 0), (vI 0)])) :: (dB v9) :: (dB v9) :: d12 :: d13 :: d14 :: (dB v10) :: d15 :: (.v (.agg [(vI v16), (vI v17)])) :: (.v (.agg [(vI 0), (vI 0)])) :: (dB (!((v16 == 0) && ((v17 == 0) && true)))) :: u8 ((.v (.agg [(vI v2.2.fCode), (vI v2.2.fIndex)])) :: (.v (.agg [(vI 0), (vI 0)])) :: (dB false) :: (dB false) :: u5 ((dB false) :: []))), [(.cells [(.v (.str a0.fName)), (dP e67 a0.fCells)]), (.cells [(dI v2.2.fCode), (dI v2.2.fIndex)]), (.cells [(dI v16), (dI v17)])]⟩ (by kernel_rfl) ?_
              exact J4j36 _ _ _ _ _ _ _ (some_sub (fun v35 => f4_r2 m v35 = some o) ev35 h)
            · have ev35 := cnd_t ev35
              refine Ops.seg' 3 7 (by kernel_rfl) ?_
              obtain ⟨v37, ev37, ev35⟩ := bnd_some ev35
              refine Ops.one' 8 (fun h0 e0 => (call_ok (E' := E) (h := h0) (by kernel_rfl) (Args.v (.agg [(.str a0.fName), (vP e67 a0.fCells)]) (e23 a0) (by kernel_rfl) (Args.v (.str a1) (eS a1) (by kernel_rfl) Args.nil)) (ok21 m a0 a1 v37 ev37 n (by omega)))) (by kernel_rfl) (by kernel_rfl) ?_
              obtain ⟨v38, ev38, ev35⟩ := bnd_some ev35
              refine Ops.one' 9 (fun h0 e0 => (call_ok (E' := E) (h := h0) (by kernel_rfl) (Args.v (vP eS v2.1) ((eL eS) v2.1) (by kernel_rfl) (Args.v (vP eS v37) ((eL eS) v37) (by kernel_rfl) Args.nil)) (ok20 m v2.1 v37 v38 ev38 n (by omega)))) (by kernel_rfl) (by kernel_rfl) ?_
              refine Ops.seg' 1 10 (by kernel_rfl) ?_
              refine Ops.st ⟨(.v (.agg [(.str a0.fName), (vP e67 a0.fCells)])) :: (.v (.str a1)) :: (.ptr 0 0) :: u1 ((dB false) :: (dP eS v2.1) :: (.ptr 1 0) :: (.ptr 2 0) :: (dB v1) :: (dB (!v1)) :: (.v (.tuple [(vP eS v2.1), (.agg [(vI v2.2.fCode), (vI v2.2.fIndex)])])) :: (.v (.agg [(.str a0.fName), (vP e67 a0.fCells)])) :: (.v (.str a1)) :: (.v (.tuple [(vP eS v2.1), (.agg [(vI v2.2.fCode), (vI v2.2.fIndex)])])) :: (dP eS v2.1) :: (.v (.agg [(vI v2.2.fCode), (vI v2.2.fIndex)])) :: (.v (.agg [(.str a0.fName), (vP e67 a0.fCells)])) :: (.v (.agg [(vI v3.fCode), (vI v3.fIndex)])) :: (.v (.agg [(vI v3.fCode), (vI v3.fIndex)])) :: (.v (.agg [(vI 0), (vI 0)])) :: (dB v9) :: (dB v9) :: d12 :: d13 :: d14 :: (dB v10) :: d15 :: (.v (.agg [(vI v16), (vI v17)])) :: (.v (.agg [(vI 0), (vI 0)])) :: (dB (!((v16 == 0) && ((v17 == 0) && true)))) :: u8 ((.v (.agg [(vI v2.2.fCode), (vI v2.2.fIndex)])) :: (.v (.agg [(vI 0), (vI 0)])) :: (dB true) :: (dB true) :: (dP eS v2.1) :: (.v (.agg [(.str a0.fName), (vP e67 a0.fCells)])) :: (.v (.str a1)) :: (dP eS v37) :: (dB v38) :: (dB v38) :: [])), [(.cells [(.v (.str a0.fName)), (dP e67 a0.fCells)]), (.cells [(dI v2.2.fCode), (dI v2.2.fIndex)]), (.cells [(dI v16), (dI v17)])]⟩ (by kernel_rfl) ?_
              exact J4j36 _ _ _ _ _ _ _ (some_sub (fun v35 => f4_r2 m v35 = some o) ev35 h)
          exact Ops.st ⟨(.v (.agg [(.str a0.fName), (vP e67 a0.fCells)])) :: (.v (.str a1)) :: (.ptr 0 0) :: u1 ((dB false) :: (dP eS v2.1) :: (.ptr 1 0) :: (.ptr 2 0) :: (dB v1) :: (dB (!v1)) :: (.v (.tuple [(vP eS v2.1), (.agg [(vI v2.2.fCode), (vI v2.2.fIndex)])])) :: (.v (.agg [(.str a0.fName), (vP e67 a0.fCells)])) :: (.v (.str a1)) :: (.v (.tuple [(vP eS v2.1), (.agg [(vI v2.2.fCode), (vI v2.2.fIndex)])])) :: (dP eS v2.1) :: (.v (.agg [(vI v2.2.fCode), (vI v2.2.fIndex)])) :: (.v (.agg [(.str a0.fName), (vP e67 a0.fCells)])) :: (.v (.agg [(vI v3.fCode), (vI v3.fIndex)])) :: (.v (.agg [(vI v3.fCode), (vI v3.fIndex)])) :: (.v (.agg [(vI 0), (vI 0)])) :: (dB v9) :: (dB v9) :: d12 :: d13 :: d14 :: (dB v10) :: d15 :: (.v (.agg [(vI v16), (vI v17)])) :: (.v (.agg [(vI 0), (vI 0)])) :: (dB (!((v16 == 0) && ((v17 == 0) && true)))) :: u8 ((.v (.agg [(vI v2.2.fCode), (vI v2.2.fIndex)])) :: (.v (.agg [(vI 0), (vI 0)])) :: (dB ((((v2.2.fCode == 0) && ((v2.2.fIndex == 0) && true))))) :: (dB ((((v2.2.fCode == 0) && ((v2.2.fIndex == 0) && true))))) :: u6 [])), [(.cells [(.v (.str a0.fName)), (dP e67 a0.fCells)]), (.cells [(dI v2.2.fCode), (dI v2.2.fIndex)]), (.cells [(dI v16), (dI v17)])]⟩ (by kernel_rfl) (G4g28 (((v2.2.fCode == 0) && ((v2.2.fIndex == 0) && true))) ev35)
      refine Wp.cnd h [1, 2, 4, 5, 6, 7] 3 (by kernel_rfl) (fun h => ?_) (fun h => ?_)
      · refine Wp.region (by kernel_rfl) ?_
        refine Ops.seg' 2 2 (by kernel_rfl) ?_
        refine Ops.done (by kernel_rfl) ?_
        refine sqQ.n ⟨(.v (.agg [(.str a0.fName), (vP e67 a0.fCells)])) :: (.v (.str a1)) :: (.ptr 0 0) :: u1 ((dB false) :: (dP eS v2.1) :: (.ptr 1 0) :: (.ptr 2 0) :: (dB v1) :: (dB (!v1)) :: (.v (.tuple [(vP eS v2.1), (.agg [(vI v2.2.fCode), (vI v2.2.fIndex)])])) :: (.v (.agg [(.str a0.fName), (vP e67 a0.fCells)])) :: (.v (.str a1)) :: (.v (.tuple [(vP eS v2.1), (.agg [(vI v2.2.fCode), (vI v2.2.fIndex)])])) :: (dP eS v2.1) :: (.v (.agg [(vI v2.2.fCode), (vI v2.2.fIndex)])) :: (.v (.agg [(.str a0.fName), (vP e67 a0.fCells)])) :: (.v (.agg [(vI v3.fCode), (vI v3.fIndex)])) :: (.v (.agg [(vI v3.fCode), (vI v3.fIndex)])) :: (.v (.agg [(vI 0), (vI 0)])) :: (dB v9) :: (dB v9) :: d6 :: d7 :: d8 :: (dB v10) :: (.v (.agg [(vI 5), (vI ((-2)))])) :: u21 []), [(.cells [(.v (.str a0.fName)), (dP e67 a0.fCells)]), (.cells [(dI v2.2.fCode), (dI v2.2.fIndex)]), (.cells [(dI 5), (dI ((-2)))])]⟩ (by kernel_rfl) ?_
        exact J4j18 5 ((-2)) _ _ _ _ h
      · refine Wp.skip (by kernel_rfl) ?_
        refine sqQ.n ⟨(.v (.agg [(.str a0.fName), (vP e67 a0.fCells)])) :: (.v (.str a1)) :: (.ptr 0 0) :: u1 ((dB false) :: (dP eS v2.1) :: (.ptr 1 0) :: (.ptr 2 0) :: (dB v1) :: (dB (!v1)) :: (.v (.tuple [(vP eS v2.1), (.agg [(vI v2.2.fCode), (vI v2.2.fIndex)])])) :: (.v (.agg [(.str a0.fName), (vP e67 a0.fCells)])) :: (.v (.str a1)) :: (.v (.tuple [(vP eS v2.1), (.agg [(vI v2.2.fCode), (vI v2.2.fIndex)])])) :: (dP eS v2.1) :: (.v (.agg [(vI v2.2.fCode), (vI v2.2.fIndex)])) :: (.v (.agg [(.str a0.fName), (vP e67 a0.fCells)])) :: (.v (.agg [(vI v3.fCode), (vI v3.fIndex)])) :: (.v (.agg [(vI v3.fCode), (vI v3.fIndex)])) :: (.v (.agg [(vI 0), (vI 0)])) :: (dB v9) :: (dB v9) :: d6 :: d7 :: d8 :: (dB v10) :: u22 []), [(.cells [(.v (.str a0.fName)), (dP e67 a0.fCells)]), (.cells [(dI v2.2.fCode), (dI v2.2.fIndex)]), (.cells [(dI v3.fCode), (dI v3.fIndex)])]⟩ (by kernel_rfl) ?_
        exact J4j18 v3.fCode v3.fIndex _ _ _ _ h
    obtain ⟨v10, ev10, h⟩ := bnd_some h
    have G4g5 : ∀ v4 : Bool, (cnd v4 (bnd (f16 m a1) fun v39 => some (!v39)) (some false)) = some v10 → Ops (X4 n) (opl (cL (cL (cR (cR (cR (cR C4))))))) 4 ⟨(.v (.agg [(.str a0.fName), (vP e67 a0.fCells)])) :: (.v (.str a1)) :: (.ptr 0 0) :: u1 ((dB false) :: (dP eS v2.1) :: (.ptr 1 0) :: (.ptr 2 0) :: (dB v1) :: (dB (!v1)) :: (.v (.tuple [(vP eS v2.1), (.agg [(vI v2.2.fCode), (vI v2.2.fIndex)])])) :: (.v (.agg [(.str a0.fName), (vP e67 a0.fCells)])) :: (.v (.str a1)) :: (.v (.tuple [(vP eS v2.1), (.agg [(vI v2.2.fCode), (vI v2.2.fIndex)])])) :: (dP eS v2.1) :: (.v (.agg [(vI v2.2.fCode), (vI v2.2.fIndex)])) :: (.v (.agg [(.str a0.fName), (vP e67 a0.fCells)])) :: (.v (.agg [(vI v3.fCode), (vI v3.fIndex)])) :: (.v (.agg [(vI v3.fCode), (vI v3.fIndex)])) :: (.v (.agg [(vI 0), (vI 0)])) :: (dB v4) :: (dB v4) :: u26 []), [(.cells [(.v (.str a0.fName)), (dP e67 a0.fCells)]), (.cells [(dI v2.2.fCode), (dI v2.2.fIndex)]), (.cells [(dI v3.fCode), (dI v3.fIndex)])]⟩ ((seqQ (X4 n) (cR (cL (cR (cR (cR (cR C4)))))) (seqQ (X4 n) (cR (cR (cR (cR (cR C4))))) (fnQ (X4 n).E.T (resOf Proofs.Tryd.prog 4) (eB o)))) .normal) := by
      intro v4 ev10
      cases v4
      · have ev10 := cnd_f ev10
        refine Ops.seg' 4 8 (by kernel_rfl) ?_
        refine Ops.st ⟨(.v (.agg [(.str a0.fName), (vP e67 a0.fCells)])) :: (.v (.str a1)) :: (.ptr 0 0) :: u1 ((dB false) :: (dP eS v2.1) :: (.ptr 1 0) :: (.ptr 2 0) :: (dB v1) :: (dB (!v1)) :: (.v (.tuple [(vP eS v2.1), (.agg [(vI v2.2.fCode), (vI v2.2.fIndex)])])) :: (.v (.agg [(.str a0.fName), (vP e67 a0.fCells)])) :: (.v (.str a1)) :: (.v (.tuple [(vP eS v2.1), (.agg [(vI v2.2.fCode), (vI v2.2.fIndex)])])) :: (dP eS v2.1) :: (.v (.agg [(vI v2.2.fCode), (vI v2.2.fIndex)])) :: (.v (.agg [(.str a0.fName), (vP e67 a0.fCells)])) :: (.v (.agg [(vI v3.fCode), (vI v3.fIndex)])) :: (.v (.agg [(vI v3.fCode), (vI v3.fIndex)])) :: (.v (.agg [(vI 0), (vI 0)])) :: (dB false) :: (dB false) :: u3 ((dB false) :: u22 [])), [(.cells [(.v (.str a0.fName)), (dP e67 a0.fCells)]), (.cells [(dI v2.2.fCode), (dI v2.2.fIndex)]), (.cells [(dI v3.fCode), (dI v3.fIndex)])]⟩ (by kernel_rfl) ?_
        exact J4j11 _ _ _ _ _ (some_sub (fun v10 => f4_r4 m a0 a1 v2 v3 v10 = some o) ev10 h)
      · have ev10 := cnd_t ev10
        refine Ops.seg' 1 5 (by kernel_rfl) ?_
        obtain ⟨v39, ev39, ev10⟩ := bnd_some ev10
        refine Ops.one' 6 (fun h0 e0 => (call_ok (E' := E) (h := h0) (by kernel_rfl) (Args.v (.str a1) (eS a1) (by kernel_rfl) Args.nil) (ok16 m a1 v39 ev39 n (by omega)))) (by kernel_rfl) (by kernel_rfl) ?_
        refine Ops.seg' 2 8 (by kernel_rfl) ?_
        refine Ops.st ⟨(.v (.agg [(.str a0.fName), (vP e67 a0.fCells)])) :: (.v (.str a1)) :: (.ptr 0 0) :: u1 ((dB false) :: (dP eS v2.1) :: (.ptr 1 0) :: (.ptr 2 0) :: (dB v1) :: (dB (!v1)) :: (.v (.tuple [(vP eS v2.1), (.agg [(vI v2.2.fCode), (vI v2.2.fIndex)])])) :: (.v (.agg [(.str a0.fName), (vP e67 a0.fCells)])) :: (.v (.str a1)) :: (.v (.tuple [(vP eS v2.1), (.agg [(vI v2.2.fCode), (vI v2.2.fIndex)])])) :: (dP eS v2.1) :: (.v (.agg [(vI v2.2.fCode), (vI v2.2.fIndex)])) :: (.v (.agg [(.str a0.fName), (vP e67 a0.fCells)])) :: (.v (.agg [(vI v3.fCode), (vI v3.fIndex)])) :: (.v (.agg [(vI v3.fCode), (vI v3.fIndex)])) :: (.v (.agg [(vI 0), (vI 0)])) :: (dB true) :: (dB true) :: (.v (.str a1)) :: (dB v39) :: (dB (!v39)) :: (dB (!v39)) :: u22 []), [(.cells [(.v (.str a0.fName)), (dP e67 a0.fCells)]), (.cells [(dI v2.2.fCode), (dI v2.2.fIndex)]), (.cells [(dI v3.fCode), (dI v3.fIndex)])]⟩ (by kernel_rfl) ?_
        exact J4j11 _ _ _ _ _ (some_sub (fun v10 => f4_r4 m a0 a1 v2 v3 v10 = some o) ev10 h)
    exact Ops.st ⟨(.v (.agg [(.str a0.fName), (vP e67 a0.fCells)])) :: (.v (.str a1)) :: (.ptr 0 0) :: u1 ((dB false) :: (dP eS v2.1) :: (.ptr 1 0) :: (.ptr 2 0) :: (dB v1) :: (dB (!v1)) :: (.v (.tuple [(vP eS v2.1), (.agg [(vI v2.2.fCode), (vI v2.2.fIndex)])])) :: (.v (.agg [(.str a0.fName), (vP e67 a0.fCells)])) :: (.v (.str a1)) :: (.v (.tuple [(vP eS v2.1), (.agg [(vI v2.2.fCode), (vI v2.2.fIndex)])])) :: (dP eS v2.1) :: (.v (.agg [(vI v2.2.fCode), (vI v2.2.fIndex)])) :: (.v (.agg [(.str a0.fName), (vP e67 a0.fCells)])) :: (.v (.agg [(vI v3.fCode), (vI v3.fIndex)])) :: (.v (.agg [(vI v3.fCode), (vI v3.fIndex)])) :: (.v (.agg [(vI 0), (vI 0)])) :: (dB ((((v3.fCode == 0) && ((v3.fIndex == 0) && true))))) :: (dB ((((v3.fCode == 0) && ((v3.fIndex == 0) && true))))) :: u26 []), [(.cells [(.v (.str a0.fName)), (dP e67 a0.fCells)]), (.cells [(dI v2.2.fCode), (dI v2.2.fIndex)]), (.cells [(dI v3.fCode), (dI v3.fIndex)])]⟩ (by kernel_rfl) (G4g5 (((v3.fCode == 0) && ((v3.fIndex == 0) && true))) ev10)

/-! ### 63 slices.Clone[[]string,string] -/
def f63 (m : Nat) (a0 : (List ByteArray)) : Option (List ByteArray) := app 16 [] a0
theorem ok63 (m : Nat) (a0 : (List ByteArray)) (o : (List ByteArray)) (h : f63 m a0 = some o) (n : Nat) (hn : m + 1 ≤ n) : Fn Proofs.Tryd.prog E n 63 [.v ((eL eS) a0)] ((eL eS) o) :=
  clone_fn (by kernel_rfl) (by kernel_rfl) (by kernel_rfl) (fun _ => rfl) h hn

/-! ### 34 glosswright/paradigm.table -/
def f34_j1 (m : Nat) (v20 : Int) (v30 : (List S41)) : Option (Stp ((List S41)) ((List S41) × Int)) :=
  some (.nxt (v30, w64 (v20 + 1)))
def f34_j2 (m : Nat) (v20 : Int) (v34 : (List S41)) : Option (Stp ((List S41)) ((List S41) × Int)) :=
  f34_j1 m v20 v34
def f34_B3 (m : Nat) (a0 : S23) (a1 : ByteArray) (v19 : (List S41)) (v20 : Int) : Option (Stp ((List S41)) ((List S41) × Int)) :=
  cnd (decide (v20 < (a0.fCells.length : Int)))
  (bnd (idx a0.fCells v20) fun v32 =>
  bnd (f62 m a1 v32.fCut v32.fAdd) fun v33 =>
  cnd v33.2
  (bnd (f63 m v32.fTags) fun v36 =>
  bnd (app 40 v19 ([(⟨v36, v33.1⟩ : S41)])) fun v37 =>
  f34_j2 m v20 v37)
  (f34_j2 m v20 v19))
  (some (.brk (v19, v20)))
def f34 (m : Nat) (a0 : S23) (a1 : ByteArray) : Option (List S41) :=
  brk (iter (fun (y : (List S41) × Int) => f34_B3 m a0 a1 y.1 y.2) m ([], 0)) some fun y39 =>
  some y39.1
noncomputable abbrev X34 (n : Nat) : Cx := cxOf Proofs.Tryd.prog E 34 n
noncomputable def C34 : Code := bodyOf Proofs.Tryd.prog 34
theorem ok34 (m : Nat) (a0 : S23) (a1 : ByteArray) (o : (List S41)) (h : f34 m a0 a1 = some o) (n : Nat) (hn : m + 5 ≤ n) : Fn Proofs.Tryd.prog E n 34 [.v (e23 a0), .v (eS a1)] ((eL e41) o) := by
  obtain ⟨n, rfl⟩ : ∃ q, n = q + 1 := ⟨n - 1, by omega⟩
  unfold f34 at h
  refine Fn.of (by kernel_rfl) (by kernel_rfl) (by kernel_rfl) ⟨(.v (.agg [(.str a0.fName), (vP e67 a0.fCells)])) :: (.v (.str a1)) :: u35 [], []⟩ (by kernel_rfl) ?_
  refine Wp.seq' (by kernel_rfl) ?_
  refine Wp.region (by kernel_rfl) ?_
  refine Ops.seg' 2 2 (by kernel_rfl) ?_
  refine Ops.done (by kernel_rfl) ?_
  refine seqQ.n ?_
  refine Wp.seq' (by kernel_rfl) ?_
  refine Wp.region (by kernel_rfl) ?_
  refine Ops.seg' 1 1 (by kernel_rfl) ?_
  refine Ops.done (by kernel_rfl) ?_
  refine seqQ.n ?_
  refine Wp.seq' (by kernel_rfl) ?_
  refine Wp.seq' (by kernel_rfl) ?_
  refine Wp.region (by kernel_rfl) ?_
  refine Ops.seg' 2 2 (by kernel_rfl) ?_
  refine Ops.one' 3 (fun h0 e0 => (len_r (T := T) h0 22 68 .plain e67 a0.fCells (by kernel_rfl))) (by kernel_rfl) (by kernel_rfl) ?_
  refine Ops.seg' 1 4 (by kernel_rfl) ?_
  refine Ops.done (by kernel_rfl) ?_
  refine seqQ.n ?_
  refine Wp.block' 0 [4, 5] 1 (by kernel_rfl) ?_
  have hLx38 : ∀ (kx22 : Nat) (v19 : (List S41)) (v20 : Int)  (ox21 : (List S41) ⊕ ((List S41) × Int)), iter (fun (y : (List S41) × Int) => f34_B3 m a0 a1 y.1 y.2) kx22 (v19, v20) = some ox21 → ∀ nx23, kx22 ≤ nx23 → (∀ r, ox21 = .inl r → ∀ σ, RetOk (X34 n) (resOf Proofs.Tryd.prog 34) ((eL e41) r) σ → (seqQ (X34 n) (cR (cR (cR C34))) (fnQ (X34 n).E.T (resOf Proofs.Tryd.prog 34) ((eL e41) o))) .ret σ) → (∀ (y : (List S41) × Int) , ox21 = .inr y → (seqQ (X34 n) (cR (cR (cR C34))) (fnQ (X34 n).E.T (resOf Proofs.Tryd.prog 34) ((eL e41) o))) .normal ⟨q4 ((.v (.sl .nil (List.map e41 []))) :: (appD 1 (List.map e41 y.1)) :: q31 []), [(.cells [(.v (.str a0.fName)), (dP e67 a0.fCells)]), (appO 2 (List.map e41 y.1))]⟩) → Lp (X34 n) [1, 4, 5, 11, 12, 13] 1 (cL (cL (cR (cL (cR (cR C34)))))) nx23 ⟨q1 ((.v (.str a1)) :: q2 ((.v (.sl .nil (List.map e41 []))) :: (appD 1 (List.map e41 v19)) :: q5 ((dP e67 a0.fCells) :: (dI ((a0.fCells.length : Int))) :: (dI v20) :: q23 []))), [(.cells [(.v (.str a0.fName)), (dP e67 a0.fCells)]), (appO 2 (List.map e41 v19))]⟩ (blkQ (X34 n) 0 [4, 5] 1 (seqQ (X34 n) (cR (cR (cR C34))) (fnQ (X34 n).E.T (resOf Proofs.Tryd.prog 34) ((eL e41) o)))) := by
    intro kx22
    induction kx22 with
    | zero => intro v19 v20  ox21 h; exact (iter_zero h).elim
    | succ kx22 ihx24 =>
      intro v19 v20  ox21 h nx23 hnx27 hrx25 hxx26
      obtain ⟨nx23, rfl⟩ : ∃ q, nx23 = q + 1 := ⟨nx23 - 1, by omega⟩
      obtain ⟨sx28, h, hsx29⟩ := iter_some h
      have h : f34_B3 m a0 a1 v19 v20 = some sx28 := h
      unfold f34_B3 at h
      refine Lp.succ ?_
      refine Wp.seq' (by kernel_rfl) ?_
      refine Wp.region (by kernel_rfl) ?_
      refine Ops.seg' 1 1 (by kernel_rfl) ?_
      refine Ops.done (by kernel_rfl) ?_
      refine seqQ.n ?_
      refine Wp.seq' (by kernel_rfl) ?_
      refine Wp.cnd h [1, 4, 5, 11, 12, 13] 2 (by kernel_rfl) (fun h => ?_) (fun h => ?_)
      · refine Wp.skip (by kernel_rfl) ?_
        refine sqQ.n ⟨q1 ((.v (.str a1)) :: q2 ((.v (.sl .nil (List.map e41 []))) :: (appD 2 (List.map e41 v19)) :: q5 ((dP e67 a0.fCells) :: (dI ((a0.fCells.length : Int))) :: (dI v20) :: q23 []))), [(.cells [(.v (.str a0.fName)), (dP e67 a0.fCells)]), .dead, (appO 2 (List.map e41 v19))]⟩ (by generalize v19 = z0; cases z0 <;> kernel_rfl) ?_
        refine seqQ.n ?_
        refine Wp.seq' (by kernel_rfl) ?_
        have J34j31 : ∀ (v30 : (List S41)) , f34_j1 m v20 v30 = some sx28 → (seqQ (X34 n) (cR (cR (cR (cL (cL (cR (cL (cR (cR C34))))))))) (lpQ (X34 n) [1, 4, 5, 11, 12, 13] 1 (cL (cL (cR (cL (cR (cR C34)))))) nx23 (blkQ (X34 n) 0 [4, 5] 1 (seqQ (X34 n) (cR (cR (cR C34))) (fnQ (X34 n).E.T (resOf Proofs.Tryd.prog 34) ((eL e41) o)))))) .normal ⟨q1 ((.v (.str a1)) :: q2 ((.v (.sl .nil (List.map e41 []))) :: (appD 3 (List.map e41 v30)) :: q5 ((dP e67 a0.fCells) :: (dI ((a0.fCells.length : Int))) :: (dI v20) :: q23 []))), [(.cells [(.v (.str a0.fName)), (dP e67 a0.fCells)]), .dead, .dead, (appO 2 (List.map e41 v30))]⟩ := by
          intro v30  h
          unfold f34_j1 at h
          refine seqQ.n ?_
          refine Wp.region (by kernel_rfl) ?_
          refine Ops.seg' 2 2 (by kernel_rfl) ?_
          refine Ops.done (by kernel_rfl) ?_
          refine lpQ.n ⟨q1 ((.v (.str a1)) :: q2 ((.v (.sl .nil (List.map e41 []))) :: (appD 1 (List.map e41 v30)) :: q5 ((dP e67 a0.fCells) :: (dI ((a0.fCells.length : Int))) :: (dI (w64 (v20 + 1))) :: q23 []))), [(.cells [(.v (.str a0.fName)), (dP e67 a0.fCells)]), (appO 2 (List.map e41 v30))]⟩ (by generalize v30 = z0; cases z0 <;> kernel_rfl) ?_
          cases h
          exact ihx24 v30 (w64 (v20 + 1))  _ hsx29 _ (by omega) hrx25 hxx26
        refine Wp.block' 1 [1, 4, 5, 11, 12, 13] 3 (by kernel_rfl) ?_
        refine Wp.seq' (by kernel_rfl) ?_
        refine Wp.region (by kernel_rfl) ?_
        obtain ⟨v32, ev32, h⟩ := bnd_some h
        refine Ops.one' 1 (fun h0 e0 => (ix_r (T := T) h0 22 68 3 .plain e67 a0.fCells v20 v32 ev32 (by kernel_rfl) (by kernel_rfl) (fun _ => rfl))) (by kernel_rfl) (by kernel_rfl) ?_
        refine Ops.seg' 3 4 (by kernel_rfl) ?_
        refine Ops.done (by kernel_rfl) ?_
        refine seqQ.n ?_
        refine Wp.seq' (by kernel_rfl) ?_
        refine Wp.region (by kernel_rfl) ?_
        refine Ops.seg' 5 5 (by kernel_rfl) ?_
        obtain ⟨v33, ev33, h⟩ := bnd_some h
        refine Ops.one' 6 (fun h0 e0 => (call_ok (E' := E) (h := h0) (by kernel_rfl) (Args.v (.str a1) (eS a1) (by kernel_rfl) (Args.v (.str v32.fCut) (eS v32.fCut) (by kernel_rfl) (Args.v (.str v32.fAdd) (eS v32.fAdd) (by kernel_rfl) Args.nil))) (ok62 m a1 v32.fCut v32.fAdd v33 ev33 n (by omega)))) (by kernel_rfl) (by kernel_rfl) ?_
        refine Ops.seg' 5 11 (by kernel_rfl) ?_
        refine Ops.done (by kernel_rfl) ?_
        refine seqQ.n ?_
        refine Wp.seq' (by kernel_rfl) ?_
        refine Wp.region (by kernel_rfl) ?_
        refine Ops.seg' 1 1 (by kernel_rfl) ?_
        refine Ops.done (by kernel_rfl) ?_
        refine seqQ.n ?_
        have J34j35 : ∀ (v34 : (List S41)) , f34_j2 m v20 v34 = some sx28 → (blkQ (X34 n) 1 [1, 4, 5, 11, 12, 13] 3 (seqQ (X34 n) (cR (cR (cR (cL (cL (cR (cL (cR (cR C34))))))))) (lpQ (X34 n) [1, 4, 5, 11, 12, 13] 1 (cL (cL (cR (cL (cR (cR C34)))))) nx23 (blkQ (X34 n) 0 [4, 5] 1 (seqQ (X34 n) (cR (cR (cR C34))) (fnQ (X34 n).E.T (resOf Proofs.Tryd.prog 34) ((eL e41) o))))))) .normal ⟨q1 ((.v (.str a1)) :: q2 ((.v (.sl .nil (List.map e41 []))) :: (appD 4 (List.map e41 v34)) :: q5 ((dP e67 a0.fCells) :: (dI ((a0.fCells.length : Int))) :: (dI v20) :: q23 []))), [(.cells [(.v (.str a0.fName)), (dP e67 a0.fCells)]), .dead, .dead, (.cells [(dP eS v32.fTags), (.v (.str v32.fCut)), (.v (.str v32.fAdd))]), (appO 2 (List.map e41 v34))]⟩ := by
          intro v34  h
          unfold f34_j2 at h
          refine blkQ.n ⟨q1 ((.v (.str a1)) :: q2 ((.v (.sl .nil (List.map e41 []))) :: (appD 3 (List.map e41 v34)) :: q5 ((dP e67 a0.fCells) :: (dI ((a0.fCells.length : Int))) :: (dI v20) :: q23 []))), [(.cells [(.v (.str a0.fName)), (dP e67 a0.fCells)]), .dead, .dead, (appO 2 (List.map e41 v34))]⟩ (by generalize v34 = z0; cases z0 <;> kernel_rfl) ?_
          exact J34j31 v34  h
        refine Wp.cnd h [1, 4, 5, 11, 12, 13] 4 (by kernel_rfl) (fun h => ?_) (fun h => ?_)
        · refine Wp.region (by kernel_rfl) ?_
          refine Ops.seg' 3 3 (by kernel_rfl) ?_
          obtain ⟨v36, ev36, h⟩ := bnd_some h
          refine Ops.one' 4 (fun h0 e0 => (call_ok (E' := E) (h := h0) (by kernel_rfl) (Args.v (vP eS v32.fTags) ((eL eS) v32.fTags) (by kernel_rfl) Args.nil) (ok63 m v32.fTags v36 ev36 n (by omega)))) (by kernel_rfl) (by kernel_rfl) ?_
          refine Ops.seg' 3 7 (by kernel_rfl) ?_
          obtain ⟨v37, ev37, h⟩ := bnd_some h
          refine Ops.one' 8 (fun h0 e0 => (app_r (T := T) (g := .nil) h0 26 42 2 2 ti42 .nonfull e41 v19 ([(⟨v36, v33.1⟩ : S41)]) v37 ev37 (by kernel_rfl) (by kernel_rfl) (by kernel_rfl) (by kernel_rfl) (fun _ => rfl) (hq_of e0 (by kernel_rfl)))) (by kernel_rfl) (by kernel_rfl) ?_
          refine Ops.seg' 1 9 (by kernel_rfl) ?_
          refine Ops.done (by kernel_rfl) ?_
          refine sqQ.n ⟨q1 ((.v (.str a1)) :: q2 ((.v (.sl .nil (List.map e41 []))) :: (appD 4 (List.map e41 v37)) :: q5 ((dP e67 a0.fCells) :: (dI ((a0.fCells.length : Int))) :: (dI v20) :: q23 []))), [(.cells [(.v (.str a0.fName)), (dP e67 a0.fCells)]), .dead, .dead, (.cells [(dP eS v32.fTags), (.v (.str v32.fCut)), (.v (.str v32.fAdd))]), (appO 2 (List.map e41 v37))]⟩ (by generalize v37 = z0; cases z0 <;> kernel_rfl) ?_
          exact J34j35 v37  h
        · refine Wp.skip (by kernel_rfl) ?_
          refine sqQ.n ⟨q1 ((.v (.str a1)) :: q2 ((.v (.sl .nil (List.map e41 []))) :: (appD 4 (List.map e41 v19)) :: q5 ((dP e67 a0.fCells) :: (dI ((a0.fCells.length : Int))) :: (dI v20) :: q23 []))), [(.cells [(.v (.str a0.fName)), (dP e67 a0.fCells)]), .dead, .dead, (.cells [(dP eS v32.fTags), (.v (.str v32.fCut)), (.v (.str v32.fAdd))]), (appO 2 (List.map e41 v19))]⟩ (by generalize v19 = z0; cases z0 <;> kernel_rfl) ?_
          exact J34j35 v19  h
      · refine Wp.exit (id := 0) (by kernel_rfl) ?_
        refine sqQ.x ?_
        refine seqQ.x ?_
        cases h
        refine lpQ.x ?_
        refine blkQ.x ⟨q4 ((.v (.sl .nil (List.map e41 []))) :: (appD 1 (List.map e41 v19)) :: q31 []), [(.cells [(.v (.str a0.fName)), (dP e67 a0.fCells)]), (appO 2 (List.map e41 v19))]⟩ (by generalize v19 = z0; cases z0 <;> kernel_rfl) ?_
        exact hxx26 (v19, v20)  hsx29
  refine Wp.loop' [1, 4, 5, 11, 12, 13] 1 (by kernel_rfl) ⟨q1 ((.v (.str a1)) :: q2 ((.v (.sl .nil (List.map e41 []))) :: (appD 1 (List.map e41 [])) :: q5 ((dP e67 a0.fCells) :: (dI ((a0.fCells.length : Int))) :: (dI 0) :: q23 []))), [(.cells [(.v (.str a0.fName)), (dP e67 a0.fCells)]), .dead]⟩ (by kernel_rfl) ?_
  rcases brk_some h with ⟨r40, er40, h⟩ | ⟨y39, ey39, h⟩
  · refine hLx38 _ [] 0  _ er40 n (by omega) (fun r er σ hσ => ?_) (fun y  ey => by cases ey)
    cases er
    refine seqQ.r ?_
    exact fnQ.r' (X34 n) (fun z => ((eL e41) z)) h hσ
  · refine hLx38 _ [] 0  _ ey39 n (by omega) (fun r er => by cases er) (fun y  ey => ?_)
    cases ey
    refine seqQ.n ?_
    refine Wp.seq' (by kernel_rfl) ?_
    refine Wp.region (by kernel_rfl) ?_
    refine Ops.seg' 2 2 (by kernel_rfl) ?_
    refine Ops.done (by kernel_rfl) ?_
    refine seqQ.n ?_
    refine Wp.ret (by kernel_rfl) ?_
    exact fnQ.r' (X34 n) (fun z => ((eL e41) z)) h (RetOk.mk' (appD 1 (List.map e41 y39.1)) (by kernel_rfl) (appD_frz _ _ _ _))

/-! ### 13 glosswright/paradigm.Table -/
def f13 (m : Nat) (a0 : S23) (a1 : ByteArray) : Option ((List S41) × S27) :=
  bnd (f15 m a0) fun v1 =>
  cnd (!((v1.fCode == 0) && ((v1.fIndex == 0) && true)))
  (some (([], v1)))
  (bnd (f32 m a1) fun v2 =>
  cnd (!v2)
  (bnd (f33 m 5 ((-2))) fun v3 =>
  some (([], v3)))
  (bnd (f34 m a0 a1) fun v4 =>
  some ((v4, (⟨0, 0⟩ : S27)))))
noncomputable abbrev X13 (n : Nat) : Cx := cxOf Proofs.Tryd.prog E 13 n
noncomputable def C13 : Code := bodyOf Proofs.Tryd.prog 13
theorem ok13 (m : Nat) (a0 : S23) (a1 : ByteArray) (o : ((List S41) × S27)) (h : f13 m a0 a1 = some o) (n : Nat) (hn : m + 6 ≤ n) : Fn Proofs.Tryd.prog E n 13 [.v (e23 a0), .v (eS a1)] (.tuple [(eL e41) o.1, e27 o.2]) := by
  obtain ⟨n, rfl⟩ : ∃ q, n = q + 1 := ⟨n - 1, by omega⟩
  unfold f13 at h
  refine Fn.of (by kernel_rfl) (by kernel_rfl) (by kernel_rfl) ⟨(.v (.agg [(.str a0.fName), (vP e67 a0.fCells)])) :: (.v (.str a1)) :: u19 [], []⟩ (by kernel_rfl) ?_
  refine Wp.seq' (by kernel_rfl) ?_
  refine Wp.region (by kernel_rfl) ?_
  refine Ops.seg' 3 3 (by kernel_rfl) ?_
  refine Ops.done (by kernel_rfl) ?_
  refine seqQ.n ?_
  refine Wp.seq' (by kernel_rfl) ?_
  refine Wp.seq' (by kernel_rfl) ?_
  refine Wp.region (by kernel_rfl) ?_
  refine Ops.seg' 1 1 (by kernel_rfl) ?_
  obtain ⟨v1, ev1, h⟩ := bnd_some h
  refine Ops.one' 2 (fun h0 e0 => (call_ok (E' := E) (h := h0) (by kernel_rfl) (Args.v (.agg [(.str a0.fName), (vP e67 a0.fCells)]) (e23 a0) (by kernel_rfl) Args.nil) (ok15 m a0 v1 ev1 n (by omega)))) (by kernel_rfl) (by kernel_rfl) ?_
  refine Ops.seg' 2 4 (by kernel_rfl) ?_
  refine Ops.done (by kernel_rfl) ?_
  refine seqQ.n ?_
  refine Wp.seq' (by kernel_rfl) ?_
  refine Wp.region (by kernel_rfl) ?_
  refine Ops.seg' 3 3 (by kernel_rfl) ?_
  refine Ops.done (by kernel_rfl) ?_
  refine seqQ.n ?_
  refine Wp.cnd h [1, 2, 4, 5] 3 (by kernel_rfl) (fun h => ?_) (fun h => ?_)
  · refine Wp.seq' (by kernel_rfl) ?_
    refine Wp.region (by kernel_rfl) ?_
    refine Ops.seg' 3 3 (by kernel_rfl) ?_
    refine Ops.done (by kernel_rfl) ?_
    refine seqQ.n ?_
    refine Wp.ret (by kernel_rfl) ?_
    refine sqQ.r ?_
    refine seqQ.r ?_
    exact fnQ.r' (X13 n) (fun z => (.tuple [(eL e41) z.1, e27 z.2])) h (RetOk.mk' (.v (.tuple [(.sl .nil (List.map e41 [])), (.agg [(vI v1.fCode), (vI v1.fIndex)])])) (by kernel_rfl) (by kernel_rfl))
  · refine Wp.skip (by kernel_rfl) ?_
    refine sqQ.n' ?_
    refine seqQ.n ?_
    refine Wp.seq' (by kernel_rfl) ?_
    refine Wp.seq' (by kernel_rfl) ?_
    refine Wp.region (by kernel_rfl) ?_
    refine Ops.seg' 1 1 (by kernel_rfl) ?_
    obtain ⟨v2, ev2, h⟩ := bnd_some h
    refine Ops.one' 2 (fun h0 e0 => (call_ok (E' := E) (h := h0) (by kernel_rfl) (Args.v (.str a1) (eS a1) (by kernel_rfl) Args.nil) (ok32 m a1 v2 ev2 n (by omega)))) (by kernel_rfl) (by kernel_rfl) ?_
    refine Ops.seg' 1 3 (by kernel_rfl) ?_
    refine Ops.done (by kernel_rfl) ?_
    refine seqQ.n ?_
    refine Wp.cnd h [1, 2, 4, 5] 3 (by kernel_rfl) (fun h => ?_) (fun h => ?_)
    · refine Wp.seq' (by kernel_rfl) ?_
      refine Wp.region (by kernel_rfl) ?_
      obtain ⟨v3, ev3, h⟩ := bnd_some h
      refine Ops.one' 1 (fun h0 e0 => (call_ok (E' := E) (h := h0) (by kernel_rfl) (Args.v (vI 5) (eI 5) (by kernel_rfl) (Args.v (vI ((-2))) (eI ((-2))) (by kernel_rfl) Args.nil)) (ok33 m 5 ((-2)) v3 ev3 n (by omega)))) (by kernel_rfl) (by kernel_rfl) ?_
      refine Ops.seg' 2 3 (by kernel_rfl) ?_
      refine Ops.done (by kernel_rfl) ?_
      refine seqQ.n ?_
      refine Wp.ret (by kernel_rfl) ?_
      refine sqQ.r ?_
      refine seqQ.r ?_
      exact fnQ.r' (X13 n) (fun z => (.tuple [(eL e41) z.1, e27 z.2])) h (RetOk.mk' (.v (.tuple [(.sl .nil (List.map e41 [])), (.agg [(vI v3.fCode), (vI v3.fIndex)])])) (by kernel_rfl) (by kernel_rfl))
    · refine Wp.skip (by kernel_rfl) ?_
      refine sqQ.n' ?_
      refine seqQ.n ?_
      refine Wp.seq' (by kernel_rfl) ?_
      refine Wp.region (by kernel_rfl) ?_
      refine Ops.seg' 2 2 (by kernel_rfl) ?_
      obtain ⟨v4, ev4, h⟩ := bnd_some h
      refine Ops.one' 3 (fun h0 e0 => (call_ok (E' := E) (h := h0) (by kernel_rfl) (Args.v (.agg [(.str a0.fName), (vP e67 a0.fCells)]) (e23 a0) (by kernel_rfl) (Args.v (.str a1) (eS a1) (by kernel_rfl) Args.nil)) (ok34 m a0 a1 v4 ev4 n (by omega)))) (by kernel_rfl) (by kernel_rfl) ?_
      refine Ops.seg' 3 6 (by kernel_rfl) ?_
      refine Ops.done (by kernel_rfl) ?_
      refine seqQ.n ?_
      refine Wp.ret (by kernel_rfl) ?_
      exact fnQ.r' (X13 n) (fun z => (.tuple [(eL e41) z.1, e27 z.2])) h (RetOk.mk' (.v (.tuple [(vP e41 v4), (.agg [(vI 0), (vI 0)])])) (by kernel_rfl) (by kernel_rfl))

/-! ### 5 glosswright/glosswrightlaw6.ParadigmTablesHaveBases -/
def f5_r1 (m : Nat) (v117 : Int) (v134 : Bool) : Option (Stp Bool (Bool × Int)) :=
  some (.nxt (v134, w64 (v117 + 1)))
def f5_B2 (m : Nat) (a1 : ByteArray) (v103 : ((List ByteArray) × S27)) (v116 : Bool) (v117 : Int) : Option (Stp Bool (Bool × Int)) :=
  cnd (decide (v117 < (v103.1.length : Int)))
  (bnd (idx v103.1 v117) fun v127 =>
  f5_r1 m v117 ((v116 || ((v127.toList == a1.toList)))))
  (some (.brk (v116, v117)))
def f5_r3 (m : Nat) (v92 : Int) (v144 : Bool) : Option (Stp Bool (Int)) :=
  cnd v144
  (some (.ret false))
  (some (.nxt (w64 (v92 + 1))))
def f5_B4 (m : Nat) (a0 : S23) (a1 : ByteArray) (v2 : ((List S41) × S27)) (v92 : Int) : Option (Stp Bool (Int)) :=
  cnd (decide (v92 < (v2.1.length : Int)))
  (bnd (idx v2.1 v92) fun v102 =>
  bnd (f19 m a0 v102.fForm) fun v103 =>
  brk (iter (fun (y : Bool × Int) => f5_B2 m a1 v103 y.1 y.2) m (false, 0)) (fun r => some (.ret r)) fun y137 =>
  f5_r3 m v92 (((!((v103.2.fCode == 0) && ((v103.2.fIndex == 0) && true))) || (!y137.1))))
  (some (.brk v92))
def f5 (m : Nat) (a0 : S23) (a1 : ByteArray) : Option Bool :=
  bnd (f12 m ) fun v1 =>
  cnd (!v1)
  (some false)
  (bnd (f13 m a0 a1) fun v2 =>
  cnd (!((v2.2.fCode == 0) && ((v2.2.fIndex == 0) && true)))
  (some true)
  (brk (iter (fun (y : Int) => f5_B4 m a0 a1 v2 y) m 0) some fun y147 =>
  some true))
noncomputable abbrev X5 (n : Nat) : Cx := cxOf Proofs.Tryd.prog E 5 n
noncomputable def C5 : Code := bodyOf Proofs.Tryd.prog 5
theorem ok5 (m : Nat) (a0 : S23) (a1 : ByteArray) (o : Bool) (h : f5 m a0 a1 = some o) (n : Nat) (hn : m + 7 ≤ n) : Fn Proofs.Tryd.prog E n 5 [.v (e23 a0), .v (eS a1)] (eB o) := by
  obtain ⟨n, rfl⟩ : ∃ q, n = q + 1 := ⟨n - 1, by omega⟩
  unfold f5 at h
  refine Fn.of (by kernel_rfl) (by kernel_rfl) (by kernel_rfl) ⟨(.v (.agg [(.str a0.fName), (vP e67 a0.fCells)])) :: (.v (.str a1)) :: u40 (u17 []), []⟩ (by kernel_rfl) ?_
  refine Wp.seq' (by kernel_rfl) ?_
  refine Wp.region (by kernel_rfl) ?_
  refine Ops.seg' 2 2 (by kernel_rfl) ?_
  refine Ops.done (by kernel_rfl) ?_
  refine seqQ.n ?_
  refine Wp.seq' (by kernel_rfl) ?_
  refine Wp.seq' (by kernel_rfl) ?_
  refine Wp.region (by kernel_rfl) ?_
  obtain ⟨v1, ev1, h⟩ := bnd_some h
  refine Ops.one' 1 (fun h0 e0 => (call_ok (E' := E) (h := h0) (by kernel_rfl) Args.nil (ok12 m  v1 ev1 n (by omega)))) (by kernel_rfl) (by kernel_rfl) ?_
  refine Ops.seg' 1 2 (by kernel_rfl) ?_
  refine Ops.done (by kernel_rfl) ?_
  refine seqQ.n ?_
  refine Wp.cnd h [1, 2, 4] 1 (by kernel_rfl) (fun h => ?_) (fun h => ?_)
  · refine Wp.seq' (by kernel_rfl) ?_
    refine Wp.region (by kernel_rfl) ?_
    refine Ops.seg' 1 1 (by kernel_rfl) ?_
    refine Ops.done (by kernel_rfl) ?_
    refine seqQ.n ?_
    refine Wp.ret (by kernel_rfl) ?_
    refine sqQ.r ?_
    refine seqQ.r ?_
    exact fnQ.r' (X5 n) (fun z => (eB z)) h (RetOk.mk' (dB false) (by kernel_rfl) (by kernel_rfl))
  · refine Wp.skip (by kernel_rfl) ?_
    refine sqQ.n' ?_
    refine seqQ.n ?_
    refine Wp.seq' (by kernel_rfl) ?_
    refine Wp.region (by kernel_rfl) ?_
    refine Ops.seg' 2 2 (by kernel_rfl) ?_
    obtain ⟨v2, ev2, h⟩ := bnd_some h
    refine Ops.one' 3 (fun h0 e0 => (call_ok (E' := E) (h := h0) (by kernel_rfl) (Args.v (.agg [(.str a0.fName), (vP e67 a0.fCells)]) (e23 a0) (by kernel_rfl) (Args.v (.str a1) (eS a1) (by kernel_rfl) Args.nil)) (ok13 m a0 a1 v2 ev2 n (by omega)))) (by kernel_rfl) (by kernel_rfl) ?_
    refine Ops.seg' 6 9 (by kernel_rfl) ?_
    refine Ops.done (by kernel_rfl) ?_
    refine seqQ.n ?_
    refine Wp.seq' (by kernel_rfl) ?_
    refine Wp.seq' (by kernel_rfl) ?_
    refine Wp.region (by kernel_rfl) ?_
    refine Ops.seg' 3 3 (by kernel_rfl) ?_
    refine Ops.done (by kernel_rfl) ?_
    refine seqQ.n ?_
    refine Wp.cnd h [1, 2, 4, 5] 2 (by kernel_rfl) (fun h => ?_) (fun h => ?_)
    · refine Wp.seq' (by kernel_rfl) ?_
      refine Wp.region (by kernel_rfl) ?_
      refine Ops.seg' 1 1 (by kernel_rfl) ?_
      refine Ops.done (by kernel_rfl) ?_
      refine seqQ.n ?_
      refine Wp.ret (by kernel_rfl) ?_
      refine sqQ.r ?_
      refine seqQ.r ?_
      exact fnQ.r' (X5 n) (fun z => (eB z)) h (RetOk.mk' (dB true) (by kernel_rfl) (by kernel_rfl))
    · refine Wp.skip (by kernel_rfl) ?_
      refine sqQ.n' ?_
      refine seqQ.n ?_
      refine Wp.seq' (by kernel_rfl) ?_
      refine Wp.seq' (by kernel_rfl) ?_
      refine Wp.region (by kernel_rfl) ?_
      refine Ops.seg' 1 1 (by kernel_rfl) ?_
      refine Ops.one' 2 (fun h0 e0 => (len_r (T := T) h0 26 42 .plain e41 v2.1 (by kernel_rfl))) (by kernel_rfl) (by kernel_rfl) ?_
      refine Ops.seg' 1 3 (by kernel_rfl) ?_
      refine Ops.done (by kernel_rfl) ?_
      refine seqQ.n ?_
      refine Wp.block' 0 [4] 2 (by kernel_rfl) ?_
      have hLx146 : ∀ (kx94 : Nat) (v92 : Int)  (ox93 : Bool ⊕ (Int)), iter (fun (y : Int) => f5_B4 m a0 a1 v2 y) kx94 v92 = some ox93 → ∀ nx95, kx94 ≤ nx95 → (∀ r, ox93 = .inl r → ∀ σ, RetOk (X5 n) (resOf Proofs.Tryd.prog 5) (eB r) σ → (seqQ (X5 n) (cR (cR (cR (cR (cR C5))))) (fnQ (X5 n).E.T (resOf Proofs.Tryd.prog 5) (eB o))) .ret σ) → (∀ (y : Int) , ox93 = .inr y → (seqQ (X5 n) (cR (cR (cR (cR (cR C5))))) (fnQ (X5 n).E.T (resOf Proofs.Tryd.prog 5) (eB o))) .normal ⟨q1 ((.v (.str a1)) :: (.ptr 0 0) :: q1 ((dB false) :: q20 ((dP e41 v2.1) :: (dI ((v2.1.length : Int))) :: (dI y) :: q31 []))), [(.cells [(.v (.str a0.fName)), (dP e67 a0.fCells)]), (.cells [(dI v2.2.fCode), (dI v2.2.fIndex)])]⟩) → Lp (X5 n) [1, 2, 4, 25, 26, 27] 2 (cL (cL (cR (cL (cR (cR (cR (cR C5)))))))) nx95 ⟨q1 ((.v (.str a1)) :: (.ptr 0 0) :: q1 ((dB false) :: q20 ((dP e41 v2.1) :: (dI ((v2.1.length : Int))) :: (dI v92) :: q31 []))), [(.cells [(.v (.str a0.fName)), (dP e67 a0.fCells)]), (.cells [(dI v2.2.fCode), (dI v2.2.fIndex)])]⟩ (blkQ (X5 n) 0 [4] 2 (seqQ (X5 n) (cR (cR (cR (cR (cR C5))))) (fnQ (X5 n).E.T (resOf Proofs.Tryd.prog 5) (eB o)))) := by
        intro kx94
        induction kx94 with
        | zero => intro v92  ox93 h; exact (iter_zero h).elim
        | succ kx94 ihx96 =>
          intro v92  ox93 h nx95 hnx99 hrx97 hxx98
          obtain ⟨nx95, rfl⟩ : ∃ q, nx95 = q + 1 := ⟨nx95 - 1, by omega⟩
          obtain ⟨sx100, h, hsx101⟩ := iter_some h
          have h : f5_B4 m a0 a1 v2 v92 = some sx100 := h
          unfold f5_B4 at h
          refine Lp.succ ?_
          refine Wp.seq' (by kernel_rfl) ?_
          refine Wp.region (by kernel_rfl) ?_
          refine Ops.seg' 1 1 (by kernel_rfl) ?_
          refine Ops.done (by kernel_rfl) ?_
          refine seqQ.n ?_
          refine Wp.seq' (by kernel_rfl) ?_
          refine Wp.cnd h [1, 2, 4, 25, 26, 27] 2 (by kernel_rfl) (fun h => ?_) (fun h => ?_)
          · refine Wp.skip (by kernel_rfl) ?_
            refine sqQ.n' ?_
            refine seqQ.n ?_
            refine Wp.seq' (by kernel_rfl) ?_
            refine Wp.block' 1 [1, 2, 4, 25, 26, 27] 2 (by kernel_rfl) ?_
            refine Wp.seq' (by kernel_rfl) ?_
            refine Wp.region (by kernel_rfl) ?_
            obtain ⟨v102, ev102, h⟩ := bnd_some h
            refine Ops.one' 1 (fun h0 e0 => (ix_r (T := T) h0 26 42 2 .plain e41 v2.1 v92 v102 ev102 (by kernel_rfl) (by kernel_rfl) (fun _ => rfl))) (by kernel_rfl) (by kernel_rfl) ?_
            refine Ops.seg' 3 4 (by kernel_rfl) ?_
            refine Ops.done (by kernel_rfl) ?_
            refine seqQ.n ?_
            refine Wp.seq' (by kernel_rfl) ?_
            refine Wp.region (by kernel_rfl) ?_
            refine Ops.seg' 3 3 (by kernel_rfl) ?_
            obtain ⟨v103, ev103, h⟩ := bnd_some h
            refine Ops.one' 4 (fun h0 e0 => (call_ok (E' := E) (h := h0) (by kernel_rfl) (Args.v (.agg [(.str a0.fName), (vP e67 a0.fCells)]) (e23 a0) (by kernel_rfl) (Args.v (.str v102.fForm) (eS v102.fForm) (by kernel_rfl) Args.nil)) (ok19 m a0 v102.fForm v103 ev103 n (by omega)))) (by kernel_rfl) (by kernel_rfl) ?_
            refine Ops.seg' 6 10 (by kernel_rfl) ?_
            refine Ops.done (by kernel_rfl) ?_
            refine seqQ.n ?_
            refine Wp.seq' (by kernel_rfl) ?_
            refine Wp.region (by kernel_rfl) ?_
            refine Ops.seg' 1 1 (by kernel_rfl) ?_
            refine Ops.done (by kernel_rfl) ?_
            refine seqQ.n ?_
            refine Wp.seq' (by kernel_rfl) ?_
            refine Wp.seq' (by kernel_rfl) ?_
            refine Wp.region (by kernel_rfl) ?_
            refine Ops.seg' 1 1 (by kernel_rfl) ?_
            refine Ops.one' 2 (fun h0 e0 => (len_r (T := T) h0 36 9 .plain eS v103.1 (by kernel_rfl))) (by kernel_rfl) (by kernel_rfl) ?_
            refine Ops.seg' 1 3 (by kernel_rfl) ?_
            refine Ops.done (by kernel_rfl) ?_
            refine seqQ.n ?_
            refine Wp.block' 2 [1, 2, 4, 10, 11, 25, 26, 27] 4 (by kernel_rfl) ?_
            have hLx136 : ∀ (kx119 : Nat) (v116 : Bool) (v117 : Int)  (ox118 : Bool ⊕ (Bool × Int)), iter (fun (y : Bool × Int) => f5_B2 m a1 v103 y.1 y.2) kx119 (v116, v117) = some ox118 → ∀ nx120, kx119 ≤ nx120 → (∀ r, ox118 = .inl r → ∀ σ, RetOk (X5 n) (resOf Proofs.Tryd.prog 5) (eB r) σ → (seqQ (X5 n) (cR (cR (cR (cR (cL (cL (cR (cR (cL (cL (cR (cL (cR (cR (cR (cR C5)))))))))))))))) (blkQ (X5 n) 1 [1, 2, 4, 25, 26, 27] 2 (seqQ (X5 n) (cR (cR (cR (cL (cL (cR (cL (cR (cR (cR (cR C5))))))))))) (lpQ (X5 n) [1, 2, 4, 25, 26, 27] 2 (cL (cL (cR (cL (cR (cR (cR (cR C5)))))))) nx95 (blkQ (X5 n) 0 [4] 2 (seqQ (X5 n) (cR (cR (cR (cR (cR C5))))) (fnQ (X5 n).E.T (resOf Proofs.Tryd.prog 5) (eB o)))))))) .ret σ) → (∀ (y : Bool × Int) , ox118 = .inr y → (seqQ (X5 n) (cR (cR (cR (cR (cL (cL (cR (cR (cL (cL (cR (cL (cR (cR (cR (cR C5)))))))))))))))) (blkQ (X5 n) 1 [1, 2, 4, 25, 26, 27] 2 (seqQ (X5 n) (cR (cR (cR (cL (cL (cR (cL (cR (cR (cR (cR C5))))))))))) (lpQ (X5 n) [1, 2, 4, 25, 26, 27] 2 (cL (cL (cR (cL (cR (cR (cR (cR C5)))))))) nx95 (blkQ (X5 n) 0 [4] 2 (seqQ (X5 n) (cR (cR (cR (cR (cR C5))))) (fnQ (X5 n).E.T (resOf Proofs.Tryd.prog 5) (eB o)))))))) .normal ⟨q1 ((.v (.str a1)) :: (.ptr 0 0) :: q1 ((dB false) :: q5 ((.ptr 3 0) :: (dB y.1) :: q13 ((dP e41 v2.1) :: (dI ((v2.1.length : Int))) :: (dI v92) :: q10 ((dP eS v103.1) :: (dI ((v103.1.length : Int))) :: (dI y.2) :: q18 []))))), [(.cells [(.v (.str a0.fName)), (dP e67 a0.fCells)]), (.cells [(dI v2.2.fCode), (dI v2.2.fIndex)]), (.cells [(dP eS v102.fTags), (.v (.str v102.fForm))]), (.cells [(dI v103.2.fCode), (dI v103.2.fIndex)])]⟩) → Lp (X5 n) [1, 2, 4, 10, 11, 25, 26, 27, 38, 39, 40] 4 (cL (cL (cR (cL (cR (cR (cR (cL (cL (cR (cR (cL (cL (cR (cL (cR (cR (cR (cR C5))))))))))))))))))) nx120 ⟨q1 ((.v (.str a1)) :: (.ptr 0 0) :: q1 ((dB false) :: q5 ((.ptr 3 0) :: (dB v116) :: q13 ((dP e41 v2.1) :: (dI ((v2.1.length : Int))) :: (dI v92) :: q10 ((dP eS v103.1) :: (dI ((v103.1.length : Int))) :: (dI v117) :: q18 []))))), [(.cells [(.v (.str a0.fName)), (dP e67 a0.fCells)]), (.cells [(dI v2.2.fCode), (dI v2.2.fIndex)]), (.cells [(dP eS v102.fTags), (.v (.str v102.fForm))]), (.cells [(dI v103.2.fCode), (dI v103.2.fIndex)])]⟩ (blkQ (X5 n) 2 [1, 2, 4, 10, 11, 25, 26, 27] 4 (seqQ (X5 n) (cR (cR (cR (cR (cL (cL (cR (cR (cL (cL (cR (cL (cR (cR (cR (cR C5)))))))))))))))) (blkQ (X5 n) 1 [1, 2, 4, 25, 26, 27] 2 (seqQ (X5 n) (cR (cR (cR (cL (cL (cR (cL (cR (cR (cR (cR C5))))))))))) (lpQ (X5 n) [1, 2, 4, 25, 26, 27] 2 (cL (cL (cR (cL (cR (cR (cR (cR C5)))))))) nx95 (blkQ (X5 n) 0 [4] 2 (seqQ (X5 n) (cR (cR (cR (cR (cR C5))))) (fnQ (X5 n).E.T (resOf Proofs.Tryd.prog 5) (eB o))))))))) := by
              intro kx119
              induction kx119 with
              | zero => intro v116 v117  ox118 h; exact (iter_zero h).elim
              | succ kx119 ihx121 =>
                intro v116 v117  ox118 h nx120 hnx124 hrx122 hxx123
                obtain ⟨nx120, rfl⟩ : ∃ q, nx120 = q + 1 := ⟨nx120 - 1, by omega⟩
                obtain ⟨sx125, h, hsx126⟩ := iter_some h
                have h : f5_B2 m a1 v103 v116 v117 = some sx125 := h
                unfold f5_B2 at h
                refine Lp.succ ?_
                refine Wp.seq' (by kernel_rfl) ?_
                refine Wp.region (by kernel_rfl) ?_
                refine Ops.seg' 1 1 (by kernel_rfl) ?_
                refine Ops.done (by kernel_rfl) ?_
                refine seqQ.n ?_
                refine Wp.seq' (by kernel_rfl) ?_
                refine Wp.cnd h [1, 2, 4, 10, 11, 25, 26, 27, 38, 39, 40] 4 (by kernel_rfl) (fun h => ?_) (fun h => ?_)
                · refine Wp.skip (by kernel_rfl) ?_
                  refine sqQ.n' ?_
                  refine seqQ.n ?_
                  refine Wp.seq' (by kernel_rfl) ?_
                  refine Wp.block' 3 [1, 2, 4, 10, 11, 25, 26, 27, 38, 39, 40] 4 (by kernel_rfl) ?_
                  refine Wp.seq' (by kernel_rfl) ?_
                  refine Wp.region (by kernel_rfl) ?_
                  obtain ⟨v127, ev127, h⟩ := bnd_some h
                  refine Ops.one' 1 (fun h0 e0 => (ix_r (T := T) h0 36 9 1 .plain eS v103.1 v117 v127 ev127 (by kernel_rfl) (by kernel_rfl) (fun _ => rfl))) (by kernel_rfl) (by kernel_rfl) ?_
                  refine Ops.seg' 2 3 (by kernel_rfl) ?_
                  refine Ops.done (by kernel_rfl) ?_
                  refine seqQ.n ?_
                  refine Wp.region (by kernel_rfl) ?_
                  refine Ops.seg' 2 2 (by kernel_rfl) ?_
                  have J5j135 : ∀ (d130 d131 d132 : D) (v133 : Bool) (v134 : Bool), f5_r1 m v117 v134 = some sx125 → Ops (X5 n) (opl (cR (cL (cL (cR (cR (cL (cL (cR (cL (cR (cR (cR (cL (cL (cR (cR (cL (cL (cR (cL (cR (cR (cR (cR C5))))))))))))))))))))))))) 6 ⟨q1 ((.v (.str a1)) :: (.ptr 0 0) :: q1 ((dB false) :: q5 ((.ptr 3 0) :: (dB v133) :: q1 ((.v (.str v127)) :: q11 ((dP e41 v2.1) :: (dI ((v2.1.length : Int))) :: (dI v92) :: q10 ((dP eS v103.1) :: (dI ((v103.1.length : Int))) :: (dI v117) :: (dB (decide (v117 < (v103.1.length : Int)))) :: (.vptr [(.str v127)]) :: (.v (.str v127)) :: (dB v133) :: (dB v133) :: d130 :: d131 :: d132 :: (dB v134) :: q9 [])))))), [(.cells [(.v (.str a0.fName)), (dP e67 a0.fCells)]), (.cells [(dI v2.2.fCode), (dI v2.2.fIndex)]), (.cells [(dP eS v102.fTags), (.v (.str v102.fForm))]), (.cells [(dI v103.2.fCode), (dI v103.2.fIndex)])]⟩ ((blkQ (X5 n) 3 [1, 2, 4, 10, 11, 25, 26, 27, 38, 39, 40] 4 (seqQ (X5 n) (cR (cR (cR (cL (cL (cR (cL (cR (cR (cR (cL (cL (cR (cR (cL (cL (cR (cL (cR (cR (cR (cR C5)))))))))))))))))))))) (lpQ (X5 n) [1, 2, 4, 10, 11, 25, 26, 27, 38, 39, 40] 4 (cL (cL (cR (cL (cR (cR (cR (cL (cL (cR (cR (cL (cL (cR (cL (cR (cR (cR (cR C5))))))))))))))))))) nx120 (blkQ (X5 n) 2 [1, 2, 4, 10, 11, 25, 26, 27] 4 (seqQ (X5 n) (cR (cR (cR (cR (cL (cL (cR (cR (cL (cL (cR (cL (cR (cR (cR (cR C5)))))))))))))))) (blkQ (X5 n) 1 [1, 2, 4, 25, 26, 27] 2 (seqQ (X5 n) (cR (cR (cR (cL (cL (cR (cL (cR (cR (cR (cR C5))))))))))) (lpQ (X5 n) [1, 2, 4, 25, 26, 27] 2 (cL (cL (cR (cL (cR (cR (cR (cR C5)))))))) nx95 (blkQ (X5 n) 0 [4] 2 (seqQ (X5 n) (cR (cR (cR (cR (cR C5))))) (fnQ (X5 n).E.T (resOf Proofs.Tryd.prog 5) (eB o)))))))))))) .normal) := by
                    intro d130 d131 d132 v133 v134 h
                    unfold f5_r1 at h
                    refine Ops.seg' 1 7 (by kernel_rfl) ?_
                    refine Ops.done (by kernel_rfl) ?_
                    refine blkQ.n' ?_
                    refine seqQ.n ?_
                    refine Wp.region (by kernel_rfl) ?_
                    refine Ops.seg' 2 2 (by kernel_rfl) ?_
                    refine Ops.done (by kernel_rfl) ?_
                    refine lpQ.n ⟨q1 ((.v (.str a1)) :: (.ptr 0 0) :: q1 ((dB false) :: q5 ((.ptr 3 0) :: (dB v134) :: q13 ((dP e41 v2.1) :: (dI ((v2.1.length : Int))) :: (dI v92) :: q10 ((dP eS v103.1) :: (dI ((v103.1.length : Int))) :: (dI (w64 (v117 + 1))) :: q18 []))))), [(.cells [(.v (.str a0.fName)), (dP e67 a0.fCells)]), (.cells [(dI v2.2.fCode), (dI v2.2.fIndex)]), (.cells [(dP eS v102.fTags), (.v (.str v102.fForm))]), (.cells [(dI v103.2.fCode), (dI v103.2.fIndex)])]⟩ (by kernel_rfl) ?_
                    cases h
                    exact ihx121 v134 (w64 (v117 + 1))  _ hsx126 _ (by omega) hrx122 hxx123
                  have G5g129 : ∀ v128 : Bool, f5_r1 m v117 ((v128 || ((v127.toList == a1.toList)))) = some sx125 → Ops (X5 n) (opl (cR (cL (cL (cR (cR (cL (cL (cR (cL (cR (cR (cR (cL (cL (cR (cR (cL (cL (cR (cL (cR (cR (cR (cR C5))))))))))))))))))))))))) 2 ⟨q1 ((.v (.str a1)) :: (.ptr 0 0) :: q1 ((dB false) :: q5 ((.ptr 3 0) :: (dB v128) :: q1 ((.v (.str v127)) :: q11 ((dP e41 v2.1) :: (dI ((v2.1.length : Int))) :: (dI v92) :: q10 ((dP eS v103.1) :: (dI ((v103.1.length : Int))) :: (dI v117) :: (dB (decide (v117 < (v103.1.length : Int)))) :: (.vptr [(.str v127)]) :: (.v (.str v127)) :: (dB v128) :: (dB v128) :: q13 [])))))), [(.cells [(.v (.str a0.fName)), (dP e67 a0.fCells)]), (.cells [(dI v2.2.fCode), (dI v2.2.fIndex)]), (.cells [(dP eS v102.fTags), (.v (.str v102.fForm))]), (.cells [(dI v103.2.fCode), (dI v103.2.fIndex)])]⟩ ((blkQ (X5 n) 3 [1, 2, 4, 10, 11, 25, 26, 27, 38, 39, 40] 4 (seqQ (X5 n) (cR (cR (cR (cL (cL (cR (cL (cR (cR (cR (cL (cL (cR (cR (cL (cL (cR (cL (cR (cR (cR (cR C5)))))))))))))))))))))) (lpQ (X5 n) [1, 2, 4, 10, 11, 25, 26, 27, 38, 39, 40] 4 (cL (cL (cR (cL (cR (cR (cR (cL (cL (cR (cR (cL (cL (cR (cL (cR (cR (cR (cR C5))))))))))))))))))) nx120 (blkQ (X5 n) 2 [1, 2, 4, 10, 11, 25, 26, 27] 4 (seqQ (X5 n) (cR (cR (cR (cR (cL (cL (cR (cR (cL (cL (cR (cL (cR (cR (cR (cR C5)))))))))))))))) (blkQ (X5 n) 1 [1, 2, 4, 25, 26, 27] 2 (seqQ (X5 n) (cR (cR (cR (cL (cL (cR (cL (cR (cR (cR (cR C5))))))))))) (lpQ (X5 n) [1, 2, 4, 25, 26, 27] 2 (cL (cL (cR (cL (cR (cR (cR (cR C5)))))))) nx95 (blkQ (X5 n) 0 [4] 2 (seqQ (X5 n) (cR (cR (cR (cR (cR C5))))) (fnQ (X5 n).E.T (resOf Proofs.Tryd.prog 5) (eB o)))))))))))) .normal) := by
                    intro v128 h
                    cases v128
                    · refine Ops.seg' 4 6 (by kernel_rfl) ?_
                      refine Ops.st ⟨q1 ((.v (.str a1)) :: (.ptr 0 0) :: q1 ((dB false) :: q5 ((.ptr 3 0) :: (dB false) :: q1 ((.v (.str v127)) :: q11 ((dP e41 v2.1) :: (dI ((v2.1.length : Int))) :: (dI v92) :: q10 ((dP eS v103.1) :: (dI ((v103.1.length : Int))) :: (dI v117) :: (dB (decide (v117 < (v103.1.length : Int)))) :: (.vptr [(.str v127)]) :: (.v (.str v127)) :: (dB false) :: (dB false) :: (.v (.str v127)) :: (.v (.str a1)) :: (dB ((v127.toList == a1.toList))) :: (dB ((v127.toList == a1.toList))) :: q9 [])))))), [(.cells [(.v (.str a0.fName)), (dP e67 a0.fCells)]), (.cells [(dI v2.2.fCode), (dI v2.2.fIndex)]), (.cells [(dP eS v102.fTags), (.v (.str v102.fForm))]), (.cells [(dI v103.2.fCode), (dI v103.2.fIndex)])]⟩ (by kernel_rfl) ?_
                      exact J5j135 _ _ _ _ _ h
                    · refine Ops.seg' 4 6 (by kernel_rfl) ?_
                      refine Ops.st ⟨q1 ((.v (.str a1)) :: (.ptr 0 0) :: q1 ((dB false) :: q5 ((.ptr 3 0) :: (dB true) :: q1 ((.v (.str v127)) :: q11 ((dP e41 v2.1) :: (dI ((v2.1.length : Int))) :: (dI v92) :: q10 ((dP eS v103.1) :: (dI ((v103.1.length : Int))) :: (dI v117) :: (dB (decide (v117 < (v103.1.length : Int)))) :: (.vptr [(.str v127)]) :: (.v (.str v127)) :: (dB true) :: (dB true) :: u3 ((dB true) :: q9 []))))))), [(.cells [(.v (.str a0.fName)), (dP e67 a0.fCells)]), (.cells [(dI v2.2.fCode), (dI v2.2.fIndex)]), (.cells [(dP eS v102.fTags), (.v (.str v102.fForm))]), (.cells [(dI v103.2.fCode), (dI v103.2.fIndex)])]⟩ (by kernel_rfl) ?_
                      exact J5j135 _ _ _ _ _ h
                  exact Ops.st ⟨q1 ((.v (.str a1)) :: (.ptr 0 0) :: q1 ((dB false) :: q5 ((.ptr 3 0) :: (dB v116) :: q1 ((.v (.str v127)) :: q11 ((dP e41 v2.1) :: (dI ((v2.1.length : Int))) :: (dI v92) :: q10 ((dP eS v103.1) :: (dI ((v103.1.length : Int))) :: (dI v117) :: (dB (decide (v117 < (v103.1.length : Int)))) :: (.vptr [(.str v127)]) :: (.v (.str v127)) :: (dB v116) :: (dB v116) :: q13 [])))))), [(.cells [(.v (.str a0.fName)), (dP e67 a0.fCells)]), (.cells [(dI v2.2.fCode), (dI v2.2.fIndex)]), (.cells [(dP eS v102.fTags), (.v (.str v102.fForm))]), (.cells [(dI v103.2.fCode), (dI v103.2.fIndex)])]⟩ (by kernel_rfl) (G5g129 v116 h)
                · refine Wp.exit (id := 2) (by kernel_rfl) ?_
                  refine sqQ.x ?_
                  refine seqQ.x ?_
                  cases h
                  refine lpQ.x ?_
                  refine blkQ.x ⟨q1 ((.v (.str a1)) :: (.ptr 0 0) :: q1 ((dB false) :: q5 ((.ptr 3 0) :: (dB v116) :: q13 ((dP e41 v2.1) :: (dI ((v2.1.length : Int))) :: (dI v92) :: q10 ((dP eS v103.1) :: (dI ((v103.1.length : Int))) :: (dI v117) :: q18 []))))), [(.cells [(.v (.str a0.fName)), (dP e67 a0.fCells)]), (.cells [(dI v2.2.fCode), (dI v2.2.fIndex)]), (.cells [(dP eS v102.fTags), (.v (.str v102.fForm))]), (.cells [(dI v103.2.fCode), (dI v103.2.fIndex)])]⟩ (by kernel_rfl) ?_
                  exact hxx123 (v116, v117)  hsx126
            refine Wp.loop' [1, 2, 4, 10, 11, 25, 26, 27, 38, 39, 40] 4 (by kernel_rfl) ⟨q1 ((.v (.str a1)) :: (.ptr 0 0) :: q1 ((dB false) :: q5 ((.ptr 3 0) :: (dB false) :: q13 ((dP e41 v2.1) :: (dI ((v2.1.length : Int))) :: (dI v92) :: q10 ((dP eS v103.1) :: (dI ((v103.1.length : Int))) :: (dI 0) :: q18 []))))), [(.cells [(.v (.str a0.fName)), (dP e67 a0.fCells)]), (.cells [(dI v2.2.fCode), (dI v2.2.fIndex)]), (.cells [(dP eS v102.fTags), (.v (.str v102.fForm))]), (.cells [(dI v103.2.fCode), (dI v103.2.fIndex)])]⟩ (by kernel_rfl) ?_
            rcases brk_some h with ⟨r138, er138, h⟩ | ⟨y137, ey137, h⟩
            · refine hLx136 _ false 0  _ er138 n (by omega) (fun r er σ hσ => ?_) (fun y  ey => by cases ey)
              cases er
              refine seqQ.r ?_
              refine blkQ.r ?_
              refine seqQ.r ?_
              refine lpQ.r ?_
              cases h
              refine blkQ.r ?_
              exact hrx97 _ hsx101 _ (RetOk.forget [1, 2, 4, 25, 26, 27] (by kernel_rfl) hσ)
            · refine hLx136 _ false 0  _ ey137 n (by omega) (fun r er => by cases er) (fun y  ey => ?_)
              cases ey
              refine seqQ.n ?_
              refine Wp.seq' (by kernel_rfl) ?_
              refine Wp.region (by kernel_rfl) ?_
              refine Ops.seg' 4 4 (by kernel_rfl) ?_
              have J5j145 : ∀ (d141 d142 : D) (v143 : Bool) (v144 : Bool), f5_r3 m v92 v144 = some sx100 → Ops (X5 n) (opl (cL (cR (cR (cR (cR (cL (cL (cR (cR (cL (cL (cR (cL (cR (cR (cR (cR C5)))))))))))))))))) 7 ⟨q1 ((.v (.str a1)) :: (.ptr 0 0) :: q1 ((dB false) :: q5 ((.ptr 3 0) :: (dB y137.1) :: q13 ((dP e41 v2.1) :: (dI ((v2.1.length : Int))) :: (dI v92) :: q10 ((dP eS v103.1) :: (dI ((v103.1.length : Int))) :: (dI y137.2) :: q10 ((.v (.agg [(vI v103.2.fCode), (vI v103.2.fIndex)])) :: (.v (.agg [(vI 0), (vI 0)])) :: (dB v143) :: (dB v143) :: d141 :: d142 :: (dB v144) :: q1 [])))))), [(.cells [(.v (.str a0.fName)), (dP e67 a0.fCells)]), (.cells [(dI v2.2.fCode), (dI v2.2.fIndex)]), (.cells [(dP eS v102.fTags), (.v (.str v102.fForm))]), (.cells [(dI v103.2.fCode), (dI v103.2.fIndex)])]⟩ ((seqQ (X5 n) (cR (cR (cR (cR (cR (cL (cL (cR (cR (cL (cL (cR (cL (cR (cR (cR (cR C5))))))))))))))))) (blkQ (X5 n) 1 [1, 2, 4, 25, 26, 27] 2 (seqQ (X5 n) (cR (cR (cR (cL (cL (cR (cL (cR (cR (cR (cR C5))))))))))) (lpQ (X5 n) [1, 2, 4, 25, 26, 27] 2 (cL (cL (cR (cL (cR (cR (cR (cR C5)))))))) nx95 (blkQ (X5 n) 0 [4] 2 (seqQ (X5 n) (cR (cR (cR (cR (cR C5))))) (fnQ (X5 n).E.T (resOf Proofs.Tryd.prog 5) (eB o)))))))) .normal) := by
                intro d141 d142 v143 v144 h
                unfold f5_r3 at h
                refine Ops.done (by kernel_rfl) ?_
                refine seqQ.n ?_
                refine Wp.cnd h [1, 2, 4, 25, 26, 27] 4 (by kernel_rfl) (fun h => ?_) (fun h => ?_)
                · refine Wp.seq' (by kernel_rfl) ?_
                  refine Wp.region (by kernel_rfl) ?_
                  refine Ops.seg' 1 1 (by kernel_rfl) ?_
                  refine Ops.done (by kernel_rfl) ?_
                  refine seqQ.n ?_
                  refine Wp.ret (by kernel_rfl) ?_
                  refine sqQ.r ?_
                  refine blkQ.r ?_
                  refine seqQ.r ?_
                  cases h
                  refine lpQ.r ?_
                  refine blkQ.r ?_
                  exact hrx97 _ hsx101 _ (RetOk.forget [1, 2, 4, 25, 26, 27] (by kernel_rfl) (RetOk.mk' (dB false) (by kernel_rfl) (by kernel_rfl)))
                · refine Wp.skip (by kernel_rfl) ?_
                  refine sqQ.n' ?_
                  refine blkQ.n' ?_
                  refine seqQ.n ?_
                  refine Wp.region (by kernel_rfl) ?_
                  refine Ops.seg' 2 2 (by kernel_rfl) ?_
                  refine Ops.done (by kernel_rfl) ?_
                  refine lpQ.n ⟨q1 ((.v (.str a1)) :: (.ptr 0 0) :: q1 ((dB false) :: q20 ((dP e41 v2.1) :: (dI ((v2.1.length : Int))) :: (dI (w64 (v92 + 1))) :: q31 []))), [(.cells [(.v (.str a0.fName)), (dP e67 a0.fCells)]), (.cells [(dI v2.2.fCode), (dI v2.2.fIndex)])]⟩ (by kernel_rfl) ?_
                  cases h
                  exact ihx96 (w64 (v92 + 1))  _ hsx101 _ (by omega) hrx97 hxx98
              have G5g140 : ∀ v139 : Bool, f5_r3 m v92 ((v139 || (!y137.1))) = some sx100 → Ops (X5 n) (opl (cL (cR (cR (cR (cR (cL (cL (cR (cR (cL (cL (cR (cL (cR (cR (cR (cR C5)))))))))))))))))) 4 ⟨q1 ((.v (.str a1)) :: (.ptr 0 0) :: q1 ((dB false) :: q5 ((.ptr 3 0) :: (dB y137.1) :: q13 ((dP e41 v2.1) :: (dI ((v2.1.length : Int))) :: (dI v92) :: q10 ((dP eS v103.1) :: (dI ((v103.1.length : Int))) :: (dI y137.2) :: q10 ((.v (.agg [(vI v103.2.fCode), (vI v103.2.fIndex)])) :: (.v (.agg [(vI 0), (vI 0)])) :: (dB v139) :: (dB v139) :: q4 [])))))), [(.cells [(.v (.str a0.fName)), (dP e67 a0.fCells)]), (.cells [(dI v2.2.fCode), (dI v2.2.fIndex)]), (.cells [(dP eS v102.fTags), (.v (.str v102.fForm))]), (.cells [(dI v103.2.fCode), (dI v103.2.fIndex)])]⟩ ((seqQ (X5 n) (cR (cR (cR (cR (cR (cL (cL (cR (cR (cL (cL (cR (cL (cR (cR (cR (cR C5))))))))))))))))) (blkQ (X5 n) 1 [1, 2, 4, 25, 26, 27] 2 (seqQ (X5 n) (cR (cR (cR (cL (cL (cR (cL (cR (cR (cR (cR C5))))))))))) (lpQ (X5 n) [1, 2, 4, 25, 26, 27] 2 (cL (cL (cR (cL (cR (cR (cR (cR C5)))))))) nx95 (blkQ (X5 n) 0 [4] 2 (seqQ (X5 n) (cR (cR (cR (cR (cR C5))))) (fnQ (X5 n).E.T (resOf Proofs.Tryd.prog 5) (eB o)))))))) .normal) := by
                intro v139 h
                cases v139
                · refine Ops.seg' 3 7 (by kernel_rfl) ?_
                  refine Ops.st ⟨q1 ((.v (.str a1)) :: (.ptr 0 0) :: q1 ((dB false) :: q5 ((.ptr 3 0) :: (dB y137.1) :: q13 ((dP e41 v2.1) :: (dI ((v2.1.length : Int))) :: (dI v92) :: q10 ((dP eS v103.1) :: (dI ((v103.1.length : Int))) :: (dI y137.2) :: q10 ((.v (.agg [(vI v103.2.fCode), (vI v103.2.fIndex)])) :: (.v (.agg [(vI 0), (vI 0)])) :: (dB false) :: (dB false) :: (dB y137.1) :: (dB (!y137.1)) :: (dB (!y137.1)) :: q1 [])))))), [(.cells [(.v (.str a0.fName)), (dP e67 a0.fCells)]), (.cells [(dI v2.2.fCode), (dI v2.2.fIndex)]), (.cells [(dP eS v102.fTags), (.v (.str v102.fForm))]), (.cells [(dI v103.2.fCode), (dI v103.2.fIndex)])]⟩ (by kernel_rfl) ?_
                  exact J5j145 _ _ _ _ h
                · refine Ops.seg' 3 7 (by kernel_rfl) ?_
                  refine Ops.st ⟨q1 ((.v (.str a1)) :: (.ptr 0 0) :: q1 ((dB false) :: q5 ((.ptr 3 0) :: (dB y137.1) :: q13 ((dP e41 v2.1) :: (dI ((v2.1.length : Int))) :: (dI v92) :: q10 ((dP eS v103.1) :: (dI ((v103.1.length : Int))) :: (dI y137.2) :: q10 ((.v (.agg [(vI v103.2.fCode), (vI v103.2.fIndex)])) :: (.v (.agg [(vI 0), (vI 0)])) :: (dB true) :: (dB true) :: u2 ((dB true) :: q1 []))))))), [(.cells [(.v (.str a0.fName)), (dP e67 a0.fCells)]), (.cells [(dI v2.2.fCode), (dI v2.2.fIndex)]), (.cells [(dP eS v102.fTags), (.v (.str v102.fForm))]), (.cells [(dI v103.2.fCode), (dI v103.2.fIndex)])]⟩ (by kernel_rfl) ?_
                  exact J5j145 _ _ _ _ h
              exact Ops.st ⟨q1 ((.v (.str a1)) :: (.ptr 0 0) :: q1 ((dB false) :: q5 ((.ptr 3 0) :: (dB y137.1) :: q13 ((dP e41 v2.1) :: (dI ((v2.1.length : Int))) :: (dI v92) :: q10 ((dP eS v103.1) :: (dI ((v103.1.length : Int))) :: (dI y137.2) :: q10 ((.v (.agg [(vI v103.2.fCode), (vI v103.2.fIndex)])) :: (.v (.agg [(vI 0), (vI 0)])) :: (dB ((!((v103.2.fCode == 0) && ((v103.2.fIndex == 0) && true))))) :: (dB ((!((v103.2.fCode == 0) && ((v103.2.fIndex == 0) && true))))) :: q4 [])))))), [(.cells [(.v (.str a0.fName)), (dP e67 a0.fCells)]), (.cells [(dI v2.2.fCode), (dI v2.2.fIndex)]), (.cells [(dP eS v102.fTags), (.v (.str v102.fForm))]), (.cells [(dI v103.2.fCode), (dI v103.2.fIndex)])]⟩ (by kernel_rfl) (G5g140 (!((v103.2.fCode == 0) && ((v103.2.fIndex == 0) && true))) h)
          · refine Wp.exit (id := 0) (by kernel_rfl) ?_
            refine sqQ.x ?_
            refine seqQ.x ?_
            cases h
            refine lpQ.x ?_
            refine blkQ.x ⟨q1 ((.v (.str a1)) :: (.ptr 0 0) :: q1 ((dB false) :: q20 ((dP e41 v2.1) :: (dI ((v2.1.length : Int))) :: (dI v92) :: q31 []))), [(.cells [(.v (.str a0.fName)), (dP e67 a0.fCells)]), (.cells [(dI v2.2.fCode), (dI v2.2.fIndex)])]⟩ (by kernel_rfl) ?_
            exact hxx98 v92  hsx101
      refine Wp.loop' [1, 2, 4, 25, 26, 27] 2 (by kernel_rfl) ⟨q1 ((.v (.str a1)) :: (.ptr 0 0) :: q1 ((dB false) :: q20 ((dP e41 v2.1) :: (dI ((v2.1.length : Int))) :: (dI 0) :: q31 []))), [(.cells [(.v (.str a0.fName)), (dP e67 a0.fCells)]), (.cells [(dI v2.2.fCode), (dI v2.2.fIndex)])]⟩ (by kernel_rfl) ?_
      rcases brk_some h with ⟨r148, er148, h⟩ | ⟨y147, ey147, h⟩
      · refine hLx146 _ 0  _ er148 n (by omega) (fun r er σ hσ => ?_) (fun y  ey => by cases ey)
        cases er
        refine seqQ.r ?_
        exact fnQ.r' (X5 n) (fun z => (eB z)) h hσ
      · refine hLx146 _ 0  _ ey147 n (by omega) (fun r er => by cases er) (fun y  ey => ?_)
        cases ey
        refine seqQ.n ?_
        refine Wp.seq' (by kernel_rfl) ?_
        refine Wp.region (by kernel_rfl) ?_
        refine Ops.seg' 1 1 (by kernel_rfl) ?_
        refine Ops.done (by kernel_rfl) ?_
        refine seqQ.n ?_
        refine Wp.ret (by kernel_rfl) ?_
        exact fnQ.r' (X5 n) (fun z => (eB z)) h (RetOk.mk' (dB true) (by kernel_rfl) (by kernel_rfl))

/-! ### 6 glosswright/glosswrightlaw6.ParadigmBasesHaveTables -/
def f6_r1 (m : Nat) (v160 : Int) (v178 : Bool) : Option (Stp Bool (Bool × Int)) :=
  some (.nxt (v178, w64 (v160 + 1)))
def f6_B2 (m : Nat) (a1 : ByteArray) (v145 : ((List S41) × S27)) (v159 : Bool) (v160 : Int) : Option (Stp Bool (Bool × Int)) :=
  cnd (decide (v160 < (v145.1.length : Int)))
  (bnd (idx v145.1 v160) fun v170 =>
  f6_r1 m v160 ((v159 || ((v170.fForm.toList == a1.toList)))))
  (some (.brk (v159, v160)))
def f6_r3 (m : Nat) (v134 : Int) (v204 : Bool) : Option (Stp Bool (Int)) :=
  cnd v204
  (some (.ret false))
  (some (.nxt (w64 (v134 + 1))))
def f6_r4 (m : Nat) (v2 : ((List ByteArray) × S27)) (v134 : Int) (v144 : ByteArray) (v188 : Bool) : Option (Stp Bool (Int)) :=
  bnd (cnd v188
  (some true)
  (cnd (decide (v134 > 0))
  (bnd (idx v2.1 (w64 (v134 - 1))) fun v208 =>
  some (!(Op.bytesLess v208.toList v144.toList)))
  (some false))) fun v204 =>
  f6_r3 m v134 v204
def f6_B5 (m : Nat) (a0 : S23) (a1 : ByteArray) (v2 : ((List ByteArray) × S27)) (v134 : Int) : Option (Stp Bool (Int)) :=
  cnd (decide (v134 < (v2.1.length : Int)))
  (bnd (idx v2.1 v134) fun v144 =>
  bnd (f13 m a0 v144) fun v145 =>
  brk (iter (fun (y : Bool × Int) => f6_B2 m a1 v145 y.1 y.2) m (false, 0)) (fun r => some (.ret r)) fun y181 =>
  f6_r4 m v2 v134 v144 (((!((v145.2.fCode == 0) && ((v145.2.fIndex == 0) && true))) || (!y181.1))))
  (some (.brk v134))
def f6 (m : Nat) (a0 : S23) (a1 : ByteArray) : Option Bool :=
  bnd (f12 m ) fun v1 =>
  cnd (!v1)
  (some false)
  (bnd (f19 m a0 a1) fun v2 =>
  cnd (!((v2.2.fCode == 0) && ((v2.2.fIndex == 0) && true)))
  (some true)
  (brk (iter (fun (y : Int) => f6_B5 m a0 a1 v2 y) m 0) some fun y210 =>
  some true))
noncomputable abbrev X6 (n : Nat) : Cx := cxOf Proofs.Tryd.prog E 6 n
noncomputable def C6 : Code := bodyOf Proofs.Tryd.prog 6
theorem ok6 (m : Nat) (a0 : S23) (a1 : ByteArray) (o : Bool) (h : f6 m a0 a1 = some o) (n : Nat) (hn : m + 7 ≤ n) : Fn Proofs.Tryd.prog E n 6 [.v (e23 a0), .v (eS a1)] (eB o) := by
  obtain ⟨n, rfl⟩ : ∃ q, n = q + 1 := ⟨n - 1, by omega⟩
  unfold f6 at h
  refine Fn.of (by kernel_rfl) (by kernel_rfl) (by kernel_rfl) ⟨(.v (.agg [(.str a0.fName), (vP e67 a0.fCells)])) :: (.v (.str a1)) :: u40 (u31 []), []⟩ (by kernel_rfl) ?_
  refine Wp.seq' (by kernel_rfl) ?_
  refine Wp.region (by kernel_rfl) ?_
  refine Ops.seg' 2 2 (by kernel_rfl) ?_
  refine Ops.done (by kernel_rfl) ?_
  refine seqQ.n ?_
  refine Wp.seq' (by kernel_rfl) ?_
  refine Wp.seq' (by kernel_rfl) ?_
  refine Wp.region (by kernel_rfl) ?_
  obtain ⟨v1, ev1, h⟩ := bnd_some h
  refine Ops.one' 1 (fun h0 e0 => (call_ok (E' := E) (h := h0) (by kernel_rfl) Args.nil (ok12 m  v1 ev1 n (by omega)))) (by kernel_rfl) (by kernel_rfl) ?_
  refine Ops.seg' 1 2 (by kernel_rfl) ?_
  refine Ops.done (by kernel_rfl) ?_
  refine seqQ.n ?_
  refine Wp.cnd h [1, 2, 4] 1 (by kernel_rfl) (fun h => ?_) (fun h => ?_)
  · refine Wp.seq' (by kernel_rfl) ?_
    refine Wp.region (by kernel_rfl) ?_
    refine Ops.seg' 1 1 (by kernel_rfl) ?_
    refine Ops.done (by kernel_rfl) ?_
    refine seqQ.n ?_
    refine Wp.ret (by kernel_rfl) ?_
    refine sqQ.r ?_
    refine seqQ.r ?_
    exact fnQ.r' (X6 n) (fun z => (eB z)) h (RetOk.mk' (dB false) (by kernel_rfl) (by kernel_rfl))
  · refine Wp.skip (by kernel_rfl) ?_
    refine sqQ.n' ?_
    refine seqQ.n ?_
    refine Wp.seq' (by kernel_rfl) ?_
    refine Wp.region (by kernel_rfl) ?_
    refine Ops.seg' 2 2 (by kernel_rfl) ?_
    obtain ⟨v2, ev2, h⟩ := bnd_some h
    refine Ops.one' 3 (fun h0 e0 => (call_ok (E' := E) (h := h0) (by kernel_rfl) (Args.v (.agg [(.str a0.fName), (vP e67 a0.fCells)]) (e23 a0) (by kernel_rfl) (Args.v (.str a1) (eS a1) (by kernel_rfl) Args.nil)) (ok19 m a0 a1 v2 ev2 n (by omega)))) (by kernel_rfl) (by kernel_rfl) ?_
    refine Ops.seg' 6 9 (by kernel_rfl) ?_
    refine Ops.done (by kernel_rfl) ?_
    refine seqQ.n ?_
    refine Wp.seq' (by kernel_rfl) ?_
    refine Wp.seq' (by kernel_rfl) ?_
    refine Wp.region (by kernel_rfl) ?_
    refine Ops.seg' 3 3 (by kernel_rfl) ?_
    refine Ops.done (by kernel_rfl) ?_
    refine seqQ.n ?_
    refine Wp.cnd h [1, 2, 4, 5] 2 (by kernel_rfl) (fun h => ?_) (fun h => ?_)
    · refine Wp.seq' (by kernel_rfl) ?_
      refine Wp.region (by kernel_rfl) ?_
      refine Ops.seg' 1 1 (by kernel_rfl) ?_
      refine Ops.done (by kernel_rfl) ?_
      refine seqQ.n ?_
      refine Wp.ret (by kernel_rfl) ?_
      refine sqQ.r ?_
      refine seqQ.r ?_
      exact fnQ.r' (X6 n) (fun z => (eB z)) h (RetOk.mk' (dB true) (by kernel_rfl) (by kernel_rfl))
    · refine Wp.skip (by kernel_rfl) ?_
      refine sqQ.n' ?_
      refine seqQ.n ?_
      refine Wp.seq' (by kernel_rfl) ?_
      refine Wp.seq' (by kernel_rfl) ?_
      refine Wp.region (by kernel_rfl) ?_
      refine Ops.seg' 1 1 (by kernel_rfl) ?_
      refine Ops.one' 2 (fun h0 e0 => (len_r (T := T) h0 36 9 .plain eS v2.1 (by kernel_rfl))) (by kernel_rfl) (by kernel_rfl) ?_
      refine Ops.seg' 1 3 (by kernel_rfl) ?_
      refine Ops.done (by kernel_rfl) ?_
      refine seqQ.n ?_
      refine Wp.block' 0 [4] 2 (by kernel_rfl) ?_
      have hLx209 : ∀ (kx136 : Nat) (v134 : Int)  (ox135 : Bool ⊕ (Int)), iter (fun (y : Int) => f6_B5 m a0 a1 v2 y) kx136 v134 = some ox135 → ∀ nx137, kx136 ≤ nx137 → (∀ r, ox135 = .inl r → ∀ σ, RetOk (X6 n) (resOf Proofs.Tryd.prog 6) (eB r) σ → (seqQ (X6 n) (cR (cR (cR (cR (cR C6))))) (fnQ (X6 n).E.T (resOf Proofs.Tryd.prog 6) (eB o))) .ret σ) → (∀ (y : Int) , ox135 = .inr y → (seqQ (X6 n) (cR (cR (cR (cR (cR C6))))) (fnQ (X6 n).E.T (resOf Proofs.Tryd.prog 6) (eB o))) .normal ⟨q1 ((.v (.str a1)) :: (.ptr 0 0) :: q1 ((dB false) :: (dP eS v2.1) :: q19 ((dP eS v2.1) :: (dI ((v2.1.length : Int))) :: (dI y) :: q40 (q5 [])))), [(.cells [(.v (.str a0.fName)), (dP e67 a0.fCells)]), (.cells [(dI v2.2.fCode), (dI v2.2.fIndex)])]⟩) → Lp (X6 n) [1, 2, 4, 5, 25, 26, 27] 2 (cL (cL (cR (cL (cR (cR (cR (cR C6)))))))) nx137 ⟨q1 ((.v (.str a1)) :: (.ptr 0 0) :: q1 ((dB false) :: (dP eS v2.1) :: q19 ((dP eS v2.1) :: (dI ((v2.1.length : Int))) :: (dI v134) :: q40 (q5 [])))), [(.cells [(.v (.str a0.fName)), (dP e67 a0.fCells)]), (.cells [(dI v2.2.fCode), (dI v2.2.fIndex)])]⟩ (blkQ (X6 n) 0 [4] 2 (seqQ (X6 n) (cR (cR (cR (cR (cR C6))))) (fnQ (X6 n).E.T (resOf Proofs.Tryd.prog 6) (eB o)))) := by
        intro kx136
        induction kx136 with
        | zero => intro v134  ox135 h; exact (iter_zero h).elim
        | succ kx136 ihx138 =>
          intro v134  ox135 h nx137 hnx141 hrx139 hxx140
          obtain ⟨nx137, rfl⟩ : ∃ q, nx137 = q + 1 := ⟨nx137 - 1, by omega⟩
          obtain ⟨sx142, h, hsx143⟩ := iter_some h
          have h : f6_B5 m a0 a1 v2 v134 = some sx142 := h
          unfold f6_B5 at h
          refine Lp.succ ?_
          refine Wp.seq' (by kernel_rfl) ?_
          refine Wp.region (by kernel_rfl) ?_
          refine Ops.seg' 1 1 (by kernel_rfl) ?_
          refine Ops.done (by kernel_rfl) ?_
          refine seqQ.n ?_
          refine Wp.seq' (by kernel_rfl) ?_
          refine Wp.cnd h [1, 2, 4, 5, 25, 26, 27] 2 (by kernel_rfl) (fun h => ?_) (fun h => ?_)
          · refine Wp.skip (by kernel_rfl) ?_
            refine sqQ.n' ?_
            refine seqQ.n ?_
            refine Wp.seq' (by kernel_rfl) ?_
            refine Wp.block' 1 [1, 2, 4, 5, 25, 26, 27] 2 (by kernel_rfl) ?_
            refine Wp.seq' (by kernel_rfl) ?_
            refine Wp.region (by kernel_rfl) ?_
            refine Ops.seg' 1 1 (by kernel_rfl) ?_
            obtain ⟨v144, ev144, h⟩ := bnd_some h
            refine Ops.one' 2 (fun h0 e0 => (ix_r (T := T) h0 36 9 1 .plain eS v2.1 v134 v144 ev144 (by kernel_rfl) (by kernel_rfl) (fun _ => rfl))) (by kernel_rfl) (by kernel_rfl) ?_
            refine Ops.seg' 3 5 (by kernel_rfl) ?_
            refine Ops.done (by kernel_rfl) ?_
            refine seqQ.n ?_
            refine Wp.seq' (by kernel_rfl) ?_
            refine Wp.region (by kernel_rfl) ?_
            refine Ops.seg' 2 2 (by kernel_rfl) ?_
            obtain ⟨v145, ev145, h⟩ := bnd_some h
            refine Ops.one' 3 (fun h0 e0 => (call_ok (E' := E) (h := h0) (by kernel_rfl) (Args.v (.agg [(.str a0.fName), (vP e67 a0.fCells)]) (e23 a0) (by kernel_rfl) (Args.v (.str v144) (eS v144) (by kernel_rfl) Args.nil)) (ok13 m a0 v144 v145 ev145 n (by omega)))) (by kernel_rfl) (by kernel_rfl) ?_
            refine Ops.seg' 6 9 (by kernel_rfl) ?_
            refine Ops.done (by kernel_rfl) ?_
            refine seqQ.n ?_
            refine Wp.seq' (by kernel_rfl) ?_
            refine Wp.region (by kernel_rfl) ?_
            refine Ops.seg' 1 1 (by kernel_rfl) ?_
            refine Ops.done (by kernel_rfl) ?_
            refine seqQ.n ?_
            refine Wp.seq' (by kernel_rfl) ?_
            refine Wp.seq' (by kernel_rfl) ?_
            refine Wp.region (by kernel_rfl) ?_
            refine Ops.seg' 1 1 (by kernel_rfl) ?_
            refine Ops.one' 2 (fun h0 e0 => (len_r (T := T) h0 26 42 .plain e41 v145.1 (by kernel_rfl))) (by kernel_rfl) (by kernel_rfl) ?_
            refine Ops.seg' 1 3 (by kernel_rfl) ?_
            refine Ops.done (by kernel_rfl) ?_
            refine seqQ.n ?_
            refine Wp.block' 2 [1, 2, 4, 5, 7, 8, 10, 11, 25, 26, 27] 3 (by kernel_rfl) ?_
            have hLx180 : ∀ (kx162 : Nat) (v159 : Bool) (v160 : Int)  (ox161 : Bool ⊕ (Bool × Int)), iter (fun (y : Bool × Int) => f6_B2 m a1 v145 y.1 y.2) kx162 (v159, v160) = some ox161 → ∀ nx163, kx162 ≤ nx163 → (∀ r, ox161 = .inl r → ∀ σ, RetOk (X6 n) (resOf Proofs.Tryd.prog 6) (eB r) σ → (seqQ (X6 n) (cR (cR (cR (cR (cL (cL (cR (cR (cL (cL (cR (cL (cR (cR (cR (cR C6)))))))))))))))) (blkQ (X6 n) 1 [1, 2, 4, 5, 25, 26, 27] 2 (seqQ (X6 n) (cR (cR (cR (cL (cL (cR (cL (cR (cR (cR (cR C6))))))))))) (lpQ (X6 n) [1, 2, 4, 5, 25, 26, 27] 2 (cL (cL (cR (cL (cR (cR (cR (cR C6)))))))) nx137 (blkQ (X6 n) 0 [4] 2 (seqQ (X6 n) (cR (cR (cR (cR (cR C6))))) (fnQ (X6 n).E.T (resOf Proofs.Tryd.prog 6) (eB o)))))))) .ret σ) → (∀ (y : Bool × Int) , ox161 = .inr y → (seqQ (X6 n) (cR (cR (cR (cR (cL (cL (cR (cR (cL (cL (cR (cL (cR (cR (cR (cR C6)))))))))))))))) (blkQ (X6 n) 1 [1, 2, 4, 5, 25, 26, 27] 2 (seqQ (X6 n) (cR (cR (cR (cL (cL (cR (cL (cR (cR (cR (cR C6))))))))))) (lpQ (X6 n) [1, 2, 4, 5, 25, 26, 27] 2 (cL (cL (cR (cL (cR (cR (cR (cR C6)))))))) nx137 (blkQ (X6 n) 0 [4] 2 (seqQ (X6 n) (cR (cR (cR (cR (cR C6))))) (fnQ (X6 n).E.T (resOf Proofs.Tryd.prog 6) (eB o)))))))) .normal ⟨q1 ((.v (.str a1)) :: (.ptr 0 0) :: q1 ((dB false) :: (dP eS v2.1) :: q1 ((dI v134) :: (.v (.str v144)) :: q1 ((.ptr 2 0) :: (dB y.1) :: q13 ((dP eS v2.1) :: (dI ((v2.1.length : Int))) :: (dI v134) :: q10 ((dP e41 v145.1) :: (dI ((v145.1.length : Int))) :: (dI y.2) :: q32 [])))))), [(.cells [(.v (.str a0.fName)), (dP e67 a0.fCells)]), (.cells [(dI v2.2.fCode), (dI v2.2.fIndex)]), (.cells [(dI v145.2.fCode), (dI v145.2.fIndex)])]⟩) → Lp (X6 n) [1, 2, 4, 5, 7, 8, 10, 11, 25, 26, 27, 38, 39, 40] 3 (cL (cL (cR (cL (cR (cR (cR (cL (cL (cR (cR (cL (cL (cR (cL (cR (cR (cR (cR C6))))))))))))))))))) nx163 ⟨q1 ((.v (.str a1)) :: (.ptr 0 0) :: q1 ((dB false) :: (dP eS v2.1) :: q1 ((dI v134) :: (.v (.str v144)) :: q1 ((.ptr 2 0) :: (dB v159) :: q13 ((dP eS v2.1) :: (dI ((v2.1.length : Int))) :: (dI v134) :: q10 ((dP e41 v145.1) :: (dI ((v145.1.length : Int))) :: (dI v160) :: q32 [])))))), [(.cells [(.v (.str a0.fName)), (dP e67 a0.fCells)]), (.cells [(dI v2.2.fCode), (dI v2.2.fIndex)]), (.cells [(dI v145.2.fCode), (dI v145.2.fIndex)])]⟩ (blkQ (X6 n) 2 [1, 2, 4, 5, 7, 8, 10, 11, 25, 26, 27] 3 (seqQ (X6 n) (cR (cR (cR (cR (cL (cL (cR (cR (cL (cL (cR (cL (cR (cR (cR (cR C6)))))))))))))))) (blkQ (X6 n) 1 [1, 2, 4, 5, 25, 26, 27] 2 (seqQ (X6 n) (cR (cR (cR (cL (cL (cR (cL (cR (cR (cR (cR C6))))))))))) (lpQ (X6 n) [1, 2, 4, 5, 25, 26, 27] 2 (cL (cL (cR (cL (cR (cR (cR (cR C6)))))))) nx137 (blkQ (X6 n) 0 [4] 2 (seqQ (X6 n) (cR (cR (cR (cR (cR C6))))) (fnQ (X6 n).E.T (resOf Proofs.Tryd.prog 6) (eB o))))))))) := by
              intro kx162
              induction kx162 with
              | zero => intro v159 v160  ox161 h; exact (iter_zero h).elim
              | succ kx162 ihx164 =>
                intro v159 v160  ox161 h nx163 hnx167 hrx165 hxx166
                obtain ⟨nx163, rfl⟩ : ∃ q, nx163 = q + 1 := ⟨nx163 - 1, by omega⟩
                obtain ⟨sx168, h, hsx169⟩ := iter_some h
                have h : f6_B2 m a1 v145 v159 v160 = some sx168 := h
                unfold f6_B2 at h
                refine Lp.succ ?_
                refine Wp.seq' (by kernel_rfl) ?_
                refine Wp.region (by kernel_rfl) ?_
                refine Ops.seg' 1 1 (by kernel_rfl) ?_
                refine Ops.done (by kernel_rfl) ?_
                refine seqQ.n ?_
                refine Wp.seq' (by kernel_rfl) ?_
                refine Wp.cnd h [1, 2, 4, 5, 7, 8, 10, 11, 25, 26, 27, 38, 39, 40] 3 (by kernel_rfl) (fun h => ?_) (fun h => ?_)
                · refine Wp.skip (by kernel_rfl) ?_
                  refine sqQ.n' ?_
                  refine seqQ.n ?_
                  refine Wp.seq' (by kernel_rfl) ?_
                  refine Wp.block' 3 [1, 2, 4, 5, 7, 8, 10, 11, 25, 26, 27, 38, 39, 40] 3 (by kernel_rfl) ?_
                  refine Wp.seq' (by kernel_rfl) ?_
                  refine Wp.region (by kernel_rfl) ?_
                  obtain ⟨v170, ev170, h⟩ := bnd_some h
                  refine Ops.one' 1 (fun h0 e0 => (ix_r (T := T) h0 26 42 2 .plain e41 v145.1 v160 v170 ev170 (by kernel_rfl) (by kernel_rfl) (fun _ => rfl))) (by kernel_rfl) (by kernel_rfl) ?_
                  refine Ops.seg' 3 4 (by kernel_rfl) ?_
                  refine Ops.done (by kernel_rfl) ?_
                  refine seqQ.n ?_
                  refine Wp.region (by kernel_rfl) ?_
                  refine Ops.seg' 2 2 (by kernel_rfl) ?_
                  have J6j179 : ∀ (d173 d174 d175 d176 : D) (v177 : Bool) (v178 : Bool), f6_r1 m v160 v178 = some sx168 → Ops (X6 n) (opl (cR (cL (cL (cR (cR (cL (cL (cR (cL (cR (cR (cR (cL (cL (cR (cR (cL (cL (cR (cL (cR (cR (cR (cR C6))))))))))))))))))))))))) 7 ⟨q1 ((.v (.str a1)) :: (.ptr 0 0) :: q1 ((dB false) :: (dP eS v2.1) :: q1 ((dI v134) :: (.v (.str v144)) :: q1 ((.ptr 2 0) :: (dB v177) :: q1 ((.ptr 3 0) :: q11 ((dP eS v2.1) :: (dI ((v2.1.length : Int))) :: (dI v134) :: q10 ((dP e41 v145.1) :: (dI ((v145.1.length : Int))) :: (dI v160) :: (dB (decide (v160 < (v145.1.length : Int)))) :: (.vptr [(vP eS v170.fTags), (.str v170.fForm)]) :: (.v (.agg [(vP eS v170.fTags), (.str v170.fForm)])) :: (dB v177) :: (dB v177) :: d173 :: d174 :: d175 :: d176 :: (dB v178) :: q22 []))))))), [(.cells [(.v (.str a0.fName)), (dP e67 a0.fCells)]), (.cells [(dI v2.2.fCode), (dI v2.2.fIndex)]), (.cells [(dI v145.2.fCode), (dI v145.2.fIndex)]), (.cells [(dP eS v170.fTags), (.v (.str v170.fForm))])]⟩ ((blkQ (X6 n) 3 [1, 2, 4, 5, 7, 8, 10, 11, 25, 26, 27, 38, 39, 40] 3 (seqQ (X6 n) (cR (cR (cR (cL (cL (cR (cL (cR (cR (cR (cL (cL (cR (cR (cL (cL (cR (cL (cR (cR (cR (cR C6)))))))))))))))))))))) (lpQ (X6 n) [1, 2, 4, 5, 7, 8, 10, 11, 25, 26, 27, 38, 39, 40] 3 (cL (cL (cR (cL (cR (cR (cR (cL (cL (cR (cR (cL (cL (cR (cL (cR (cR (cR (cR C6))))))))))))))))))) nx163 (blkQ (X6 n) 2 [1, 2, 4, 5, 7, 8, 10, 11, 25, 26, 27] 3 (seqQ (X6 n) (cR (cR (cR (cR (cL (cL (cR (cR (cL (cL (cR (cL (cR (cR (cR (cR C6)))))))))))))))) (blkQ (X6 n) 1 [1, 2, 4, 5, 25, 26, 27] 2 (seqQ (X6 n) (cR (cR (cR (cL (cL (cR (cL (cR (cR (cR (cR C6))))))))))) (lpQ (X6 n) [1, 2, 4, 5, 25, 26, 27] 2 (cL (cL (cR (cL (cR (cR (cR (cR C6)))))))) nx137 (blkQ (X6 n) 0 [4] 2 (seqQ (X6 n) (cR (cR (cR (cR (cR C6))))) (fnQ (X6 n).E.T (resOf Proofs.Tryd.prog 6) (eB o)))))))))))) .normal) := by
                    intro d173 d174 d175 d176 v177 v178 h
                    unfold f6_r1 at h
                    refine Ops.seg' 1 8 (by kernel_rfl) ?_
                    refine Ops.done (by kernel_rfl) ?_
                    refine blkQ.n' ?_
                    refine seqQ.n ?_
                    refine Wp.region (by kernel_rfl) ?_
                    refine Ops.seg' 2 2 (by kernel_rfl) ?_
                    refine Ops.done (by kernel_rfl) ?_
                    refine lpQ.n ⟨q1 ((.v (.str a1)) :: (.ptr 0 0) :: q1 ((dB false) :: (dP eS v2.1) :: q1 ((dI v134) :: (.v (.str v144)) :: q1 ((.ptr 2 0) :: (dB v178) :: q13 ((dP eS v2.1) :: (dI ((v2.1.length : Int))) :: (dI v134) :: q10 ((dP e41 v145.1) :: (dI ((v145.1.length : Int))) :: (dI (w64 (v160 + 1))) :: q32 [])))))), [(.cells [(.v (.str a0.fName)), (dP e67 a0.fCells)]), (.cells [(dI v2.2.fCode), (dI v2.2.fIndex)]), (.cells [(dI v145.2.fCode), (dI v145.2.fIndex)])]⟩ (by kernel_rfl) ?_
                    cases h
                    exact ihx164 v178 (w64 (v160 + 1))  _ hsx169 _ (by omega) hrx165 hxx166
                  have G6g172 : ∀ v171 : Bool, f6_r1 m v160 ((v171 || ((v170.fForm.toList == a1.toList)))) = some sx168 → Ops (X6 n) (opl (cR (cL (cL (cR (cR (cL (cL (cR (cL (cR (cR (cR (cL (cL (cR (cR (cL (cL (cR (cL (cR (cR (cR (cR C6))))))))))))))))))))))))) 2 ⟨q1 ((.v (.str a1)) :: (.ptr 0 0) :: q1 ((dB false) :: (dP eS v2.1) :: q1 ((dI v134) :: (.v (.str v144)) :: q1 ((.ptr 2 0) :: (dB v171) :: q1 ((.ptr 3 0) :: q11 ((dP eS v2.1) :: (dI ((v2.1.length : Int))) :: (dI v134) :: q10 ((dP e41 v145.1) :: (dI ((v145.1.length : Int))) :: (dI v160) :: (dB (decide (v160 < (v145.1.length : Int)))) :: (.vptr [(vP eS v170.fTags), (.str v170.fForm)]) :: (.v (.agg [(vP eS v170.fTags), (.str v170.fForm)])) :: (dB v171) :: (dB v171) :: q27 []))))))), [(.cells [(.v (.str a0.fName)), (dP e67 a0.fCells)]), (.cells [(dI v2.2.fCode), (dI v2.2.fIndex)]), (.cells [(dI v145.2.fCode), (dI v145.2.fIndex)]), (.cells [(dP eS v170.fTags), (.v (.str v170.fForm))])]⟩ ((blkQ (X6 n) 3 [1, 2, 4, 5, 7, 8, 10, 11, 25, 26, 27, 38, 39, 40] 3 (seqQ (X6 n) (cR (cR (cR (cL (cL (cR (cL (cR (cR (cR (cL (cL (cR (cR (cL (cL (cR (cL (cR (cR (cR (cR C6)))))))))))))))))))))) (lpQ (X6 n) [1, 2, 4, 5, 7, 8, 10, 11, 25, 26, 27, 38, 39, 40] 3 (cL (cL (cR (cL (cR (cR (cR (cL (cL (cR (cR (cL (cL (cR (cL (cR (cR (cR (cR C6))))))))))))))))))) nx163 (blkQ (X6 n) 2 [1, 2, 4, 5, 7, 8, 10, 11, 25, 26, 27] 3 (seqQ (X6 n) (cR (cR (cR (cR (cL (cL (cR (cR (cL (cL (cR (cL (cR (cR (cR (cR C6)))))))))))))))) (blkQ (X6 n) 1 [1, 2, 4, 5, 25, 26, 27] 2 (seqQ (X6 n) (cR (cR (cR (cL (cL (cR (cL (cR (cR (cR (cR C6))))))))))) (lpQ (X6 n) [1, 2, 4, 5, 25, 26, 27] 2 (cL (cL (cR (cL (cR (cR (cR (cR C6)))))))) nx137 (blkQ (X6 n) 0 [4] 2 (seqQ (X6 n) (cR (cR (cR (cR (cR C6))))) (fnQ (X6 n).E.T (resOf Proofs.Tryd.prog 6) (eB o)))))))))))) .normal) := by
                    intro v171 h
                    cases v171
                    · refine Ops.seg' 5 7 (by kernel_rfl) ?_
                      refine Ops.st ⟨q1 ((.v (.str a1)) :: (.ptr 0 0) :: q1 ((dB false) :: (dP eS v2.1) :: q1 ((dI v134) :: (.v (.str v144)) :: q1 ((.ptr 2 0) :: (dB false) :: q1 ((.ptr 3 0) :: q11 ((dP eS v2.1) :: (dI ((v2.1.length : Int))) :: (dI v134) :: q10 ((dP e41 v145.1) :: (dI ((v145.1.length : Int))) :: (dI v160) :: (dB (decide (v160 < (v145.1.length : Int)))) :: (.vptr [(vP eS v170.fTags), (.str v170.fForm)]) :: (.v (.agg [(vP eS v170.fTags), (.str v170.fForm)])) :: (dB false) :: (dB false) :: (.ptr 3 1) :: (.v (.str v170.fForm)) :: (.v (.str a1)) :: (dB ((v170.fForm.toList == a1.toList))) :: (dB ((v170.fForm.toList == a1.toList))) :: q22 []))))))), [(.cells [(.v (.str a0.fName)), (dP e67 a0.fCells)]), (.cells [(dI v2.2.fCode), (dI v2.2.fIndex)]), (.cells [(dI v145.2.fCode), (dI v145.2.fIndex)]), (.cells [(dP eS v170.fTags), (.v (.str v170.fForm))])]⟩ (by kernel_rfl) ?_
                      exact J6j179 _ _ _ _ _ _ h
                    · refine Ops.seg' 5 7 (by kernel_rfl) ?_
                      refine Ops.st ⟨q1 ((.v (.str a1)) :: (.ptr 0 0) :: q1 ((dB false) :: (dP eS v2.1) :: q1 ((dI v134) :: (.v (.str v144)) :: q1 ((.ptr 2 0) :: (dB true) :: q1 ((.ptr 3 0) :: q11 ((dP eS v2.1) :: (dI ((v2.1.length : Int))) :: (dI v134) :: q10 ((dP e41 v145.1) :: (dI ((v145.1.length : Int))) :: (dI v160) :: (dB (decide (v160 < (v145.1.length : Int)))) :: (.vptr [(vP eS v170.fTags), (.str v170.fForm)]) :: (.v (.agg [(vP eS v170.fTags), (.str v170.fForm)])) :: (dB true) :: (dB true) :: u4 ((dB true) :: q22 [])))))))), [(.cells [(.v (.str a0.fName)), (dP e67 a0.fCells)]), (.cells [(dI v2.2.fCode), (dI v2.2.fIndex)]), (.cells [(dI v145.2.fCode), (dI v145.2.fIndex)]), (.cells [(dP eS v170.fTags), (.v (.str v170.fForm))])]⟩ (by kernel_rfl) ?_
                      exact J6j179 _ _ _ _ _ _ h
                  exact Ops.st ⟨q1 ((.v (.str a1)) :: (.ptr 0 0) :: q1 ((dB false) :: (dP eS v2.1) :: q1 ((dI v134) :: (.v (.str v144)) :: q1 ((.ptr 2 0) :: (dB v159) :: q1 ((.ptr 3 0) :: q11 ((dP eS v2.1) :: (dI ((v2.1.length : Int))) :: (dI v134) :: q10 ((dP e41 v145.1) :: (dI ((v145.1.length : Int))) :: (dI v160) :: (dB (decide (v160 < (v145.1.length : Int)))) :: (.vptr [(vP eS v170.fTags), (.str v170.fForm)]) :: (.v (.agg [(vP eS v170.fTags), (.str v170.fForm)])) :: (dB v159) :: (dB v159) :: q27 []))))))), [(.cells [(.v (.str a0.fName)), (dP e67 a0.fCells)]), (.cells [(dI v2.2.fCode), (dI v2.2.fIndex)]), (.cells [(dI v145.2.fCode), (dI v145.2.fIndex)]), (.cells [(dP eS v170.fTags), (.v (.str v170.fForm))])]⟩ (by kernel_rfl) (G6g172 v159 h)
                · refine Wp.exit (id := 2) (by kernel_rfl) ?_
                  refine sqQ.x ?_
                  refine seqQ.x ?_
                  cases h
                  refine lpQ.x ?_
                  refine blkQ.x ⟨q1 ((.v (.str a1)) :: (.ptr 0 0) :: q1 ((dB false) :: (dP eS v2.1) :: q1 ((dI v134) :: (.v (.str v144)) :: q1 ((.ptr 2 0) :: (dB v159) :: q13 ((dP eS v2.1) :: (dI ((v2.1.length : Int))) :: (dI v134) :: q10 ((dP e41 v145.1) :: (dI ((v145.1.length : Int))) :: (dI v160) :: q32 [])))))), [(.cells [(.v (.str a0.fName)), (dP e67 a0.fCells)]), (.cells [(dI v2.2.fCode), (dI v2.2.fIndex)]), (.cells [(dI v145.2.fCode), (dI v145.2.fIndex)])]⟩ (by kernel_rfl) ?_
                  exact hxx166 (v159, v160)  hsx169
            refine Wp.loop' [1, 2, 4, 5, 7, 8, 10, 11, 25, 26, 27, 38, 39, 40] 3 (by kernel_rfl) ⟨q1 ((.v (.str a1)) :: (.ptr 0 0) :: q1 ((dB false) :: (dP eS v2.1) :: q1 ((dI v134) :: (.v (.str v144)) :: q1 ((.ptr 2 0) :: (dB false) :: q13 ((dP eS v2.1) :: (dI ((v2.1.length : Int))) :: (dI v134) :: q10 ((dP e41 v145.1) :: (dI ((v145.1.length : Int))) :: (dI 0) :: q32 [])))))), [(.cells [(.v (.str a0.fName)), (dP e67 a0.fCells)]), (.cells [(dI v2.2.fCode), (dI v2.2.fIndex)]), (.cells [(dI v145.2.fCode), (dI v145.2.fIndex)])]⟩ (by kernel_rfl) ?_
            rcases brk_some h with ⟨r182, er182, h⟩ | ⟨y181, ey181, h⟩
            · refine hLx180 _ false 0  _ er182 n (by omega) (fun r er σ hσ => ?_) (fun y  ey => by cases ey)
              cases er
              refine seqQ.r ?_
              refine blkQ.r ?_
              refine seqQ.r ?_
              refine lpQ.r ?_
              cases h
              refine blkQ.r ?_
              exact hrx139 _ hsx143 _ (RetOk.forget [1, 2, 4, 5, 25, 26, 27] (by kernel_rfl) hσ)
            · refine hLx180 _ false 0  _ ey181 n (by omega) (fun r er => by cases er) (fun y  ey => ?_)
              cases ey
              refine seqQ.n ?_
              refine Wp.seq' (by kernel_rfl) ?_
              refine Wp.region (by kernel_rfl) ?_
              refine Ops.seg' 4 4 (by kernel_rfl) ?_
              have J6j189 : ∀ (d185 d186 : D) (v187 : Bool) (v188 : Bool), f6_r4 m v2 v134 v144 v188 = some sx142 → Ops (X6 n) (opl (cL (cR (cR (cR (cR (cL (cL (cR (cR (cL (cL (cR (cL (cR (cR (cR (cR C6)))))))))))))))))) 7 ⟨q1 ((.v (.str a1)) :: (.ptr 0 0) :: q1 ((dB false) :: (dP eS v2.1) :: q1 ((dI v134) :: (.v (.str v144)) :: q1 ((.ptr 2 0) :: (dB y181.1) :: q13 ((dP eS v2.1) :: (dI ((v2.1.length : Int))) :: (dI v134) :: q10 ((dP e41 v145.1) :: (dI ((v145.1.length : Int))) :: (dI y181.2) :: q11 ((.v (.agg [(vI v145.2.fCode), (vI v145.2.fIndex)])) :: (.v (.agg [(vI 0), (vI 0)])) :: (dB v187) :: (dB v187) :: d185 :: d186 :: (dB v188) :: q14 []))))))), [(.cells [(.v (.str a0.fName)), (dP e67 a0.fCells)]), (.cells [(dI v2.2.fCode), (dI v2.2.fIndex)]), (.cells [(dI v145.2.fCode), (dI v145.2.fIndex)])]⟩ ((seqQ (X6 n) (cR (cR (cR (cR (cR (cL (cL (cR (cR (cL (cL (cR (cL (cR (cR (cR (cR C6))))))))))))))))) (blkQ (X6 n) 1 [1, 2, 4, 5, 25, 26, 27] 2 (seqQ (X6 n) (cR (cR (cR (cL (cL (cR (cL (cR (cR (cR (cR C6))))))))))) (lpQ (X6 n) [1, 2, 4, 5, 25, 26, 27] 2 (cL (cL (cR (cL (cR (cR (cR (cR C6)))))))) nx137 (blkQ (X6 n) 0 [4] 2 (seqQ (X6 n) (cR (cR (cR (cR (cR C6))))) (fnQ (X6 n).E.T (resOf Proofs.Tryd.prog 6) (eB o)))))))) .normal) := by
                intro d185 d186 v187 v188 h
                unfold f6_r4 at h
                refine Ops.seg' 1 8 (by kernel_rfl) ?_
                have J6j205 : ∀ (d192 d193 d194 d195 d196 d197 d198 d199 d200 d201 d202 : D) (v203 : Bool) (v204 : Bool), f6_r3 m v134 v204 = some sx142 → Ops (X6 n) (opl (cL (cR (cR (cR (cR (cL (cL (cR (cR (cL (cL (cR (cL (cR (cR (cR (cR C6)))))))))))))))))) 20 ⟨q1 ((.v (.str a1)) :: (.ptr 0 0) :: q1 ((dB false) :: (dP eS v2.1) :: q1 ((dI v134) :: (.v (.str v144)) :: q1 ((.ptr 2 0) :: (dB y181.1) :: q13 ((dP eS v2.1) :: (dI ((v2.1.length : Int))) :: (dI v134) :: q10 ((dP e41 v145.1) :: (dI ((v145.1.length : Int))) :: (dI y181.2) :: q11 ((.v (.agg [(vI v145.2.fCode), (vI v145.2.fIndex)])) :: (.v (.agg [(vI 0), (vI 0)])) :: (dB v187) :: (dB v187) :: d185 :: d186 :: (dB v203) :: (dB v203) :: d192 :: d193 :: d194 :: d195 :: d196 :: d197 :: d198 :: d199 :: d200 :: d201 :: d202 :: (dB v204) :: q1 []))))))), [(.cells [(.v (.str a0.fName)), (dP e67 a0.fCells)]), (.cells [(dI v2.2.fCode), (dI v2.2.fIndex)]), (.cells [(dI v145.2.fCode), (dI v145.2.fIndex)])]⟩ ((seqQ (X6 n) (cR (cR (cR (cR (cR (cL (cL (cR (cR (cL (cL (cR (cL (cR (cR (cR (cR C6))))))))))))))))) (blkQ (X6 n) 1 [1, 2, 4, 5, 25, 26, 27] 2 (seqQ (X6 n) (cR (cR (cR (cL (cL (cR (cL (cR (cR (cR (cR C6))))))))))) (lpQ (X6 n) [1, 2, 4, 5, 25, 26, 27] 2 (cL (cL (cR (cL (cR (cR (cR (cR C6)))))))) nx137 (blkQ (X6 n) 0 [4] 2 (seqQ (X6 n) (cR (cR (cR (cR (cR C6))))) (fnQ (X6 n).E.T (resOf Proofs.Tryd.prog 6) (eB o)))))))) .normal) := by
                  intro d192 d193 d194 d195 d196 d197 d198 d199 d200 d201 d202 v203 v204 h
                  unfold f6_r3 at h
                  refine Ops.done (by kernel_rfl) ?_
                  refine seqQ.n ?_
                  refine Wp.cnd h [1, 2, 4, 5, 25, 26, 27] 3 (by kernel_rfl) (fun h => ?_) (fun h => ?_)
                  · refine Wp.seq' (by kernel_rfl) ?_
                    refine Wp.region (by kernel_rfl) ?_
                    refine Ops.seg' 1 1 (by kernel_rfl) ?_
                    refine Ops.done (by kernel_rfl) ?_
                    refine seqQ.n ?_
                    refine Wp.ret (by kernel_rfl) ?_
                    refine sqQ.r ?_
                    refine blkQ.r ?_
                    refine seqQ.r ?_
                    cases h
                    refine lpQ.r ?_
                    refine blkQ.r ?_
                    exact hrx139 _ hsx143 _ (RetOk.forget [1, 2, 4, 5, 25, 26, 27] (by kernel_rfl) (RetOk.mk' (dB false) (by kernel_rfl) (by kernel_rfl)))
                  · refine Wp.skip (by kernel_rfl) ?_
                    refine sqQ.n' ?_
                    refine blkQ.n' ?_
                    refine seqQ.n ?_
                    refine Wp.region (by kernel_rfl) ?_
                    refine Ops.seg' 2 2 (by kernel_rfl) ?_
                    refine Ops.done (by kernel_rfl) ?_
                    refine lpQ.n ⟨q1 ((.v (.str a1)) :: (.ptr 0 0) :: q1 ((dB false) :: (dP eS v2.1) :: q19 ((dP eS v2.1) :: (dI ((v2.1.length : Int))) :: (dI (w64 (v134 + 1))) :: q40 (q5 [])))), [(.cells [(.v (.str a0.fName)), (dP e67 a0.fCells)]), (.cells [(dI v2.2.fCode), (dI v2.2.fIndex)])]⟩ (by kernel_rfl) ?_
                    cases h
                    exact ihx138 (w64 (v134 + 1))  _ hsx143 _ (by omega) hrx139 hxx140
                obtain ⟨v204, ev204, h⟩ := bnd_some h
                have G6g191 : ∀ v190 : Bool, (cnd v190 (some true) (cnd (decide (v134 > 0)) (bnd (idx v2.1 (w64 (v134 - 1))) fun v208 => some (!(Op.bytesLess v208.toList v144.toList))) (some false))) = some v204 → Ops (X6 n) (opl (cL (cR (cR (cR (cR (cL (cL (cR (cR (cL (cL (cR (cL (cR (cR (cR (cR C6)))))))))))))))))) 8 ⟨q1 ((.v (.str a1)) :: (.ptr 0 0) :: q1 ((dB false) :: (dP eS v2.1) :: q1 ((dI v134) :: (.v (.str v144)) :: q1 ((.ptr 2 0) :: (dB y181.1) :: q13 ((dP eS v2.1) :: (dI ((v2.1.length : Int))) :: (dI v134) :: q10 ((dP e41 v145.1) :: (dI ((v145.1.length : Int))) :: (dI y181.2) :: q11 ((.v (.agg [(vI v145.2.fCode), (vI v145.2.fIndex)])) :: (.v (.agg [(vI 0), (vI 0)])) :: (dB v187) :: (dB v187) :: d185 :: d186 :: (dB v190) :: (dB v190) :: q13 []))))))), [(.cells [(.v (.str a0.fName)), (dP e67 a0.fCells)]), (.cells [(dI v2.2.fCode), (dI v2.2.fIndex)]), (.cells [(dI v145.2.fCode), (dI v145.2.fIndex)])]⟩ ((seqQ (X6 n) (cR (cR (cR (cR (cR (cL (cL (cR (cR (cL (cL (cR (cL (cR (cR (cR (cR C6))))))))))))))))) (blkQ (X6 n) 1 [1, 2, 4, 5, 25, 26, 27] 2 (seqQ (X6 n) (cR (cR (cR (cL (cL (cR (cL (cR (cR (cR (cR C6))))))))))) (lpQ (X6 n) [1, 2, 4, 5, 25, 26, 27] 2 (cL (cL (cR (cL (cR (cR (cR (cR C6)))))))) nx137 (blkQ (X6 n) 0 [4] 2 (seqQ (X6 n) (cR (cR (cR (cR (cR C6))))) (fnQ (X6 n).E.T (resOf Proofs.Tryd.prog 6) (eB o)))))))) .normal) := by
                  intro v190 ev204
                  cases v190
                  · have ev204 := cnd_f ev204
                    refine Ops.seg' 3 11 (by kernel_rfl) ?_
                    have G6g207 : ∀ v206 : Bool, (cnd v206 (bnd (idx v2.1 (w64 (v134 - 1))) fun v208 => some (!(Op.bytesLess v208.toList v144.toList))) (some false)) = some v204 → Ops (X6 n) (opl (cL (cR (cR (cR (cR (cL (cL (cR (cR (cL (cL (cR (cL (cR (cR (cR (cR C6)))))))))))))))))) 11 ⟨q1 ((.v (.str a1)) :: (.ptr 0 0) :: q1 ((dB false) :: (dP eS v2.1) :: q1 ((dI v134) :: (.v (.str v144)) :: q1 ((.ptr 2 0) :: (dB y181.1) :: q13 ((dP eS v2.1) :: (dI ((v2.1.length : Int))) :: (dI v134) :: q10 ((dP e41 v145.1) :: (dI ((v145.1.length : Int))) :: (dI y181.2) :: q11 ((.v (.agg [(vI v145.2.fCode), (vI v145.2.fIndex)])) :: (.v (.agg [(vI 0), (vI 0)])) :: (dB v187) :: (dB v187) :: d185 :: d186 :: (dB false) :: (dB false) :: (dI v134) :: (dB v206) :: (dB v206) :: q10 []))))))), [(.cells [(.v (.str a0.fName)), (dP e67 a0.fCells)]), (.cells [(dI v2.2.fCode), (dI v2.2.fIndex)]), (.cells [(dI v145.2.fCode), (dI v145.2.fIndex)])]⟩ ((seqQ (X6 n) (cR (cR (cR (cR (cR (cL (cL (cR (cR (cL (cL (cR (cL (cR (cR (cR (cR C6))))))))))))))))) (blkQ (X6 n) 1 [1, 2, 4, 5, 25, 26, 27] 2 (seqQ (X6 n) (cR (cR (cR (cL (cL (cR (cL (cR (cR (cR (cR C6))))))))))) (lpQ (X6 n) [1, 2, 4, 5, 25, 26, 27] 2 (cL (cL (cR (cL (cR (cR (cR (cR C6)))))))) nx137 (blkQ (X6 n) 0 [4] 2 (seqQ (X6 n) (cR (cR (cR (cR (cR C6))))) (fnQ (X6 n).E.T (resOf Proofs.Tryd.prog 6) (eB o)))))))) .normal) := by
                      intro v206 ev204
                      cases v206
                      · have ev204 := cnd_f ev204
                        refine Ops.seg' 9 20 (by kernel_rfl) ?_
                        refine Ops.st ⟨q1 ((.v (.str a1)) :: (.ptr 0 0) :: q1 ((dB false) :: (dP eS v2.1) :: q1 ((dI v134) :: (.v (.str v144)) :: q1 ((.ptr 2 0) :: (dB y181.1) :: q13 ((dP eS v2.1) :: (dI ((v2.1.length : Int))) :: (dI v134) :: q10 ((dP e41 v145.1) :: (dI ((v145.1.length : Int))) :: (dI y181.2) :: q11 ((.v (.agg [(vI v145.2.fCode), (vI v145.2.fIndex)])) :: (.v (.agg [(vI 0), (vI 0)])) :: (dB v187) :: (dB v187) :: d185 :: d186 :: (dB false) :: (dB false) :: (dI v134) :: (dB false) :: (dB false) :: u7 ((dB false) :: (dB false) :: q1 [])))))))), [(.cells [(.v (.str a0.fName)), (dP e67 a0.fCells)]), (.cells [(dI v2.2.fCode), (dI v2.2.fIndex)]), (.cells [(dI v145.2.fCode), (dI v145.2.fIndex)])]⟩ (by kernel_rfl) ?_
                        exact J6j205 _ _ _ _ _ _ _ _ _ _ _ _ _ (some_sub (fun v204 => f6_r3 m v134 v204 = some sx142) ev204 h)
                      · have ev204 := cnd_t ev204
                        refine Ops.seg' 3 14 (by kernel_rfl) ?_
                        obtain ⟨v208, ev208, ev204⟩ := bnd_some ev204
                        refine Ops.one' 15 (fun h0 e0 => (ix_r (T := T) h0 36 9 1 .plain eS v2.1 (w64 (v134 - 1)) v208 ev208 (by kernel_rfl) (by kernel_rfl) (fun _ => rfl))) (by kernel_rfl) (by kernel_rfl) ?_
                        refine Ops.seg' 5 20 (by kernel_rfl) ?_
                        refine Ops.st ⟨q1 ((.v (.str a1)) :: (.ptr 0 0) :: q1 ((dB false) :: (dP eS v2.1) :: q1 ((dI v134) :: (.v (.str v144)) :: q1 ((.ptr 2 0) :: (dB y181.1) :: q13 ((dP eS v2.1) :: (dI ((v2.1.length : Int))) :: (dI v134) :: q10 ((dP e41 v145.1) :: (dI ((v145.1.length : Int))) :: (dI y181.2) :: q11 ((.v (.agg [(vI v145.2.fCode), (vI v145.2.fIndex)])) :: (.v (.agg [(vI 0), (vI 0)])) :: (dB v187) :: (dB v187) :: d185 :: d186 :: (dB false) :: (dB false) :: (dI v134) :: (dB true) :: (dB true) :: (dP eS v2.1) :: (dI v134) :: (dI (w64 (v134 - 1))) :: (.vptr [(.str v208)]) :: (.v (.str v208)) :: (.v (.str v144)) :: (dB (!(Op.bytesLess v208.toList v144.toList))) :: (dB (!(Op.bytesLess v208.toList v144.toList))) :: (dB (!(Op.bytesLess v208.toList v144.toList))) :: q1 []))))))), [(.cells [(.v (.str a0.fName)), (dP e67 a0.fCells)]), (.cells [(dI v2.2.fCode), (dI v2.2.fIndex)]), (.cells [(dI v145.2.fCode), (dI v145.2.fIndex)])]⟩ (by kernel_rfl) ?_
                        exact J6j205 _ _ _ _ _ _ _ _ _ _ _ _ _ (some_sub (fun v204 => f6_r3 m v134 v204 = some sx142) ev204 h)
                    exact Ops.st ⟨q1 ((.v (.str a1)) :: (.ptr 0 0) :: q1 ((dB false) :: (dP eS v2.1) :: q1 ((dI v134) :: (.v (.str v144)) :: q1 ((.ptr 2 0) :: (dB y181.1) :: q13 ((dP eS v2.1) :: (dI ((v2.1.length : Int))) :: (dI v134) :: q10 ((dP e41 v145.1) :: (dI ((v145.1.length : Int))) :: (dI y181.2) :: q11 ((.v (.agg [(vI v145.2.fCode), (vI v145.2.fIndex)])) :: (.v (.agg [(vI 0), (vI 0)])) :: (dB v187) :: (dB v187) :: d185 :: d186 :: (dB false) :: (dB false) :: (dI v134) :: (dB ((decide (v134 > 0)))) :: (dB ((decide (v134 > 0)))) :: q10 []))))))), [(.cells [(.v (.str a0.fName)), (dP e67 a0.fCells)]), (.cells [(dI v2.2.fCode), (dI v2.2.fIndex)]), (.cells [(dI v145.2.fCode), (dI v145.2.fIndex)])]⟩ (by kernel_rfl) (G6g207 (decide (v134 > 0)) ev204)
                  · have ev204 := cnd_t ev204
                    refine Ops.seg' 12 20 (by kernel_rfl) ?_
                    refine Ops.st ⟨q1 ((.v (.str a1)) :: (.ptr 0 0) :: q1 ((dB false) :: (dP eS v2.1) :: q1 ((dI v134) :: (.v (.str v144)) :: q1 ((.ptr 2 0) :: (dB y181.1) :: q13 ((dP eS v2.1) :: (dI ((v2.1.length : Int))) :: (dI v134) :: q10 ((dP e41 v145.1) :: (dI ((v145.1.length : Int))) :: (dI y181.2) :: q11 ((.v (.agg [(vI v145.2.fCode), (vI v145.2.fIndex)])) :: (.v (.agg [(vI 0), (vI 0)])) :: (dB v187) :: (dB v187) :: d185 :: d186 :: (dB true) :: (dB true) :: u11 ((dB true) :: q1 [])))))))), [(.cells [(.v (.str a0.fName)), (dP e67 a0.fCells)]), (.cells [(dI v2.2.fCode), (dI v2.2.fIndex)]), (.cells [(dI v145.2.fCode), (dI v145.2.fIndex)])]⟩ (by kernel_rfl) ?_
                    exact J6j205 _ _ _ _ _ _ _ _ _ _ _ _ _ (some_sub (fun v204 => f6_r3 m v134 v204 = some sx142) ev204 h)
                exact Ops.st ⟨q1 ((.v (.str a1)) :: (.ptr 0 0) :: q1 ((dB false) :: (dP eS v2.1) :: q1 ((dI v134) :: (.v (.str v144)) :: q1 ((.ptr 2 0) :: (dB y181.1) :: q13 ((dP eS v2.1) :: (dI ((v2.1.length : Int))) :: (dI v134) :: q10 ((dP e41 v145.1) :: (dI ((v145.1.length : Int))) :: (dI y181.2) :: q11 ((.v (.agg [(vI v145.2.fCode), (vI v145.2.fIndex)])) :: (.v (.agg [(vI 0), (vI 0)])) :: (dB v187) :: (dB v187) :: d185 :: d186 :: (dB v188) :: (dB v188) :: q13 []))))))), [(.cells [(.v (.str a0.fName)), (dP e67 a0.fCells)]), (.cells [(dI v2.2.fCode), (dI v2.2.fIndex)]), (.cells [(dI v145.2.fCode), (dI v145.2.fIndex)])]⟩ (by kernel_rfl) (G6g191 v188 ev204)
              have G6g184 : ∀ v183 : Bool, f6_r4 m v2 v134 v144 ((v183 || (!y181.1))) = some sx142 → Ops (X6 n) (opl (cL (cR (cR (cR (cR (cL (cL (cR (cR (cL (cL (cR (cL (cR (cR (cR (cR C6)))))))))))))))))) 4 ⟨q1 ((.v (.str a1)) :: (.ptr 0 0) :: q1 ((dB false) :: (dP eS v2.1) :: q1 ((dI v134) :: (.v (.str v144)) :: q1 ((.ptr 2 0) :: (dB y181.1) :: q13 ((dP eS v2.1) :: (dI ((v2.1.length : Int))) :: (dI v134) :: q10 ((dP e41 v145.1) :: (dI ((v145.1.length : Int))) :: (dI y181.2) :: q11 ((.v (.agg [(vI v145.2.fCode), (vI v145.2.fIndex)])) :: (.v (.agg [(vI 0), (vI 0)])) :: (dB v183) :: (dB v183) :: q17 []))))))), [(.cells [(.v (.str a0.fName)), (dP e67 a0.fCells)]), (.cells [(dI v2.2.fCode), (dI v2.2.fIndex)]), (.cells [(dI v145.2.fCode), (dI v145.2.fIndex)])]⟩ ((seqQ (X6 n) (cR (cR (cR (cR (cR (cL (cL (cR (cR (cL (cL (cR (cL (cR (cR (cR (cR C6))))))))))))))))) (blkQ (X6 n) 1 [1, 2, 4, 5, 25, 26, 27] 2 (seqQ (X6 n) (cR (cR (cR (cL (cL (cR (cL (cR (cR (cR (cR C6))))))))))) (lpQ (X6 n) [1, 2, 4, 5, 25, 26, 27] 2 (cL (cL (cR (cL (cR (cR (cR (cR C6)))))))) nx137 (blkQ (X6 n) 0 [4] 2 (seqQ (X6 n) (cR (cR (cR (cR (cR C6))))) (fnQ (X6 n).E.T (resOf Proofs.Tryd.prog 6) (eB o)))))))) .normal) := by
                intro v183 h
                cases v183
                · refine Ops.seg' 3 7 (by kernel_rfl) ?_
                  refine Ops.st ⟨q1 ((.v (.str a1)) :: (.ptr 0 0) :: q1 ((dB false) :: (dP eS v2.1) :: q1 ((dI v134) :: (.v (.str v144)) :: q1 ((.ptr 2 0) :: (dB y181.1) :: q13 ((dP eS v2.1) :: (dI ((v2.1.length : Int))) :: (dI v134) :: q10 ((dP e41 v145.1) :: (dI ((v145.1.length : Int))) :: (dI y181.2) :: q11 ((.v (.agg [(vI v145.2.fCode), (vI v145.2.fIndex)])) :: (.v (.agg [(vI 0), (vI 0)])) :: (dB false) :: (dB false) :: (dB y181.1) :: (dB (!y181.1)) :: (dB (!y181.1)) :: q14 []))))))), [(.cells [(.v (.str a0.fName)), (dP e67 a0.fCells)]), (.cells [(dI v2.2.fCode), (dI v2.2.fIndex)]), (.cells [(dI v145.2.fCode), (dI v145.2.fIndex)])]⟩ (by kernel_rfl) ?_
                  exact J6j189 _ _ _ _ h
                · refine Ops.seg' 3 7 (by kernel_rfl) ?_
                  refine Ops.st ⟨q1 ((.v (.str a1)) :: (.ptr 0 0) :: q1 ((dB false) :: (dP eS v2.1) :: q1 ((dI v134) :: (.v (.str v144)) :: q1 ((.ptr 2 0) :: (dB y181.1) :: q13 ((dP eS v2.1) :: (dI ((v2.1.length : Int))) :: (dI v134) :: q10 ((dP e41 v145.1) :: (dI ((v145.1.length : Int))) :: (dI y181.2) :: q11 ((.v (.agg [(vI v145.2.fCode), (vI v145.2.fIndex)])) :: (.v (.agg [(vI 0), (vI 0)])) :: (dB true) :: (dB true) :: u2 ((dB true) :: q14 [])))))))), [(.cells [(.v (.str a0.fName)), (dP e67 a0.fCells)]), (.cells [(dI v2.2.fCode), (dI v2.2.fIndex)]), (.cells [(dI v145.2.fCode), (dI v145.2.fIndex)])]⟩ (by kernel_rfl) ?_
                  exact J6j189 _ _ _ _ h
              exact Ops.st ⟨q1 ((.v (.str a1)) :: (.ptr 0 0) :: q1 ((dB false) :: (dP eS v2.1) :: q1 ((dI v134) :: (.v (.str v144)) :: q1 ((.ptr 2 0) :: (dB y181.1) :: q13 ((dP eS v2.1) :: (dI ((v2.1.length : Int))) :: (dI v134) :: q10 ((dP e41 v145.1) :: (dI ((v145.1.length : Int))) :: (dI y181.2) :: q11 ((.v (.agg [(vI v145.2.fCode), (vI v145.2.fIndex)])) :: (.v (.agg [(vI 0), (vI 0)])) :: (dB ((!((v145.2.fCode == 0) && ((v145.2.fIndex == 0) && true))))) :: (dB ((!((v145.2.fCode == 0) && ((v145.2.fIndex == 0) && true))))) :: q17 []))))))), [(.cells [(.v (.str a0.fName)), (dP e67 a0.fCells)]), (.cells [(dI v2.2.fCode), (dI v2.2.fIndex)]), (.cells [(dI v145.2.fCode), (dI v145.2.fIndex)])]⟩ (by kernel_rfl) (G6g184 (!((v145.2.fCode == 0) && ((v145.2.fIndex == 0) && true))) h)
          · refine Wp.exit (id := 0) (by kernel_rfl) ?_
            refine sqQ.x ?_
            refine seqQ.x ?_
            cases h
            refine lpQ.x ?_
            refine blkQ.x ⟨q1 ((.v (.str a1)) :: (.ptr 0 0) :: q1 ((dB false) :: (dP eS v2.1) :: q19 ((dP eS v2.1) :: (dI ((v2.1.length : Int))) :: (dI v134) :: q40 (q5 [])))), [(.cells [(.v (.str a0.fName)), (dP e67 a0.fCells)]), (.cells [(dI v2.2.fCode), (dI v2.2.fIndex)])]⟩ (by kernel_rfl) ?_
            exact hxx140 v134  hsx143
      refine Wp.loop' [1, 2, 4, 5, 25, 26, 27] 2 (by kernel_rfl) ⟨q1 ((.v (.str a1)) :: (.ptr 0 0) :: q1 ((dB false) :: (dP eS v2.1) :: q19 ((dP eS v2.1) :: (dI ((v2.1.length : Int))) :: (dI 0) :: q40 (q5 [])))), [(.cells [(.v (.str a0.fName)), (dP e67 a0.fCells)]), (.cells [(dI v2.2.fCode), (dI v2.2.fIndex)])]⟩ (by kernel_rfl) ?_
      rcases brk_some h with ⟨r211, er211, h⟩ | ⟨y210, ey210, h⟩
      · refine hLx209 _ 0  _ er211 n (by omega) (fun r er σ hσ => ?_) (fun y  ey => by cases ey)
        cases er
        refine seqQ.r ?_
        exact fnQ.r' (X6 n) (fun z => (eB z)) h hσ
      · refine hLx209 _ 0  _ ey210 n (by omega) (fun r er => by cases er) (fun y  ey => ?_)
        cases ey
        refine seqQ.n ?_
        refine Wp.seq' (by kernel_rfl) ?_
        refine Wp.region (by kernel_rfl) ?_
        refine Ops.seg' 1 1 (by kernel_rfl) ?_
        refine Ops.done (by kernel_rfl) ?_
        refine seqQ.n ?_
        refine Wp.ret (by kernel_rfl) ?_
        exact fnQ.r' (X6 n) (fun z => (eB z)) h (RetOk.mk' (dB true) (by kernel_rfl) (by kernel_rfl))

end Go.Abs
