import Derived.Test.YthjhdnonlkooiaaDoorWEnv
namespace Go.Abs
set_option linter.unusedVariables false
set_option maxRecDepth 100000

/-! ### 12 glosswright/glosswrightlaw6.inflected -/
def f12 (m : Nat) : Option Bool := some true
theorem ok12 (m : Nat) (o : Bool) (h : f12 m = some o) (n : Nat) (hn : m + 60 ≤ n) : Fn Proofs.Tryd.prog E n 12 [] (eB o) := by
  cases h
  obtain ⟨n, rfl⟩ : ∃ q, n = q + 60 := ⟨n - 60, by omega⟩
  exact fn_of_runV (by kernel_rfl)

/-! ### 80 glosswright/letters.fault -/
def f80 (m : Nat) (a0 : Int) (a1 : Int) : Option S27 :=
  some ((⟨a0, a1⟩ : S27))
noncomputable abbrev X80 (n : Nat) : Cx := cxOf Proofs.Tryd.prog E 80 n
noncomputable def C80 : Code := bodyOf Proofs.Tryd.prog 80
theorem ok80 (m : Nat) (a0 : Int) (a1 : Int) (o : S27) (h : f80 m a0 a1 = some o) (n : Nat) (hn : m + 1 ≤ n) : Fn Proofs.Tryd.prog E n 80 [eI a0, eI a1] (e27 o) := by
  obtain ⟨n, rfl⟩ : ∃ q, n = q + 1 := ⟨n - 1, by omega⟩
  unfold f80 at h
  refine Fn.of (by kernel_rfl) (by kernel_rfl) ⟨(dI a0) :: (dI a1) :: u6 [], []⟩ (by kernel_rfl) ?_
  refine Wp.seq (subc [0] C80) (subc [1] C80) (by kernel_rfl) ?_
  refine Wp.region (by kernel_rfl) ?_
  refine Ops.seg 1 1 (by kernel_rfl) ⟨(dI a0) :: (dI a1) :: u2 ((.ptr 0 0) :: u3 []), [(.cells [(dI 0), (dI 0)])]⟩ (by kernel_rfl) ?_
  refine Ops.done (by kernel_rfl) ?_
  refine seqQ.n ?_
  refine Wp.seq (subc [1, 0] C80) (subc [1, 1] C80) (by kernel_rfl) ?_
  refine Wp.region (by kernel_rfl) ?_
  refine Ops.seg 4 4 (by kernel_rfl) ⟨(dI a0) :: (dI a1) :: u2 ((.ptr 0 0) :: (dI a0) :: (dI a1) :: (.v (.agg [(vI a0), (vI a1)])) :: []), [(.cells [(dI a0), (dI a1)])]⟩ (by kernel_rfl) ?_
  refine Ops.done (by kernel_rfl) ?_
  refine seqQ.n ?_
  refine Wp.ret (by kernel_rfl) ?_
  exact fnQ.r' (X80 n) (fun z => (e27 z)) h (RetOk.mk' (.v (.agg [(vI a0), (vI a1)])) (by kernel_rfl) (by kernel_rfl))

/-! ### 81 unicode/utf8.DecodeRuneInString -/
def f81 (m : Nat) (a0 : ByteArray) : Option (Int × Int) := some (((Lib.decodeGo a0).1 : Int), ((Lib.decodeGo a0).2 : Int))
theorem ok81 (m : Nat) (a0 : ByteArray) (o : (Int × Int)) (h : f81 m a0 = some o) (n : Nat) (hn : m + 1 ≤ n) : Fn Proofs.Tryd.prog E n 81 [eS a0] (.tuple [(eK .i32) o.1, eI o.2]) := by
  obtain ⟨n, rfl⟩ : ∃ q, n = q + 1 := ⟨n - 1, by omega⟩
  refine ora_fn (by kernel_rfl) (by kernel_rfl) (F := decodeF) ?_ rfl
  cases h
  rfl

/-! ### 60 glosswright/letters.Decode -/
def f60_r1 (m : Nat) (v26 : (List Int)) (v27 : Int) (v38 : (Int × Int)) (v44 : Bool) : Option (Stp (((List Int) × S27)) ((List Int) × Int)) :=
  cnd v44
  (bnd (f80 m 5 v27) fun v46 =>
  some (.ret (([], v46))))
  (bnd (app 8 v26 ([w64 v38.1])) fun v47 =>
  some (.nxt (v47, w64 (v27 + v38.2))))
def f60_B2 (m : Nat) (a0 : ByteArray) (v26 : (List Int)) (v27 : Int) : Option (Stp (((List Int) × S27)) ((List Int) × Int)) :=
  cnd (decide (v27 < (a0.size : Int)))
  (bnd (ssub a0 v27 (a0.size : Int)) fun v37 =>
  bnd (f81 m v37) fun v38 =>
  f60_r1 m v26 v27 v38 (((v38.1 == 65533) && (decide (v38.2 ≤ 1)))))
  (some (.brk (v26, v27)))
def f60 (m : Nat) (a0 : ByteArray) : Option ((List Int) × S27) :=
  cnd (decide ((a0.size : Int) > 4000))
  (bnd (f80 m 1 ((-1))) fun v1 =>
  some (([], v1)))
  (brk (iter (fun (y : (List Int) × Int) => f60_B2 m a0 y.1 y.2) m ([], 0)) some fun y49 =>
  some ((y49.1, (⟨0, 0⟩ : S27))))
noncomputable abbrev X60 (n : Nat) : Cx := cxOf Proofs.Tryd.prog E 60 n
noncomputable def C60 : Code := bodyOf Proofs.Tryd.prog 60
theorem ok60 (m : Nat) (a0 : ByteArray) (o : ((List Int) × S27)) (h : f60 m a0 = some o) (n : Nat) (hn : m + 2 ≤ n) : Fn Proofs.Tryd.prog E n 60 [eS a0] (.tuple [(eL eI) o.1, e27 o.2]) := by
  obtain ⟨n, rfl⟩ : ∃ q, n = q + 1 := ⟨n - 1, by omega⟩
  unfold f60 at h
  refine Fn.of (by kernel_rfl) (by kernel_rfl) ⟨(.v (.str a0)) :: u40 [], []⟩ (by kernel_rfl) ?_
  refine Wp.seq (subc [0] C60) (subc [1] C60) (by kernel_rfl) ?_
  refine Wp.region (by kernel_rfl) ?_
  refine Ops.seg 2 2 (by kernel_rfl) ⟨(.v (.str a0)) :: u1 ((.v (.sl .nil (List.map eI []))) :: (.ptr 0 0) :: u37 []), [(.cells [(dI 0), (dI 0)])]⟩ (by kernel_rfl) ?_
  refine Ops.done (by kernel_rfl) ?_
  refine seqQ.n ?_
  refine Wp.seq (subc [1, 0] C60) (subc [1, 1] C60) (by kernel_rfl) ?_
  refine Wp.seq (subc [1, 0, 0] C60) (subc [1, 0, 1] C60) (by kernel_rfl) ?_
  refine Wp.region (by kernel_rfl) ?_
  refine Ops.seg 3 3 (by kernel_rfl) ⟨(.v (.str a0)) :: u1 ((.v (.sl .nil (List.map eI []))) :: (.ptr 0 0) :: u4 ((.v (.str a0)) :: (dI ((a0.size : Int))) :: (dB (decide ((a0.size : Int) > 4000))) :: u30 [])), [(.cells [(dI 0), (dI 0)])]⟩ (by kernel_rfl) ?_
  refine Ops.done (by kernel_rfl) ?_
  refine seqQ.n ?_
  rcases cnd_some h with ⟨hb, h⟩ | ⟨hb, h⟩
  · refine Wp.cond (decide ((a0.size : Int) > 4000)) [0, 2, 3] (by kernel_rfl) 1 (by kernel_rfl) (subc [1, 0, 1, 0] C60) (subc [1, 0, 1, 1] C60) (by kernel_rfl) (by kernel_rfl) (fun _ => ?_) (fun e => nomatch (hb.symm.trans e))
    refine Wp.seq (subc [1, 0, 1, 0, 0] C60) (subc [1, 0, 1, 0, 1] C60) (by kernel_rfl) ?_
    refine Wp.region (by kernel_rfl) ?_
    obtain ⟨v1, ev1, h⟩ := bnd_some h
    refine Ops.one 1 (by kernel_rfl) (callD (X60 n).E (run Proofs.Tryd.prog E n) 80 [(dI 1), (dI ((-1)))] [(.cells [(dI 0), (dI 0)])]) (.v (.agg [(vI v1.fCode), (vI v1.fIndex)])) [(.cells [(dI 0), (dI 0)])] ⟨(.v (.str a0)) :: u1 ((.v (.sl .nil (List.map eI []))) :: (.ptr 0 0) :: u4 ((.v (.str a0)) :: (dI ((a0.size : Int))) :: (dB (decide ((a0.size : Int) > 4000))) :: (.v (.agg [(vI v1.fCode), (vI v1.fIndex)])) :: u29 [])), [(.cells [(dI 0), (dI 0)])]⟩ (by kernel_rfl) (call_ok (by kernel_rfl) (Args.v (vI 1) (eI 1) (by kernel_rfl) (Args.v (vI ((-1))) (eI ((-1))) (by kernel_rfl) Args.nil)) (ok80 m 1 ((-1)) v1 ev1 n (by omega))) (by kernel_rfl) ?_
    refine Ops.seg 2 3 (by kernel_rfl) ⟨(.v (.str a0)) :: u1 ((.v (.sl .nil (List.map eI []))) :: (.ptr 0 0) :: u4 ((.v (.str a0)) :: (dI ((a0.size : Int))) :: (dB (decide ((a0.size : Int) > 4000))) :: (.v (.agg [(vI v1.fCode), (vI v1.fIndex)])) :: u29 [])), [(.cells [(dI v1.fCode), (dI v1.fIndex)])]⟩ (by kernel_rfl) ?_
    refine Ops.done (by kernel_rfl) ?_
    refine seqQ.n ?_
    refine Wp.ret (by kernel_rfl) ?_
    refine sqQ.r ?_
    refine seqQ.r ?_
    exact fnQ.r' (X60 n) (fun z => (.tuple [(eL eI) z.1, e27 z.2])) h (RetOk.mk' (.v (.tuple [(.sl .nil (List.map eI [])), (.agg [(vI v1.fCode), (vI v1.fIndex)])])) (by kernel_rfl) (by kernel_rfl))
  · refine Wp.cond (decide ((a0.size : Int) > 4000)) [0, 2, 3] (by kernel_rfl) 1 (by kernel_rfl) (subc [1, 0, 1, 0] C60) (subc [1, 0, 1, 1] C60) (by kernel_rfl) (by kernel_rfl) (fun e => nomatch (hb.symm.trans e)) (fun _ => ?_)
    refine Wp.skip (by kernel_rfl) ?_
    refine sqQ.n ⟨(.v (.str a0)) :: q1 ((.v (.sl .nil (List.map eI []))) :: (.ptr 0 0) :: q37 []), [(.cells [(dI 0), (dI 0)]), .dead]⟩ (by kernel_rfl) ?_
    refine seqQ.n ?_
    refine Wp.seq (subc [1, 1, 0] C60) (subc [1, 1, 1] C60) (by kernel_rfl) ?_
    refine Wp.region (by kernel_rfl) ?_
    refine Ops.seg 1 1 (by kernel_rfl) ⟨(.v (.str a0)) :: q1 ((.v (.sl .nil (List.map eI []))) :: (.ptr 0 0) :: (.v (.sl .nil (List.map eI []))) :: q36 []), [(.cells [(dI 0), (dI 0)]), .dead]⟩ (by kernel_rfl) ?_
    refine Ops.done (by kernel_rfl) ?_
    refine seqQ.n ?_
    refine Wp.seq (subc [1, 1, 1, 0] C60) (subc [1, 1, 1, 1] C60) (by kernel_rfl) ?_
    refine Wp.seq (subc [1, 1, 1, 0, 0] C60) (subc [1, 1, 1, 0, 1] C60) (by kernel_rfl) ?_
    refine Wp.region (by kernel_rfl) ?_
    refine Ops.seg 1 1 (by kernel_rfl) ⟨(.v (.str a0)) :: q1 ((.v (.sl .nil (List.map eI []))) :: (.ptr 0 0) :: (.v (.sl .nil (List.map eI []))) :: (dI 0) :: q35 []), [(.cells [(dI 0), (dI 0)]), .dead]⟩ (by kernel_rfl) ?_
    refine Ops.done (by kernel_rfl) ?_
    refine seqQ.n ?_
    refine Wp.block (id := 0) [2, 3, 4] (by kernel_rfl) 2 (by kernel_rfl) (subc [1, 1, 1, 0, 1, 0] C60) (by kernel_rfl) ?_
    have hLx48 : ∀ (kx29 : Nat) (v26 : (List Int)) (v27 : Int)  (ox28 : ((List Int) × S27) ⊕ ((List Int) × Int)), iter (fun (y : (List Int) × Int) => f60_B2 m a0 y.1 y.2) kx29 (v26, v27) = some ox28 → ∀ nx30, kx29 ≤ nx30 → (∀ r, ox28 = .inl r → ∀ σ, RetOk (X60 n) (resOf Proofs.Tryd.prog 60) (.tuple [(eL eI) r.1, e27 r.2]) σ → (seqQ (X60 n) (subc [1, 1, 1, 1] C60) (fnQ (X60 n).E.T (resOf Proofs.Tryd.prog 60) (.tuple [(eL eI) o.1, e27 o.2]))) .ret σ) → (∀ (y : (List Int) × Int) , ox28 = .inr y → (seqQ (X60 n) (subc [1, 1, 1, 1] C60) (fnQ (X60 n).E.T (resOf Proofs.Tryd.prog 60) (.tuple [(eL eI) o.1, e27 o.2]))) .normal ⟨q2 ((.v (.sl .nil (List.map eI []))) :: (.ptr 0 0) :: (appD 2 (List.map eI y.1)) :: q36 []), [(.cells [(dI 0), (dI 0)]), .dead, (appO 1 (List.map eI y.1))]⟩) → Lp (X60 n) [0, 2, 3, 4, 5] 2 (subc [1, 1, 1, 0, 1, 0, 0] C60) nx30 ⟨(.v (.str a0)) :: q1 ((.v (.sl .nil (List.map eI []))) :: (.ptr 0 0) :: (appD 2 (List.map eI v26)) :: (dI v27) :: q35 []), [(.cells [(dI 0), (dI 0)]), .dead, (appO 1 (List.map eI v26))]⟩ (blkQ (X60 n) 0 [2, 3, 4] 2 (seqQ (X60 n) (subc [1, 1, 1, 1] C60) (fnQ (X60 n).E.T (resOf Proofs.Tryd.prog 60) (.tuple [(eL eI) o.1, e27 o.2])))) := by
      intro kx29
      induction kx29 with
      | zero => intro v26 v27  ox28 h; exact (iter_zero h).elim
      | succ kx29 ihx31 =>
        intro v26 v27  ox28 h nx30 hnx34 hrx32 hxx33
        obtain ⟨nx30, rfl⟩ : ∃ q, nx30 = q + 1 := ⟨nx30 - 1, by omega⟩
        obtain ⟨sx35, h, hsx36⟩ := iter_some h
        have h : f60_B2 m a0 v26 v27 = some sx35 := h
        unfold f60_B2 at h
        refine Lp.succ ?_
        refine Wp.seq (subc [1, 1, 1, 0, 1, 0, 0, 0] C60) (subc [1, 1, 1, 0, 1, 0, 0, 1] C60) (by kernel_rfl) ?_
        refine Wp.seq (subc [1, 1, 1, 0, 1, 0, 0, 0, 0] C60) (subc [1, 1, 1, 0, 1, 0, 0, 0, 1] C60) (by kernel_rfl) ?_
        refine Wp.region (by kernel_rfl) ?_
        refine Ops.seg 4 4 (by kernel_rfl) ⟨(.v (.str a0)) :: q1 ((.v (.sl .nil (List.map eI []))) :: (.ptr 0 0) :: (appD 2 (List.map eI v26)) :: (dI v27) :: q6 ((dI v27) :: (.v (.str a0)) :: (dI ((a0.size : Int))) :: (dB (decide (v27 < (a0.size : Int)))) :: q25 [])), [(.cells [(dI 0), (dI 0)]), .dead, (appO 1 (List.map eI v26))]⟩ (by kernel_rfl) ?_
        refine Ops.done (by kernel_rfl) ?_
        refine seqQ.n ?_
        rcases cnd_some h with ⟨hb, h⟩ | ⟨hb, h⟩
        · refine Wp.cond (decide (v27 < (a0.size : Int))) [0, 2, 3, 4, 5] (by kernel_rfl) 3 (by kernel_rfl) (subc [1, 1, 1, 0, 1, 0, 0, 0, 1, 0] C60) (subc [1, 1, 1, 0, 1, 0, 0, 0, 1, 1] C60) (by kernel_rfl) (by kernel_rfl) (fun _ => ?_) (fun e => nomatch (hb.symm.trans e))
          refine Wp.skip (by kernel_rfl) ?_
          refine sqQ.n ⟨(.v (.str a0)) :: q1 ((.v (.sl .nil (List.map eI []))) :: (.ptr 0 0) :: (appD 3 (List.map eI v26)) :: (dI v27) :: q35 []), [(.cells [(dI 0), (dI 0)]), .dead, .dead, (appO 1 (List.map eI v26))]⟩ (by generalize v26 = z0; cases z0 <;> kernel_rfl) ?_
          refine seqQ.n ?_
          refine Wp.block (id := 1) [0, 2, 3, 4, 5] (by kernel_rfl) 4 (by kernel_rfl) (subc [1, 1, 1, 0, 1, 0, 0, 1, 0] C60) (by kernel_rfl) ?_
          refine Wp.seq (subc [1, 1, 1, 0, 1, 0, 0, 1, 0, 0] C60) (subc [1, 1, 1, 0, 1, 0, 0, 1, 0, 1] C60) (by kernel_rfl) ?_
          refine Wp.region (by kernel_rfl) ?_
          refine Ops.seg 2 2 (by kernel_rfl) ⟨(.v (.str a0)) :: q1 ((.v (.sl .nil (List.map eI []))) :: (.ptr 0 0) :: (appD 3 (List.map eI v26)) :: (dI v27) :: q11 ((.v (.str a0)) :: (dI v27) :: q22 [])), [(.cells [(dI 0), (dI 0)]), .dead, .dead, (appO 1 (List.map eI v26))]⟩ (by kernel_rfl) ?_
          obtain ⟨v37, ev37, h⟩ := bnd_some h
          refine Ops.one 3 (by kernel_rfl) ((sliceD (X60 n).E.T [(.cells [(dI 0), (dI 0)]), .dead, .dead, (appO 1 (List.map eI v26))] 9 (D.unt (.v (.str a0))) (some ((dI v27))) none none).map (·, [(.cells [(dI 0), (dI 0)]), .dead, .dead, (appO 1 (List.map eI v26))])) (.v (.str v37)) [(.cells [(dI 0), (dI 0)]), .dead, .dead, (appO 1 (List.map eI v26))] ⟨(.v (.str a0)) :: q1 ((.v (.sl .nil (List.map eI []))) :: (.ptr 0 0) :: (appD 3 (List.map eI v26)) :: (dI v27) :: q11 ((.v (.str a0)) :: (dI v27) :: (.v (.str v37)) :: q21 [])), [(.cells [(dI 0), (dI 0)]), .dead, .dead, (appO 1 (List.map eI v26))]⟩ (by kernel_rfl) (str_sub _ 9 a0 v37 (some v27) none ev37 (by kernel_rfl)) (by kernel_rfl) ?_
          obtain ⟨v38, ev38, h⟩ := bnd_some h
          refine Ops.one 4 (by kernel_rfl) (callD (X60 n).E (run Proofs.Tryd.prog E n) 81 [(.v (.str v37))] [(.cells [(dI 0), (dI 0)]), .dead, .dead, (appO 1 (List.map eI v26))]) (.v (.tuple [(.int .i32 v38.1), (vI v38.2)])) [(.cells [(dI 0), (dI 0)]), .dead, .dead, (appO 1 (List.map eI v26))] ⟨(.v (.str a0)) :: q1 ((.v (.sl .nil (List.map eI []))) :: (.ptr 0 0) :: (appD 3 (List.map eI v26)) :: (dI v27) :: q11 ((.v (.str a0)) :: (dI v27) :: (.v (.str v37)) :: (.v (.tuple [(.int .i32 v38.1), (vI v38.2)])) :: q20 [])), [(.cells [(dI 0), (dI 0)]), .dead, .dead, (appO 1 (List.map eI v26))]⟩ (by kernel_rfl) (call_ok (by kernel_rfl) (Args.v (.str v37) (eS v37) (by kernel_rfl) Args.nil) (ok81 m v37 v38 ev38 n (by omega))) (by kernel_rfl) ?_
          refine Ops.seg 5 9 (by kernel_rfl) ⟨(.v (.str a0)) :: q1 ((.v (.sl .nil (List.map eI []))) :: (.ptr 0 0) :: (appD 3 (List.map eI v26)) :: (dI v27) :: (.v (.int .i32 v38.1)) :: (dI v38.2) :: q8 ((.v (.tuple [(.int .i32 v38.1), (vI v38.2)])) :: (.v (.str a0)) :: (dI v27) :: (.v (.str v37)) :: (.v (.tuple [(.int .i32 v38.1), (vI v38.2)])) :: (.v (.int .i32 v38.1)) :: (dI v38.2) :: q18 [])), [(.cells [(dI 0), (dI 0)]), .dead, .dead, (appO 1 (List.map eI v26))]⟩ (by kernel_rfl) ?_
          refine Ops.done (by kernel_rfl) ?_
          refine seqQ.n ?_
          refine Wp.seq (subc [1, 1, 1, 0, 1, 0, 0, 1, 0, 1, 0] C60) (subc [1, 1, 1, 0, 1, 0, 0, 1, 0, 1, 1] C60) (by kernel_rfl) ?_
          refine Wp.seq (subc [1, 1, 1, 0, 1, 0, 0, 1, 0, 1, 0, 0] C60) (subc [1, 1, 1, 0, 1, 0, 0, 1, 0, 1, 0, 1] C60) (by kernel_rfl) ?_
          refine Wp.region (by kernel_rfl) ?_
          refine Ops.seg 3 3 (by kernel_rfl) ⟨(.v (.str a0)) :: q1 ((.v (.sl .nil (List.map eI []))) :: (.ptr 0 0) :: (appD 3 (List.map eI v26)) :: (dI v27) :: (.v (.int .i32 v38.1)) :: (dI v38.2) :: q8 ((.v (.tuple [(.int .i32 v38.1), (vI v38.2)])) :: (.v (.str a0)) :: (dI v27) :: (.v (.str v37)) :: (.v (.tuple [(.int .i32 v38.1), (vI v38.2)])) :: (.v (.int .i32 v38.1)) :: (dI v38.2) :: (.v (.int .i32 v38.1)) :: (dB (v38.1 == 65533)) :: (dB (v38.1 == 65533)) :: q15 [])), [(.cells [(dI 0), (dI 0)]), .dead, .dead, (appO 1 (List.map eI v26))]⟩ (by kernel_rfl) ?_
          have J60j45 : ∀ (d41 d42 : D) (v43 : Bool) (v44 : Bool), f60_r1 m v26 v27 v38 v44 = some sx35 → Ops (X60 n) (opl (subc [1, 1, 1, 0, 1, 0, 0, 1, 0, 1, 0, 0] C60)) 6 ⟨(.v (.str a0)) :: q1 ((.v (.sl .nil (List.map eI []))) :: (.ptr 0 0) :: (appD 3 (List.map eI v26)) :: (dI v27) :: (.v (.int .i32 v38.1)) :: (dI v38.2) :: q8 ((.v (.tuple [(.int .i32 v38.1), (vI v38.2)])) :: (.v (.str a0)) :: (dI v27) :: (.v (.str v37)) :: (.v (.tuple [(.int .i32 v38.1), (vI v38.2)])) :: (.v (.int .i32 v38.1)) :: (dI v38.2) :: (.v (.int .i32 v38.1)) :: (dB v43) :: (dB v43) :: d41 :: d42 :: (dB v44) :: q12 [])), [(.cells [(dI 0), (dI 0)]), .dead, .dead, (appO 1 (List.map eI v26))]⟩ ((seqQ (X60 n) (subc [1, 1, 1, 0, 1, 0, 0, 1, 0, 1, 0, 1] C60) (seqQ (X60 n) (subc [1, 1, 1, 0, 1, 0, 0, 1, 0, 1, 1] C60) (blkQ (X60 n) 1 [0, 2, 3, 4, 5] 4 (lpQ (X60 n) [0, 2, 3, 4, 5] 2 (subc [1, 1, 1, 0, 1, 0, 0] C60) nx30 (blkQ (X60 n) 0 [2, 3, 4] 2 (seqQ (X60 n) (subc [1, 1, 1, 1] C60) (fnQ (X60 n).E.T (resOf Proofs.Tryd.prog 60) (.tuple [(eL eI) o.1, e27 o.2])))))))) .normal) := by
            intro d41 d42 v43 v44 h
            unfold f60_r1 at h
            refine Ops.done (by kernel_rfl) ?_
            refine seqQ.n ?_
            rcases cnd_some h with ⟨hb, h⟩ | ⟨hb, h⟩
            · refine Wp.cond v44 [0, 2, 3, 4, 5, 6, 7] (by kernel_rfl) 4 (by kernel_rfl) (subc [1, 1, 1, 0, 1, 0, 0, 1, 0, 1, 0, 1, 0] C60) (subc [1, 1, 1, 0, 1, 0, 0, 1, 0, 1, 0, 1, 1] C60) (by kernel_rfl) (by kernel_rfl) (fun _ => ?_) (fun e => nomatch (hb.symm.trans e))
              refine Wp.seq (subc [1, 1, 1, 0, 1, 0, 0, 1, 0, 1, 0, 1, 0, 0] C60) (subc [1, 1, 1, 0, 1, 0, 0, 1, 0, 1, 0, 1, 0, 1] C60) (by kernel_rfl) ?_
              refine Wp.region (by kernel_rfl) ?_
              refine Ops.seg 1 1 (by kernel_rfl) ⟨(.v (.str a0)) :: q1 ((.v (.sl .nil (List.map eI []))) :: (.ptr 0 0) :: (appD 3 (List.map eI v26)) :: (dI v27) :: (.v (.int .i32 v38.1)) :: (dI v38.2) :: q8 ((.v (.tuple [(.int .i32 v38.1), (vI v38.2)])) :: (.v (.str a0)) :: (dI v27) :: (.v (.str v37)) :: (.v (.tuple [(.int .i32 v38.1), (vI v38.2)])) :: (.v (.int .i32 v38.1)) :: (dI v38.2) :: (.v (.int .i32 v38.1)) :: (dB v43) :: (dB v43) :: d41 :: d42 :: (dB v44) :: (dI v27) :: q11 [])), [(.cells [(dI 0), (dI 0)]), .dead, .dead, (appO 1 (List.map eI v26))]⟩ (by kernel_rfl) ?_
              obtain ⟨v46, ev46, h⟩ := bnd_some h
              refine Ops.one 2 (by kernel_rfl) (callD (X60 n).E (run Proofs.Tryd.prog E n) 80 [(dI 5), (dI v27)] [(.cells [(dI 0), (dI 0)]), .dead, .dead, (appO 1 (List.map eI v26))]) (.v (.agg [(vI v46.fCode), (vI v46.fIndex)])) [(.cells [(dI 0), (dI 0)]), .dead, .dead, (appO 1 (List.map eI v26))] ⟨(.v (.str a0)) :: q1 ((.v (.sl .nil (List.map eI []))) :: (.ptr 0 0) :: (appD 3 (List.map eI v26)) :: (dI v27) :: (.v (.int .i32 v38.1)) :: (dI v38.2) :: q8 ((.v (.tuple [(.int .i32 v38.1), (vI v38.2)])) :: (.v (.str a0)) :: (dI v27) :: (.v (.str v37)) :: (.v (.tuple [(.int .i32 v38.1), (vI v38.2)])) :: (.v (.int .i32 v38.1)) :: (dI v38.2) :: (.v (.int .i32 v38.1)) :: (dB v43) :: (dB v43) :: d41 :: d42 :: (dB v44) :: (dI v27) :: (.v (.agg [(vI v46.fCode), (vI v46.fIndex)])) :: q10 [])), [(.cells [(dI 0), (dI 0)]), .dead, .dead, (appO 1 (List.map eI v26))]⟩ (by kernel_rfl) (call_ok (by kernel_rfl) (Args.v (vI 5) (eI 5) (by kernel_rfl) (Args.v (vI v27) (eI v27) (by kernel_rfl) Args.nil)) (ok80 m 5 v27 v46 ev46 n (by omega))) (by kernel_rfl) ?_
              refine Ops.seg 2 4 (by kernel_rfl) ⟨(.v (.str a0)) :: q1 ((.v (.sl .nil (List.map eI []))) :: (.ptr 0 0) :: (appD 3 (List.map eI v26)) :: (dI v27) :: (.v (.int .i32 v38.1)) :: (dI v38.2) :: q8 ((.v (.tuple [(.int .i32 v38.1), (vI v38.2)])) :: (.v (.str a0)) :: (dI v27) :: (.v (.str v37)) :: (.v (.tuple [(.int .i32 v38.1), (vI v38.2)])) :: (.v (.int .i32 v38.1)) :: (dI v38.2) :: (.v (.int .i32 v38.1)) :: (dB v43) :: (dB v43) :: d41 :: d42 :: (dB v44) :: (dI v27) :: (.v (.agg [(vI v46.fCode), (vI v46.fIndex)])) :: q10 [])), [(.cells [(dI v46.fCode), (dI v46.fIndex)]), .dead, .dead, (appO 1 (List.map eI v26))]⟩ (by kernel_rfl) ?_
              refine Ops.done (by kernel_rfl) ?_
              refine seqQ.n ?_
              refine Wp.ret (by kernel_rfl) ?_
              refine sqQ.r ?_
              refine seqQ.r ?_
              refine blkQ.r ?_
              cases h
              refine lpQ.r ?_
              refine blkQ.r ?_
              exact hrx32 _ hsx36 _ (RetOk.forget [0, 2, 3, 4, 5] (by kernel_rfl) (RetOk.mk' (.v (.tuple [(.sl .nil (List.map eI [])), (.agg [(vI v46.fCode), (vI v46.fIndex)])])) (by kernel_rfl) (by kernel_rfl)))
            · refine Wp.cond v44 [0, 2, 3, 4, 5, 6, 7] (by kernel_rfl) 4 (by kernel_rfl) (subc [1, 1, 1, 0, 1, 0, 0, 1, 0, 1, 0, 1, 0] C60) (subc [1, 1, 1, 0, 1, 0, 0, 1, 0, 1, 0, 1, 1] C60) (by kernel_rfl) (by kernel_rfl) (fun e => nomatch (hb.symm.trans e)) (fun _ => ?_)
              refine Wp.skip (by kernel_rfl) ?_
              refine sqQ.n ⟨(.v (.str a0)) :: q1 ((.v (.sl .nil (List.map eI []))) :: (.ptr 0 0) :: (appD 4 (List.map eI v26)) :: (dI v27) :: (.v (.int .i32 v38.1)) :: (dI v38.2) :: q33 []), [(.cells [(dI 0), (dI 0)]), .dead, .dead, .dead, (appO 1 (List.map eI v26))]⟩ (by generalize v26 = z0; cases z0 <;> kernel_rfl) ?_
              refine seqQ.n ?_
              refine Wp.seq (subc [1, 1, 1, 0, 1, 0, 0, 1, 0, 1, 1, 0] C60) (subc [1, 1, 1, 0, 1, 0, 0, 1, 0, 1, 1, 1] C60) (by kernel_rfl) ?_
              refine Wp.region (by kernel_rfl) ?_
              refine Ops.seg 4 4 (by kernel_rfl) ⟨(.v (.str a0)) :: q1 ((.v (.sl .nil (List.map eI []))) :: (.ptr 0 0) :: (appD 4 (List.map eI v26)) :: (dI v27) :: (.v (.int .i32 v38.1)) :: (dI v38.2) :: q23 ((appD 4 (List.map eI v26)) :: (.v (.int .i32 v38.1)) :: (dI (w64 v38.1)) :: (.v (.sl .nonfull (List.map eI ([w64 v38.1])))) :: q6 [])), [(.cells [(dI 0), (dI 0)]), .dead, .dead, .dead, (appO 1 (List.map eI v26))]⟩ (by kernel_rfl) ?_
              obtain ⟨v47, ev47, h⟩ := bnd_some h
              refine Ops.one 5 (by kernel_rfl) (appendD (X60 n).E.T false 44 [(.cells [(dI 0), (dI 0)]), .dead, .dead, .dead, (appO 1 (List.map eI v26))] (appD 4 (List.map eI v26)) (.v (.sl .nonfull (List.map eI ([w64 v38.1]))))) (appD 5 (List.map eI v47)) [(.cells [(dI 0), (dI 0)]), .dead, .dead, .dead, .dead, (appO 1 (List.map eI v47))] ⟨(.v (.str a0)) :: q1 ((.v (.sl .nil (List.map eI []))) :: (.ptr 0 0) :: (appD 4 (List.map eI v26)) :: (dI v27) :: (.v (.int .i32 v38.1)) :: (dI v38.2) :: q23 ((appD 4 (List.map eI v26)) :: (.v (.int .i32 v38.1)) :: (dI (w64 v38.1)) :: (.v (.sl .nonfull (List.map eI ([w64 v38.1])))) :: (appD 5 (List.map eI v47)) :: q5 [])), [(.cells [(dI 0), (dI 0)]), .dead, .dead, .dead, .dead, (appO 1 (List.map eI v47))]⟩ (by kernel_rfl) (app_r _ 44 3 4 1 ti3 .nonfull eI v26 ([w64 v38.1]) v47 ev47 (by kernel_rfl) (by kernel_rfl) (by kernel_rfl) (by kernel_rfl) (fun _ => rfl) (by kernel_rfl)) (by kernel_rfl) ?_
              refine Ops.seg 1 6 (by kernel_rfl) ⟨(.v (.str a0)) :: q1 ((.v (.sl .nil (List.map eI []))) :: (.ptr 0 0) :: (appD 5 (List.map eI v47)) :: (dI v27) :: (.v (.int .i32 v38.1)) :: (dI v38.2) :: q23 ((appD 4 (List.map eI v26)) :: (.v (.int .i32 v38.1)) :: (dI (w64 v38.1)) :: (.v (.sl .nonfull (List.map eI ([w64 v38.1])))) :: (appD 5 (List.map eI v47)) :: q5 [])), [(.cells [(dI 0), (dI 0)]), .dead, .dead, .dead, .dead, (appO 1 (List.map eI v47))]⟩ (by kernel_rfl) ?_
              refine Ops.done (by kernel_rfl) ?_
              refine seqQ.n ?_
              refine Wp.region (by kernel_rfl) ?_
              refine Ops.seg 4 4 (by kernel_rfl) ⟨(.v (.str a0)) :: q1 ((.v (.sl .nil (List.map eI []))) :: (.ptr 0 0) :: (appD 5 (List.map eI v47)) :: (dI (w64 (v27 + v38.2))) :: (.v (.int .i32 v38.1)) :: (dI v38.2) :: q23 ((appD 4 (List.map eI v26)) :: (.v (.int .i32 v38.1)) :: (dI (w64 v38.1)) :: (.v (.sl .nonfull (List.map eI ([w64 v38.1])))) :: (appD 5 (List.map eI v47)) :: (dI v27) :: (dI v38.2) :: (dI (w64 (v27 + v38.2))) :: q2 [])), [(.cells [(dI 0), (dI 0)]), .dead, .dead, .dead, .dead, (appO 1 (List.map eI v47))]⟩ (by kernel_rfl) ?_
              refine Ops.done (by kernel_rfl) ?_
              refine blkQ.n ⟨(.v (.str a0)) :: q1 ((.v (.sl .nil (List.map eI []))) :: (.ptr 0 0) :: (appD 4 (List.map eI v47)) :: (dI (w64 (v27 + v38.2))) :: q35 []), [(.cells [(dI 0), (dI 0)]), .dead, .dead, .dead, (appO 1 (List.map eI v47))]⟩ (by generalize v47 = z0; cases z0 <;> kernel_rfl) ?_
              refine lpQ.n ⟨(.v (.str a0)) :: q1 ((.v (.sl .nil (List.map eI []))) :: (.ptr 0 0) :: (appD 2 (List.map eI v47)) :: (dI (w64 (v27 + v38.2))) :: q35 []), [(.cells [(dI 0), (dI 0)]), .dead, (appO 1 (List.map eI v47))]⟩ (by generalize v47 = z0; cases z0 <;> kernel_rfl) ?_
              cases h
              exact ihx31 v47 (w64 (v27 + v38.2))  _ hsx36 _ (by omega) hrx32 hxx33
          have G60g40 : ∀ v39 : Bool, f60_r1 m v26 v27 v38 ((v39 && (decide (v38.2 ≤ 1)))) = some sx35 → Ops (X60 n) (opl (subc [1, 1, 1, 0, 1, 0, 0, 1, 0, 1, 0, 0] C60)) 3 ⟨(.v (.str a0)) :: q1 ((.v (.sl .nil (List.map eI []))) :: (.ptr 0 0) :: (appD 3 (List.map eI v26)) :: (dI v27) :: (.v (.int .i32 v38.1)) :: (dI v38.2) :: q8 ((.v (.tuple [(.int .i32 v38.1), (vI v38.2)])) :: (.v (.str a0)) :: (dI v27) :: (.v (.str v37)) :: (.v (.tuple [(.int .i32 v38.1), (vI v38.2)])) :: (.v (.int .i32 v38.1)) :: (dI v38.2) :: (.v (.int .i32 v38.1)) :: (dB v39) :: (dB v39) :: q15 [])), [(.cells [(dI 0), (dI 0)]), .dead, .dead, (appO 1 (List.map eI v26))]⟩ ((seqQ (X60 n) (subc [1, 1, 1, 0, 1, 0, 0, 1, 0, 1, 0, 1] C60) (seqQ (X60 n) (subc [1, 1, 1, 0, 1, 0, 0, 1, 0, 1, 1] C60) (blkQ (X60 n) 1 [0, 2, 3, 4, 5] 4 (lpQ (X60 n) [0, 2, 3, 4, 5] 2 (subc [1, 1, 1, 0, 1, 0, 0] C60) nx30 (blkQ (X60 n) 0 [2, 3, 4] 2 (seqQ (X60 n) (subc [1, 1, 1, 1] C60) (fnQ (X60 n).E.T (resOf Proofs.Tryd.prog 60) (.tuple [(eL eI) o.1, e27 o.2])))))))) .normal) := by
            intro v39 h
            cases v39
            · refine Ops.seg 3 6 (by kernel_rfl) ⟨(.v (.str a0)) :: q1 ((.v (.sl .nil (List.map eI []))) :: (.ptr 0 0) :: (appD 3 (List.map eI v26)) :: (dI v27) :: (.v (.int .i32 v38.1)) :: (dI v38.2) :: q8 ((.v (.tuple [(.int .i32 v38.1), (vI v38.2)])) :: (.v (.str a0)) :: (dI v27) :: (.v (.str v37)) :: (.v (.tuple [(.int .i32 v38.1), (vI v38.2)])) :: (.v (.int .i32 v38.1)) :: (dI v38.2) :: (.v (.int .i32 v38.1)) :: (dB false) :: (dB false) :: u2 ((dB false) :: q12 []))), [(.cells [(dI 0), (dI 0)]), .dead, .dead, (appO 1 (List.map eI v26))]⟩ (by kernel_rfl) ?_
              exact J60j45 _ _ _ _ h
            · refine Ops.seg 3 6 (by kernel_rfl) ⟨(.v (.str a0)) :: q1 ((.v (.sl .nil (List.map eI []))) :: (.ptr 0 0) :: (appD 3 (List.map eI v26)) :: (dI v27) :: (.v (.int .i32 v38.1)) :: (dI v38.2) :: q8 ((.v (.tuple [(.int .i32 v38.1), (vI v38.2)])) :: (.v (.str a0)) :: (dI v27) :: (.v (.str v37)) :: (.v (.tuple [(.int .i32 v38.1), (vI v38.2)])) :: (.v (.int .i32 v38.1)) :: (dI v38.2) :: (.v (.int .i32 v38.1)) :: (dB true) :: (dB true) :: (dI v38.2) :: (dB (decide (v38.2 ≤ 1))) :: (dB (decide (v38.2 ≤ 1))) :: q12 [])), [(.cells [(dI 0), (dI 0)]), .dead, .dead, (appO 1 (List.map eI v26))]⟩ (by kernel_rfl) ?_
              exact J60j45 _ _ _ _ h
          exact G60g40 (v38.1 == 65533) h
        · refine Wp.cond (decide (v27 < (a0.size : Int))) [0, 2, 3, 4, 5] (by kernel_rfl) 3 (by kernel_rfl) (subc [1, 1, 1, 0, 1, 0, 0, 0, 1, 0] C60) (subc [1, 1, 1, 0, 1, 0, 0, 0, 1, 1] C60) (by kernel_rfl) (by kernel_rfl) (fun e => nomatch (hb.symm.trans e)) (fun _ => ?_)
          refine Wp.exit (id := 0) (by kernel_rfl) ?_
          refine sqQ.x ?_
          refine seqQ.x ?_
          cases h
          refine lpQ.x ?_
          refine blkQ.x ⟨q2 ((.v (.sl .nil (List.map eI []))) :: (.ptr 0 0) :: (appD 2 (List.map eI v26)) :: q36 []), [(.cells [(dI 0), (dI 0)]), .dead, (appO 1 (List.map eI v26))]⟩ (by generalize v26 = z0; cases z0 <;> kernel_rfl) ?_
          exact hxx33 (v26, v27)  hsx36
    refine Wp.loop [0, 2, 3, 4, 5] 2 (by kernel_rfl) (subc [1, 1, 1, 0, 1, 0, 0] C60) (by kernel_rfl) (by kernel_rfl) ⟨(.v (.str a0)) :: q1 ((.v (.sl .nil (List.map eI []))) :: (.ptr 0 0) :: (appD 2 (List.map eI [])) :: (dI 0) :: q35 []), [(.cells [(dI 0), (dI 0)]), .dead, (appO 1 (List.map eI []))]⟩ (by kernel_rfl) ?_
    rcases brk_some h with ⟨r50, er50, h⟩ | ⟨y49, ey49, h⟩
    · refine hLx48 _ [] 0  _ er50 n (by omega) (fun r er σ hσ => ?_) (fun y  ey => by cases ey)
      cases er
      refine seqQ.r ?_
      exact fnQ.r' (X60 n) (fun z => (.tuple [(eL eI) z.1, e27 z.2])) h hσ
    · refine hLx48 _ [] 0  _ ey49 n (by omega) (fun r er => by cases er) (fun y  ey => ?_)
      cases ey
      refine seqQ.n ?_
      refine Wp.seq (subc [1, 1, 1, 1, 0] C60) (subc [1, 1, 1, 1, 1] C60) (by kernel_rfl) ?_
      refine Wp.region (by kernel_rfl) ?_
      refine Ops.seg 4 4 (by kernel_rfl) ⟨q2 ((appD 2 (List.map eI y49.1)) :: (.ptr 0 0) :: (appD 2 (List.map eI y49.1)) :: q34 ((appD 2 (List.map eI y49.1)) :: (.v (.agg [(vI 0), (vI 0)])) :: [])), [(.cells [(dI 0), (dI 0)]), .dead, (appO 1 (List.map eI y49.1))]⟩ (by kernel_rfl) ?_
      refine Ops.done (by kernel_rfl) ?_
      refine seqQ.n ?_
      refine Wp.ret (by kernel_rfl) ?_
      exact fnQ.r' (X60 n) (fun z => (.tuple [(eL eI) z.1, e27 z.2])) h (RetOk.tup [(appD 2 (List.map eI y49.1)), (.v (.agg [(vI 0), (vI 0)]))] (by kernel_rfl) (.d (appD 2 (List.map eI y49.1)) _ (appD_frz _ _ _ _) (appF_nt _ _ _) (.v (.agg [(vI 0), (vI 0)]) _ (by kernel_rfl) (by kernel_rfl) .nil)))

/-! ### 61 strings.IndexByte -/
def f61 (m : Nat) (a0 : ByteArray) (a1 : Int) : Option Int := some (Lib.indexByte a0.data.toList a1.toNat.toUInt8)
theorem ok61 (m : Nat) (a0 : ByteArray) (a1 : Int) (o : Int) (h : f61 m a0 a1 = some o) (n : Nat) (hn : m + 1 ≤ n) : Fn Proofs.Tryd.prog E n 61 [eS a0, (eK .u8) a1] (eI o) := by
  obtain ⟨n, rfl⟩ : ∃ q, n = q + 1 := ⟨n - 1, by omega⟩
  refine ora_fn (by kernel_rfl) (by kernel_rfl) (F := ixbyteF) ?_ rfl
  cases h
  rfl

/-! ### 32 glosswright/lexicon.Word -/
def f32_r1 (m : Nat) (v67 : Int) (v96 : Bool) : Option (Stp Bool (Int)) :=
  cnd v96
  (some (.ret false))
  (some (.nxt (w64 (v67 + 1))))
def f32_r2 (m : Nat) (v67 : Int) (v77 : Int) (v83 : Bool) : Option (Stp Bool (Int)) :=
  bnd (cnd v83
  (some true)
  (cnd (decide (v77 < 128))
  (bnd (f61 m ((⟨#[32, 9, 10, 40, 41, 91, 93, 44, 59]⟩ : ByteArray)) (IntKind.u8.wrap v77)) fun v100 =>
  some (decide (v100 ≥ 0)))
  (some false))) fun v96 =>
  f32_r1 m v67 v96
def f32_B3 (m : Nat) (v1 : ((List Int) × S27)) (v67 : Int) : Option (Stp Bool (Int)) :=
  cnd (decide (v67 < (v1.1.length : Int)))
  (bnd (idx v1.1 v67) fun v77 =>
  f32_r2 m v67 v77 (((v77 == 0) || (decide (v77 ≥ 983040)))))
  (some (.brk v67))
def f32_r4 (m : Nat) (v1 : ((List Int) × S27)) (v16 : Bool) : Option Bool :=
  cnd v16
  (some false)
  (brk (iter (fun (y : Int) => f32_B3 m v1 y) m 0) some fun y102 =>
  some true)
def f32_r5 (m : Nat) (v1 : ((List Int) × S27)) (v8 : Bool) : Option Bool :=
  f32_r4 m v1 ((v8 || (decide ((v1.1.length : Int) > 30))))
def f32 (m : Nat) (a0 : ByteArray) : Option Bool :=
  bnd (f60 m a0) fun v1 =>
  f32_r5 m v1 (((!((v1.2.fCode == 0) && ((v1.2.fIndex == 0) && true))) || (decide ((v1.1.length : Int) < 1))))
noncomputable abbrev X32 (n : Nat) : Cx := cxOf Proofs.Tryd.prog E 32 n
noncomputable def C32 : Code := bodyOf Proofs.Tryd.prog 32
theorem ok32 (m : Nat) (a0 : ByteArray) (o : Bool) (h : f32 m a0 = some o) (n : Nat) (hn : m + 3 ≤ n) : Fn Proofs.Tryd.prog E n 32 [eS a0] (eB o) := by
  obtain ⟨n, rfl⟩ : ∃ q, n = q + 1 := ⟨n - 1, by omega⟩
  unfold f32 at h
  refine Fn.of (by kernel_rfl) (by kernel_rfl) ⟨(.v (.str a0)) :: u40 (u7 []), []⟩ (by kernel_rfl) ?_
  refine Wp.seq (subc [0] C32) (subc [1] C32) (by kernel_rfl) ?_
  refine Wp.region (by kernel_rfl) ?_
  refine Ops.seg 1 1 (by kernel_rfl) ⟨(.v (.str a0)) :: u1 ((dB false) :: u40 (u5 [])), []⟩ (by kernel_rfl) ?_
  refine Ops.done (by kernel_rfl) ?_
  refine seqQ.n ?_
  refine Wp.seq (subc [1, 0] C32) (subc [1, 1] C32) (by kernel_rfl) ?_
  refine Wp.region (by kernel_rfl) ?_
  refine Ops.seg 1 1 (by kernel_rfl) ⟨(.v (.str a0)) :: u1 ((dB false) :: u5 ((.v (.str a0)) :: u39 [])), []⟩ (by kernel_rfl) ?_
  obtain ⟨v1, ev1, h⟩ := bnd_some h
  refine Ops.one 2 (by kernel_rfl) (callD (X32 n).E (run Proofs.Tryd.prog E n) 60 [(.v (.str a0))] []) (.v (.tuple [(vP eI v1.1), (.agg [(vI v1.2.fCode), (vI v1.2.fIndex)])])) [] ⟨(.v (.str a0)) :: u1 ((dB false) :: u5 ((.v (.str a0)) :: (.v (.tuple [(vP eI v1.1), (.agg [(vI v1.2.fCode), (vI v1.2.fIndex)])])) :: u38 [])), []⟩ (by kernel_rfl) (call_ok (by kernel_rfl) (Args.v (.str a0) (eS a0) (by kernel_rfl) Args.nil) (ok60 m a0 v1 ev1 n (by omega))) (by kernel_rfl) ?_
  refine Ops.seg 6 8 (by kernel_rfl) ⟨(.v (.str a0)) :: u1 ((dB false) :: (dP eI v1.1) :: (.ptr 0 0) :: u2 ((.v (.tuple [(vP eI v1.1), (.agg [(vI v1.2.fCode), (vI v1.2.fIndex)])])) :: (.v (.str a0)) :: (.v (.tuple [(vP eI v1.1), (.agg [(vI v1.2.fCode), (vI v1.2.fIndex)])])) :: (dP eI v1.1) :: (.v (.agg [(vI v1.2.fCode), (vI v1.2.fIndex)])) :: u36 [])), [(.cells [(dI v1.2.fCode), (dI v1.2.fIndex)])]⟩ (by kernel_rfl) ?_
  refine Ops.done (by kernel_rfl) ?_
  refine seqQ.n ?_
  refine Wp.seq (subc [1, 1, 0] C32) (subc [1, 1, 1] C32) (by kernel_rfl) ?_
  refine Wp.seq (subc [1, 1, 0, 0] C32) (subc [1, 1, 0, 1] C32) (by kernel_rfl) ?_
  refine Wp.region (by kernel_rfl) ?_
  refine Ops.seg 4 4 (by kernel_rfl) ⟨(.v (.str a0)) :: u1 ((dB false) :: (dP eI v1.1) :: (.ptr 0 0) :: u2 ((.v (.tuple [(vP eI v1.1), (.agg [(vI v1.2.fCode), (vI v1.2.fIndex)])])) :: (.v (.str a0)) :: (.v (.tuple [(vP eI v1.1), (.agg [(vI v1.2.fCode), (vI v1.2.fIndex)])])) :: (dP eI v1.1) :: (.v (.agg [(vI v1.2.fCode), (vI v1.2.fIndex)])) :: (.v (.agg [(vI v1.2.fCode), (vI v1.2.fIndex)])) :: (.v (.agg [(vI 0), (vI 0)])) :: (dB (!((v1.2.fCode == 0) && ((v1.2.fIndex == 0) && true)))) :: (dB (!((v1.2.fCode == 0) && ((v1.2.fIndex == 0) && true)))) :: u32 [])), [(.cells [(dI v1.2.fCode), (dI v1.2.fIndex)])]⟩ (by kernel_rfl) ?_
  have J32j9 : ∀ (d4 d5 d6 : D) (v7 : Bool) (v8 : Bool), f32_r5 m v1 v8 = some o → Ops (X32 n) (opl (subc [1, 1, 0, 0] C32)) 8 ⟨(.v (.str a0)) :: u1 ((dB false) :: (dP eI v1.1) :: (.ptr 0 0) :: u2 ((.v (.tuple [(vP eI v1.1), (.agg [(vI v1.2.fCode), (vI v1.2.fIndex)])])) :: (.v (.str a0)) :: (.v (.tuple [(vP eI v1.1), (.agg [(vI v1.2.fCode), (vI v1.2.fIndex)])])) :: (dP eI v1.1) :: (.v (.agg [(vI v1.2.fCode), (vI v1.2.fIndex)])) :: (.v (.agg [(vI v1.2.fCode), (vI v1.2.fIndex)])) :: (.v (.agg [(vI 0), (vI 0)])) :: (dB v7) :: (dB v7) :: d4 :: d5 :: d6 :: (dB v8) :: u28 [])), [(.cells [(dI v1.2.fCode), (dI v1.2.fIndex)])]⟩ ((seqQ (X32 n) (subc [1, 1, 0, 1] C32) (seqQ (X32 n) (subc [1, 1, 1] C32) (fnQ (X32 n).E.T (resOf Proofs.Tryd.prog 32) (eB o)))) .normal) := by
    intro d4 d5 d6 v7 v8 h
    unfold f32_r5 at h
    refine Ops.seg 1 9 (by kernel_rfl) ⟨(.v (.str a0)) :: u1 ((dB false) :: (dP eI v1.1) :: (.ptr 0 0) :: u2 ((.v (.tuple [(vP eI v1.1), (.agg [(vI v1.2.fCode), (vI v1.2.fIndex)])])) :: (.v (.str a0)) :: (.v (.tuple [(vP eI v1.1), (.agg [(vI v1.2.fCode), (vI v1.2.fIndex)])])) :: (dP eI v1.1) :: (.v (.agg [(vI v1.2.fCode), (vI v1.2.fIndex)])) :: (.v (.agg [(vI v1.2.fCode), (vI v1.2.fIndex)])) :: (.v (.agg [(vI 0), (vI 0)])) :: (dB v7) :: (dB v7) :: d4 :: d5 :: d6 :: (dB v8) :: (dB v8) :: u27 [])), [(.cells [(dI v1.2.fCode), (dI v1.2.fIndex)])]⟩ (by kernel_rfl) ?_
    have J32j17 : ∀ (d12 d13 d14 : D) (v15 : Bool) (v16 : Bool), f32_r4 m v1 v16 = some o → Ops (X32 n) (opl (subc [1, 1, 0, 0] C32)) 13 ⟨(.v (.str a0)) :: u1 ((dB false) :: (dP eI v1.1) :: (.ptr 0 0) :: u2 ((.v (.tuple [(vP eI v1.1), (.agg [(vI v1.2.fCode), (vI v1.2.fIndex)])])) :: (.v (.str a0)) :: (.v (.tuple [(vP eI v1.1), (.agg [(vI v1.2.fCode), (vI v1.2.fIndex)])])) :: (dP eI v1.1) :: (.v (.agg [(vI v1.2.fCode), (vI v1.2.fIndex)])) :: (.v (.agg [(vI v1.2.fCode), (vI v1.2.fIndex)])) :: (.v (.agg [(vI 0), (vI 0)])) :: (dB v7) :: (dB v7) :: d4 :: d5 :: d6 :: (dB v15) :: (dB v15) :: d12 :: d13 :: d14 :: (dB v16) :: u23 [])), [(.cells [(dI v1.2.fCode), (dI v1.2.fIndex)])]⟩ ((seqQ (X32 n) (subc [1, 1, 0, 1] C32) (seqQ (X32 n) (subc [1, 1, 1] C32) (fnQ (X32 n).E.T (resOf Proofs.Tryd.prog 32) (eB o)))) .normal) := by
      intro d12 d13 d14 v15 v16 h
      unfold f32_r4 at h
      refine Ops.done (by kernel_rfl) ?_
      refine seqQ.n ?_
      rcases cnd_some h with ⟨hb, h⟩ | ⟨hb, h⟩
      · refine Wp.cond v16 [2, 3] (by kernel_rfl) 1 (by kernel_rfl) (subc [1, 1, 0, 1, 0] C32) (subc [1, 1, 0, 1, 1] C32) (by kernel_rfl) (by kernel_rfl) (fun _ => ?_) (fun e => nomatch (hb.symm.trans e))
        refine Wp.seq (subc [1, 1, 0, 1, 0, 0] C32) (subc [1, 1, 0, 1, 0, 1] C32) (by kernel_rfl) ?_
        refine Wp.region (by kernel_rfl) ?_
        refine Ops.seg 1 1 (by kernel_rfl) ⟨(.v (.str a0)) :: u1 ((dB false) :: (dP eI v1.1) :: (.ptr 0 0) :: u2 ((.v (.tuple [(vP eI v1.1), (.agg [(vI v1.2.fCode), (vI v1.2.fIndex)])])) :: (.v (.str a0)) :: (.v (.tuple [(vP eI v1.1), (.agg [(vI v1.2.fCode), (vI v1.2.fIndex)])])) :: (dP eI v1.1) :: (.v (.agg [(vI v1.2.fCode), (vI v1.2.fIndex)])) :: (.v (.agg [(vI v1.2.fCode), (vI v1.2.fIndex)])) :: (.v (.agg [(vI 0), (vI 0)])) :: (dB v7) :: (dB v7) :: d4 :: d5 :: d6 :: (dB v15) :: (dB v15) :: d12 :: d13 :: d14 :: (dB v16) :: u23 [])), [(.cells [(dI v1.2.fCode), (dI v1.2.fIndex)])]⟩ (by kernel_rfl) ?_
        refine Ops.done (by kernel_rfl) ?_
        refine seqQ.n ?_
        refine Wp.ret (by kernel_rfl) ?_
        refine sqQ.r ?_
        refine seqQ.r ?_
        exact fnQ.r' (X32 n) (fun z => (eB z)) h (RetOk.mk' (dB false) (by kernel_rfl) (by kernel_rfl))
      · refine Wp.cond v16 [2, 3] (by kernel_rfl) 1 (by kernel_rfl) (subc [1, 1, 0, 1, 0] C32) (subc [1, 1, 0, 1, 1] C32) (by kernel_rfl) (by kernel_rfl) (fun e => nomatch (hb.symm.trans e)) (fun _ => ?_)
        refine Wp.skip (by kernel_rfl) ?_
        refine sqQ.n ⟨(.v (.str a0)) :: u1 ((dB false) :: (dP eI v1.1) :: (.ptr 0 0) :: u2 ((.v (.tuple [(vP eI v1.1), (.agg [(vI v1.2.fCode), (vI v1.2.fIndex)])])) :: (.v (.str a0)) :: (.v (.tuple [(vP eI v1.1), (.agg [(vI v1.2.fCode), (vI v1.2.fIndex)])])) :: (dP eI v1.1) :: (.v (.agg [(vI v1.2.fCode), (vI v1.2.fIndex)])) :: (.v (.agg [(vI v1.2.fCode), (vI v1.2.fIndex)])) :: (.v (.agg [(vI 0), (vI 0)])) :: (dB v7) :: (dB v7) :: d4 :: d5 :: d6 :: (dB v15) :: (dB v15) :: d12 :: d13 :: d14 :: (dB v16) :: u23 [])), [(.cells [(dI v1.2.fCode), (dI v1.2.fIndex)])]⟩ (by kernel_rfl) ?_
        refine seqQ.n ?_
        refine Wp.seq (subc [1, 1, 1, 0] C32) (subc [1, 1, 1, 1] C32) (by kernel_rfl) ?_
        refine Wp.seq (subc [1, 1, 1, 0, 0] C32) (subc [1, 1, 1, 0, 1] C32) (by kernel_rfl) ?_
        refine Wp.region (by kernel_rfl) ?_
        refine Ops.seg 1 1 (by kernel_rfl) ⟨(.v (.str a0)) :: u1 ((dB false) :: (dP eI v1.1) :: (.ptr 0 0) :: u2 ((.v (.tuple [(vP eI v1.1), (.agg [(vI v1.2.fCode), (vI v1.2.fIndex)])])) :: (.v (.str a0)) :: (.v (.tuple [(vP eI v1.1), (.agg [(vI v1.2.fCode), (vI v1.2.fIndex)])])) :: (dP eI v1.1) :: (.v (.agg [(vI v1.2.fCode), (vI v1.2.fIndex)])) :: (.v (.agg [(vI v1.2.fCode), (vI v1.2.fIndex)])) :: (.v (.agg [(vI 0), (vI 0)])) :: (dB v7) :: (dB v7) :: d4 :: d5 :: d6 :: (dB v15) :: (dB v15) :: d12 :: d13 :: d14 :: (dB v16) :: (dP eI v1.1) :: u22 [])), [(.cells [(dI v1.2.fCode), (dI v1.2.fIndex)])]⟩ (by kernel_rfl) ?_
        refine Ops.one 2 (by kernel_rfl) ((lenD (X32 n).E.T 44 (D.unt (dP eI v1.1))).map (·, [(.cells [(dI v1.2.fCode), (dI v1.2.fIndex)])])) (dI ((v1.1.length : Int))) [(.cells [(dI v1.2.fCode), (dI v1.2.fIndex)])] ⟨(.v (.str a0)) :: u1 ((dB false) :: (dP eI v1.1) :: (.ptr 0 0) :: u2 ((.v (.tuple [(vP eI v1.1), (.agg [(vI v1.2.fCode), (vI v1.2.fIndex)])])) :: (.v (.str a0)) :: (.v (.tuple [(vP eI v1.1), (.agg [(vI v1.2.fCode), (vI v1.2.fIndex)])])) :: (dP eI v1.1) :: (.v (.agg [(vI v1.2.fCode), (vI v1.2.fIndex)])) :: (.v (.agg [(vI v1.2.fCode), (vI v1.2.fIndex)])) :: (.v (.agg [(vI 0), (vI 0)])) :: (dB v7) :: (dB v7) :: d4 :: d5 :: d6 :: (dB v15) :: (dB v15) :: d12 :: d13 :: d14 :: (dB v16) :: (dP eI v1.1) :: (dI ((v1.1.length : Int))) :: u21 [])), [(.cells [(dI v1.2.fCode), (dI v1.2.fIndex)])]⟩ (by kernel_rfl) (len_r _ 44 3 .plain eI v1.1 (by kernel_rfl)) (by kernel_rfl) ?_
        refine Ops.seg 1 3 (by kernel_rfl) ⟨(.v (.str a0)) :: u1 ((dB false) :: (dP eI v1.1) :: (.ptr 0 0) :: u2 ((.v (.tuple [(vP eI v1.1), (.agg [(vI v1.2.fCode), (vI v1.2.fIndex)])])) :: (.v (.str a0)) :: (.v (.tuple [(vP eI v1.1), (.agg [(vI v1.2.fCode), (vI v1.2.fIndex)])])) :: (dP eI v1.1) :: (.v (.agg [(vI v1.2.fCode), (vI v1.2.fIndex)])) :: (.v (.agg [(vI v1.2.fCode), (vI v1.2.fIndex)])) :: (.v (.agg [(vI 0), (vI 0)])) :: (dB v7) :: (dB v7) :: d4 :: d5 :: d6 :: (dB v15) :: (dB v15) :: d12 :: d13 :: d14 :: (dB v16) :: (dP eI v1.1) :: (dI ((v1.1.length : Int))) :: (dI 0) :: u20 [])), [(.cells [(dI v1.2.fCode), (dI v1.2.fIndex)])]⟩ (by kernel_rfl) ?_
        refine Ops.done (by kernel_rfl) ?_
        refine seqQ.n ?_
        refine Wp.block (id := 0) [2] (by kernel_rfl) 1 (by kernel_rfl) (subc [1, 1, 1, 0, 1, 0] C32) (by kernel_rfl) ?_
        have hLx101 : ∀ (kx69 : Nat) (v67 : Int)  (ox68 : Bool ⊕ (Int)), iter (fun (y : Int) => f32_B3 m v1 y) kx69 v67 = some ox68 → ∀ nx70, kx69 ≤ nx70 → (∀ r, ox68 = .inl r → ∀ σ, RetOk (X32 n) (resOf Proofs.Tryd.prog 32) (eB r) σ → (seqQ (X32 n) (subc [1, 1, 1, 1] C32) (fnQ (X32 n).E.T (resOf Proofs.Tryd.prog 32) (eB o))) .ret σ) → (∀ (y : Int) , ox68 = .inr y → (seqQ (X32 n) (subc [1, 1, 1, 1] C32) (fnQ (X32 n).E.T (resOf Proofs.Tryd.prog 32) (eB o))) .normal ⟨q2 ((dB false) :: q22 ((dP eI v1.1) :: (dI ((v1.1.length : Int))) :: (dI y) :: q20 [])), [(.cells [(dI v1.2.fCode), (dI v1.2.fIndex)])]⟩) → Lp (X32 n) [2, 25, 26, 27] 1 (subc [1, 1, 1, 0, 1, 0, 0] C32) nx70 ⟨q2 ((dB false) :: q22 ((dP eI v1.1) :: (dI ((v1.1.length : Int))) :: (dI v67) :: q20 [])), [(.cells [(dI v1.2.fCode), (dI v1.2.fIndex)])]⟩ (blkQ (X32 n) 0 [2] 1 (seqQ (X32 n) (subc [1, 1, 1, 1] C32) (fnQ (X32 n).E.T (resOf Proofs.Tryd.prog 32) (eB o)))) := by
          intro kx69
          induction kx69 with
          | zero => intro v67  ox68 h; exact (iter_zero h).elim
          | succ kx69 ihx71 =>
            intro v67  ox68 h nx70 hnx74 hrx72 hxx73
            obtain ⟨nx70, rfl⟩ : ∃ q, nx70 = q + 1 := ⟨nx70 - 1, by omega⟩
            obtain ⟨sx75, h, hsx76⟩ := iter_some h
            have h : f32_B3 m v1 v67 = some sx75 := h
            unfold f32_B3 at h
            refine Lp.succ ?_
            refine Wp.seq (subc [1, 1, 1, 0, 1, 0, 0, 0] C32) (subc [1, 1, 1, 0, 1, 0, 0, 1] C32) (by kernel_rfl) ?_
            refine Wp.region (by kernel_rfl) ?_
            refine Ops.seg 1 1 (by kernel_rfl) ⟨q2 ((dB false) :: q22 ((dP eI v1.1) :: (dI ((v1.1.length : Int))) :: (dI v67) :: (dB (decide (v67 < (v1.1.length : Int)))) :: q19 [])), [(.cells [(dI v1.2.fCode), (dI v1.2.fIndex)])]⟩ (by kernel_rfl) ?_
            refine Ops.done (by kernel_rfl) ?_
            refine seqQ.n ?_
            refine Wp.seq (subc [1, 1, 1, 0, 1, 0, 0, 1, 0] C32) (subc [1, 1, 1, 0, 1, 0, 0, 1, 1] C32) (by kernel_rfl) ?_
            rcases cnd_some h with ⟨hb, h⟩ | ⟨hb, h⟩
            · refine Wp.cond (decide (v67 < (v1.1.length : Int))) [2, 25, 26, 27] (by kernel_rfl) 1 (by kernel_rfl) (subc [1, 1, 1, 0, 1, 0, 0, 1, 0, 0] C32) (subc [1, 1, 1, 0, 1, 0, 0, 1, 0, 1] C32) (by kernel_rfl) (by kernel_rfl) (fun _ => ?_) (fun e => nomatch (hb.symm.trans e))
              refine Wp.skip (by kernel_rfl) ?_
              refine sqQ.n ⟨q2 ((dB false) :: q22 ((dP eI v1.1) :: (dI ((v1.1.length : Int))) :: (dI v67) :: (dB (decide (v67 < (v1.1.length : Int)))) :: q19 [])), [(.cells [(dI v1.2.fCode), (dI v1.2.fIndex)])]⟩ (by kernel_rfl) ?_
              refine seqQ.n ?_
              refine Wp.seq (subc [1, 1, 1, 0, 1, 0, 0, 1, 1, 0] C32) (subc [1, 1, 1, 0, 1, 0, 0, 1, 1, 1] C32) (by kernel_rfl) ?_
              refine Wp.block (id := 1) [2, 25, 26, 27] (by kernel_rfl) 1 (by kernel_rfl) (subc [1, 1, 1, 0, 1, 0, 0, 1, 1, 0, 0] C32) (by kernel_rfl) ?_
              refine Wp.seq (subc [1, 1, 1, 0, 1, 0, 0, 1, 1, 0, 0, 0] C32) (subc [1, 1, 1, 0, 1, 0, 0, 1, 1, 0, 0, 1] C32) (by kernel_rfl) ?_
              refine Wp.region (by kernel_rfl) ?_
              obtain ⟨v77, ev77, h⟩ := bnd_some h
              refine Ops.one 1 (by kernel_rfl) ((indexAddrH (X32 n).E.T [(.cells [(dI v1.2.fCode), (dI v1.2.fIndex)])] 44 (D.unt (dP eI v1.1)) (dI v67)).map (·, [(.cells [(dI v1.2.fCode), (dI v1.2.fIndex)])])) (.vptr [(vI v77)]) [(.cells [(dI v1.2.fCode), (dI v1.2.fIndex)])] ⟨q2 ((dB false) :: q22 ((dP eI v1.1) :: (dI ((v1.1.length : Int))) :: (dI v67) :: (dB (decide (v67 < (v1.1.length : Int)))) :: (.vptr [(vI v77)]) :: q18 [])), [(.cells [(dI v1.2.fCode), (dI v1.2.fIndex)])]⟩ (by kernel_rfl) (ix_r _ 44 3 1 .plain eI v1.1 v67 v77 ev77 (by kernel_rfl) (by kernel_rfl) (fun _ => rfl)) (by kernel_rfl) ?_
              refine Ops.seg 2 3 (by kernel_rfl) ⟨q2 ((dB false) :: q3 ((dI v77) :: q18 ((dP eI v1.1) :: (dI ((v1.1.length : Int))) :: (dI v67) :: (dB (decide (v67 < (v1.1.length : Int)))) :: (.vptr [(vI v77)]) :: (dI v77) :: q17 []))), [(.cells [(dI v1.2.fCode), (dI v1.2.fIndex)])]⟩ (by kernel_rfl) ?_
              refine Ops.done (by kernel_rfl) ?_
              refine seqQ.n ?_
              refine Wp.seq (subc [1, 1, 1, 0, 1, 0, 0, 1, 1, 0, 0, 1, 0] C32) (subc [1, 1, 1, 0, 1, 0, 0, 1, 1, 0, 0, 1, 1] C32) (by kernel_rfl) ?_
              refine Wp.region (by kernel_rfl) ?_
              refine Ops.seg 3 3 (by kernel_rfl) ⟨q2 ((dB false) :: q3 ((dI v77) :: q18 ((dP eI v1.1) :: (dI ((v1.1.length : Int))) :: (dI v67) :: (dB (decide (v67 < (v1.1.length : Int)))) :: (.vptr [(vI v77)]) :: (dI v77) :: (dI v77) :: (dB (v77 == 0)) :: (dB (v77 == 0)) :: q14 []))), [(.cells [(dI v1.2.fCode), (dI v1.2.fIndex)])]⟩ (by kernel_rfl) ?_
              have J32j84 : ∀ (d80 d81 : D) (v82 : Bool) (v83 : Bool), f32_r2 m v67 v77 v83 = some sx75 → Ops (X32 n) (opl (subc [1, 1, 1, 0, 1, 0, 0, 1, 1, 0, 0, 1, 0] C32)) 6 ⟨q2 ((dB false) :: q3 ((dI v77) :: q18 ((dP eI v1.1) :: (dI ((v1.1.length : Int))) :: (dI v67) :: (dB (decide (v67 < (v1.1.length : Int)))) :: (.vptr [(vI v77)]) :: (dI v77) :: (dI v77) :: (dB v82) :: (dB v82) :: d80 :: d81 :: (dB v83) :: q11 []))), [(.cells [(dI v1.2.fCode), (dI v1.2.fIndex)])]⟩ ((seqQ (X32 n) (subc [1, 1, 1, 0, 1, 0, 0, 1, 1, 0, 0, 1, 1] C32) (blkQ (X32 n) 1 [2, 25, 26, 27] 1 (seqQ (X32 n) (subc [1, 1, 1, 0, 1, 0, 0, 1, 1, 1] C32) (lpQ (X32 n) [2, 25, 26, 27] 1 (subc [1, 1, 1, 0, 1, 0, 0] C32) nx70 (blkQ (X32 n) 0 [2] 1 (seqQ (X32 n) (subc [1, 1, 1, 1] C32) (fnQ (X32 n).E.T (resOf Proofs.Tryd.prog 32) (eB o)))))))) .normal) := by
                intro d80 d81 v82 v83 h
                unfold f32_r2 at h
                refine Ops.seg 1 7 (by kernel_rfl) ⟨q2 ((dB false) :: q3 ((dI v77) :: q18 ((dP eI v1.1) :: (dI ((v1.1.length : Int))) :: (dI v67) :: (dB (decide (v67 < (v1.1.length : Int)))) :: (.vptr [(vI v77)]) :: (dI v77) :: (dI v77) :: (dB v82) :: (dB v82) :: d80 :: d81 :: (dB v83) :: (dB v83) :: q10 []))), [(.cells [(dI v1.2.fCode), (dI v1.2.fIndex)])]⟩ (by kernel_rfl) ?_
                have J32j97 : ∀ (d87 d88 d89 d90 d91 d92 d93 d94 : D) (v95 : Bool) (v96 : Bool), f32_r1 m v67 v96 = some sx75 → Ops (X32 n) (opl (subc [1, 1, 1, 0, 1, 0, 0, 1, 1, 0, 0, 1, 0] C32)) 16 ⟨q2 ((dB false) :: q3 ((dI v77) :: q18 ((dP eI v1.1) :: (dI ((v1.1.length : Int))) :: (dI v67) :: (dB (decide (v67 < (v1.1.length : Int)))) :: (.vptr [(vI v77)]) :: (dI v77) :: (dI v77) :: (dB v82) :: (dB v82) :: d80 :: d81 :: (dB v95) :: (dB v95) :: d87 :: d88 :: d89 :: d90 :: d91 :: d92 :: d93 :: d94 :: (dB v96) :: q1 []))), [(.cells [(dI v1.2.fCode), (dI v1.2.fIndex)])]⟩ ((seqQ (X32 n) (subc [1, 1, 1, 0, 1, 0, 0, 1, 1, 0, 0, 1, 1] C32) (blkQ (X32 n) 1 [2, 25, 26, 27] 1 (seqQ (X32 n) (subc [1, 1, 1, 0, 1, 0, 0, 1, 1, 1] C32) (lpQ (X32 n) [2, 25, 26, 27] 1 (subc [1, 1, 1, 0, 1, 0, 0] C32) nx70 (blkQ (X32 n) 0 [2] 1 (seqQ (X32 n) (subc [1, 1, 1, 1] C32) (fnQ (X32 n).E.T (resOf Proofs.Tryd.prog 32) (eB o)))))))) .normal) := by
                  intro d87 d88 d89 d90 d91 d92 d93 d94 v95 v96 h
                  unfold f32_r1 at h
                  refine Ops.done (by kernel_rfl) ?_
                  refine seqQ.n ?_
                  rcases cnd_some h with ⟨hb, h⟩ | ⟨hb, h⟩
                  · refine Wp.cond v96 [2, 25, 26, 27] (by kernel_rfl) 1 (by kernel_rfl) (subc [1, 1, 1, 0, 1, 0, 0, 1, 1, 0, 0, 1, 1, 0] C32) (subc [1, 1, 1, 0, 1, 0, 0, 1, 1, 0, 0, 1, 1, 1] C32) (by kernel_rfl) (by kernel_rfl) (fun _ => ?_) (fun e => nomatch (hb.symm.trans e))
                    refine Wp.seq (subc [1, 1, 1, 0, 1, 0, 0, 1, 1, 0, 0, 1, 1, 0, 0] C32) (subc [1, 1, 1, 0, 1, 0, 0, 1, 1, 0, 0, 1, 1, 0, 1] C32) (by kernel_rfl) ?_
                    refine Wp.region (by kernel_rfl) ?_
                    refine Ops.seg 1 1 (by kernel_rfl) ⟨q2 ((dB false) :: q3 ((dI v77) :: q18 ((dP eI v1.1) :: (dI ((v1.1.length : Int))) :: (dI v67) :: (dB (decide (v67 < (v1.1.length : Int)))) :: (.vptr [(vI v77)]) :: (dI v77) :: (dI v77) :: (dB v82) :: (dB v82) :: d80 :: d81 :: (dB v95) :: (dB v95) :: d87 :: d88 :: d89 :: d90 :: d91 :: d92 :: d93 :: d94 :: (dB v96) :: q1 []))), [(.cells [(dI v1.2.fCode), (dI v1.2.fIndex)])]⟩ (by kernel_rfl) ?_
                    refine Ops.done (by kernel_rfl) ?_
                    refine seqQ.n ?_
                    refine Wp.ret (by kernel_rfl) ?_
                    refine sqQ.r ?_
                    refine blkQ.r ?_
                    refine seqQ.r ?_
                    cases h
                    refine lpQ.r ?_
                    refine blkQ.r ?_
                    exact hrx72 _ hsx76 _ (RetOk.forget [2, 25, 26, 27] (by kernel_rfl) (RetOk.mk' (dB false) (by kernel_rfl) (by kernel_rfl)))
                  · refine Wp.cond v96 [2, 25, 26, 27] (by kernel_rfl) 1 (by kernel_rfl) (subc [1, 1, 1, 0, 1, 0, 0, 1, 1, 0, 0, 1, 1, 0] C32) (subc [1, 1, 1, 0, 1, 0, 0, 1, 1, 0, 0, 1, 1, 1] C32) (by kernel_rfl) (by kernel_rfl) (fun e => nomatch (hb.symm.trans e)) (fun _ => ?_)
                    refine Wp.skip (by kernel_rfl) ?_
                    refine sqQ.n ⟨q2 ((dB false) :: q3 ((dI v77) :: q18 ((dP eI v1.1) :: (dI ((v1.1.length : Int))) :: (dI v67) :: (dB (decide (v67 < (v1.1.length : Int)))) :: (.vptr [(vI v77)]) :: (dI v77) :: (dI v77) :: (dB v82) :: (dB v82) :: d80 :: d81 :: (dB v95) :: (dB v95) :: d87 :: d88 :: d89 :: d90 :: d91 :: d92 :: d93 :: d94 :: (dB v96) :: q1 []))), [(.cells [(dI v1.2.fCode), (dI v1.2.fIndex)])]⟩ (by kernel_rfl) ?_
                    refine blkQ.n ⟨q2 ((dB false) :: q3 ((dI v77) :: q18 ((dP eI v1.1) :: (dI ((v1.1.length : Int))) :: (dI v67) :: (dB (decide (v67 < (v1.1.length : Int)))) :: (.vptr [(vI v77)]) :: (dI v77) :: (dI v77) :: (dB v82) :: (dB v82) :: d80 :: d81 :: (dB v95) :: (dB v95) :: d87 :: d88 :: d89 :: d90 :: d91 :: d92 :: d93 :: d94 :: (dB v96) :: q1 []))), [(.cells [(dI v1.2.fCode), (dI v1.2.fIndex)])]⟩ (by kernel_rfl) ?_
                    refine seqQ.n ?_
                    refine Wp.region (by kernel_rfl) ?_
                    refine Ops.seg 2 2 (by kernel_rfl) ⟨q2 ((dB false) :: q3 ((dI v77) :: q18 ((dP eI v1.1) :: (dI ((v1.1.length : Int))) :: (dI (w64 (v67 + 1))) :: (dB (decide (v67 < (v1.1.length : Int)))) :: (.vptr [(vI v77)]) :: (dI v77) :: (dI v77) :: (dB v82) :: (dB v82) :: d80 :: d81 :: (dB v95) :: (dB v95) :: d87 :: d88 :: d89 :: d90 :: d91 :: d92 :: d93 :: d94 :: (dB v96) :: (dI (w64 (v67 + 1))) :: []))), [(.cells [(dI v1.2.fCode), (dI v1.2.fIndex)])]⟩ (by kernel_rfl) ?_
                    refine Ops.done (by kernel_rfl) ?_
                    refine lpQ.n ⟨q2 ((dB false) :: q22 ((dP eI v1.1) :: (dI ((v1.1.length : Int))) :: (dI (w64 (v67 + 1))) :: q20 [])), [(.cells [(dI v1.2.fCode), (dI v1.2.fIndex)])]⟩ (by kernel_rfl) ?_
                    cases h
                    exact ihx71 (w64 (v67 + 1))  _ hsx76 _ (by omega) hrx72 hxx73
                obtain ⟨v96, ev96, h⟩ := bnd_some h
                have G32g86 : ∀ v85 : Bool, (cnd v85 (some true) (cnd (decide (v77 < 128)) (bnd (f61 m ((⟨#[32, 9, 10, 40, 41, 91, 93, 44, 59]⟩ : ByteArray)) (IntKind.u8.wrap v77)) fun v100 => some (decide (v100 ≥ 0))) (some false))) = some v96 → Ops (X32 n) (opl (subc [1, 1, 1, 0, 1, 0, 0, 1, 1, 0, 0, 1, 0] C32)) 7 ⟨q2 ((dB false) :: q3 ((dI v77) :: q18 ((dP eI v1.1) :: (dI ((v1.1.length : Int))) :: (dI v67) :: (dB (decide (v67 < (v1.1.length : Int)))) :: (.vptr [(vI v77)]) :: (dI v77) :: (dI v77) :: (dB v82) :: (dB v82) :: d80 :: d81 :: (dB v85) :: (dB v85) :: q10 []))), [(.cells [(dI v1.2.fCode), (dI v1.2.fIndex)])]⟩ ((seqQ (X32 n) (subc [1, 1, 1, 0, 1, 0, 0, 1, 1, 0, 0, 1, 1] C32) (blkQ (X32 n) 1 [2, 25, 26, 27] 1 (seqQ (X32 n) (subc [1, 1, 1, 0, 1, 0, 0, 1, 1, 1] C32) (lpQ (X32 n) [2, 25, 26, 27] 1 (subc [1, 1, 1, 0, 1, 0, 0] C32) nx70 (blkQ (X32 n) 0 [2] 1 (seqQ (X32 n) (subc [1, 1, 1, 1] C32) (fnQ (X32 n).E.T (resOf Proofs.Tryd.prog 32) (eB o)))))))) .normal) := by
                  intro v85 ev96
                  cases v85
                  · have ev96 := cnd_f ev96
                    refine Ops.seg 3 10 (by kernel_rfl) ⟨q2 ((dB false) :: q3 ((dI v77) :: q18 ((dP eI v1.1) :: (dI ((v1.1.length : Int))) :: (dI v67) :: (dB (decide (v67 < (v1.1.length : Int)))) :: (.vptr [(vI v77)]) :: (dI v77) :: (dI v77) :: (dB v82) :: (dB v82) :: d80 :: d81 :: (dB false) :: (dB false) :: (dI v77) :: (dB (decide (v77 < 128))) :: (dB (decide (v77 < 128))) :: q7 []))), [(.cells [(dI v1.2.fCode), (dI v1.2.fIndex)])]⟩ (by kernel_rfl) ?_
                    have G32g99 : ∀ v98 : Bool, (cnd v98 (bnd (f61 m ((⟨#[32, 9, 10, 40, 41, 91, 93, 44, 59]⟩ : ByteArray)) (IntKind.u8.wrap v77)) fun v100 => some (decide (v100 ≥ 0))) (some false)) = some v96 → Ops (X32 n) (opl (subc [1, 1, 1, 0, 1, 0, 0, 1, 1, 0, 0, 1, 0] C32)) 10 ⟨q2 ((dB false) :: q3 ((dI v77) :: q18 ((dP eI v1.1) :: (dI ((v1.1.length : Int))) :: (dI v67) :: (dB (decide (v67 < (v1.1.length : Int)))) :: (.vptr [(vI v77)]) :: (dI v77) :: (dI v77) :: (dB v82) :: (dB v82) :: d80 :: d81 :: (dB false) :: (dB false) :: (dI v77) :: (dB v98) :: (dB v98) :: q7 []))), [(.cells [(dI v1.2.fCode), (dI v1.2.fIndex)])]⟩ ((seqQ (X32 n) (subc [1, 1, 1, 0, 1, 0, 0, 1, 1, 0, 0, 1, 1] C32) (blkQ (X32 n) 1 [2, 25, 26, 27] 1 (seqQ (X32 n) (subc [1, 1, 1, 0, 1, 0, 0, 1, 1, 1] C32) (lpQ (X32 n) [2, 25, 26, 27] 1 (subc [1, 1, 1, 0, 1, 0, 0] C32) nx70 (blkQ (X32 n) 0 [2] 1 (seqQ (X32 n) (subc [1, 1, 1, 1] C32) (fnQ (X32 n).E.T (resOf Proofs.Tryd.prog 32) (eB o)))))))) .normal) := by
                      intro v98 ev96
                      cases v98
                      · have ev96 := cnd_f ev96
                        refine Ops.seg 6 16 (by kernel_rfl) ⟨q2 ((dB false) :: q3 ((dI v77) :: q18 ((dP eI v1.1) :: (dI ((v1.1.length : Int))) :: (dI v67) :: (dB (decide (v67 < (v1.1.length : Int)))) :: (.vptr [(vI v77)]) :: (dI v77) :: (dI v77) :: (dB v82) :: (dB v82) :: d80 :: d81 :: (dB false) :: (dB false) :: (dI v77) :: (dB false) :: (dB false) :: u4 ((dB false) :: (dB false) :: q1 [])))), [(.cells [(dI v1.2.fCode), (dI v1.2.fIndex)])]⟩ (by kernel_rfl) ?_
                        exact J32j97 _ _ _ _ _ _ _ _ _ _ (some_sub (fun v96 => f32_r1 m v67 v96 = some sx75) ev96 h)
                      · have ev96 := cnd_t ev96
                        refine Ops.seg 2 12 (by kernel_rfl) ⟨q2 ((dB false) :: q3 ((dI v77) :: q18 ((dP eI v1.1) :: (dI ((v1.1.length : Int))) :: (dI v67) :: (dB (decide (v67 < (v1.1.length : Int)))) :: (.vptr [(vI v77)]) :: (dI v77) :: (dI v77) :: (dB v82) :: (dB v82) :: d80 :: d81 :: (dB false) :: (dB false) :: (dI v77) :: (dB true) :: (dB true) :: (dI v77) :: (.v (.int .u8 (IntKind.u8.wrap v77))) :: q5 []))), [(.cells [(dI v1.2.fCode), (dI v1.2.fIndex)])]⟩ (by kernel_rfl) ?_
                        obtain ⟨v100, ev100, ev96⟩ := bnd_some ev96
                        refine Ops.one 13 (by kernel_rfl) (callD (X32 n).E (run Proofs.Tryd.prog E n) 61 [(.v (.str ((⟨#[32, 9, 10, 40, 41, 91, 93, 44, 59]⟩ : ByteArray)))), (.v (.int .u8 (IntKind.u8.wrap v77)))] [(.cells [(dI v1.2.fCode), (dI v1.2.fIndex)])]) (dI v100) [(.cells [(dI v1.2.fCode), (dI v1.2.fIndex)])] ⟨q2 ((dB false) :: q3 ((dI v77) :: q18 ((dP eI v1.1) :: (dI ((v1.1.length : Int))) :: (dI v67) :: (dB (decide (v67 < (v1.1.length : Int)))) :: (.vptr [(vI v77)]) :: (dI v77) :: (dI v77) :: (dB v82) :: (dB v82) :: d80 :: d81 :: (dB false) :: (dB false) :: (dI v77) :: (dB true) :: (dB true) :: (dI v77) :: (.v (.int .u8 (IntKind.u8.wrap v77))) :: (dI v100) :: q4 []))), [(.cells [(dI v1.2.fCode), (dI v1.2.fIndex)])]⟩ (by kernel_rfl) (call_ok (by kernel_rfl) (Args.v (.str ((⟨#[32, 9, 10, 40, 41, 91, 93, 44, 59]⟩ : ByteArray))) (eS ((⟨#[32, 9, 10, 40, 41, 91, 93, 44, 59]⟩ : ByteArray))) (by kernel_rfl) (Args.v (.int .u8 (IntKind.u8.wrap v77)) ((eK .u8) (IntKind.u8.wrap v77)) (by kernel_rfl) Args.nil)) (ok61 m ((⟨#[32, 9, 10, 40, 41, 91, 93, 44, 59]⟩ : ByteArray)) (IntKind.u8.wrap v77) v100 ev100 n (by omega))) (by kernel_rfl) ?_
                        refine Ops.seg 3 16 (by kernel_rfl) ⟨q2 ((dB false) :: q3 ((dI v77) :: q18 ((dP eI v1.1) :: (dI ((v1.1.length : Int))) :: (dI v67) :: (dB (decide (v67 < (v1.1.length : Int)))) :: (.vptr [(vI v77)]) :: (dI v77) :: (dI v77) :: (dB v82) :: (dB v82) :: d80 :: d81 :: (dB false) :: (dB false) :: (dI v77) :: (dB true) :: (dB true) :: (dI v77) :: (.v (.int .u8 (IntKind.u8.wrap v77))) :: (dI v100) :: (dB (decide (v100 ≥ 0))) :: (dB (decide (v100 ≥ 0))) :: (dB (decide (v100 ≥ 0))) :: q1 []))), [(.cells [(dI v1.2.fCode), (dI v1.2.fIndex)])]⟩ (by kernel_rfl) ?_
                        exact J32j97 _ _ _ _ _ _ _ _ _ _ (some_sub (fun v96 => f32_r1 m v67 v96 = some sx75) ev96 h)
                    exact G32g99 (decide (v77 < 128)) ev96
                  · have ev96 := cnd_t ev96
                    refine Ops.seg 9 16 (by kernel_rfl) ⟨q2 ((dB false) :: q3 ((dI v77) :: q18 ((dP eI v1.1) :: (dI ((v1.1.length : Int))) :: (dI v67) :: (dB (decide (v67 < (v1.1.length : Int)))) :: (.vptr [(vI v77)]) :: (dI v77) :: (dI v77) :: (dB v82) :: (dB v82) :: d80 :: d81 :: (dB true) :: (dB true) :: u8 ((dB true) :: q1 [])))), [(.cells [(dI v1.2.fCode), (dI v1.2.fIndex)])]⟩ (by kernel_rfl) ?_
                    exact J32j97 _ _ _ _ _ _ _ _ _ _ (some_sub (fun v96 => f32_r1 m v67 v96 = some sx75) ev96 h)
                exact G32g86 v83 ev96
              have G32g79 : ∀ v78 : Bool, f32_r2 m v67 v77 ((v78 || (decide (v77 ≥ 983040)))) = some sx75 → Ops (X32 n) (opl (subc [1, 1, 1, 0, 1, 0, 0, 1, 1, 0, 0, 1, 0] C32)) 3 ⟨q2 ((dB false) :: q3 ((dI v77) :: q18 ((dP eI v1.1) :: (dI ((v1.1.length : Int))) :: (dI v67) :: (dB (decide (v67 < (v1.1.length : Int)))) :: (.vptr [(vI v77)]) :: (dI v77) :: (dI v77) :: (dB v78) :: (dB v78) :: q14 []))), [(.cells [(dI v1.2.fCode), (dI v1.2.fIndex)])]⟩ ((seqQ (X32 n) (subc [1, 1, 1, 0, 1, 0, 0, 1, 1, 0, 0, 1, 1] C32) (blkQ (X32 n) 1 [2, 25, 26, 27] 1 (seqQ (X32 n) (subc [1, 1, 1, 0, 1, 0, 0, 1, 1, 1] C32) (lpQ (X32 n) [2, 25, 26, 27] 1 (subc [1, 1, 1, 0, 1, 0, 0] C32) nx70 (blkQ (X32 n) 0 [2] 1 (seqQ (X32 n) (subc [1, 1, 1, 1] C32) (fnQ (X32 n).E.T (resOf Proofs.Tryd.prog 32) (eB o)))))))) .normal) := by
                intro v78 h
                cases v78
                · refine Ops.seg 3 6 (by kernel_rfl) ⟨q2 ((dB false) :: q3 ((dI v77) :: q18 ((dP eI v1.1) :: (dI ((v1.1.length : Int))) :: (dI v67) :: (dB (decide (v67 < (v1.1.length : Int)))) :: (.vptr [(vI v77)]) :: (dI v77) :: (dI v77) :: (dB false) :: (dB false) :: (dI v77) :: (dB (decide (v77 ≥ 983040))) :: (dB (decide (v77 ≥ 983040))) :: q11 []))), [(.cells [(dI v1.2.fCode), (dI v1.2.fIndex)])]⟩ (by kernel_rfl) ?_
                  exact J32j84 _ _ _ _ h
                · refine Ops.seg 3 6 (by kernel_rfl) ⟨q2 ((dB false) :: q3 ((dI v77) :: q18 ((dP eI v1.1) :: (dI ((v1.1.length : Int))) :: (dI v67) :: (dB (decide (v67 < (v1.1.length : Int)))) :: (.vptr [(vI v77)]) :: (dI v77) :: (dI v77) :: (dB true) :: (dB true) :: u2 ((dB true) :: q11 [])))), [(.cells [(dI v1.2.fCode), (dI v1.2.fIndex)])]⟩ (by kernel_rfl) ?_
                  exact J32j84 _ _ _ _ h
              exact G32g79 (v77 == 0) h
            · refine Wp.cond (decide (v67 < (v1.1.length : Int))) [2, 25, 26, 27] (by kernel_rfl) 1 (by kernel_rfl) (subc [1, 1, 1, 0, 1, 0, 0, 1, 0, 0] C32) (subc [1, 1, 1, 0, 1, 0, 0, 1, 0, 1] C32) (by kernel_rfl) (by kernel_rfl) (fun e => nomatch (hb.symm.trans e)) (fun _ => ?_)
              refine Wp.exit (id := 0) (by kernel_rfl) ?_
              refine sqQ.x ?_
              refine seqQ.x ?_
              cases h
              refine lpQ.x ?_
              refine blkQ.x ⟨q2 ((dB false) :: q22 ((dP eI v1.1) :: (dI ((v1.1.length : Int))) :: (dI v67) :: q20 [])), [(.cells [(dI v1.2.fCode), (dI v1.2.fIndex)])]⟩ (by kernel_rfl) ?_
              exact hxx73 v67  hsx76
        refine Wp.loop [2, 25, 26, 27] 1 (by kernel_rfl) (subc [1, 1, 1, 0, 1, 0, 0] C32) (by kernel_rfl) (by kernel_rfl) ⟨q2 ((dB false) :: q22 ((dP eI v1.1) :: (dI ((v1.1.length : Int))) :: (dI 0) :: q20 [])), [(.cells [(dI v1.2.fCode), (dI v1.2.fIndex)])]⟩ (by kernel_rfl) ?_
        rcases brk_some h with ⟨r103, er103, h⟩ | ⟨y102, ey102, h⟩
        · refine hLx101 _ 0  _ er103 n (by omega) (fun r er σ hσ => ?_) (fun y  ey => by cases ey)
          cases er
          refine seqQ.r ?_
          exact fnQ.r' (X32 n) (fun z => (eB z)) h hσ
        · refine hLx101 _ 0  _ ey102 n (by omega) (fun r er => by cases er) (fun y  ey => ?_)
          cases ey
          refine seqQ.n ?_
          refine Wp.seq (subc [1, 1, 1, 1, 0] C32) (subc [1, 1, 1, 1, 1] C32) (by kernel_rfl) ?_
          refine Wp.region (by kernel_rfl) ?_
          refine Ops.seg 1 1 (by kernel_rfl) ⟨q2 ((dB true) :: q22 ((dP eI v1.1) :: (dI ((v1.1.length : Int))) :: (dI y102) :: q20 [])), [(.cells [(dI v1.2.fCode), (dI v1.2.fIndex)])]⟩ (by kernel_rfl) ?_
          refine Ops.done (by kernel_rfl) ?_
          refine seqQ.n ?_
          refine Wp.ret (by kernel_rfl) ?_
          exact fnQ.r' (X32 n) (fun z => (eB z)) h (RetOk.mk' (dB true) (by kernel_rfl) (by kernel_rfl))
    have G32g11 : ∀ v10 : Bool, f32_r4 m v1 ((v10 || (decide ((v1.1.length : Int) > 30)))) = some o → Ops (X32 n) (opl (subc [1, 1, 0, 0] C32)) 9 ⟨(.v (.str a0)) :: u1 ((dB false) :: (dP eI v1.1) :: (.ptr 0 0) :: u2 ((.v (.tuple [(vP eI v1.1), (.agg [(vI v1.2.fCode), (vI v1.2.fIndex)])])) :: (.v (.str a0)) :: (.v (.tuple [(vP eI v1.1), (.agg [(vI v1.2.fCode), (vI v1.2.fIndex)])])) :: (dP eI v1.1) :: (.v (.agg [(vI v1.2.fCode), (vI v1.2.fIndex)])) :: (.v (.agg [(vI v1.2.fCode), (vI v1.2.fIndex)])) :: (.v (.agg [(vI 0), (vI 0)])) :: (dB v7) :: (dB v7) :: d4 :: d5 :: d6 :: (dB v10) :: (dB v10) :: u27 [])), [(.cells [(dI v1.2.fCode), (dI v1.2.fIndex)])]⟩ ((seqQ (X32 n) (subc [1, 1, 0, 1] C32) (seqQ (X32 n) (subc [1, 1, 1] C32) (fnQ (X32 n).E.T (resOf Proofs.Tryd.prog 32) (eB o)))) .normal) := by
      intro v10 h
      cases v10
      · refine Ops.seg 1 10 (by kernel_rfl) ⟨(.v (.str a0)) :: u1 ((dB false) :: (dP eI v1.1) :: (.ptr 0 0) :: u2 ((.v (.tuple [(vP eI v1.1), (.agg [(vI v1.2.fCode), (vI v1.2.fIndex)])])) :: (.v (.str a0)) :: (.v (.tuple [(vP eI v1.1), (.agg [(vI v1.2.fCode), (vI v1.2.fIndex)])])) :: (dP eI v1.1) :: (.v (.agg [(vI v1.2.fCode), (vI v1.2.fIndex)])) :: (.v (.agg [(vI v1.2.fCode), (vI v1.2.fIndex)])) :: (.v (.agg [(vI 0), (vI 0)])) :: (dB v7) :: (dB v7) :: d4 :: d5 :: d6 :: (dB false) :: (dB false) :: (dP eI v1.1) :: u26 [])), [(.cells [(dI v1.2.fCode), (dI v1.2.fIndex)])]⟩ (by kernel_rfl) ?_
        refine Ops.one 11 (by kernel_rfl) ((lenD (X32 n).E.T 44 (D.unt (dP eI v1.1))).map (·, [(.cells [(dI v1.2.fCode), (dI v1.2.fIndex)])])) (dI ((v1.1.length : Int))) [(.cells [(dI v1.2.fCode), (dI v1.2.fIndex)])] ⟨(.v (.str a0)) :: u1 ((dB false) :: (dP eI v1.1) :: (.ptr 0 0) :: u2 ((.v (.tuple [(vP eI v1.1), (.agg [(vI v1.2.fCode), (vI v1.2.fIndex)])])) :: (.v (.str a0)) :: (.v (.tuple [(vP eI v1.1), (.agg [(vI v1.2.fCode), (vI v1.2.fIndex)])])) :: (dP eI v1.1) :: (.v (.agg [(vI v1.2.fCode), (vI v1.2.fIndex)])) :: (.v (.agg [(vI v1.2.fCode), (vI v1.2.fIndex)])) :: (.v (.agg [(vI 0), (vI 0)])) :: (dB v7) :: (dB v7) :: d4 :: d5 :: d6 :: (dB false) :: (dB false) :: (dP eI v1.1) :: (dI ((v1.1.length : Int))) :: u25 [])), [(.cells [(dI v1.2.fCode), (dI v1.2.fIndex)])]⟩ (by kernel_rfl) (len_r _ 44 3 .plain eI v1.1 (by kernel_rfl)) (by kernel_rfl) ?_
        refine Ops.seg 2 13 (by kernel_rfl) ⟨(.v (.str a0)) :: u1 ((dB false) :: (dP eI v1.1) :: (.ptr 0 0) :: u2 ((.v (.tuple [(vP eI v1.1), (.agg [(vI v1.2.fCode), (vI v1.2.fIndex)])])) :: (.v (.str a0)) :: (.v (.tuple [(vP eI v1.1), (.agg [(vI v1.2.fCode), (vI v1.2.fIndex)])])) :: (dP eI v1.1) :: (.v (.agg [(vI v1.2.fCode), (vI v1.2.fIndex)])) :: (.v (.agg [(vI v1.2.fCode), (vI v1.2.fIndex)])) :: (.v (.agg [(vI 0), (vI 0)])) :: (dB v7) :: (dB v7) :: d4 :: d5 :: d6 :: (dB false) :: (dB false) :: (dP eI v1.1) :: (dI ((v1.1.length : Int))) :: (dB (decide ((v1.1.length : Int) > 30))) :: (dB (decide ((v1.1.length : Int) > 30))) :: u23 [])), [(.cells [(dI v1.2.fCode), (dI v1.2.fIndex)])]⟩ (by kernel_rfl) ?_
        exact J32j17 _ _ _ _ _ h
      · refine Ops.seg 4 13 (by kernel_rfl) ⟨(.v (.str a0)) :: u1 ((dB false) :: (dP eI v1.1) :: (.ptr 0 0) :: u2 ((.v (.tuple [(vP eI v1.1), (.agg [(vI v1.2.fCode), (vI v1.2.fIndex)])])) :: (.v (.str a0)) :: (.v (.tuple [(vP eI v1.1), (.agg [(vI v1.2.fCode), (vI v1.2.fIndex)])])) :: (dP eI v1.1) :: (.v (.agg [(vI v1.2.fCode), (vI v1.2.fIndex)])) :: (.v (.agg [(vI v1.2.fCode), (vI v1.2.fIndex)])) :: (.v (.agg [(vI 0), (vI 0)])) :: (dB v7) :: (dB v7) :: d4 :: d5 :: d6 :: (dB true) :: (dB true) :: u3 ((dB true) :: u23 []))), [(.cells [(dI v1.2.fCode), (dI v1.2.fIndex)])]⟩ (by kernel_rfl) ?_
        exact J32j17 _ _ _ _ _ h
    exact G32g11 v8 h
  have G32g3 : ∀ v2 : Bool, f32_r5 m v1 ((v2 || (decide ((v1.1.length : Int) < 1)))) = some o → Ops (X32 n) (opl (subc [1, 1, 0, 0] C32)) 4 ⟨(.v (.str a0)) :: u1 ((dB false) :: (dP eI v1.1) :: (.ptr 0 0) :: u2 ((.v (.tuple [(vP eI v1.1), (.agg [(vI v1.2.fCode), (vI v1.2.fIndex)])])) :: (.v (.str a0)) :: (.v (.tuple [(vP eI v1.1), (.agg [(vI v1.2.fCode), (vI v1.2.fIndex)])])) :: (dP eI v1.1) :: (.v (.agg [(vI v1.2.fCode), (vI v1.2.fIndex)])) :: (.v (.agg [(vI v1.2.fCode), (vI v1.2.fIndex)])) :: (.v (.agg [(vI 0), (vI 0)])) :: (dB v2) :: (dB v2) :: u32 [])), [(.cells [(dI v1.2.fCode), (dI v1.2.fIndex)])]⟩ ((seqQ (X32 n) (subc [1, 1, 0, 1] C32) (seqQ (X32 n) (subc [1, 1, 1] C32) (fnQ (X32 n).E.T (resOf Proofs.Tryd.prog 32) (eB o)))) .normal) := by
    intro v2 h
    cases v2
    · refine Ops.seg 1 5 (by kernel_rfl) ⟨(.v (.str a0)) :: u1 ((dB false) :: (dP eI v1.1) :: (.ptr 0 0) :: u2 ((.v (.tuple [(vP eI v1.1), (.agg [(vI v1.2.fCode), (vI v1.2.fIndex)])])) :: (.v (.str a0)) :: (.v (.tuple [(vP eI v1.1), (.agg [(vI v1.2.fCode), (vI v1.2.fIndex)])])) :: (dP eI v1.1) :: (.v (.agg [(vI v1.2.fCode), (vI v1.2.fIndex)])) :: (.v (.agg [(vI v1.2.fCode), (vI v1.2.fIndex)])) :: (.v (.agg [(vI 0), (vI 0)])) :: (dB false) :: (dB false) :: (dP eI v1.1) :: u31 [])), [(.cells [(dI v1.2.fCode), (dI v1.2.fIndex)])]⟩ (by kernel_rfl) ?_
      refine Ops.one 6 (by kernel_rfl) ((lenD (X32 n).E.T 44 (D.unt (dP eI v1.1))).map (·, [(.cells [(dI v1.2.fCode), (dI v1.2.fIndex)])])) (dI ((v1.1.length : Int))) [(.cells [(dI v1.2.fCode), (dI v1.2.fIndex)])] ⟨(.v (.str a0)) :: u1 ((dB false) :: (dP eI v1.1) :: (.ptr 0 0) :: u2 ((.v (.tuple [(vP eI v1.1), (.agg [(vI v1.2.fCode), (vI v1.2.fIndex)])])) :: (.v (.str a0)) :: (.v (.tuple [(vP eI v1.1), (.agg [(vI v1.2.fCode), (vI v1.2.fIndex)])])) :: (dP eI v1.1) :: (.v (.agg [(vI v1.2.fCode), (vI v1.2.fIndex)])) :: (.v (.agg [(vI v1.2.fCode), (vI v1.2.fIndex)])) :: (.v (.agg [(vI 0), (vI 0)])) :: (dB false) :: (dB false) :: (dP eI v1.1) :: (dI ((v1.1.length : Int))) :: u30 [])), [(.cells [(dI v1.2.fCode), (dI v1.2.fIndex)])]⟩ (by kernel_rfl) (len_r _ 44 3 .plain eI v1.1 (by kernel_rfl)) (by kernel_rfl) ?_
      refine Ops.seg 2 8 (by kernel_rfl) ⟨(.v (.str a0)) :: u1 ((dB false) :: (dP eI v1.1) :: (.ptr 0 0) :: u2 ((.v (.tuple [(vP eI v1.1), (.agg [(vI v1.2.fCode), (vI v1.2.fIndex)])])) :: (.v (.str a0)) :: (.v (.tuple [(vP eI v1.1), (.agg [(vI v1.2.fCode), (vI v1.2.fIndex)])])) :: (dP eI v1.1) :: (.v (.agg [(vI v1.2.fCode), (vI v1.2.fIndex)])) :: (.v (.agg [(vI v1.2.fCode), (vI v1.2.fIndex)])) :: (.v (.agg [(vI 0), (vI 0)])) :: (dB false) :: (dB false) :: (dP eI v1.1) :: (dI ((v1.1.length : Int))) :: (dB (decide ((v1.1.length : Int) < 1))) :: (dB (decide ((v1.1.length : Int) < 1))) :: u28 [])), [(.cells [(dI v1.2.fCode), (dI v1.2.fIndex)])]⟩ (by kernel_rfl) ?_
      exact J32j9 _ _ _ _ _ h
    · refine Ops.seg 4 8 (by kernel_rfl) ⟨(.v (.str a0)) :: u1 ((dB false) :: (dP eI v1.1) :: (.ptr 0 0) :: u2 ((.v (.tuple [(vP eI v1.1), (.agg [(vI v1.2.fCode), (vI v1.2.fIndex)])])) :: (.v (.str a0)) :: (.v (.tuple [(vP eI v1.1), (.agg [(vI v1.2.fCode), (vI v1.2.fIndex)])])) :: (dP eI v1.1) :: (.v (.agg [(vI v1.2.fCode), (vI v1.2.fIndex)])) :: (.v (.agg [(vI v1.2.fCode), (vI v1.2.fIndex)])) :: (.v (.agg [(vI 0), (vI 0)])) :: (dB true) :: (dB true) :: u3 ((dB true) :: u28 []))), [(.cells [(dI v1.2.fCode), (dI v1.2.fIndex)])]⟩ (by kernel_rfl) ?_
      exact J32j9 _ _ _ _ _ h
  exact G32g3 (!((v1.2.fCode == 0) && ((v1.2.fIndex == 0) && true))) h

/-! ### 33 glosswright/paradigm.fault -/
def f33 (m : Nat) (a0 : Int) (a1 : Int) : Option S27 :=
  some ((⟨a0, a1⟩ : S27))
noncomputable abbrev X33 (n : Nat) : Cx := cxOf Proofs.Tryd.prog E 33 n
noncomputable def C33 : Code := bodyOf Proofs.Tryd.prog 33
theorem ok33 (m : Nat) (a0 : Int) (a1 : Int) (o : S27) (h : f33 m a0 a1 = some o) (n : Nat) (hn : m + 1 ≤ n) : Fn Proofs.Tryd.prog E n 33 [eI a0, eI a1] (e27 o) := by
  obtain ⟨n, rfl⟩ : ∃ q, n = q + 1 := ⟨n - 1, by omega⟩
  unfold f33 at h
  refine Fn.of (by kernel_rfl) (by kernel_rfl) ⟨(dI a0) :: (dI a1) :: u6 [], []⟩ (by kernel_rfl) ?_
  refine Wp.seq (subc [0] C33) (subc [1] C33) (by kernel_rfl) ?_
  refine Wp.region (by kernel_rfl) ?_
  refine Ops.seg 1 1 (by kernel_rfl) ⟨(dI a0) :: (dI a1) :: u2 ((.ptr 0 0) :: u3 []), [(.cells [(dI 0), (dI 0)])]⟩ (by kernel_rfl) ?_
  refine Ops.done (by kernel_rfl) ?_
  refine seqQ.n ?_
  refine Wp.seq (subc [1, 0] C33) (subc [1, 1] C33) (by kernel_rfl) ?_
  refine Wp.region (by kernel_rfl) ?_
  refine Ops.seg 4 4 (by kernel_rfl) ⟨(dI a0) :: (dI a1) :: u2 ((.ptr 0 0) :: (dI a0) :: (dI a1) :: (.v (.agg [(vI a0), (vI a1)])) :: []), [(.cells [(dI a0), (dI a1)])]⟩ (by kernel_rfl) ?_
  refine Ops.done (by kernel_rfl) ?_
  refine seqQ.n ?_
  refine Wp.ret (by kernel_rfl) ?_
  exact fnQ.r' (X33 n) (fun z => (e27 z)) h (RetOk.mk' (.v (.agg [(vI a0), (vI a1)])) (by kernel_rfl) (by kernel_rfl))

/-! ### 39 glosswright/lexicon.Name -/
def f39_r1 (m : Nat) (v88 : Int) (v127 : Bool) : Option (Stp Bool (Int)) :=
  cnd v127
  (some (.ret false))
  (some (.nxt (w64 (v88 + 1))))
def f39_r2 (m : Nat) (v88 : Int) (v98 : Int) (v104 : Bool) : Option (Stp Bool (Int)) :=
  f39_r1 m v88 (((!v104) && (((v88 == 0) || (((v98 != 95) && (((v98 != 45) && (((decide (v98 < 48)) || (decide (v98 > 57))))))))))))
def f39_B3 (m : Nat) (a0 : ByteArray) (v88 : Int) : Option (Stp Bool (Int)) :=
  cnd (decide (v88 < (a0.size : Int)))
  (bnd (sidx a0 v88) fun v98 =>
  f39_r2 m v88 v98 (((decide (v98 ≥ 97)) && (decide (v98 ≤ 122)))))
  (some (.brk v88))
def f39_r4 (m : Nat) (a0 : ByteArray) (v7 : Bool) : Option Bool :=
  cnd v7
  (some false)
  (brk (iter (fun (y : Int) => f39_B3 m a0 y) m 0) some fun y138 =>
  some true)
def f39 (m : Nat) (a0 : ByteArray) : Option Bool :=
  f39_r4 m a0 (((decide ((a0.size : Int) < 1)) || (decide ((a0.size : Int) > 30))))
noncomputable abbrev X39 (n : Nat) : Cx := cxOf Proofs.Tryd.prog E 39 n
noncomputable def C39 : Code := bodyOf Proofs.Tryd.prog 39
theorem ok39 (m : Nat) (a0 : ByteArray) (o : Bool) (h : f39 m a0 = some o) (n : Nat) (hn : m + 1 ≤ n) : Fn Proofs.Tryd.prog E n 39 [eS a0] (eB o) := by
  obtain ⟨n, rfl⟩ : ∃ q, n = q + 1 := ⟨n - 1, by omega⟩
  unfold f39 at h
  refine Fn.of (by kernel_rfl) (by kernel_rfl) ⟨(.v (.str a0)) :: u40 (u10 []), []⟩ (by kernel_rfl) ?_
  refine Wp.seq (subc [0] C39) (subc [1] C39) (by kernel_rfl) ?_
  refine Wp.region (by kernel_rfl) ?_
  refine Ops.seg 1 1 (by kernel_rfl) ⟨(.v (.str a0)) :: u1 ((dB false) :: u40 (u8 [])), []⟩ (by kernel_rfl) ?_
  refine Ops.done (by kernel_rfl) ?_
  refine seqQ.n ?_
  refine Wp.seq (subc [1, 0] C39) (subc [1, 1] C39) (by kernel_rfl) ?_
  refine Wp.seq (subc [1, 0, 0] C39) (subc [1, 0, 1] C39) (by kernel_rfl) ?_
  refine Wp.region (by kernel_rfl) ?_
  refine Ops.seg 4 4 (by kernel_rfl) ⟨(.v (.str a0)) :: u1 ((dB false) :: u3 ((.v (.str a0)) :: (dI ((a0.size : Int))) :: (dB (decide ((a0.size : Int) < 1))) :: (dB (decide ((a0.size : Int) < 1))) :: u40 (u1 []))), []⟩ (by kernel_rfl) ?_
  have J39j8 : ∀ (d3 d4 d5 : D) (v6 : Bool) (v7 : Bool), f39_r4 m a0 v7 = some o → Ops (X39 n) (opl (subc [1, 0, 0] C39)) 8 ⟨(.v (.str a0)) :: u1 ((dB false) :: u3 ((.v (.str a0)) :: (dI ((a0.size : Int))) :: (dB v6) :: (dB v6) :: d3 :: d4 :: d5 :: (dB v7) :: u37 [])), []⟩ ((seqQ (X39 n) (subc [1, 0, 1] C39) (seqQ (X39 n) (subc [1, 1] C39) (fnQ (X39 n).E.T (resOf Proofs.Tryd.prog 39) (eB o)))) .normal) := by
    intro d3 d4 d5 v6 v7 h
    unfold f39_r4 at h
    refine Ops.done (by kernel_rfl) ?_
    refine seqQ.n ?_
    rcases cnd_some h with ⟨hb, h⟩ | ⟨hb, h⟩
    · refine Wp.cond v7 [0, 2] (by kernel_rfl) 0 (by kernel_rfl) (subc [1, 0, 1, 0] C39) (subc [1, 0, 1, 1] C39) (by kernel_rfl) (by kernel_rfl) (fun _ => ?_) (fun e => nomatch (hb.symm.trans e))
      refine Wp.seq (subc [1, 0, 1, 0, 0] C39) (subc [1, 0, 1, 0, 1] C39) (by kernel_rfl) ?_
      refine Wp.region (by kernel_rfl) ?_
      refine Ops.seg 1 1 (by kernel_rfl) ⟨(.v (.str a0)) :: u1 ((dB false) :: u3 ((.v (.str a0)) :: (dI ((a0.size : Int))) :: (dB v6) :: (dB v6) :: d3 :: d4 :: d5 :: (dB v7) :: u37 [])), []⟩ (by kernel_rfl) ?_
      refine Ops.done (by kernel_rfl) ?_
      refine seqQ.n ?_
      refine Wp.ret (by kernel_rfl) ?_
      refine sqQ.r ?_
      refine seqQ.r ?_
      exact fnQ.r' (X39 n) (fun z => (eB z)) h (RetOk.mk' (dB false) (by kernel_rfl) (by kernel_rfl))
    · refine Wp.cond v7 [0, 2] (by kernel_rfl) 0 (by kernel_rfl) (subc [1, 0, 1, 0] C39) (subc [1, 0, 1, 1] C39) (by kernel_rfl) (by kernel_rfl) (fun e => nomatch (hb.symm.trans e)) (fun _ => ?_)
      refine Wp.skip (by kernel_rfl) ?_
      refine sqQ.n ⟨(.v (.str a0)) :: u1 ((dB false) :: u3 ((.v (.str a0)) :: (dI ((a0.size : Int))) :: (dB v6) :: (dB v6) :: d3 :: d4 :: d5 :: (dB v7) :: u37 [])), []⟩ (by kernel_rfl) ?_
      refine seqQ.n ?_
      refine Wp.seq (subc [1, 1, 0] C39) (subc [1, 1, 1] C39) (by kernel_rfl) ?_
      refine Wp.seq (subc [1, 1, 0, 0] C39) (subc [1, 1, 0, 1] C39) (by kernel_rfl) ?_
      refine Wp.region (by kernel_rfl) ?_
      refine Ops.seg 3 3 (by kernel_rfl) ⟨(.v (.str a0)) :: u1 ((dB false) :: u3 ((.v (.str a0)) :: (dI ((a0.size : Int))) :: (dB v6) :: (dB v6) :: d3 :: d4 :: d5 :: (dB v7) :: (.v (.str a0)) :: (dI ((a0.size : Int))) :: (dI 0) :: u34 [])), []⟩ (by kernel_rfl) ?_
      refine Ops.done (by kernel_rfl) ?_
      refine seqQ.n ?_
      refine Wp.block (id := 0) [2] (by kernel_rfl) 0 (by kernel_rfl) (subc [1, 1, 0, 1, 0] C39) (by kernel_rfl) ?_
      have hLx137 : ∀ (kx90 : Nat) (v88 : Int)  (ox89 : Bool ⊕ (Int)), iter (fun (y : Int) => f39_B3 m a0 y) kx90 v88 = some ox89 → ∀ nx91, kx90 ≤ nx91 → (∀ r, ox89 = .inl r → ∀ σ, RetOk (X39 n) (resOf Proofs.Tryd.prog 39) (eB r) σ → (seqQ (X39 n) (subc [1, 1, 1] C39) (fnQ (X39 n).E.T (resOf Proofs.Tryd.prog 39) (eB o))) .ret σ) → (∀ (y : Int) , ox89 = .inr y → (seqQ (X39 n) (subc [1, 1, 1] C39) (fnQ (X39 n).E.T (resOf Proofs.Tryd.prog 39) (eB o))) .normal ⟨(.v (.str a0)) :: q1 ((dB false) :: q12 ((dI ((a0.size : Int))) :: (dI y) :: q34 [])), []⟩) → Lp (X39 n) [0, 2, 15, 16] 0 (subc [1, 1, 0, 1, 0, 0] C39) nx91 ⟨(.v (.str a0)) :: q1 ((dB false) :: q12 ((dI ((a0.size : Int))) :: (dI v88) :: q34 [])), []⟩ (blkQ (X39 n) 0 [2] 0 (seqQ (X39 n) (subc [1, 1, 1] C39) (fnQ (X39 n).E.T (resOf Proofs.Tryd.prog 39) (eB o)))) := by
        intro kx90
        induction kx90 with
        | zero => intro v88  ox89 h; exact (iter_zero h).elim
        | succ kx90 ihx92 =>
          intro v88  ox89 h nx91 hnx95 hrx93 hxx94
          obtain ⟨nx91, rfl⟩ : ∃ q, nx91 = q + 1 := ⟨nx91 - 1, by omega⟩
          obtain ⟨sx96, h, hsx97⟩ := iter_some h
          have h : f39_B3 m a0 v88 = some sx96 := h
          unfold f39_B3 at h
          refine Lp.succ ?_
          refine Wp.seq (subc [1, 1, 0, 1, 0, 0, 0] C39) (subc [1, 1, 0, 1, 0, 0, 1] C39) (by kernel_rfl) ?_
          refine Wp.region (by kernel_rfl) ?_
          refine Ops.seg 1 1 (by kernel_rfl) ⟨(.v (.str a0)) :: q1 ((dB false) :: q12 ((dI ((a0.size : Int))) :: (dI v88) :: (dB (decide (v88 < (a0.size : Int)))) :: q33 [])), []⟩ (by kernel_rfl) ?_
          refine Ops.done (by kernel_rfl) ?_
          refine seqQ.n ?_
          refine Wp.seq (subc [1, 1, 0, 1, 0, 0, 1, 0] C39) (subc [1, 1, 0, 1, 0, 0, 1, 1] C39) (by kernel_rfl) ?_
          rcases cnd_some h with ⟨hb, h⟩ | ⟨hb, h⟩
          · refine Wp.cond (decide (v88 < (a0.size : Int))) [0, 2, 15, 16] (by kernel_rfl) 0 (by kernel_rfl) (subc [1, 1, 0, 1, 0, 0, 1, 0, 0] C39) (subc [1, 1, 0, 1, 0, 0, 1, 0, 1] C39) (by kernel_rfl) (by kernel_rfl) (fun _ => ?_) (fun e => nomatch (hb.symm.trans e))
            refine Wp.skip (by kernel_rfl) ?_
            refine sqQ.n ⟨(.v (.str a0)) :: q1 ((dB false) :: q12 ((dI ((a0.size : Int))) :: (dI v88) :: (dB (decide (v88 < (a0.size : Int)))) :: q33 [])), []⟩ (by kernel_rfl) ?_
            refine seqQ.n ?_
            refine Wp.seq (subc [1, 1, 0, 1, 0, 0, 1, 1, 0] C39) (subc [1, 1, 0, 1, 0, 0, 1, 1, 1] C39) (by kernel_rfl) ?_
            refine Wp.block (id := 1) [0, 2, 15, 16] (by kernel_rfl) 0 (by kernel_rfl) (subc [1, 1, 0, 1, 0, 0, 1, 1, 0, 0] C39) (by kernel_rfl) ?_
            refine Wp.seq (subc [1, 1, 0, 1, 0, 0, 1, 1, 0, 0, 0] C39) (subc [1, 1, 0, 1, 0, 0, 1, 1, 0, 0, 1] C39) (by kernel_rfl) ?_
            refine Wp.region (by kernel_rfl) ?_
            refine Ops.seg 2 2 (by kernel_rfl) ⟨(.v (.str a0)) :: q1 ((dB false) :: (dI v88) :: q11 ((dI ((a0.size : Int))) :: (dI v88) :: (dB (decide (v88 < (a0.size : Int)))) :: (dI v88) :: q32 [])), []⟩ (by kernel_rfl) ?_
            refine Ops.done (by kernel_rfl) ?_
            refine seqQ.n ?_
            refine Wp.seq (subc [1, 1, 0, 1, 0, 0, 1, 1, 0, 0, 1, 0] C39) (subc [1, 1, 0, 1, 0, 0, 1, 1, 0, 0, 1, 1] C39) (by kernel_rfl) ?_
            refine Wp.region (by kernel_rfl) ?_
            refine Ops.seg 2 2 (by kernel_rfl) ⟨(.v (.str a0)) :: q1 ((dB false) :: (dI v88) :: q11 ((dI ((a0.size : Int))) :: (dI v88) :: (dB (decide (v88 < (a0.size : Int)))) :: (dI v88) :: (.v (.str a0)) :: (dI v88) :: q30 [])), []⟩ (by kernel_rfl) ?_
            obtain ⟨v98, ev98, h⟩ := bnd_some h
            refine Ops.one 3 (by kernel_rfl) ((indexD (X39 n).E.T 9 (.v (.str a0)) (dI v88)).map (·, [])) (.v (.int .u8 v98)) [] ⟨(.v (.str a0)) :: q1 ((dB false) :: (dI v88) :: q11 ((dI ((a0.size : Int))) :: (dI v88) :: (dB (decide (v88 < (a0.size : Int)))) :: (dI v88) :: (.v (.str a0)) :: (dI v88) :: (.v (.int .u8 v98)) :: q29 [])), []⟩ (by kernel_rfl) (str_ix _ 9 a0 v88 v98 ev98 (by kernel_rfl)) (by kernel_rfl) ?_
            refine Ops.seg 1 4 (by kernel_rfl) ⟨(.v (.str a0)) :: q1 ((dB false) :: (dI v88) :: (.v (.int .u8 v98)) :: q10 ((dI ((a0.size : Int))) :: (dI v88) :: (dB (decide (v88 < (a0.size : Int)))) :: (dI v88) :: (.v (.str a0)) :: (dI v88) :: (.v (.int .u8 v98)) :: q29 [])), []⟩ (by kernel_rfl) ?_
            refine Ops.done (by kernel_rfl) ?_
            refine seqQ.n ?_
            refine Wp.seq (subc [1, 1, 0, 1, 0, 0, 1, 1, 0, 0, 1, 1, 0] C39) (subc [1, 1, 0, 1, 0, 0, 1, 1, 0, 0, 1, 1, 1] C39) (by kernel_rfl) ?_
            refine Wp.region (by kernel_rfl) ?_
            refine Ops.seg 3 3 (by kernel_rfl) ⟨(.v (.str a0)) :: q1 ((dB false) :: (dI v88) :: (.v (.int .u8 v98)) :: q10 ((dI ((a0.size : Int))) :: (dI v88) :: (dB (decide (v88 < (a0.size : Int)))) :: (dI v88) :: (.v (.str a0)) :: (dI v88) :: (.v (.int .u8 v98)) :: (.v (.int .u8 v98)) :: (dB (decide (v98 ≥ 97))) :: (dB (decide (v98 ≥ 97))) :: q26 [])), []⟩ (by kernel_rfl) ?_
            have J39j105 : ∀ (d101 d102 : D) (v103 : Bool) (v104 : Bool), f39_r2 m v88 v98 v104 = some sx96 → Ops (X39 n) (opl (subc [1, 1, 0, 1, 0, 0, 1, 1, 0, 0, 1, 1, 0] C39)) 6 ⟨(.v (.str a0)) :: q1 ((dB false) :: (dI v88) :: (.v (.int .u8 v98)) :: q10 ((dI ((a0.size : Int))) :: (dI v88) :: (dB (decide (v88 < (a0.size : Int)))) :: (dI v88) :: (.v (.str a0)) :: (dI v88) :: (.v (.int .u8 v98)) :: (.v (.int .u8 v98)) :: (dB v103) :: (dB v103) :: d101 :: d102 :: (dB v104) :: q23 [])), []⟩ ((seqQ (X39 n) (subc [1, 1, 0, 1, 0, 0, 1, 1, 0, 0, 1, 1, 1] C39) (blkQ (X39 n) 1 [0, 2, 15, 16] 0 (seqQ (X39 n) (subc [1, 1, 0, 1, 0, 0, 1, 1, 1] C39) (lpQ (X39 n) [0, 2, 15, 16] 0 (subc [1, 1, 0, 1, 0, 0] C39) nx91 (blkQ (X39 n) 0 [2] 0 (seqQ (X39 n) (subc [1, 1, 1] C39) (fnQ (X39 n).E.T (resOf Proofs.Tryd.prog 39) (eB o)))))))) .normal) := by
              intro d101 d102 v103 v104 h
              unfold f39_r2 at h
              refine Ops.seg 1 7 (by kernel_rfl) ⟨(.v (.str a0)) :: q1 ((dB false) :: (dI v88) :: (.v (.int .u8 v98)) :: (dB v104) :: q9 ((dI ((a0.size : Int))) :: (dI v88) :: (dB (decide (v88 < (a0.size : Int)))) :: (dI v88) :: (.v (.str a0)) :: (dI v88) :: (.v (.int .u8 v98)) :: (.v (.int .u8 v98)) :: (dB v103) :: (dB v103) :: d101 :: d102 :: (dB v104) :: q23 [])), []⟩ (by kernel_rfl) ?_
              refine Ops.done (by kernel_rfl) ?_
              refine seqQ.n ?_
              refine Wp.seq (subc [1, 1, 0, 1, 0, 0, 1, 1, 0, 0, 1, 1, 1, 0] C39) (subc [1, 1, 0, 1, 0, 0, 1, 1, 0, 0, 1, 1, 1, 1] C39) (by kernel_rfl) ?_
              refine Wp.region (by kernel_rfl) ?_
              refine Ops.seg 3 3 (by kernel_rfl) ⟨(.v (.str a0)) :: q1 ((dB false) :: (dI v88) :: (.v (.int .u8 v98)) :: (dB v104) :: q9 ((dI ((a0.size : Int))) :: (dI v88) :: (dB (decide (v88 < (a0.size : Int)))) :: (dI v88) :: (.v (.str a0)) :: (dI v88) :: (.v (.int .u8 v98)) :: (.v (.int .u8 v98)) :: (dB v103) :: (dB v103) :: d101 :: d102 :: (dB v104) :: (dB v104) :: (dB (!v104)) :: (dB (!v104)) :: q20 [])), []⟩ (by kernel_rfl) ?_
              have J39j128 : ∀ (d108 d109 d110 d111 d112 d113 d114 d115 d116 d117 d118 d119 d120 d121 d122 d123 d124 d125 : D) (v126 : Bool) (v127 : Bool), f39_r1 m v88 v127 = some sx96 → Ops (X39 n) (opl (subc [1, 1, 0, 1, 0, 0, 1, 1, 0, 0, 1, 1, 1, 0] C39)) 22 ⟨(.v (.str a0)) :: q1 ((dB false) :: (dI v88) :: (.v (.int .u8 v98)) :: (dB v104) :: q9 ((dI ((a0.size : Int))) :: (dI v88) :: (dB (decide (v88 < (a0.size : Int)))) :: (dI v88) :: (.v (.str a0)) :: (dI v88) :: (.v (.int .u8 v98)) :: (.v (.int .u8 v98)) :: (dB v103) :: (dB v103) :: d101 :: d102 :: (dB v104) :: (dB v104) :: (dB v126) :: (dB v126) :: d108 :: d109 :: d110 :: d111 :: d112 :: d113 :: d114 :: d115 :: d116 :: d117 :: d118 :: d119 :: d120 :: d121 :: d122 :: d123 :: d124 :: d125 :: (dB v127) :: q1 [])), []⟩ ((seqQ (X39 n) (subc [1, 1, 0, 1, 0, 0, 1, 1, 0, 0, 1, 1, 1, 1] C39) (blkQ (X39 n) 1 [0, 2, 15, 16] 0 (seqQ (X39 n) (subc [1, 1, 0, 1, 0, 0, 1, 1, 1] C39) (lpQ (X39 n) [0, 2, 15, 16] 0 (subc [1, 1, 0, 1, 0, 0] C39) nx91 (blkQ (X39 n) 0 [2] 0 (seqQ (X39 n) (subc [1, 1, 1] C39) (fnQ (X39 n).E.T (resOf Proofs.Tryd.prog 39) (eB o)))))))) .normal) := by
                intro d108 d109 d110 d111 d112 d113 d114 d115 d116 d117 d118 d119 d120 d121 d122 d123 d124 d125 v126 v127 h
                unfold f39_r1 at h
                refine Ops.done (by kernel_rfl) ?_
                refine seqQ.n ?_
                rcases cnd_some h with ⟨hb, h⟩ | ⟨hb, h⟩
                · refine Wp.cond v127 [0, 2, 15, 16] (by kernel_rfl) 0 (by kernel_rfl) (subc [1, 1, 0, 1, 0, 0, 1, 1, 0, 0, 1, 1, 1, 1, 0] C39) (subc [1, 1, 0, 1, 0, 0, 1, 1, 0, 0, 1, 1, 1, 1, 1] C39) (by kernel_rfl) (by kernel_rfl) (fun _ => ?_) (fun e => nomatch (hb.symm.trans e))
                  refine Wp.seq (subc [1, 1, 0, 1, 0, 0, 1, 1, 0, 0, 1, 1, 1, 1, 0, 0] C39) (subc [1, 1, 0, 1, 0, 0, 1, 1, 0, 0, 1, 1, 1, 1, 0, 1] C39) (by kernel_rfl) ?_
                  refine Wp.region (by kernel_rfl) ?_
                  refine Ops.seg 1 1 (by kernel_rfl) ⟨(.v (.str a0)) :: q1 ((dB false) :: (dI v88) :: (.v (.int .u8 v98)) :: (dB v104) :: q9 ((dI ((a0.size : Int))) :: (dI v88) :: (dB (decide (v88 < (a0.size : Int)))) :: (dI v88) :: (.v (.str a0)) :: (dI v88) :: (.v (.int .u8 v98)) :: (.v (.int .u8 v98)) :: (dB v103) :: (dB v103) :: d101 :: d102 :: (dB v104) :: (dB v104) :: (dB v126) :: (dB v126) :: d108 :: d109 :: d110 :: d111 :: d112 :: d113 :: d114 :: d115 :: d116 :: d117 :: d118 :: d119 :: d120 :: d121 :: d122 :: d123 :: d124 :: d125 :: (dB v127) :: q1 [])), []⟩ (by kernel_rfl) ?_
                  refine Ops.done (by kernel_rfl) ?_
                  refine seqQ.n ?_
                  refine Wp.ret (by kernel_rfl) ?_
                  refine sqQ.r ?_
                  refine blkQ.r ?_
                  refine seqQ.r ?_
                  cases h
                  refine lpQ.r ?_
                  refine blkQ.r ?_
                  exact hrx93 _ hsx97 _ (RetOk.forget [0, 2, 15, 16] (by kernel_rfl) (RetOk.mk' (dB false) (by kernel_rfl) (by kernel_rfl)))
                · refine Wp.cond v127 [0, 2, 15, 16] (by kernel_rfl) 0 (by kernel_rfl) (subc [1, 1, 0, 1, 0, 0, 1, 1, 0, 0, 1, 1, 1, 1, 0] C39) (subc [1, 1, 0, 1, 0, 0, 1, 1, 0, 0, 1, 1, 1, 1, 1] C39) (by kernel_rfl) (by kernel_rfl) (fun e => nomatch (hb.symm.trans e)) (fun _ => ?_)
                  refine Wp.skip (by kernel_rfl) ?_
                  refine sqQ.n ⟨(.v (.str a0)) :: q1 ((dB false) :: (dI v88) :: (.v (.int .u8 v98)) :: (dB v104) :: q9 ((dI ((a0.size : Int))) :: (dI v88) :: (dB (decide (v88 < (a0.size : Int)))) :: (dI v88) :: (.v (.str a0)) :: (dI v88) :: (.v (.int .u8 v98)) :: (.v (.int .u8 v98)) :: (dB v103) :: (dB v103) :: d101 :: d102 :: (dB v104) :: (dB v104) :: (dB v126) :: (dB v126) :: d108 :: d109 :: d110 :: d111 :: d112 :: d113 :: d114 :: d115 :: d116 :: d117 :: d118 :: d119 :: d120 :: d121 :: d122 :: d123 :: d124 :: d125 :: (dB v127) :: q1 [])), []⟩ (by kernel_rfl) ?_
                  refine blkQ.n ⟨(.v (.str a0)) :: q1 ((dB false) :: (dI v88) :: (.v (.int .u8 v98)) :: (dB v104) :: q9 ((dI ((a0.size : Int))) :: (dI v88) :: (dB (decide (v88 < (a0.size : Int)))) :: (dI v88) :: (.v (.str a0)) :: (dI v88) :: (.v (.int .u8 v98)) :: (.v (.int .u8 v98)) :: (dB v103) :: (dB v103) :: d101 :: d102 :: (dB v104) :: (dB v104) :: (dB v126) :: (dB v126) :: d108 :: d109 :: d110 :: d111 :: d112 :: d113 :: d114 :: d115 :: d116 :: d117 :: d118 :: d119 :: d120 :: d121 :: d122 :: d123 :: d124 :: d125 :: (dB v127) :: q1 [])), []⟩ (by kernel_rfl) ?_
                  refine seqQ.n ?_
                  refine Wp.region (by kernel_rfl) ?_
                  refine Ops.seg 2 2 (by kernel_rfl) ⟨(.v (.str a0)) :: q1 ((dB false) :: (dI v88) :: (.v (.int .u8 v98)) :: (dB v104) :: q9 ((dI ((a0.size : Int))) :: (dI (w64 (v88 + 1))) :: (dB (decide (v88 < (a0.size : Int)))) :: (dI v88) :: (.v (.str a0)) :: (dI v88) :: (.v (.int .u8 v98)) :: (.v (.int .u8 v98)) :: (dB v103) :: (dB v103) :: d101 :: d102 :: (dB v104) :: (dB v104) :: (dB v126) :: (dB v126) :: d108 :: d109 :: d110 :: d111 :: d112 :: d113 :: d114 :: d115 :: d116 :: d117 :: d118 :: d119 :: d120 :: d121 :: d122 :: d123 :: d124 :: d125 :: (dB v127) :: (dI (w64 (v88 + 1))) :: [])), []⟩ (by kernel_rfl) ?_
                  refine Ops.done (by kernel_rfl) ?_
                  refine lpQ.n ⟨(.v (.str a0)) :: q1 ((dB false) :: q12 ((dI ((a0.size : Int))) :: (dI (w64 (v88 + 1))) :: q34 [])), []⟩ (by kernel_rfl) ?_
                  cases h
                  exact ihx92 (w64 (v88 + 1))  _ hsx97 _ (by omega) hrx93 hxx94
              have G39g107 : ∀ v106 : Bool, f39_r1 m v88 ((v106 && (((v88 == 0) || (((v98 != 95) && (((v98 != 45) && (((decide (v98 < 48)) || (decide (v98 > 57)))))))))))) = some sx96 → Ops (X39 n) (opl (subc [1, 1, 0, 1, 0, 0, 1, 1, 0, 0, 1, 1, 1, 0] C39)) 3 ⟨(.v (.str a0)) :: q1 ((dB false) :: (dI v88) :: (.v (.int .u8 v98)) :: (dB v104) :: q9 ((dI ((a0.size : Int))) :: (dI v88) :: (dB (decide (v88 < (a0.size : Int)))) :: (dI v88) :: (.v (.str a0)) :: (dI v88) :: (.v (.int .u8 v98)) :: (.v (.int .u8 v98)) :: (dB v103) :: (dB v103) :: d101 :: d102 :: (dB v104) :: (dB v104) :: (dB v106) :: (dB v106) :: q20 [])), []⟩ ((seqQ (X39 n) (subc [1, 1, 0, 1, 0, 0, 1, 1, 0, 0, 1, 1, 1, 1] C39) (blkQ (X39 n) 1 [0, 2, 15, 16] 0 (seqQ (X39 n) (subc [1, 1, 0, 1, 0, 0, 1, 1, 1] C39) (lpQ (X39 n) [0, 2, 15, 16] 0 (subc [1, 1, 0, 1, 0, 0] C39) nx91 (blkQ (X39 n) 0 [2] 0 (seqQ (X39 n) (subc [1, 1, 1] C39) (fnQ (X39 n).E.T (resOf Proofs.Tryd.prog 39) (eB o)))))))) .normal) := by
                intro v106 h
                cases v106
                · refine Ops.seg 19 22 (by kernel_rfl) ⟨(.v (.str a0)) :: q1 ((dB false) :: (dI v88) :: (.v (.int .u8 v98)) :: (dB v104) :: q9 ((dI ((a0.size : Int))) :: (dI v88) :: (dB (decide (v88 < (a0.size : Int)))) :: (dI v88) :: (.v (.str a0)) :: (dI v88) :: (.v (.int .u8 v98)) :: (.v (.int .u8 v98)) :: (dB v103) :: (dB v103) :: d101 :: d102 :: (dB v104) :: (dB v104) :: (dB false) :: (dB false) :: u18 ((dB false) :: q1 []))), []⟩ (by kernel_rfl) ?_
                  exact J39j128 _ _ _ _ _ _ _ _ _ _ _ _ _ _ _ _ _ _ _ _ h
                · refine Ops.seg 3 6 (by kernel_rfl) ⟨(.v (.str a0)) :: q1 ((dB false) :: (dI v88) :: (.v (.int .u8 v98)) :: (dB v104) :: q9 ((dI ((a0.size : Int))) :: (dI v88) :: (dB (decide (v88 < (a0.size : Int)))) :: (dI v88) :: (.v (.str a0)) :: (dI v88) :: (.v (.int .u8 v98)) :: (.v (.int .u8 v98)) :: (dB v103) :: (dB v103) :: d101 :: d102 :: (dB v104) :: (dB v104) :: (dB true) :: (dB true) :: (dI v88) :: (dB (v88 == 0)) :: (dB (v88 == 0)) :: q17 [])), []⟩ (by kernel_rfl) ?_
                  have G39g130 : ∀ v129 : Bool, (f39_r1 m v88 ((true && ((v129 || (((v98 != 95) && (((v98 != 45) && (((decide (v98 < 48)) || (decide (v98 > 57))))))))))))) = some sx96 → Ops (X39 n) (opl (subc [1, 1, 0, 1, 0, 0, 1, 1, 0, 0, 1, 1, 1, 0] C39)) 6 ⟨(.v (.str a0)) :: q1 ((dB false) :: (dI v88) :: (.v (.int .u8 v98)) :: (dB v104) :: q9 ((dI ((a0.size : Int))) :: (dI v88) :: (dB (decide (v88 < (a0.size : Int)))) :: (dI v88) :: (.v (.str a0)) :: (dI v88) :: (.v (.int .u8 v98)) :: (.v (.int .u8 v98)) :: (dB v103) :: (dB v103) :: d101 :: d102 :: (dB v104) :: (dB v104) :: (dB true) :: (dB true) :: (dI v88) :: (dB v129) :: (dB v129) :: q17 [])), []⟩ ((seqQ (X39 n) (subc [1, 1, 0, 1, 0, 0, 1, 1, 0, 0, 1, 1, 1, 1] C39) (blkQ (X39 n) 1 [0, 2, 15, 16] 0 (seqQ (X39 n) (subc [1, 1, 0, 1, 0, 0, 1, 1, 1] C39) (lpQ (X39 n) [0, 2, 15, 16] 0 (subc [1, 1, 0, 1, 0, 0] C39) nx91 (blkQ (X39 n) 0 [2] 0 (seqQ (X39 n) (subc [1, 1, 1] C39) (fnQ (X39 n).E.T (resOf Proofs.Tryd.prog 39) (eB o)))))))) .normal) := by
                    intro v129 h
                    cases v129
                    · refine Ops.seg 3 9 (by kernel_rfl) ⟨(.v (.str a0)) :: q1 ((dB false) :: (dI v88) :: (.v (.int .u8 v98)) :: (dB v104) :: q9 ((dI ((a0.size : Int))) :: (dI v88) :: (dB (decide (v88 < (a0.size : Int)))) :: (dI v88) :: (.v (.str a0)) :: (dI v88) :: (.v (.int .u8 v98)) :: (.v (.int .u8 v98)) :: (dB v103) :: (dB v103) :: d101 :: d102 :: (dB v104) :: (dB v104) :: (dB true) :: (dB true) :: (dI v88) :: (dB false) :: (dB false) :: (.v (.int .u8 v98)) :: (dB (v98 != 95)) :: (dB (v98 != 95)) :: q14 [])), []⟩ (by kernel_rfl) ?_
                      have G39g132 : ∀ v131 : Bool, (f39_r1 m v88 ((true && ((false || ((v131 && (((v98 != 45) && (((decide (v98 < 48)) || (decide (v98 > 57))))))))))))) = some sx96 → Ops (X39 n) (opl (subc [1, 1, 0, 1, 0, 0, 1, 1, 0, 0, 1, 1, 1, 0] C39)) 9 ⟨(.v (.str a0)) :: q1 ((dB false) :: (dI v88) :: (.v (.int .u8 v98)) :: (dB v104) :: q9 ((dI ((a0.size : Int))) :: (dI v88) :: (dB (decide (v88 < (a0.size : Int)))) :: (dI v88) :: (.v (.str a0)) :: (dI v88) :: (.v (.int .u8 v98)) :: (.v (.int .u8 v98)) :: (dB v103) :: (dB v103) :: d101 :: d102 :: (dB v104) :: (dB v104) :: (dB true) :: (dB true) :: (dI v88) :: (dB false) :: (dB false) :: (.v (.int .u8 v98)) :: (dB v131) :: (dB v131) :: q14 [])), []⟩ ((seqQ (X39 n) (subc [1, 1, 0, 1, 0, 0, 1, 1, 0, 0, 1, 1, 1, 1] C39) (blkQ (X39 n) 1 [0, 2, 15, 16] 0 (seqQ (X39 n) (subc [1, 1, 0, 1, 0, 0, 1, 1, 1] C39) (lpQ (X39 n) [0, 2, 15, 16] 0 (subc [1, 1, 0, 1, 0, 0] C39) nx91 (blkQ (X39 n) 0 [2] 0 (seqQ (X39 n) (subc [1, 1, 1] C39) (fnQ (X39 n).E.T (resOf Proofs.Tryd.prog 39) (eB o)))))))) .normal) := by
                        intro v131 h
                        cases v131
                        · refine Ops.seg 13 22 (by kernel_rfl) ⟨(.v (.str a0)) :: q1 ((dB false) :: (dI v88) :: (.v (.int .u8 v98)) :: (dB v104) :: q9 ((dI ((a0.size : Int))) :: (dI v88) :: (dB (decide (v88 < (a0.size : Int)))) :: (dI v88) :: (.v (.str a0)) :: (dI v88) :: (.v (.int .u8 v98)) :: (.v (.int .u8 v98)) :: (dB v103) :: (dB v103) :: d101 :: d102 :: (dB v104) :: (dB v104) :: (dB true) :: (dB true) :: (dI v88) :: (dB false) :: (dB false) :: (.v (.int .u8 v98)) :: (dB false) :: (dB false) :: u2 ((dB false) :: (dB false) :: u6 ((dB false) :: (dB false) :: (dB false) :: q1 [])))), []⟩ (by kernel_rfl) ?_
                          exact J39j128 _ _ _ _ _ _ _ _ _ _ _ _ _ _ _ _ _ _ _ _ h
                        · refine Ops.seg 4 13 (by kernel_rfl) ⟨(.v (.str a0)) :: q1 ((dB false) :: (dI v88) :: (.v (.int .u8 v98)) :: (dB v104) :: q9 ((dI ((a0.size : Int))) :: (dI v88) :: (dB (decide (v88 < (a0.size : Int)))) :: (dI v88) :: (.v (.str a0)) :: (dI v88) :: (.v (.int .u8 v98)) :: (.v (.int .u8 v98)) :: (dB v103) :: (dB v103) :: d101 :: d102 :: (dB v104) :: (dB v104) :: (dB true) :: (dB true) :: (dI v88) :: (dB false) :: (dB false) :: (.v (.int .u8 v98)) :: (dB true) :: (dB true) :: (.v (.int .u8 v98)) :: (dB (v98 != 45)) :: (dB (v98 != 45)) :: (dB (v98 != 45)) :: q10 [])), []⟩ (by kernel_rfl) ?_
                          have G39g134 : ∀ v133 : Bool, (f39_r1 m v88 ((true && ((false || ((true && ((v133 && (((decide (v98 < 48)) || (decide (v98 > 57))))))))))))) = some sx96 → Ops (X39 n) (opl (subc [1, 1, 0, 1, 0, 0, 1, 1, 0, 0, 1, 1, 1, 0] C39)) 13 ⟨(.v (.str a0)) :: q1 ((dB false) :: (dI v88) :: (.v (.int .u8 v98)) :: (dB v104) :: q9 ((dI ((a0.size : Int))) :: (dI v88) :: (dB (decide (v88 < (a0.size : Int)))) :: (dI v88) :: (.v (.str a0)) :: (dI v88) :: (.v (.int .u8 v98)) :: (.v (.int .u8 v98)) :: (dB v103) :: (dB v103) :: d101 :: d102 :: (dB v104) :: (dB v104) :: (dB true) :: (dB true) :: (dI v88) :: (dB false) :: (dB false) :: (.v (.int .u8 v98)) :: (dB true) :: (dB true) :: (.v (.int .u8 v98)) :: (dB v133) :: (dB v133) :: (dB v133) :: q10 [])), []⟩ ((seqQ (X39 n) (subc [1, 1, 0, 1, 0, 0, 1, 1, 0, 0, 1, 1, 1, 1] C39) (blkQ (X39 n) 1 [0, 2, 15, 16] 0 (seqQ (X39 n) (subc [1, 1, 0, 1, 0, 0, 1, 1, 1] C39) (lpQ (X39 n) [0, 2, 15, 16] 0 (subc [1, 1, 0, 1, 0, 0] C39) nx91 (blkQ (X39 n) 0 [2] 0 (seqQ (X39 n) (subc [1, 1, 1] C39) (fnQ (X39 n).E.T (resOf Proofs.Tryd.prog 39) (eB o)))))))) .normal) := by
                            intro v133 h
                            cases v133
                            · refine Ops.seg 9 22 (by kernel_rfl) ⟨(.v (.str a0)) :: q1 ((dB false) :: (dI v88) :: (.v (.int .u8 v98)) :: (dB v104) :: q9 ((dI ((a0.size : Int))) :: (dI v88) :: (dB (decide (v88 < (a0.size : Int)))) :: (dI v88) :: (.v (.str a0)) :: (dI v88) :: (.v (.int .u8 v98)) :: (.v (.int .u8 v98)) :: (dB v103) :: (dB v103) :: d101 :: d102 :: (dB v104) :: (dB v104) :: (dB true) :: (dB true) :: (dI v88) :: (dB false) :: (dB false) :: (.v (.int .u8 v98)) :: (dB true) :: (dB true) :: (.v (.int .u8 v98)) :: (dB false) :: (dB false) :: (dB false) :: u6 ((dB false) :: (dB false) :: (dB false) :: q1 []))), []⟩ (by kernel_rfl) ?_
                              exact J39j128 _ _ _ _ _ _ _ _ _ _ _ _ _ _ _ _ _ _ _ _ h
                            · refine Ops.seg 3 16 (by kernel_rfl) ⟨(.v (.str a0)) :: q1 ((dB false) :: (dI v88) :: (.v (.int .u8 v98)) :: (dB v104) :: q9 ((dI ((a0.size : Int))) :: (dI v88) :: (dB (decide (v88 < (a0.size : Int)))) :: (dI v88) :: (.v (.str a0)) :: (dI v88) :: (.v (.int .u8 v98)) :: (.v (.int .u8 v98)) :: (dB v103) :: (dB v103) :: d101 :: d102 :: (dB v104) :: (dB v104) :: (dB true) :: (dB true) :: (dI v88) :: (dB false) :: (dB false) :: (.v (.int .u8 v98)) :: (dB true) :: (dB true) :: (.v (.int .u8 v98)) :: (dB true) :: (dB true) :: (dB true) :: (.v (.int .u8 v98)) :: (dB (decide (v98 < 48))) :: (dB (decide (v98 < 48))) :: q7 [])), []⟩ (by kernel_rfl) ?_
                              have G39g136 : ∀ v135 : Bool, (f39_r1 m v88 ((true && ((false || ((true && ((true && ((v135 || (decide (v98 > 57))))))))))))) = some sx96 → Ops (X39 n) (opl (subc [1, 1, 0, 1, 0, 0, 1, 1, 0, 0, 1, 1, 1, 0] C39)) 16 ⟨(.v (.str a0)) :: q1 ((dB false) :: (dI v88) :: (.v (.int .u8 v98)) :: (dB v104) :: q9 ((dI ((a0.size : Int))) :: (dI v88) :: (dB (decide (v88 < (a0.size : Int)))) :: (dI v88) :: (.v (.str a0)) :: (dI v88) :: (.v (.int .u8 v98)) :: (.v (.int .u8 v98)) :: (dB v103) :: (dB v103) :: d101 :: d102 :: (dB v104) :: (dB v104) :: (dB true) :: (dB true) :: (dI v88) :: (dB false) :: (dB false) :: (.v (.int .u8 v98)) :: (dB true) :: (dB true) :: (.v (.int .u8 v98)) :: (dB true) :: (dB true) :: (dB true) :: (.v (.int .u8 v98)) :: (dB v135) :: (dB v135) :: q7 [])), []⟩ ((seqQ (X39 n) (subc [1, 1, 0, 1, 0, 0, 1, 1, 0, 0, 1, 1, 1, 1] C39) (blkQ (X39 n) 1 [0, 2, 15, 16] 0 (seqQ (X39 n) (subc [1, 1, 0, 1, 0, 0, 1, 1, 1] C39) (lpQ (X39 n) [0, 2, 15, 16] 0 (subc [1, 1, 0, 1, 0, 0] C39) nx91 (blkQ (X39 n) 0 [2] 0 (seqQ (X39 n) (subc [1, 1, 1] C39) (fnQ (X39 n).E.T (resOf Proofs.Tryd.prog 39) (eB o)))))))) .normal) := by
                                intro v135 h
                                cases v135
                                · refine Ops.seg 6 22 (by kernel_rfl) ⟨(.v (.str a0)) :: q1 ((dB false) :: (dI v88) :: (.v (.int .u8 v98)) :: (dB v104) :: q9 ((dI ((a0.size : Int))) :: (dI v88) :: (dB (decide (v88 < (a0.size : Int)))) :: (dI v88) :: (.v (.str a0)) :: (dI v88) :: (.v (.int .u8 v98)) :: (.v (.int .u8 v98)) :: (dB v103) :: (dB v103) :: d101 :: d102 :: (dB v104) :: (dB v104) :: (dB true) :: (dB true) :: (dI v88) :: (dB false) :: (dB false) :: (.v (.int .u8 v98)) :: (dB true) :: (dB true) :: (.v (.int .u8 v98)) :: (dB true) :: (dB true) :: (dB true) :: (.v (.int .u8 v98)) :: (dB false) :: (dB false) :: (.v (.int .u8 v98)) :: (dB (decide (v98 > 57))) :: (dB (decide (v98 > 57))) :: (dB (decide (v98 > 57))) :: (dB (decide (v98 > 57))) :: (dB (decide (v98 > 57))) :: q1 [])), []⟩ (by kernel_rfl) ?_
                                  exact J39j128 _ _ _ _ _ _ _ _ _ _ _ _ _ _ _ _ _ _ _ _ h
                                · refine Ops.seg 6 22 (by kernel_rfl) ⟨(.v (.str a0)) :: q1 ((dB false) :: (dI v88) :: (.v (.int .u8 v98)) :: (dB v104) :: q9 ((dI ((a0.size : Int))) :: (dI v88) :: (dB (decide (v88 < (a0.size : Int)))) :: (dI v88) :: (.v (.str a0)) :: (dI v88) :: (.v (.int .u8 v98)) :: (.v (.int .u8 v98)) :: (dB v103) :: (dB v103) :: d101 :: d102 :: (dB v104) :: (dB v104) :: (dB true) :: (dB true) :: (dI v88) :: (dB false) :: (dB false) :: (.v (.int .u8 v98)) :: (dB true) :: (dB true) :: (.v (.int .u8 v98)) :: (dB true) :: (dB true) :: (dB true) :: (.v (.int .u8 v98)) :: (dB true) :: (dB true) :: u2 ((dB true) :: (dB true) :: (dB true) :: (dB true) :: q1 []))), []⟩ (by kernel_rfl) ?_
                                  exact J39j128 _ _ _ _ _ _ _ _ _ _ _ _ _ _ _ _ _ _ _ _ h
                              exact G39g136 (decide (v98 < 48)) h
                          exact G39g134 (v98 != 45) h
                      exact G39g132 (v98 != 95) h
                    · refine Ops.seg 16 22 (by kernel_rfl) ⟨(.v (.str a0)) :: q1 ((dB false) :: (dI v88) :: (.v (.int .u8 v98)) :: (dB v104) :: q9 ((dI ((a0.size : Int))) :: (dI v88) :: (dB (decide (v88 < (a0.size : Int)))) :: (dI v88) :: (.v (.str a0)) :: (dI v88) :: (.v (.int .u8 v98)) :: (.v (.int .u8 v98)) :: (dB v103) :: (dB v103) :: d101 :: d102 :: (dB v104) :: (dB v104) :: (dB true) :: (dB true) :: (dI v88) :: (dB true) :: (dB true) :: u14 ((dB true) :: (dB true) :: q1 []))), []⟩ (by kernel_rfl) ?_
                      exact J39j128 _ _ _ _ _ _ _ _ _ _ _ _ _ _ _ _ _ _ _ _ h
                  exact G39g130 (v88 == 0) h
              exact G39g107 (!v104) h
            have G39g100 : ∀ v99 : Bool, f39_r2 m v88 v98 ((v99 && (decide (v98 ≤ 122)))) = some sx96 → Ops (X39 n) (opl (subc [1, 1, 0, 1, 0, 0, 1, 1, 0, 0, 1, 1, 0] C39)) 3 ⟨(.v (.str a0)) :: q1 ((dB false) :: (dI v88) :: (.v (.int .u8 v98)) :: q10 ((dI ((a0.size : Int))) :: (dI v88) :: (dB (decide (v88 < (a0.size : Int)))) :: (dI v88) :: (.v (.str a0)) :: (dI v88) :: (.v (.int .u8 v98)) :: (.v (.int .u8 v98)) :: (dB v99) :: (dB v99) :: q26 [])), []⟩ ((seqQ (X39 n) (subc [1, 1, 0, 1, 0, 0, 1, 1, 0, 0, 1, 1, 1] C39) (blkQ (X39 n) 1 [0, 2, 15, 16] 0 (seqQ (X39 n) (subc [1, 1, 0, 1, 0, 0, 1, 1, 1] C39) (lpQ (X39 n) [0, 2, 15, 16] 0 (subc [1, 1, 0, 1, 0, 0] C39) nx91 (blkQ (X39 n) 0 [2] 0 (seqQ (X39 n) (subc [1, 1, 1] C39) (fnQ (X39 n).E.T (resOf Proofs.Tryd.prog 39) (eB o)))))))) .normal) := by
              intro v99 h
              cases v99
              · refine Ops.seg 3 6 (by kernel_rfl) ⟨(.v (.str a0)) :: q1 ((dB false) :: (dI v88) :: (.v (.int .u8 v98)) :: q10 ((dI ((a0.size : Int))) :: (dI v88) :: (dB (decide (v88 < (a0.size : Int)))) :: (dI v88) :: (.v (.str a0)) :: (dI v88) :: (.v (.int .u8 v98)) :: (.v (.int .u8 v98)) :: (dB false) :: (dB false) :: u2 ((dB false) :: q23 []))), []⟩ (by kernel_rfl) ?_
                exact J39j105 _ _ _ _ h
              · refine Ops.seg 3 6 (by kernel_rfl) ⟨(.v (.str a0)) :: q1 ((dB false) :: (dI v88) :: (.v (.int .u8 v98)) :: q10 ((dI ((a0.size : Int))) :: (dI v88) :: (dB (decide (v88 < (a0.size : Int)))) :: (dI v88) :: (.v (.str a0)) :: (dI v88) :: (.v (.int .u8 v98)) :: (.v (.int .u8 v98)) :: (dB true) :: (dB true) :: (.v (.int .u8 v98)) :: (dB (decide (v98 ≤ 122))) :: (dB (decide (v98 ≤ 122))) :: q23 [])), []⟩ (by kernel_rfl) ?_
                exact J39j105 _ _ _ _ h
            exact G39g100 (decide (v98 ≥ 97)) h
          · refine Wp.cond (decide (v88 < (a0.size : Int))) [0, 2, 15, 16] (by kernel_rfl) 0 (by kernel_rfl) (subc [1, 1, 0, 1, 0, 0, 1, 0, 0] C39) (subc [1, 1, 0, 1, 0, 0, 1, 0, 1] C39) (by kernel_rfl) (by kernel_rfl) (fun e => nomatch (hb.symm.trans e)) (fun _ => ?_)
            refine Wp.exit (id := 0) (by kernel_rfl) ?_
            refine sqQ.x ?_
            refine seqQ.x ?_
            cases h
            refine lpQ.x ?_
            refine blkQ.x ⟨(.v (.str a0)) :: q1 ((dB false) :: q12 ((dI ((a0.size : Int))) :: (dI v88) :: q34 [])), []⟩ (by kernel_rfl) ?_
            exact hxx94 v88  hsx97
      refine Wp.loop [0, 2, 15, 16] 0 (by kernel_rfl) (subc [1, 1, 0, 1, 0, 0] C39) (by kernel_rfl) (by kernel_rfl) ⟨(.v (.str a0)) :: q1 ((dB false) :: q12 ((dI ((a0.size : Int))) :: (dI 0) :: q34 [])), []⟩ (by kernel_rfl) ?_
      rcases brk_some h with ⟨r139, er139, h⟩ | ⟨y138, ey138, h⟩
      · refine hLx137 _ 0  _ er139 n (by omega) (fun r er σ hσ => ?_) (fun y  ey => by cases ey)
        cases er
        refine seqQ.r ?_
        exact fnQ.r' (X39 n) (fun z => (eB z)) h hσ
      · refine hLx137 _ 0  _ ey138 n (by omega) (fun r er => by cases er) (fun y  ey => ?_)
        cases ey
        refine seqQ.n ?_
        refine Wp.seq (subc [1, 1, 1, 0] C39) (subc [1, 1, 1, 1] C39) (by kernel_rfl) ?_
        refine Wp.region (by kernel_rfl) ?_
        refine Ops.seg 1 1 (by kernel_rfl) ⟨(.v (.str a0)) :: q1 ((dB true) :: q12 ((dI ((a0.size : Int))) :: (dI y138) :: q34 [])), []⟩ (by kernel_rfl) ?_
        refine Ops.done (by kernel_rfl) ?_
        refine seqQ.n ?_
        refine Wp.ret (by kernel_rfl) ?_
        exact fnQ.r' (X39 n) (fun z => (eB z)) h (RetOk.mk' (dB true) (by kernel_rfl) (by kernel_rfl))
  have G39g2 : ∀ v1 : Bool, f39_r4 m a0 ((v1 || (decide ((a0.size : Int) > 30)))) = some o → Ops (X39 n) (opl (subc [1, 0, 0] C39)) 4 ⟨(.v (.str a0)) :: u1 ((dB false) :: u3 ((.v (.str a0)) :: (dI ((a0.size : Int))) :: (dB v1) :: (dB v1) :: u40 (u1 []))), []⟩ ((seqQ (X39 n) (subc [1, 0, 1] C39) (seqQ (X39 n) (subc [1, 1] C39) (fnQ (X39 n).E.T (resOf Proofs.Tryd.prog 39) (eB o)))) .normal) := by
    intro v1 h
    cases v1
    · refine Ops.seg 4 8 (by kernel_rfl) ⟨(.v (.str a0)) :: u1 ((dB false) :: u3 ((.v (.str a0)) :: (dI ((a0.size : Int))) :: (dB false) :: (dB false) :: (.v (.str a0)) :: (dI ((a0.size : Int))) :: (dB (decide ((a0.size : Int) > 30))) :: (dB (decide ((a0.size : Int) > 30))) :: u37 [])), []⟩ (by kernel_rfl) ?_
      exact J39j8 _ _ _ _ _ h
    · refine Ops.seg 4 8 (by kernel_rfl) ⟨(.v (.str a0)) :: u1 ((dB false) :: u3 ((.v (.str a0)) :: (dI ((a0.size : Int))) :: (dB true) :: (dB true) :: u3 ((dB true) :: u37 []))), []⟩ (by kernel_rfl) ?_
      exact J39j8 _ _ _ _ _ h
  exact G39g2 (decide ((a0.size : Int) < 1)) h

/-! ### 40 glosswright/paradigm.tags -/
def f40_B1 (m : Nat) (a0 : (List ByteArray)) (v6 : Int) : Option (Stp Int (Int)) :=
  cnd (decide (v6 < (a0.length : Int)))
  (bnd (idx a0 v6) fun v16 =>
  bnd (f39 m v16) fun v17 =>
  cnd (!v17)
  (some (.ret 10))
  (some (.nxt (w64 (v6 + 1)))))
  (some (.brk v6))
def f40 (m : Nat) (a0 : (List ByteArray)) : Option Int :=
  cnd (decide ((a0.length : Int) > 4))
  (some 2)
  (brk (iter (fun (y : Int) => f40_B1 m a0 y) m 0) some fun y19 =>
  some 0)
noncomputable abbrev X40 (n : Nat) : Cx := cxOf Proofs.Tryd.prog E 40 n
noncomputable def C40 : Code := bodyOf Proofs.Tryd.prog 40
theorem ok40 (m : Nat) (a0 : (List ByteArray)) (o : Int) (h : f40 m a0 = some o) (n : Nat) (hn : m + 2 ≤ n) : Fn Proofs.Tryd.prog E n 40 [(eL eS) a0] (eI o) := by
  obtain ⟨n, rfl⟩ : ∃ q, n = q + 1 := ⟨n - 1, by omega⟩
  unfold f40 at h
  refine Fn.of (by kernel_rfl) (by kernel_rfl) ⟨(dP eS a0) :: u17 [], []⟩ (by kernel_rfl) ?_
  refine Wp.seq (subc [0] C40) (subc [1] C40) (by kernel_rfl) ?_
  refine Wp.region (by kernel_rfl) ?_
  refine Ops.seg 1 1 (by kernel_rfl) ⟨(dP eS a0) :: u1 ((dI 0) :: u15 []), []⟩ (by kernel_rfl) ?_
  refine Ops.done (by kernel_rfl) ?_
  refine seqQ.n ?_
  refine Wp.seq (subc [1, 0] C40) (subc [1, 1] C40) (by kernel_rfl) ?_
  refine Wp.seq (subc [1, 0, 0] C40) (subc [1, 0, 1] C40) (by kernel_rfl) ?_
  refine Wp.region (by kernel_rfl) ?_
  refine Ops.seg 1 1 (by kernel_rfl) ⟨(dP eS a0) :: u1 ((dI 0) :: u2 ((dP eS a0) :: u12 [])), []⟩ (by kernel_rfl) ?_
  refine Ops.one 2 (by kernel_rfl) ((lenD (X40 n).E.T 36 (D.unt (dP eS a0))).map (·, [])) (dI ((a0.length : Int))) [] ⟨(dP eS a0) :: u1 ((dI 0) :: u2 ((dP eS a0) :: (dI ((a0.length : Int))) :: u11 [])), []⟩ (by kernel_rfl) (len_r _ 36 9 .plain eS a0 (by kernel_rfl)) (by kernel_rfl) ?_
  refine Ops.seg 1 3 (by kernel_rfl) ⟨(dP eS a0) :: u1 ((dI 0) :: u2 ((dP eS a0) :: (dI ((a0.length : Int))) :: (dB (decide ((a0.length : Int) > 4))) :: u10 [])), []⟩ (by kernel_rfl) ?_
  refine Ops.done (by kernel_rfl) ?_
  refine seqQ.n ?_
  rcases cnd_some h with ⟨hb, h⟩ | ⟨hb, h⟩
  · refine Wp.cond (decide ((a0.length : Int) > 4)) [0, 2] (by kernel_rfl) 0 (by kernel_rfl) (subc [1, 0, 1, 0] C40) (subc [1, 0, 1, 1] C40) (by kernel_rfl) (by kernel_rfl) (fun _ => ?_) (fun e => nomatch (hb.symm.trans e))
    refine Wp.seq (subc [1, 0, 1, 0, 0] C40) (subc [1, 0, 1, 0, 1] C40) (by kernel_rfl) ?_
    refine Wp.region (by kernel_rfl) ?_
    refine Ops.seg 1 1 (by kernel_rfl) ⟨(dP eS a0) :: u1 ((dI 2) :: u2 ((dP eS a0) :: (dI ((a0.length : Int))) :: (dB (decide ((a0.length : Int) > 4))) :: u10 [])), []⟩ (by kernel_rfl) ?_
    refine Ops.done (by kernel_rfl) ?_
    refine seqQ.n ?_
    refine Wp.ret (by kernel_rfl) ?_
    refine sqQ.r ?_
    refine seqQ.r ?_
    exact fnQ.r' (X40 n) (fun z => (eI z)) h (RetOk.mk' (dI 2) (by kernel_rfl) (by kernel_rfl))
  · refine Wp.cond (decide ((a0.length : Int) > 4)) [0, 2] (by kernel_rfl) 0 (by kernel_rfl) (subc [1, 0, 1, 0] C40) (subc [1, 0, 1, 1] C40) (by kernel_rfl) (by kernel_rfl) (fun e => nomatch (hb.symm.trans e)) (fun _ => ?_)
    refine Wp.skip (by kernel_rfl) ?_
    refine sqQ.n ⟨(dP eS a0) :: u1 ((dI 0) :: u2 ((dP eS a0) :: (dI ((a0.length : Int))) :: (dB (decide ((a0.length : Int) > 4))) :: u10 [])), []⟩ (by kernel_rfl) ?_
    refine seqQ.n ?_
    refine Wp.seq (subc [1, 1, 0] C40) (subc [1, 1, 1] C40) (by kernel_rfl) ?_
    refine Wp.seq (subc [1, 1, 0, 0] C40) (subc [1, 1, 0, 1] C40) (by kernel_rfl) ?_
    refine Wp.region (by kernel_rfl) ?_
    refine Ops.seg 1 1 (by kernel_rfl) ⟨(dP eS a0) :: u1 ((dI 0) :: u2 ((dP eS a0) :: (dI ((a0.length : Int))) :: (dB (decide ((a0.length : Int) > 4))) :: (dP eS a0) :: u9 [])), []⟩ (by kernel_rfl) ?_
    refine Ops.one 2 (by kernel_rfl) ((lenD (X40 n).E.T 36 (D.unt (dP eS a0))).map (·, [])) (dI ((a0.length : Int))) [] ⟨(dP eS a0) :: u1 ((dI 0) :: u2 ((dP eS a0) :: (dI ((a0.length : Int))) :: (dB (decide ((a0.length : Int) > 4))) :: (dP eS a0) :: (dI ((a0.length : Int))) :: u8 [])), []⟩ (by kernel_rfl) (len_r _ 36 9 .plain eS a0 (by kernel_rfl)) (by kernel_rfl) ?_
    refine Ops.seg 1 3 (by kernel_rfl) ⟨(dP eS a0) :: u1 ((dI 0) :: u2 ((dP eS a0) :: (dI ((a0.length : Int))) :: (dB (decide ((a0.length : Int) > 4))) :: (dP eS a0) :: (dI ((a0.length : Int))) :: (dI 0) :: u7 [])), []⟩ (by kernel_rfl) ?_
    refine Ops.done (by kernel_rfl) ?_
    refine seqQ.n ?_
    refine Wp.block (id := 0) [2] (by kernel_rfl) 0 (by kernel_rfl) (subc [1, 1, 0, 1, 0] C40) (by kernel_rfl) ?_
    have hLx18 : ∀ (kx8 : Nat) (v6 : Int)  (ox7 : Int ⊕ (Int)), iter (fun (y : Int) => f40_B1 m a0 y) kx8 v6 = some ox7 → ∀ nx9, kx8 ≤ nx9 → (∀ r, ox7 = .inl r → ∀ σ, RetOk (X40 n) (resOf Proofs.Tryd.prog 40) (eI r) σ → (seqQ (X40 n) (subc [1, 1, 1] C40) (fnQ (X40 n).E.T (resOf Proofs.Tryd.prog 40) (eI o))) .ret σ) → (∀ (y : Int) , ox7 = .inr y → (seqQ (X40 n) (subc [1, 1, 1] C40) (fnQ (X40 n).E.T (resOf Proofs.Tryd.prog 40) (eI o))) .normal ⟨q2 ((dI 0) :: q5 ((dP eS a0) :: (dI ((a0.length : Int))) :: (dI y) :: q7 [])), []⟩) → Lp (X40 n) [2, 8, 9, 10] 0 (subc [1, 1, 0, 1, 0, 0] C40) nx9 ⟨q2 ((dI 0) :: q5 ((dP eS a0) :: (dI ((a0.length : Int))) :: (dI v6) :: q7 [])), []⟩ (blkQ (X40 n) 0 [2] 0 (seqQ (X40 n) (subc [1, 1, 1] C40) (fnQ (X40 n).E.T (resOf Proofs.Tryd.prog 40) (eI o)))) := by
      intro kx8
      induction kx8 with
      | zero => intro v6  ox7 h; exact (iter_zero h).elim
      | succ kx8 ihx10 =>
        intro v6  ox7 h nx9 hnx13 hrx11 hxx12
        obtain ⟨nx9, rfl⟩ : ∃ q, nx9 = q + 1 := ⟨nx9 - 1, by omega⟩
        obtain ⟨sx14, h, hsx15⟩ := iter_some h
        have h : f40_B1 m a0 v6 = some sx14 := h
        unfold f40_B1 at h
        refine Lp.succ ?_
        refine Wp.seq (subc [1, 1, 0, 1, 0, 0, 0] C40) (subc [1, 1, 0, 1, 0, 0, 1] C40) (by kernel_rfl) ?_
        refine Wp.region (by kernel_rfl) ?_
        refine Ops.seg 1 1 (by kernel_rfl) ⟨q2 ((dI 0) :: q5 ((dP eS a0) :: (dI ((a0.length : Int))) :: (dI v6) :: (dB (decide (v6 < (a0.length : Int)))) :: q6 [])), []⟩ (by kernel_rfl) ?_
        refine Ops.done (by kernel_rfl) ?_
        refine seqQ.n ?_
        refine Wp.seq (subc [1, 1, 0, 1, 0, 0, 1, 0] C40) (subc [1, 1, 0, 1, 0, 0, 1, 1] C40) (by kernel_rfl) ?_
        rcases cnd_some h with ⟨hb, h⟩ | ⟨hb, h⟩
        · refine Wp.cond (decide (v6 < (a0.length : Int))) [2, 8, 9, 10] (by kernel_rfl) 0 (by kernel_rfl) (subc [1, 1, 0, 1, 0, 0, 1, 0, 0] C40) (subc [1, 1, 0, 1, 0, 0, 1, 0, 1] C40) (by kernel_rfl) (by kernel_rfl) (fun _ => ?_) (fun e => nomatch (hb.symm.trans e))
          refine Wp.skip (by kernel_rfl) ?_
          refine sqQ.n ⟨q2 ((dI 0) :: q5 ((dP eS a0) :: (dI ((a0.length : Int))) :: (dI v6) :: (dB (decide (v6 < (a0.length : Int)))) :: q6 [])), []⟩ (by kernel_rfl) ?_
          refine seqQ.n ?_
          refine Wp.seq (subc [1, 1, 0, 1, 0, 0, 1, 1, 0] C40) (subc [1, 1, 0, 1, 0, 0, 1, 1, 1] C40) (by kernel_rfl) ?_
          refine Wp.block (id := 1) [2, 8, 9, 10] (by kernel_rfl) 0 (by kernel_rfl) (subc [1, 1, 0, 1, 0, 0, 1, 1, 0, 0] C40) (by kernel_rfl) ?_
          refine Wp.seq (subc [1, 1, 0, 1, 0, 0, 1, 1, 0, 0, 0] C40) (subc [1, 1, 0, 1, 0, 0, 1, 1, 0, 0, 1] C40) (by kernel_rfl) ?_
          refine Wp.region (by kernel_rfl) ?_
          obtain ⟨v16, ev16, h⟩ := bnd_some h
          refine Ops.one 1 (by kernel_rfl) ((indexAddrH (X40 n).E.T [] 36 (D.unt (dP eS a0)) (dI v6)).map (·, [])) (.vptr [(.str v16)]) [] ⟨q2 ((dI 0) :: q5 ((dP eS a0) :: (dI ((a0.length : Int))) :: (dI v6) :: (dB (decide (v6 < (a0.length : Int)))) :: (.vptr [(.str v16)]) :: q5 [])), []⟩ (by kernel_rfl) (ix_r _ 36 9 1 .plain eS a0 v6 v16 ev16 (by kernel_rfl) (by kernel_rfl) (fun _ => rfl)) (by kernel_rfl) ?_
          refine Ops.seg 2 3 (by kernel_rfl) ⟨q2 ((dI 0) :: q1 ((.v (.str v16)) :: q3 ((dP eS a0) :: (dI ((a0.length : Int))) :: (dI v6) :: (dB (decide (v6 < (a0.length : Int)))) :: (.vptr [(.str v16)]) :: (.v (.str v16)) :: q4 []))), []⟩ (by kernel_rfl) ?_
          refine Ops.done (by kernel_rfl) ?_
          refine seqQ.n ?_
          refine Wp.seq (subc [1, 1, 0, 1, 0, 0, 1, 1, 0, 0, 1, 0] C40) (subc [1, 1, 0, 1, 0, 0, 1, 1, 0, 0, 1, 1] C40) (by kernel_rfl) ?_
          refine Wp.region (by kernel_rfl) ?_
          refine Ops.seg 1 1 (by kernel_rfl) ⟨q2 ((dI 0) :: q1 ((.v (.str v16)) :: q3 ((dP eS a0) :: (dI ((a0.length : Int))) :: (dI v6) :: (dB (decide (v6 < (a0.length : Int)))) :: (.vptr [(.str v16)]) :: (.v (.str v16)) :: (.v (.str v16)) :: q3 []))), []⟩ (by kernel_rfl) ?_
          obtain ⟨v17, ev17, h⟩ := bnd_some h
          refine Ops.one 2 (by kernel_rfl) (callD (X40 n).E (run Proofs.Tryd.prog E n) 39 [(.v (.str v16))] []) (dB v17) [] ⟨q2 ((dI 0) :: q1 ((.v (.str v16)) :: q3 ((dP eS a0) :: (dI ((a0.length : Int))) :: (dI v6) :: (dB (decide (v6 < (a0.length : Int)))) :: (.vptr [(.str v16)]) :: (.v (.str v16)) :: (.v (.str v16)) :: (dB v17) :: q2 []))), []⟩ (by kernel_rfl) (call_ok (by kernel_rfl) (Args.v (.str v16) (eS v16) (by kernel_rfl) Args.nil) (ok39 m v16 v17 ev17 n (by omega))) (by kernel_rfl) ?_
          refine Ops.seg 1 3 (by kernel_rfl) ⟨q2 ((dI 0) :: q1 ((.v (.str v16)) :: q3 ((dP eS a0) :: (dI ((a0.length : Int))) :: (dI v6) :: (dB (decide (v6 < (a0.length : Int)))) :: (.vptr [(.str v16)]) :: (.v (.str v16)) :: (.v (.str v16)) :: (dB v17) :: (dB (!v17)) :: q1 []))), []⟩ (by kernel_rfl) ?_
          refine Ops.done (by kernel_rfl) ?_
          refine seqQ.n ?_
          rcases cnd_some h with ⟨hb, h⟩ | ⟨hb, h⟩
          · refine Wp.cond (!v17) [2, 8, 9, 10] (by kernel_rfl) 0 (by kernel_rfl) (subc [1, 1, 0, 1, 0, 0, 1, 1, 0, 0, 1, 1, 0] C40) (subc [1, 1, 0, 1, 0, 0, 1, 1, 0, 0, 1, 1, 1] C40) (by kernel_rfl) (by kernel_rfl) (fun _ => ?_) (fun e => nomatch (hb.symm.trans e))
            refine Wp.seq (subc [1, 1, 0, 1, 0, 0, 1, 1, 0, 0, 1, 1, 0, 0] C40) (subc [1, 1, 0, 1, 0, 0, 1, 1, 0, 0, 1, 1, 0, 1] C40) (by kernel_rfl) ?_
            refine Wp.region (by kernel_rfl) ?_
            refine Ops.seg 1 1 (by kernel_rfl) ⟨q2 ((dI 10) :: q1 ((.v (.str v16)) :: q3 ((dP eS a0) :: (dI ((a0.length : Int))) :: (dI v6) :: (dB (decide (v6 < (a0.length : Int)))) :: (.vptr [(.str v16)]) :: (.v (.str v16)) :: (.v (.str v16)) :: (dB v17) :: (dB (!v17)) :: q1 []))), []⟩ (by kernel_rfl) ?_
            refine Ops.done (by kernel_rfl) ?_
            refine seqQ.n ?_
            refine Wp.ret (by kernel_rfl) ?_
            refine sqQ.r ?_
            refine blkQ.r ?_
            refine seqQ.r ?_
            cases h
            refine lpQ.r ?_
            refine blkQ.r ?_
            exact hrx11 _ hsx15 _ (RetOk.forget [2, 8, 9, 10] (by kernel_rfl) (RetOk.mk' (dI 10) (by kernel_rfl) (by kernel_rfl)))
          · refine Wp.cond (!v17) [2, 8, 9, 10] (by kernel_rfl) 0 (by kernel_rfl) (subc [1, 1, 0, 1, 0, 0, 1, 1, 0, 0, 1, 1, 0] C40) (subc [1, 1, 0, 1, 0, 0, 1, 1, 0, 0, 1, 1, 1] C40) (by kernel_rfl) (by kernel_rfl) (fun e => nomatch (hb.symm.trans e)) (fun _ => ?_)
            refine Wp.skip (by kernel_rfl) ?_
            refine sqQ.n ⟨q2 ((dI 0) :: q1 ((.v (.str v16)) :: q3 ((dP eS a0) :: (dI ((a0.length : Int))) :: (dI v6) :: (dB (decide (v6 < (a0.length : Int)))) :: (.vptr [(.str v16)]) :: (.v (.str v16)) :: (.v (.str v16)) :: (dB v17) :: (dB (!v17)) :: q1 []))), []⟩ (by kernel_rfl) ?_
            refine blkQ.n ⟨q2 ((dI 0) :: q1 ((.v (.str v16)) :: q3 ((dP eS a0) :: (dI ((a0.length : Int))) :: (dI v6) :: (dB (decide (v6 < (a0.length : Int)))) :: (.vptr [(.str v16)]) :: (.v (.str v16)) :: (.v (.str v16)) :: (dB v17) :: (dB (!v17)) :: q1 []))), []⟩ (by kernel_rfl) ?_
            refine seqQ.n ?_
            refine Wp.region (by kernel_rfl) ?_
            refine Ops.seg 2 2 (by kernel_rfl) ⟨q2 ((dI 0) :: q1 ((.v (.str v16)) :: q3 ((dP eS a0) :: (dI ((a0.length : Int))) :: (dI (w64 (v6 + 1))) :: (dB (decide (v6 < (a0.length : Int)))) :: (.vptr [(.str v16)]) :: (.v (.str v16)) :: (.v (.str v16)) :: (dB v17) :: (dB (!v17)) :: (dI (w64 (v6 + 1))) :: []))), []⟩ (by kernel_rfl) ?_
            refine Ops.done (by kernel_rfl) ?_
            refine lpQ.n ⟨q2 ((dI 0) :: q5 ((dP eS a0) :: (dI ((a0.length : Int))) :: (dI (w64 (v6 + 1))) :: q7 [])), []⟩ (by kernel_rfl) ?_
            cases h
            exact ihx10 (w64 (v6 + 1))  _ hsx15 _ (by omega) hrx11 hxx12
        · refine Wp.cond (decide (v6 < (a0.length : Int))) [2, 8, 9, 10] (by kernel_rfl) 0 (by kernel_rfl) (subc [1, 1, 0, 1, 0, 0, 1, 0, 0] C40) (subc [1, 1, 0, 1, 0, 0, 1, 0, 1] C40) (by kernel_rfl) (by kernel_rfl) (fun e => nomatch (hb.symm.trans e)) (fun _ => ?_)
          refine Wp.exit (id := 0) (by kernel_rfl) ?_
          refine sqQ.x ?_
          refine seqQ.x ?_
          cases h
          refine lpQ.x ?_
          refine blkQ.x ⟨q2 ((dI 0) :: q5 ((dP eS a0) :: (dI ((a0.length : Int))) :: (dI v6) :: q7 [])), []⟩ (by kernel_rfl) ?_
          exact hxx12 v6  hsx15
    refine Wp.loop [2, 8, 9, 10] 0 (by kernel_rfl) (subc [1, 1, 0, 1, 0, 0] C40) (by kernel_rfl) (by kernel_rfl) ⟨q2 ((dI 0) :: q5 ((dP eS a0) :: (dI ((a0.length : Int))) :: (dI 0) :: q7 [])), []⟩ (by kernel_rfl) ?_
    rcases brk_some h with ⟨r20, er20, h⟩ | ⟨y19, ey19, h⟩
    · refine hLx18 _ 0  _ er20 n (by omega) (fun r er σ hσ => ?_) (fun y  ey => by cases ey)
      cases er
      refine seqQ.r ?_
      exact fnQ.r' (X40 n) (fun z => (eI z)) h hσ
    · refine hLx18 _ 0  _ ey19 n (by omega) (fun r er => by cases er) (fun y  ey => ?_)
      cases ey
      refine seqQ.n ?_
      refine Wp.seq (subc [1, 1, 1, 0] C40) (subc [1, 1, 1, 1] C40) (by kernel_rfl) ?_
      refine Wp.region (by kernel_rfl) ?_
      refine Ops.seg 1 1 (by kernel_rfl) ⟨q2 ((dI 0) :: q5 ((dP eS a0) :: (dI ((a0.length : Int))) :: (dI y19) :: q7 [])), []⟩ (by kernel_rfl) ?_
      refine Ops.done (by kernel_rfl) ?_
      refine seqQ.n ?_
      refine Wp.ret (by kernel_rfl) ?_
      exact fnQ.r' (X40 n) (fun z => (eI z)) h (RetOk.mk' (dI 0) (by kernel_rfl) (by kernel_rfl))

/-! ### 15 glosswright/paradigm.Validate -/
def f15_r1 (m : Nat) (v76 : Int) (v110 : Bool) : Option (Stp S27 (Int)) :=
  cnd v110
  (bnd (f33 m 5 v76) fun v112 =>
  some (.ret v112))
  (some (.nxt (w64 (v76 + 1))))
def f15_r2 (m : Nat) (v76 : Int) (v86 : S67) (v96 : Bool) : Option (Stp S27 (Int)) :=
  bnd (cnd v96
  (some true)
  (cnd (!(v86.fAdd.toList == ((⟨#[]⟩ : ByteArray)).toList))
  (bnd (f32 m v86.fAdd) fun v115 =>
  some (!v115))
  (some false))) fun v110 =>
  f15_r1 m v76 v110
def f15_B3 (m : Nat) (a0 : S23) (v76 : Int) : Option (Stp S27 (Int)) :=
  cnd (decide (v76 < (a0.fCells.length : Int)))
  (bnd (idx a0.fCells v76) fun v86 =>
  bnd (f40 m v86.fTags) fun v87 =>
  cnd (v87 != 0)
  (bnd (f33 m v87 v76) fun v88 =>
  some (.ret v88))
  (bnd (cnd (!(v86.fCut.toList == ((⟨#[]⟩ : ByteArray)).toList))
  (bnd (f32 m v86.fCut) fun v116 =>
  some (!v116))
  (some false)) fun v96 =>
  f15_r2 m v76 v86 v96))
  (some (.brk v76))
def f15_r4 (m : Nat) (a0 : S23) (v10 : Bool) : Option S27 :=
  cnd v10
  (bnd (f33 m 9 ((-1))) fun v12 =>
  some v12)
  (brk (iter (fun (y : Int) => f15_B3 m a0 y) m 0) some fun y118 =>
  some ((⟨0, 0⟩ : S27)))
def f15 (m : Nat) (a0 : S23) : Option S27 :=
  bnd (f39 m a0.fName) fun v1 =>
  cnd (!v1)
  (bnd (f33 m 10 ((-1))) fun v2 =>
  some v2)
  (f15_r4 m a0 (((decide ((a0.fCells.length : Int) < 1)) || (decide ((a0.fCells.length : Int) > 40)))))
noncomputable abbrev X15 (n : Nat) : Cx := cxOf Proofs.Tryd.prog E 15 n
noncomputable def C15 : Code := bodyOf Proofs.Tryd.prog 15
theorem ok15 (m : Nat) (a0 : S23) (o : S27) (h : f15 m a0 = some o) (n : Nat) (hn : m + 4 ≤ n) : Fn Proofs.Tryd.prog E n 15 [e23 a0] (e27 o) := by
  obtain ⟨n, rfl⟩ : ∃ q, n = q + 1 := ⟨n - 1, by omega⟩
  unfold f15 at h
  refine Fn.of (by kernel_rfl) (by kernel_rfl) ⟨(.v (.agg [(.str a0.fName), (vP e67 a0.fCells)])) :: u40 (u21 []), []⟩ (by kernel_rfl) ?_
  refine Wp.seq (subc [0] C15) (subc [1] C15) (by kernel_rfl) ?_
  refine Wp.region (by kernel_rfl) ?_
  refine Ops.seg 2 2 (by kernel_rfl) ⟨(.v (.agg [(.str a0.fName), (vP e67 a0.fCells)])) :: (.ptr 0 0) :: (.ptr 1 0) :: u40 (u19 []), [(.cells [(.v (.str a0.fName)), (dP e67 a0.fCells)]), (.cells [(dI 0), (dI 0)])]⟩ (by kernel_rfl) ?_
  refine Ops.done (by kernel_rfl) ?_
  refine seqQ.n ?_
  refine Wp.seq (subc [1, 0] C15) (subc [1, 1] C15) (by kernel_rfl) ?_
  refine Wp.seq (subc [1, 0, 0] C15) (subc [1, 0, 1] C15) (by kernel_rfl) ?_
  refine Wp.region (by kernel_rfl) ?_
  refine Ops.seg 2 2 (by kernel_rfl) ⟨(.v (.agg [(.str a0.fName), (vP e67 a0.fCells)])) :: (.ptr 0 0) :: (.ptr 1 0) :: u3 ((.ptr 0 0) :: (.v (.str a0.fName)) :: u40 (u14 [])), [(.cells [(.v (.str a0.fName)), (dP e67 a0.fCells)]), (.cells [(dI 0), (dI 0)])]⟩ (by kernel_rfl) ?_
  obtain ⟨v1, ev1, h⟩ := bnd_some h
  refine Ops.one 3 (by kernel_rfl) (callD (X15 n).E (run Proofs.Tryd.prog E n) 39 [(.v (.str a0.fName))] [(.cells [(.v (.str a0.fName)), (dP e67 a0.fCells)]), (.cells [(dI 0), (dI 0)])]) (dB v1) [(.cells [(.v (.str a0.fName)), (dP e67 a0.fCells)]), (.cells [(dI 0), (dI 0)])] ⟨(.v (.agg [(.str a0.fName), (vP e67 a0.fCells)])) :: (.ptr 0 0) :: (.ptr 1 0) :: u3 ((.ptr 0 0) :: (.v (.str a0.fName)) :: (dB v1) :: u40 (u13 [])), [(.cells [(.v (.str a0.fName)), (dP e67 a0.fCells)]), (.cells [(dI 0), (dI 0)])]⟩ (by kernel_rfl) (call_ok (by kernel_rfl) (Args.v (.str a0.fName) (eS a0.fName) (by kernel_rfl) Args.nil) (ok39 m a0.fName v1 ev1 n (by omega))) (by kernel_rfl) ?_
  refine Ops.seg 1 4 (by kernel_rfl) ⟨(.v (.agg [(.str a0.fName), (vP e67 a0.fCells)])) :: (.ptr 0 0) :: (.ptr 1 0) :: u3 ((.ptr 0 0) :: (.v (.str a0.fName)) :: (dB v1) :: (dB (!v1)) :: u40 (u12 [])), [(.cells [(.v (.str a0.fName)), (dP e67 a0.fCells)]), (.cells [(dI 0), (dI 0)])]⟩ (by kernel_rfl) ?_
  refine Ops.done (by kernel_rfl) ?_
  refine seqQ.n ?_
  rcases cnd_some h with ⟨hb, h⟩ | ⟨hb, h⟩
  · refine Wp.cond (!v1) [1, 2] (by kernel_rfl) 2 (by kernel_rfl) (subc [1, 0, 1, 0] C15) (subc [1, 0, 1, 1] C15) (by kernel_rfl) (by kernel_rfl) (fun _ => ?_) (fun e => nomatch (hb.symm.trans e))
    refine Wp.seq (subc [1, 0, 1, 0, 0] C15) (subc [1, 0, 1, 0, 1] C15) (by kernel_rfl) ?_
    refine Wp.region (by kernel_rfl) ?_
    obtain ⟨v2, ev2, h⟩ := bnd_some h
    refine Ops.one 1 (by kernel_rfl) (callD (X15 n).E (run Proofs.Tryd.prog E n) 33 [(dI 10), (dI ((-1)))] [(.cells [(.v (.str a0.fName)), (dP e67 a0.fCells)]), (.cells [(dI 0), (dI 0)])]) (.v (.agg [(vI v2.fCode), (vI v2.fIndex)])) [(.cells [(.v (.str a0.fName)), (dP e67 a0.fCells)]), (.cells [(dI 0), (dI 0)])] ⟨(.v (.agg [(.str a0.fName), (vP e67 a0.fCells)])) :: (.ptr 0 0) :: (.ptr 1 0) :: u3 ((.ptr 0 0) :: (.v (.str a0.fName)) :: (dB v1) :: (dB (!v1)) :: (.v (.agg [(vI v2.fCode), (vI v2.fIndex)])) :: u40 (u11 [])), [(.cells [(.v (.str a0.fName)), (dP e67 a0.fCells)]), (.cells [(dI 0), (dI 0)])]⟩ (by kernel_rfl) (call_ok (by kernel_rfl) (Args.v (vI 10) (eI 10) (by kernel_rfl) (Args.v (vI ((-1))) (eI ((-1))) (by kernel_rfl) Args.nil)) (ok33 m 10 ((-1)) v2 ev2 n (by omega))) (by kernel_rfl) ?_
    refine Ops.seg 1 2 (by kernel_rfl) ⟨(.v (.agg [(.str a0.fName), (vP e67 a0.fCells)])) :: (.ptr 0 0) :: (.ptr 1 0) :: u3 ((.ptr 0 0) :: (.v (.str a0.fName)) :: (dB v1) :: (dB (!v1)) :: (.v (.agg [(vI v2.fCode), (vI v2.fIndex)])) :: u40 (u11 [])), [(.cells [(.v (.str a0.fName)), (dP e67 a0.fCells)]), (.cells [(dI v2.fCode), (dI v2.fIndex)])]⟩ (by kernel_rfl) ?_
    refine Ops.done (by kernel_rfl) ?_
    refine seqQ.n ?_
    refine Wp.ret (by kernel_rfl) ?_
    refine sqQ.r ?_
    refine seqQ.r ?_
    exact fnQ.r' (X15 n) (fun z => (e27 z)) h (RetOk.mk' (.v (.agg [(vI v2.fCode), (vI v2.fIndex)])) (by kernel_rfl) (by kernel_rfl))
  · refine Wp.cond (!v1) [1, 2] (by kernel_rfl) 2 (by kernel_rfl) (subc [1, 0, 1, 0] C15) (subc [1, 0, 1, 1] C15) (by kernel_rfl) (by kernel_rfl) (fun e => nomatch (hb.symm.trans e)) (fun _ => ?_)
    refine Wp.skip (by kernel_rfl) ?_
    refine sqQ.n ⟨(.v (.agg [(.str a0.fName), (vP e67 a0.fCells)])) :: (.ptr 0 0) :: (.ptr 1 0) :: u3 ((.ptr 0 0) :: (.v (.str a0.fName)) :: (dB v1) :: (dB (!v1)) :: u40 (u12 [])), [(.cells [(.v (.str a0.fName)), (dP e67 a0.fCells)]), (.cells [(dI 0), (dI 0)])]⟩ (by kernel_rfl) ?_
    refine seqQ.n ?_
    refine Wp.seq (subc [1, 1, 0] C15) (subc [1, 1, 1] C15) (by kernel_rfl) ?_
    refine Wp.seq (subc [1, 1, 0, 0] C15) (subc [1, 1, 0, 1] C15) (by kernel_rfl) ?_
    refine Wp.region (by kernel_rfl) ?_
    refine Ops.seg 2 2 (by kernel_rfl) ⟨(.v (.agg [(.str a0.fName), (vP e67 a0.fCells)])) :: (.ptr 0 0) :: (.ptr 1 0) :: u3 ((.ptr 0 0) :: (.v (.str a0.fName)) :: (dB v1) :: (dB (!v1)) :: u1 ((.ptr 0 1) :: (dP e67 a0.fCells) :: u40 (u9 []))), [(.cells [(.v (.str a0.fName)), (dP e67 a0.fCells)]), (.cells [(dI 0), (dI 0)])]⟩ (by kernel_rfl) ?_
    refine Ops.one 3 (by kernel_rfl) ((lenD (X15 n).E.T 22 (D.unt (dP e67 a0.fCells))).map (·, [(.cells [(.v (.str a0.fName)), (dP e67 a0.fCells)]), (.cells [(dI 0), (dI 0)])])) (dI ((a0.fCells.length : Int))) [(.cells [(.v (.str a0.fName)), (dP e67 a0.fCells)]), (.cells [(dI 0), (dI 0)])] ⟨(.v (.agg [(.str a0.fName), (vP e67 a0.fCells)])) :: (.ptr 0 0) :: (.ptr 1 0) :: u3 ((.ptr 0 0) :: (.v (.str a0.fName)) :: (dB v1) :: (dB (!v1)) :: u1 ((.ptr 0 1) :: (dP e67 a0.fCells) :: (dI ((a0.fCells.length : Int))) :: u40 (u8 []))), [(.cells [(.v (.str a0.fName)), (dP e67 a0.fCells)]), (.cells [(dI 0), (dI 0)])]⟩ (by kernel_rfl) (len_r _ 22 68 .plain e67 a0.fCells (by kernel_rfl)) (by kernel_rfl) ?_
    refine Ops.seg 2 5 (by kernel_rfl) ⟨(.v (.agg [(.str a0.fName), (vP e67 a0.fCells)])) :: (.ptr 0 0) :: (.ptr 1 0) :: u3 ((.ptr 0 0) :: (.v (.str a0.fName)) :: (dB v1) :: (dB (!v1)) :: u1 ((.ptr 0 1) :: (dP e67 a0.fCells) :: (dI ((a0.fCells.length : Int))) :: (dB (decide ((a0.fCells.length : Int) < 1))) :: (dB (decide ((a0.fCells.length : Int) < 1))) :: u40 (u6 []))), [(.cells [(.v (.str a0.fName)), (dP e67 a0.fCells)]), (.cells [(dI 0), (dI 0)])]⟩ (by kernel_rfl) ?_
    have J15j11 : ∀ (d5 d6 d7 d8 : D) (v9 : Bool) (v10 : Bool), f15_r4 m a0 v10 = some o → Ops (X15 n) (opl (subc [1, 1, 0, 0] C15)) 10 ⟨(.v (.agg [(.str a0.fName), (vP e67 a0.fCells)])) :: (.ptr 0 0) :: (.ptr 1 0) :: u3 ((.ptr 0 0) :: (.v (.str a0.fName)) :: (dB v1) :: (dB (!v1)) :: u1 ((.ptr 0 1) :: (dP e67 a0.fCells) :: (dI ((a0.fCells.length : Int))) :: (dB v9) :: (dB v9) :: d5 :: d6 :: d7 :: d8 :: (dB v10) :: u40 (u1 []))), [(.cells [(.v (.str a0.fName)), (dP e67 a0.fCells)]), (.cells [(dI 0), (dI 0)])]⟩ ((seqQ (X15 n) (subc [1, 1, 0, 1] C15) (seqQ (X15 n) (subc [1, 1, 1] C15) (fnQ (X15 n).E.T (resOf Proofs.Tryd.prog 15) (e27 o)))) .normal) := by
      intro d5 d6 d7 d8 v9 v10 h
      unfold f15_r4 at h
      refine Ops.done (by kernel_rfl) ?_
      refine seqQ.n ?_
      rcases cnd_some h with ⟨hb, h⟩ | ⟨hb, h⟩
      · refine Wp.cond v10 [1, 2] (by kernel_rfl) 2 (by kernel_rfl) (subc [1, 1, 0, 1, 0] C15) (subc [1, 1, 0, 1, 1] C15) (by kernel_rfl) (by kernel_rfl) (fun _ => ?_) (fun e => nomatch (hb.symm.trans e))
        refine Wp.seq (subc [1, 1, 0, 1, 0, 0] C15) (subc [1, 1, 0, 1, 0, 1] C15) (by kernel_rfl) ?_
        refine Wp.region (by kernel_rfl) ?_
        obtain ⟨v12, ev12, h⟩ := bnd_some h
        refine Ops.one 1 (by kernel_rfl) (callD (X15 n).E (run Proofs.Tryd.prog E n) 33 [(dI 9), (dI ((-1)))] [(.cells [(.v (.str a0.fName)), (dP e67 a0.fCells)]), (.cells [(dI 0), (dI 0)])]) (.v (.agg [(vI v12.fCode), (vI v12.fIndex)])) [(.cells [(.v (.str a0.fName)), (dP e67 a0.fCells)]), (.cells [(dI 0), (dI 0)])] ⟨(.v (.agg [(.str a0.fName), (vP e67 a0.fCells)])) :: (.ptr 0 0) :: (.ptr 1 0) :: u3 ((.ptr 0 0) :: (.v (.str a0.fName)) :: (dB v1) :: (dB (!v1)) :: u1 ((.ptr 0 1) :: (dP e67 a0.fCells) :: (dI ((a0.fCells.length : Int))) :: (dB v9) :: (dB v9) :: d5 :: d6 :: d7 :: d8 :: (dB v10) :: (.v (.agg [(vI v12.fCode), (vI v12.fIndex)])) :: u40 [])), [(.cells [(.v (.str a0.fName)), (dP e67 a0.fCells)]), (.cells [(dI 0), (dI 0)])]⟩ (by kernel_rfl) (call_ok (by kernel_rfl) (Args.v (vI 9) (eI 9) (by kernel_rfl) (Args.v (vI ((-1))) (eI ((-1))) (by kernel_rfl) Args.nil)) (ok33 m 9 ((-1)) v12 ev12 n (by omega))) (by kernel_rfl) ?_
        refine Ops.seg 1 2 (by kernel_rfl) ⟨(.v (.agg [(.str a0.fName), (vP e67 a0.fCells)])) :: (.ptr 0 0) :: (.ptr 1 0) :: u3 ((.ptr 0 0) :: (.v (.str a0.fName)) :: (dB v1) :: (dB (!v1)) :: u1 ((.ptr 0 1) :: (dP e67 a0.fCells) :: (dI ((a0.fCells.length : Int))) :: (dB v9) :: (dB v9) :: d5 :: d6 :: d7 :: d8 :: (dB v10) :: (.v (.agg [(vI v12.fCode), (vI v12.fIndex)])) :: u40 [])), [(.cells [(.v (.str a0.fName)), (dP e67 a0.fCells)]), (.cells [(dI v12.fCode), (dI v12.fIndex)])]⟩ (by kernel_rfl) ?_
        refine Ops.done (by kernel_rfl) ?_
        refine seqQ.n ?_
        refine Wp.ret (by kernel_rfl) ?_
        refine sqQ.r ?_
        refine seqQ.r ?_
        exact fnQ.r' (X15 n) (fun z => (e27 z)) h (RetOk.mk' (.v (.agg [(vI v12.fCode), (vI v12.fIndex)])) (by kernel_rfl) (by kernel_rfl))
      · refine Wp.cond v10 [1, 2] (by kernel_rfl) 2 (by kernel_rfl) (subc [1, 1, 0, 1, 0] C15) (subc [1, 1, 0, 1, 1] C15) (by kernel_rfl) (by kernel_rfl) (fun e => nomatch (hb.symm.trans e)) (fun _ => ?_)
        refine Wp.skip (by kernel_rfl) ?_
        refine sqQ.n ⟨(.v (.agg [(.str a0.fName), (vP e67 a0.fCells)])) :: (.ptr 0 0) :: (.ptr 1 0) :: u3 ((.ptr 0 0) :: (.v (.str a0.fName)) :: (dB v1) :: (dB (!v1)) :: u1 ((.ptr 0 1) :: (dP e67 a0.fCells) :: (dI ((a0.fCells.length : Int))) :: (dB v9) :: (dB v9) :: d5 :: d6 :: d7 :: d8 :: (dB v10) :: u40 (u1 []))), [(.cells [(.v (.str a0.fName)), (dP e67 a0.fCells)]), (.cells [(dI 0), (dI 0)])]⟩ (by kernel_rfl) ?_
        refine seqQ.n ?_
        refine Wp.seq (subc [1, 1, 1, 0] C15) (subc [1, 1, 1, 1] C15) (by kernel_rfl) ?_
        refine Wp.seq (subc [1, 1, 1, 0, 0] C15) (subc [1, 1, 1, 0, 1] C15) (by kernel_rfl) ?_
        refine Wp.region (by kernel_rfl) ?_
        refine Ops.seg 2 2 (by kernel_rfl) ⟨(.v (.agg [(.str a0.fName), (vP e67 a0.fCells)])) :: (.ptr 0 0) :: (.ptr 1 0) :: u3 ((.ptr 0 0) :: (.v (.str a0.fName)) :: (dB v1) :: (dB (!v1)) :: u1 ((.ptr 0 1) :: (dP e67 a0.fCells) :: (dI ((a0.fCells.length : Int))) :: (dB v9) :: (dB v9) :: d5 :: d6 :: d7 :: d8 :: (dB v10) :: u1 ((.ptr 0 1) :: (dP e67 a0.fCells) :: u38 []))), [(.cells [(.v (.str a0.fName)), (dP e67 a0.fCells)]), (.cells [(dI 0), (dI 0)])]⟩ (by kernel_rfl) ?_
        refine Ops.one 3 (by kernel_rfl) ((lenD (X15 n).E.T 22 (D.unt (dP e67 a0.fCells))).map (·, [(.cells [(.v (.str a0.fName)), (dP e67 a0.fCells)]), (.cells [(dI 0), (dI 0)])])) (dI ((a0.fCells.length : Int))) [(.cells [(.v (.str a0.fName)), (dP e67 a0.fCells)]), (.cells [(dI 0), (dI 0)])] ⟨(.v (.agg [(.str a0.fName), (vP e67 a0.fCells)])) :: (.ptr 0 0) :: (.ptr 1 0) :: u3 ((.ptr 0 0) :: (.v (.str a0.fName)) :: (dB v1) :: (dB (!v1)) :: u1 ((.ptr 0 1) :: (dP e67 a0.fCells) :: (dI ((a0.fCells.length : Int))) :: (dB v9) :: (dB v9) :: d5 :: d6 :: d7 :: d8 :: (dB v10) :: u1 ((.ptr 0 1) :: (dP e67 a0.fCells) :: (dI ((a0.fCells.length : Int))) :: u37 []))), [(.cells [(.v (.str a0.fName)), (dP e67 a0.fCells)]), (.cells [(dI 0), (dI 0)])]⟩ (by kernel_rfl) (len_r _ 22 68 .plain e67 a0.fCells (by kernel_rfl)) (by kernel_rfl) ?_
        refine Ops.seg 1 4 (by kernel_rfl) ⟨(.v (.agg [(.str a0.fName), (vP e67 a0.fCells)])) :: (.ptr 0 0) :: (.ptr 1 0) :: u3 ((.ptr 0 0) :: (.v (.str a0.fName)) :: (dB v1) :: (dB (!v1)) :: u1 ((.ptr 0 1) :: (dP e67 a0.fCells) :: (dI ((a0.fCells.length : Int))) :: (dB v9) :: (dB v9) :: d5 :: d6 :: d7 :: d8 :: (dB v10) :: u1 ((.ptr 0 1) :: (dP e67 a0.fCells) :: (dI ((a0.fCells.length : Int))) :: (dI 0) :: u36 []))), [(.cells [(.v (.str a0.fName)), (dP e67 a0.fCells)]), (.cells [(dI 0), (dI 0)])]⟩ (by kernel_rfl) ?_
        refine Ops.done (by kernel_rfl) ?_
        refine seqQ.n ?_
        refine Wp.block (id := 0) [2] (by kernel_rfl) 2 (by kernel_rfl) (subc [1, 1, 1, 0, 1, 0] C15) (by kernel_rfl) ?_
        have hLx117 : ∀ (kx78 : Nat) (v76 : Int)  (ox77 : S27 ⊕ (Int)), iter (fun (y : Int) => f15_B3 m a0 y) kx78 v76 = some ox77 → ∀ nx79, kx78 ≤ nx79 → (∀ r, ox77 = .inl r → ∀ σ, RetOk (X15 n) (resOf Proofs.Tryd.prog 15) (e27 r) σ → (seqQ (X15 n) (subc [1, 1, 1, 1] C15) (fnQ (X15 n).E.T (resOf Proofs.Tryd.prog 15) (e27 o))) .ret σ) → (∀ (y : Int) , ox77 = .inr y → (seqQ (X15 n) (subc [1, 1, 1, 1] C15) (fnQ (X15 n).E.T (resOf Proofs.Tryd.prog 15) (e27 o))) .normal ⟨q2 ((.ptr 1 0) :: q20 ((dP e67 a0.fCells) :: (dI ((a0.fCells.length : Int))) :: (dI y) :: q36 [])), [(.cells [(.v (.str a0.fName)), (dP e67 a0.fCells)]), (.cells [(dI 0), (dI 0)])]⟩) → Lp (X15 n) [2, 23, 24, 25] 2 (subc [1, 1, 1, 0, 1, 0, 0] C15) nx79 ⟨q2 ((.ptr 1 0) :: q20 ((dP e67 a0.fCells) :: (dI ((a0.fCells.length : Int))) :: (dI v76) :: q36 [])), [(.cells [(.v (.str a0.fName)), (dP e67 a0.fCells)]), (.cells [(dI 0), (dI 0)])]⟩ (blkQ (X15 n) 0 [2] 2 (seqQ (X15 n) (subc [1, 1, 1, 1] C15) (fnQ (X15 n).E.T (resOf Proofs.Tryd.prog 15) (e27 o)))) := by
          intro kx78
          induction kx78 with
          | zero => intro v76  ox77 h; exact (iter_zero h).elim
          | succ kx78 ihx80 =>
            intro v76  ox77 h nx79 hnx83 hrx81 hxx82
            obtain ⟨nx79, rfl⟩ : ∃ q, nx79 = q + 1 := ⟨nx79 - 1, by omega⟩
            obtain ⟨sx84, h, hsx85⟩ := iter_some h
            have h : f15_B3 m a0 v76 = some sx84 := h
            unfold f15_B3 at h
            refine Lp.succ ?_
            refine Wp.seq (subc [1, 1, 1, 0, 1, 0, 0, 0] C15) (subc [1, 1, 1, 0, 1, 0, 0, 1] C15) (by kernel_rfl) ?_
            refine Wp.region (by kernel_rfl) ?_
            refine Ops.seg 1 1 (by kernel_rfl) ⟨q2 ((.ptr 1 0) :: q20 ((dP e67 a0.fCells) :: (dI ((a0.fCells.length : Int))) :: (dI v76) :: (dB (decide (v76 < (a0.fCells.length : Int)))) :: q35 [])), [(.cells [(.v (.str a0.fName)), (dP e67 a0.fCells)]), (.cells [(dI 0), (dI 0)])]⟩ (by kernel_rfl) ?_
            refine Ops.done (by kernel_rfl) ?_
            refine seqQ.n ?_
            refine Wp.seq (subc [1, 1, 1, 0, 1, 0, 0, 1, 0] C15) (subc [1, 1, 1, 0, 1, 0, 0, 1, 1] C15) (by kernel_rfl) ?_
            rcases cnd_some h with ⟨hb, h⟩ | ⟨hb, h⟩
            · refine Wp.cond (decide (v76 < (a0.fCells.length : Int))) [2, 23, 24, 25] (by kernel_rfl) 2 (by kernel_rfl) (subc [1, 1, 1, 0, 1, 0, 0, 1, 0, 0] C15) (subc [1, 1, 1, 0, 1, 0, 0, 1, 0, 1] C15) (by kernel_rfl) (by kernel_rfl) (fun _ => ?_) (fun e => nomatch (hb.symm.trans e))
              refine Wp.skip (by kernel_rfl) ?_
              refine sqQ.n ⟨q2 ((.ptr 1 0) :: q20 ((dP e67 a0.fCells) :: (dI ((a0.fCells.length : Int))) :: (dI v76) :: (dB (decide (v76 < (a0.fCells.length : Int)))) :: q35 [])), [(.cells [(.v (.str a0.fName)), (dP e67 a0.fCells)]), (.cells [(dI 0), (dI 0)])]⟩ (by kernel_rfl) ?_
              refine seqQ.n ?_
              refine Wp.seq (subc [1, 1, 1, 0, 1, 0, 0, 1, 1, 0] C15) (subc [1, 1, 1, 0, 1, 0, 0, 1, 1, 1] C15) (by kernel_rfl) ?_
              refine Wp.block (id := 1) [2, 23, 24, 25] (by kernel_rfl) 2 (by kernel_rfl) (subc [1, 1, 1, 0, 1, 0, 0, 1, 1, 0, 0] C15) (by kernel_rfl) ?_
              refine Wp.seq (subc [1, 1, 1, 0, 1, 0, 0, 1, 1, 0, 0, 0] C15) (subc [1, 1, 1, 0, 1, 0, 0, 1, 1, 0, 0, 1] C15) (by kernel_rfl) ?_
              refine Wp.region (by kernel_rfl) ?_
              refine Ops.seg 1 1 (by kernel_rfl) ⟨q2 ((.ptr 1 0) :: q20 ((dP e67 a0.fCells) :: (dI ((a0.fCells.length : Int))) :: (dI v76) :: (dB (decide (v76 < (a0.fCells.length : Int)))) :: (dI v76) :: q34 [])), [(.cells [(.v (.str a0.fName)), (dP e67 a0.fCells)]), (.cells [(dI 0), (dI 0)])]⟩ (by kernel_rfl) ?_
              obtain ⟨v86, ev86, h⟩ := bnd_some h
              refine Ops.one 2 (by kernel_rfl) ((indexAddrH (X15 n).E.T [(.cells [(.v (.str a0.fName)), (dP e67 a0.fCells)]), (.cells [(dI 0), (dI 0)])] 22 (D.unt (dP e67 a0.fCells)) (dI v76)).map (·, [(.cells [(.v (.str a0.fName)), (dP e67 a0.fCells)]), (.cells [(dI 0), (dI 0)])])) (.vptr [(vP eS v86.fTags), (.str v86.fCut), (.str v86.fAdd)]) [(.cells [(.v (.str a0.fName)), (dP e67 a0.fCells)]), (.cells [(dI 0), (dI 0)])] ⟨q2 ((.ptr 1 0) :: q20 ((dP e67 a0.fCells) :: (dI ((a0.fCells.length : Int))) :: (dI v76) :: (dB (decide (v76 < (a0.fCells.length : Int)))) :: (dI v76) :: (.vptr [(vP eS v86.fTags), (.str v86.fCut), (.str v86.fAdd)]) :: q33 [])), [(.cells [(.v (.str a0.fName)), (dP e67 a0.fCells)]), (.cells [(dI 0), (dI 0)])]⟩ (by kernel_rfl) (ix_r _ 22 68 3 .plain e67 a0.fCells v76 v86 ev86 (by kernel_rfl) (by kernel_rfl) (fun _ => rfl)) (by kernel_rfl) ?_
              refine Ops.seg 4 6 (by kernel_rfl) ⟨q2 ((.ptr 1 0) :: (dI v76) :: (.ptr 2 0) :: q18 ((dP e67 a0.fCells) :: (dI ((a0.fCells.length : Int))) :: (dI v76) :: (dB (decide (v76 < (a0.fCells.length : Int)))) :: (dI v76) :: (.vptr [(vP eS v86.fTags), (.str v86.fCut), (.str v86.fAdd)]) :: (.v (.agg [(vP eS v86.fTags), (.str v86.fCut), (.str v86.fAdd)])) :: q32 [])), [(.cells [(.v (.str a0.fName)), (dP e67 a0.fCells)]), (.cells [(dI 0), (dI 0)]), (.cells [(dP eS v86.fTags), (.v (.str v86.fCut)), (.v (.str v86.fAdd))])]⟩ (by kernel_rfl) ?_
              refine Ops.done (by kernel_rfl) ?_
              refine seqQ.n ?_
              refine Wp.seq (subc [1, 1, 1, 0, 1, 0, 0, 1, 1, 0, 0, 1, 0] C15) (subc [1, 1, 1, 0, 1, 0, 0, 1, 1, 0, 0, 1, 1] C15) (by kernel_rfl) ?_
              refine Wp.seq (subc [1, 1, 1, 0, 1, 0, 0, 1, 1, 0, 0, 1, 0, 0] C15) (subc [1, 1, 1, 0, 1, 0, 0, 1, 1, 0, 0, 1, 0, 1] C15) (by kernel_rfl) ?_
              refine Wp.region (by kernel_rfl) ?_
              refine Ops.seg 2 2 (by kernel_rfl) ⟨q2 ((.ptr 1 0) :: (dI v76) :: (.ptr 2 0) :: q18 ((dP e67 a0.fCells) :: (dI ((a0.fCells.length : Int))) :: (dI v76) :: (dB (decide (v76 < (a0.fCells.length : Int)))) :: (dI v76) :: (.vptr [(vP eS v86.fTags), (.str v86.fCut), (.str v86.fAdd)]) :: (.v (.agg [(vP eS v86.fTags), (.str v86.fCut), (.str v86.fAdd)])) :: (.ptr 2 0) :: (dP eS v86.fTags) :: q30 [])), [(.cells [(.v (.str a0.fName)), (dP e67 a0.fCells)]), (.cells [(dI 0), (dI 0)]), (.cells [(dP eS v86.fTags), (.v (.str v86.fCut)), (.v (.str v86.fAdd))])]⟩ (by kernel_rfl) ?_
              obtain ⟨v87, ev87, h⟩ := bnd_some h
              refine Ops.one 3 (by kernel_rfl) (callD (X15 n).E (run Proofs.Tryd.prog E n) 40 [(dP eS v86.fTags)] [(.cells [(.v (.str a0.fName)), (dP e67 a0.fCells)]), (.cells [(dI 0), (dI 0)]), (.cells [(dP eS v86.fTags), (.v (.str v86.fCut)), (.v (.str v86.fAdd))])]) (dI v87) [(.cells [(.v (.str a0.fName)), (dP e67 a0.fCells)]), (.cells [(dI 0), (dI 0)]), (.cells [(dP eS v86.fTags), (.v (.str v86.fCut)), (.v (.str v86.fAdd))])] ⟨q2 ((.ptr 1 0) :: (dI v76) :: (.ptr 2 0) :: q18 ((dP e67 a0.fCells) :: (dI ((a0.fCells.length : Int))) :: (dI v76) :: (dB (decide (v76 < (a0.fCells.length : Int)))) :: (dI v76) :: (.vptr [(vP eS v86.fTags), (.str v86.fCut), (.str v86.fAdd)]) :: (.v (.agg [(vP eS v86.fTags), (.str v86.fCut), (.str v86.fAdd)])) :: (.ptr 2 0) :: (dP eS v86.fTags) :: (dI v87) :: q29 [])), [(.cells [(.v (.str a0.fName)), (dP e67 a0.fCells)]), (.cells [(dI 0), (dI 0)]), (.cells [(dP eS v86.fTags), (.v (.str v86.fCut)), (.v (.str v86.fAdd))])]⟩ (by kernel_rfl) (call_ok (by kernel_rfl) (Args.v (vP eS v86.fTags) ((eL eS) v86.fTags) (by kernel_rfl) Args.nil) (ok40 m v86.fTags v87 ev87 n (by omega))) (by kernel_rfl) ?_
              refine Ops.seg 1 4 (by kernel_rfl) ⟨q2 ((.ptr 1 0) :: (dI v76) :: (.ptr 2 0) :: (dI v87) :: q17 ((dP e67 a0.fCells) :: (dI ((a0.fCells.length : Int))) :: (dI v76) :: (dB (decide (v76 < (a0.fCells.length : Int)))) :: (dI v76) :: (.vptr [(vP eS v86.fTags), (.str v86.fCut), (.str v86.fAdd)]) :: (.v (.agg [(vP eS v86.fTags), (.str v86.fCut), (.str v86.fAdd)])) :: (.ptr 2 0) :: (dP eS v86.fTags) :: (dI v87) :: q29 [])), [(.cells [(.v (.str a0.fName)), (dP e67 a0.fCells)]), (.cells [(dI 0), (dI 0)]), (.cells [(dP eS v86.fTags), (.v (.str v86.fCut)), (.v (.str v86.fAdd))])]⟩ (by kernel_rfl) ?_
              refine Ops.done (by kernel_rfl) ?_
              refine seqQ.n ?_
              refine Wp.seq (subc [1, 1, 1, 0, 1, 0, 0, 1, 1, 0, 0, 1, 0, 1, 0] C15) (subc [1, 1, 1, 0, 1, 0, 0, 1, 1, 0, 0, 1, 0, 1, 1] C15) (by kernel_rfl) ?_
              refine Wp.region (by kernel_rfl) ?_
              refine Ops.seg 2 2 (by kernel_rfl) ⟨q2 ((.ptr 1 0) :: (dI v76) :: (.ptr 2 0) :: (dI v87) :: q17 ((dP e67 a0.fCells) :: (dI ((a0.fCells.length : Int))) :: (dI v76) :: (dB (decide (v76 < (a0.fCells.length : Int)))) :: (dI v76) :: (.vptr [(vP eS v86.fTags), (.str v86.fCut), (.str v86.fAdd)]) :: (.v (.agg [(vP eS v86.fTags), (.str v86.fCut), (.str v86.fAdd)])) :: (.ptr 2 0) :: (dP eS v86.fTags) :: (dI v87) :: (dI v87) :: (dB (v87 != 0)) :: q27 [])), [(.cells [(.v (.str a0.fName)), (dP e67 a0.fCells)]), (.cells [(dI 0), (dI 0)]), (.cells [(dP eS v86.fTags), (.v (.str v86.fCut)), (.v (.str v86.fAdd))])]⟩ (by kernel_rfl) ?_
              refine Ops.done (by kernel_rfl) ?_
              refine seqQ.n ?_
              rcases cnd_some h with ⟨hb, h⟩ | ⟨hb, h⟩
              · refine Wp.cond (v87 != 0) [2, 3, 4, 23, 24, 25] (by kernel_rfl) 3 (by kernel_rfl) (subc [1, 1, 1, 0, 1, 0, 0, 1, 1, 0, 0, 1, 0, 1, 1, 0] C15) (subc [1, 1, 1, 0, 1, 0, 0, 1, 1, 0, 0, 1, 0, 1, 1, 1] C15) (by kernel_rfl) (by kernel_rfl) (fun _ => ?_) (fun e => nomatch (hb.symm.trans e))
                refine Wp.seq (subc [1, 1, 1, 0, 1, 0, 0, 1, 1, 0, 0, 1, 0, 1, 1, 0, 0] C15) (subc [1, 1, 1, 0, 1, 0, 0, 1, 1, 0, 0, 1, 0, 1, 1, 0, 1] C15) (by kernel_rfl) ?_
                refine Wp.region (by kernel_rfl) ?_
                refine Ops.seg 2 2 (by kernel_rfl) ⟨q2 ((.ptr 1 0) :: (dI v76) :: (.ptr 2 0) :: (dI v87) :: q17 ((dP e67 a0.fCells) :: (dI ((a0.fCells.length : Int))) :: (dI v76) :: (dB (decide (v76 < (a0.fCells.length : Int)))) :: (dI v76) :: (.vptr [(vP eS v86.fTags), (.str v86.fCut), (.str v86.fAdd)]) :: (.v (.agg [(vP eS v86.fTags), (.str v86.fCut), (.str v86.fAdd)])) :: (.ptr 2 0) :: (dP eS v86.fTags) :: (dI v87) :: (dI v87) :: (dB (v87 != 0)) :: (dI v87) :: (dI v76) :: q25 [])), [(.cells [(.v (.str a0.fName)), (dP e67 a0.fCells)]), (.cells [(dI 0), (dI 0)]), (.cells [(dP eS v86.fTags), (.v (.str v86.fCut)), (.v (.str v86.fAdd))])]⟩ (by kernel_rfl) ?_
                obtain ⟨v88, ev88, h⟩ := bnd_some h
                refine Ops.one 3 (by kernel_rfl) (callD (X15 n).E (run Proofs.Tryd.prog E n) 33 [(dI v87), (dI v76)] [(.cells [(.v (.str a0.fName)), (dP e67 a0.fCells)]), (.cells [(dI 0), (dI 0)]), (.cells [(dP eS v86.fTags), (.v (.str v86.fCut)), (.v (.str v86.fAdd))])]) (.v (.agg [(vI v88.fCode), (vI v88.fIndex)])) [(.cells [(.v (.str a0.fName)), (dP e67 a0.fCells)]), (.cells [(dI 0), (dI 0)]), (.cells [(dP eS v86.fTags), (.v (.str v86.fCut)), (.v (.str v86.fAdd))])] ⟨q2 ((.ptr 1 0) :: (dI v76) :: (.ptr 2 0) :: (dI v87) :: q17 ((dP e67 a0.fCells) :: (dI ((a0.fCells.length : Int))) :: (dI v76) :: (dB (decide (v76 < (a0.fCells.length : Int)))) :: (dI v76) :: (.vptr [(vP eS v86.fTags), (.str v86.fCut), (.str v86.fAdd)]) :: (.v (.agg [(vP eS v86.fTags), (.str v86.fCut), (.str v86.fAdd)])) :: (.ptr 2 0) :: (dP eS v86.fTags) :: (dI v87) :: (dI v87) :: (dB (v87 != 0)) :: (dI v87) :: (dI v76) :: (.v (.agg [(vI v88.fCode), (vI v88.fIndex)])) :: q24 [])), [(.cells [(.v (.str a0.fName)), (dP e67 a0.fCells)]), (.cells [(dI 0), (dI 0)]), (.cells [(dP eS v86.fTags), (.v (.str v86.fCut)), (.v (.str v86.fAdd))])]⟩ (by kernel_rfl) (call_ok (by kernel_rfl) (Args.v (vI v87) (eI v87) (by kernel_rfl) (Args.v (vI v76) (eI v76) (by kernel_rfl) Args.nil)) (ok33 m v87 v76 v88 ev88 n (by omega))) (by kernel_rfl) ?_
                refine Ops.seg 1 4 (by kernel_rfl) ⟨q2 ((.ptr 1 0) :: (dI v76) :: (.ptr 2 0) :: (dI v87) :: q17 ((dP e67 a0.fCells) :: (dI ((a0.fCells.length : Int))) :: (dI v76) :: (dB (decide (v76 < (a0.fCells.length : Int)))) :: (dI v76) :: (.vptr [(vP eS v86.fTags), (.str v86.fCut), (.str v86.fAdd)]) :: (.v (.agg [(vP eS v86.fTags), (.str v86.fCut), (.str v86.fAdd)])) :: (.ptr 2 0) :: (dP eS v86.fTags) :: (dI v87) :: (dI v87) :: (dB (v87 != 0)) :: (dI v87) :: (dI v76) :: (.v (.agg [(vI v88.fCode), (vI v88.fIndex)])) :: q24 [])), [(.cells [(.v (.str a0.fName)), (dP e67 a0.fCells)]), (.cells [(dI v88.fCode), (dI v88.fIndex)]), (.cells [(dP eS v86.fTags), (.v (.str v86.fCut)), (.v (.str v86.fAdd))])]⟩ (by kernel_rfl) ?_
                refine Ops.done (by kernel_rfl) ?_
                refine seqQ.n ?_
                refine Wp.ret (by kernel_rfl) ?_
                refine sqQ.r ?_
                refine seqQ.r ?_
                refine blkQ.r ?_
                refine seqQ.r ?_
                cases h
                refine lpQ.r ?_
                refine blkQ.r ?_
                exact hrx81 _ hsx85 _ (RetOk.forget [2, 23, 24, 25] (by kernel_rfl) (RetOk.mk' (.v (.agg [(vI v88.fCode), (vI v88.fIndex)])) (by kernel_rfl) (by kernel_rfl)))
              · refine Wp.cond (v87 != 0) [2, 3, 4, 23, 24, 25] (by kernel_rfl) 3 (by kernel_rfl) (subc [1, 1, 1, 0, 1, 0, 0, 1, 1, 0, 0, 1, 0, 1, 1, 0] C15) (subc [1, 1, 1, 0, 1, 0, 0, 1, 1, 0, 0, 1, 0, 1, 1, 1] C15) (by kernel_rfl) (by kernel_rfl) (fun e => nomatch (hb.symm.trans e)) (fun _ => ?_)
                refine Wp.skip (by kernel_rfl) ?_
                refine sqQ.n ⟨q2 ((.ptr 1 0) :: (dI v76) :: (.ptr 2 0) :: (dI v87) :: q17 ((dP e67 a0.fCells) :: (dI ((a0.fCells.length : Int))) :: (dI v76) :: (dB (decide (v76 < (a0.fCells.length : Int)))) :: (dI v76) :: (.vptr [(vP eS v86.fTags), (.str v86.fCut), (.str v86.fAdd)]) :: (.v (.agg [(vP eS v86.fTags), (.str v86.fCut), (.str v86.fAdd)])) :: (.ptr 2 0) :: (dP eS v86.fTags) :: (dI v87) :: (dI v87) :: (dB (v87 != 0)) :: q27 [])), [(.cells [(.v (.str a0.fName)), (dP e67 a0.fCells)]), (.cells [(dI 0), (dI 0)]), (.cells [(dP eS v86.fTags), (.v (.str v86.fCut)), (.v (.str v86.fAdd))])]⟩ (by kernel_rfl) ?_
                refine seqQ.n ?_
                refine Wp.seq (subc [1, 1, 1, 0, 1, 0, 0, 1, 1, 0, 0, 1, 1, 0] C15) (subc [1, 1, 1, 0, 1, 0, 0, 1, 1, 0, 0, 1, 1, 1] C15) (by kernel_rfl) ?_
                refine Wp.region (by kernel_rfl) ?_
                refine Ops.seg 4 4 (by kernel_rfl) ⟨q2 ((.ptr 1 0) :: (dI v76) :: (.ptr 2 0) :: (dI v87) :: q17 ((dP e67 a0.fCells) :: (dI ((a0.fCells.length : Int))) :: (dI v76) :: (dB (decide (v76 < (a0.fCells.length : Int)))) :: (dI v76) :: (.vptr [(vP eS v86.fTags), (.str v86.fCut), (.str v86.fAdd)]) :: (.v (.agg [(vP eS v86.fTags), (.str v86.fCut), (.str v86.fAdd)])) :: (.ptr 2 0) :: (dP eS v86.fTags) :: (dI v87) :: (dI v87) :: (dB (v87 != 0)) :: q3 ((.ptr 2 1) :: (.v (.str v86.fCut)) :: (dB (!(v86.fCut.toList == ((⟨#[]⟩ : ByteArray)).toList))) :: (dB (!(v86.fCut.toList == ((⟨#[]⟩ : ByteArray)).toList))) :: q20 []))), [(.cells [(.v (.str a0.fName)), (dP e67 a0.fCells)]), (.cells [(dI 0), (dI 0)]), (.cells [(dP eS v86.fTags), (.v (.str v86.fCut)), (.v (.str v86.fAdd))])]⟩ (by kernel_rfl) ?_
                have J15j97 : ∀ (d91 d92 d93 d94 : D) (v95 : Bool) (v96 : Bool), f15_r2 m v76 v86 v96 = some sx84 → Ops (X15 n) (opl (subc [1, 1, 1, 0, 1, 0, 0, 1, 1, 0, 0, 1, 1, 0] C15)) 9 ⟨q2 ((.ptr 1 0) :: (dI v76) :: (.ptr 2 0) :: (dI v87) :: q17 ((dP e67 a0.fCells) :: (dI ((a0.fCells.length : Int))) :: (dI v76) :: (dB (decide (v76 < (a0.fCells.length : Int)))) :: (dI v76) :: (.vptr [(vP eS v86.fTags), (.str v86.fCut), (.str v86.fAdd)]) :: (.v (.agg [(vP eS v86.fTags), (.str v86.fCut), (.str v86.fAdd)])) :: (.ptr 2 0) :: (dP eS v86.fTags) :: (dI v87) :: (dI v87) :: (dB (v87 != 0)) :: q3 ((.ptr 2 1) :: (.v (.str v86.fCut)) :: (dB v95) :: (dB v95) :: d91 :: d92 :: d93 :: d94 :: (dB v96) :: q15 []))), [(.cells [(.v (.str a0.fName)), (dP e67 a0.fCells)]), (.cells [(dI 0), (dI 0)]), (.cells [(dP eS v86.fTags), (.v (.str v86.fCut)), (.v (.str v86.fAdd))])]⟩ ((seqQ (X15 n) (subc [1, 1, 1, 0, 1, 0, 0, 1, 1, 0, 0, 1, 1, 1] C15) (blkQ (X15 n) 1 [2, 23, 24, 25] 2 (seqQ (X15 n) (subc [1, 1, 1, 0, 1, 0, 0, 1, 1, 1] C15) (lpQ (X15 n) [2, 23, 24, 25] 2 (subc [1, 1, 1, 0, 1, 0, 0] C15) nx79 (blkQ (X15 n) 0 [2] 2 (seqQ (X15 n) (subc [1, 1, 1, 1] C15) (fnQ (X15 n).E.T (resOf Proofs.Tryd.prog 15) (e27 o)))))))) .normal) := by
                  intro d91 d92 d93 d94 v95 v96 h
                  unfold f15_r2 at h
                  refine Ops.seg 1 10 (by kernel_rfl) ⟨q2 ((.ptr 1 0) :: (dI v76) :: (.ptr 2 0) :: (dI v87) :: q17 ((dP e67 a0.fCells) :: (dI ((a0.fCells.length : Int))) :: (dI v76) :: (dB (decide (v76 < (a0.fCells.length : Int)))) :: (dI v76) :: (.vptr [(vP eS v86.fTags), (.str v86.fCut), (.str v86.fAdd)]) :: (.v (.agg [(vP eS v86.fTags), (.str v86.fCut), (.str v86.fAdd)])) :: (.ptr 2 0) :: (dP eS v86.fTags) :: (dI v87) :: (dI v87) :: (dB (v87 != 0)) :: q3 ((.ptr 2 1) :: (.v (.str v86.fCut)) :: (dB v95) :: (dB v95) :: d91 :: d92 :: d93 :: d94 :: (dB v96) :: (dB v96) :: q14 []))), [(.cells [(.v (.str a0.fName)), (dP e67 a0.fCells)]), (.cells [(dI 0), (dI 0)]), (.cells [(dP eS v86.fTags), (.v (.str v86.fCut)), (.v (.str v86.fAdd))])]⟩ (by kernel_rfl) ?_
                  have J15j111 : ∀ (d100 d101 d102 d103 d104 d105 d106 d107 d108 : D) (v109 : Bool) (v110 : Bool), f15_r1 m v76 v110 = some sx84 → Ops (X15 n) (opl (subc [1, 1, 1, 0, 1, 0, 0, 1, 1, 0, 0, 1, 1, 0] C15)) 20 ⟨q2 ((.ptr 1 0) :: (dI v76) :: (.ptr 2 0) :: (dI v87) :: q17 ((dP e67 a0.fCells) :: (dI ((a0.fCells.length : Int))) :: (dI v76) :: (dB (decide (v76 < (a0.fCells.length : Int)))) :: (dI v76) :: (.vptr [(vP eS v86.fTags), (.str v86.fCut), (.str v86.fAdd)]) :: (.v (.agg [(vP eS v86.fTags), (.str v86.fCut), (.str v86.fAdd)])) :: (.ptr 2 0) :: (dP eS v86.fTags) :: (dI v87) :: (dI v87) :: (dB (v87 != 0)) :: q3 ((.ptr 2 1) :: (.v (.str v86.fCut)) :: (dB v95) :: (dB v95) :: d91 :: d92 :: d93 :: d94 :: (dB v109) :: (dB v109) :: d100 :: d101 :: d102 :: d103 :: d104 :: d105 :: d106 :: d107 :: d108 :: (dB v110) :: q4 []))), [(.cells [(.v (.str a0.fName)), (dP e67 a0.fCells)]), (.cells [(dI 0), (dI 0)]), (.cells [(dP eS v86.fTags), (.v (.str v86.fCut)), (.v (.str v86.fAdd))])]⟩ ((seqQ (X15 n) (subc [1, 1, 1, 0, 1, 0, 0, 1, 1, 0, 0, 1, 1, 1] C15) (blkQ (X15 n) 1 [2, 23, 24, 25] 2 (seqQ (X15 n) (subc [1, 1, 1, 0, 1, 0, 0, 1, 1, 1] C15) (lpQ (X15 n) [2, 23, 24, 25] 2 (subc [1, 1, 1, 0, 1, 0, 0] C15) nx79 (blkQ (X15 n) 0 [2] 2 (seqQ (X15 n) (subc [1, 1, 1, 1] C15) (fnQ (X15 n).E.T (resOf Proofs.Tryd.prog 15) (e27 o)))))))) .normal) := by
                    intro d100 d101 d102 d103 d104 d105 d106 d107 d108 v109 v110 h
                    unfold f15_r1 at h
                    refine Ops.done (by kernel_rfl) ?_
                    refine seqQ.n ?_
                    rcases cnd_some h with ⟨hb, h⟩ | ⟨hb, h⟩
                    · refine Wp.cond v110 [2, 23, 24, 25] (by kernel_rfl) 3 (by kernel_rfl) (subc [1, 1, 1, 0, 1, 0, 0, 1, 1, 0, 0, 1, 1, 1, 0] C15) (subc [1, 1, 1, 0, 1, 0, 0, 1, 1, 0, 0, 1, 1, 1, 1] C15) (by kernel_rfl) (by kernel_rfl) (fun _ => ?_) (fun e => nomatch (hb.symm.trans e))
                      refine Wp.seq (subc [1, 1, 1, 0, 1, 0, 0, 1, 1, 0, 0, 1, 1, 1, 0, 0] C15) (subc [1, 1, 1, 0, 1, 0, 0, 1, 1, 0, 0, 1, 1, 1, 0, 1] C15) (by kernel_rfl) ?_
                      refine Wp.region (by kernel_rfl) ?_
                      refine Ops.seg 1 1 (by kernel_rfl) ⟨q2 ((.ptr 1 0) :: (dI v76) :: (.ptr 2 0) :: (dI v87) :: q17 ((dP e67 a0.fCells) :: (dI ((a0.fCells.length : Int))) :: (dI v76) :: (dB (decide (v76 < (a0.fCells.length : Int)))) :: (dI v76) :: (.vptr [(vP eS v86.fTags), (.str v86.fCut), (.str v86.fAdd)]) :: (.v (.agg [(vP eS v86.fTags), (.str v86.fCut), (.str v86.fAdd)])) :: (.ptr 2 0) :: (dP eS v86.fTags) :: (dI v87) :: (dI v87) :: (dB (v87 != 0)) :: q3 ((.ptr 2 1) :: (.v (.str v86.fCut)) :: (dB v95) :: (dB v95) :: d91 :: d92 :: d93 :: d94 :: (dB v109) :: (dB v109) :: d100 :: d101 :: d102 :: d103 :: d104 :: d105 :: d106 :: d107 :: d108 :: (dB v110) :: (dI v76) :: q3 []))), [(.cells [(.v (.str a0.fName)), (dP e67 a0.fCells)]), (.cells [(dI 0), (dI 0)]), (.cells [(dP eS v86.fTags), (.v (.str v86.fCut)), (.v (.str v86.fAdd))])]⟩ (by kernel_rfl) ?_
                      obtain ⟨v112, ev112, h⟩ := bnd_some h
                      refine Ops.one 2 (by kernel_rfl) (callD (X15 n).E (run Proofs.Tryd.prog E n) 33 [(dI 5), (dI v76)] [(.cells [(.v (.str a0.fName)), (dP e67 a0.fCells)]), (.cells [(dI 0), (dI 0)]), (.cells [(dP eS v86.fTags), (.v (.str v86.fCut)), (.v (.str v86.fAdd))])]) (.v (.agg [(vI v112.fCode), (vI v112.fIndex)])) [(.cells [(.v (.str a0.fName)), (dP e67 a0.fCells)]), (.cells [(dI 0), (dI 0)]), (.cells [(dP eS v86.fTags), (.v (.str v86.fCut)), (.v (.str v86.fAdd))])] ⟨q2 ((.ptr 1 0) :: (dI v76) :: (.ptr 2 0) :: (dI v87) :: q17 ((dP e67 a0.fCells) :: (dI ((a0.fCells.length : Int))) :: (dI v76) :: (dB (decide (v76 < (a0.fCells.length : Int)))) :: (dI v76) :: (.vptr [(vP eS v86.fTags), (.str v86.fCut), (.str v86.fAdd)]) :: (.v (.agg [(vP eS v86.fTags), (.str v86.fCut), (.str v86.fAdd)])) :: (.ptr 2 0) :: (dP eS v86.fTags) :: (dI v87) :: (dI v87) :: (dB (v87 != 0)) :: q3 ((.ptr 2 1) :: (.v (.str v86.fCut)) :: (dB v95) :: (dB v95) :: d91 :: d92 :: d93 :: d94 :: (dB v109) :: (dB v109) :: d100 :: d101 :: d102 :: d103 :: d104 :: d105 :: d106 :: d107 :: d108 :: (dB v110) :: (dI v76) :: (.v (.agg [(vI v112.fCode), (vI v112.fIndex)])) :: q2 []))), [(.cells [(.v (.str a0.fName)), (dP e67 a0.fCells)]), (.cells [(dI 0), (dI 0)]), (.cells [(dP eS v86.fTags), (.v (.str v86.fCut)), (.v (.str v86.fAdd))])]⟩ (by kernel_rfl) (call_ok (by kernel_rfl) (Args.v (vI 5) (eI 5) (by kernel_rfl) (Args.v (vI v76) (eI v76) (by kernel_rfl) Args.nil)) (ok33 m 5 v76 v112 ev112 n (by omega))) (by kernel_rfl) ?_
                      refine Ops.seg 1 3 (by kernel_rfl) ⟨q2 ((.ptr 1 0) :: (dI v76) :: (.ptr 2 0) :: (dI v87) :: q17 ((dP e67 a0.fCells) :: (dI ((a0.fCells.length : Int))) :: (dI v76) :: (dB (decide (v76 < (a0.fCells.length : Int)))) :: (dI v76) :: (.vptr [(vP eS v86.fTags), (.str v86.fCut), (.str v86.fAdd)]) :: (.v (.agg [(vP eS v86.fTags), (.str v86.fCut), (.str v86.fAdd)])) :: (.ptr 2 0) :: (dP eS v86.fTags) :: (dI v87) :: (dI v87) :: (dB (v87 != 0)) :: q3 ((.ptr 2 1) :: (.v (.str v86.fCut)) :: (dB v95) :: (dB v95) :: d91 :: d92 :: d93 :: d94 :: (dB v109) :: (dB v109) :: d100 :: d101 :: d102 :: d103 :: d104 :: d105 :: d106 :: d107 :: d108 :: (dB v110) :: (dI v76) :: (.v (.agg [(vI v112.fCode), (vI v112.fIndex)])) :: q2 []))), [(.cells [(.v (.str a0.fName)), (dP e67 a0.fCells)]), (.cells [(dI v112.fCode), (dI v112.fIndex)]), (.cells [(dP eS v86.fTags), (.v (.str v86.fCut)), (.v (.str v86.fAdd))])]⟩ (by kernel_rfl) ?_
                      refine Ops.done (by kernel_rfl) ?_
                      refine seqQ.n ?_
                      refine Wp.ret (by kernel_rfl) ?_
                      refine sqQ.r ?_
                      refine blkQ.r ?_
                      refine seqQ.r ?_
                      cases h
                      refine lpQ.r ?_
                      refine blkQ.r ?_
                      exact hrx81 _ hsx85 _ (RetOk.forget [2, 23, 24, 25] (by kernel_rfl) (RetOk.mk' (.v (.agg [(vI v112.fCode), (vI v112.fIndex)])) (by kernel_rfl) (by kernel_rfl)))
                    · refine Wp.cond v110 [2, 23, 24, 25] (by kernel_rfl) 3 (by kernel_rfl) (subc [1, 1, 1, 0, 1, 0, 0, 1, 1, 0, 0, 1, 1, 1, 0] C15) (subc [1, 1, 1, 0, 1, 0, 0, 1, 1, 0, 0, 1, 1, 1, 1] C15) (by kernel_rfl) (by kernel_rfl) (fun e => nomatch (hb.symm.trans e)) (fun _ => ?_)
                      refine Wp.skip (by kernel_rfl) ?_
                      refine sqQ.n ⟨q2 ((.ptr 1 0) :: (dI v76) :: (.ptr 2 0) :: (dI v87) :: q17 ((dP e67 a0.fCells) :: (dI ((a0.fCells.length : Int))) :: (dI v76) :: (dB (decide (v76 < (a0.fCells.length : Int)))) :: (dI v76) :: (.vptr [(vP eS v86.fTags), (.str v86.fCut), (.str v86.fAdd)]) :: (.v (.agg [(vP eS v86.fTags), (.str v86.fCut), (.str v86.fAdd)])) :: (.ptr 2 0) :: (dP eS v86.fTags) :: (dI v87) :: (dI v87) :: (dB (v87 != 0)) :: q3 ((.ptr 2 1) :: (.v (.str v86.fCut)) :: (dB v95) :: (dB v95) :: d91 :: d92 :: d93 :: d94 :: (dB v109) :: (dB v109) :: d100 :: d101 :: d102 :: d103 :: d104 :: d105 :: d106 :: d107 :: d108 :: (dB v110) :: q4 []))), [(.cells [(.v (.str a0.fName)), (dP e67 a0.fCells)]), (.cells [(dI 0), (dI 0)]), (.cells [(dP eS v86.fTags), (.v (.str v86.fCut)), (.v (.str v86.fAdd))])]⟩ (by kernel_rfl) ?_
                      refine blkQ.n ⟨q2 ((.ptr 1 0) :: q20 ((dP e67 a0.fCells) :: (dI ((a0.fCells.length : Int))) :: (dI v76) :: q36 [])), [(.cells [(.v (.str a0.fName)), (dP e67 a0.fCells)]), (.cells [(dI 0), (dI 0)])]⟩ (by kernel_rfl) ?_
                      refine seqQ.n ?_
                      refine Wp.region (by kernel_rfl) ?_
                      refine Ops.seg 2 2 (by kernel_rfl) ⟨q2 ((.ptr 1 0) :: q20 ((dP e67 a0.fCells) :: (dI ((a0.fCells.length : Int))) :: (dI (w64 (v76 + 1))) :: q34 ((dI (w64 (v76 + 1))) :: q1 []))), [(.cells [(.v (.str a0.fName)), (dP e67 a0.fCells)]), (.cells [(dI 0), (dI 0)])]⟩ (by kernel_rfl) ?_
                      refine Ops.done (by kernel_rfl) ?_
                      refine lpQ.n ⟨q2 ((.ptr 1 0) :: q20 ((dP e67 a0.fCells) :: (dI ((a0.fCells.length : Int))) :: (dI (w64 (v76 + 1))) :: q36 [])), [(.cells [(.v (.str a0.fName)), (dP e67 a0.fCells)]), (.cells [(dI 0), (dI 0)])]⟩ (by kernel_rfl) ?_
                      cases h
                      exact ihx80 (w64 (v76 + 1))  _ hsx85 _ (by omega) hrx81 hxx82
                  obtain ⟨v110, ev110, h⟩ := bnd_some h
                  have G15g99 : ∀ v98 : Bool, (cnd v98 (some true) (cnd (!(v86.fAdd.toList == ((⟨#[]⟩ : ByteArray)).toList)) (bnd (f32 m v86.fAdd) fun v115 => some (!v115)) (some false))) = some v110 → Ops (X15 n) (opl (subc [1, 1, 1, 0, 1, 0, 0, 1, 1, 0, 0, 1, 1, 0] C15)) 10 ⟨q2 ((.ptr 1 0) :: (dI v76) :: (.ptr 2 0) :: (dI v87) :: q17 ((dP e67 a0.fCells) :: (dI ((a0.fCells.length : Int))) :: (dI v76) :: (dB (decide (v76 < (a0.fCells.length : Int)))) :: (dI v76) :: (.vptr [(vP eS v86.fTags), (.str v86.fCut), (.str v86.fAdd)]) :: (.v (.agg [(vP eS v86.fTags), (.str v86.fCut), (.str v86.fAdd)])) :: (.ptr 2 0) :: (dP eS v86.fTags) :: (dI v87) :: (dI v87) :: (dB (v87 != 0)) :: q3 ((.ptr 2 1) :: (.v (.str v86.fCut)) :: (dB v95) :: (dB v95) :: d91 :: d92 :: d93 :: d94 :: (dB v98) :: (dB v98) :: q14 []))), [(.cells [(.v (.str a0.fName)), (dP e67 a0.fCells)]), (.cells [(dI 0), (dI 0)]), (.cells [(dP eS v86.fTags), (.v (.str v86.fCut)), (.v (.str v86.fAdd))])]⟩ ((seqQ (X15 n) (subc [1, 1, 1, 0, 1, 0, 0, 1, 1, 0, 0, 1, 1, 1] C15) (blkQ (X15 n) 1 [2, 23, 24, 25] 2 (seqQ (X15 n) (subc [1, 1, 1, 0, 1, 0, 0, 1, 1, 1] C15) (lpQ (X15 n) [2, 23, 24, 25] 2 (subc [1, 1, 1, 0, 1, 0, 0] C15) nx79 (blkQ (X15 n) 0 [2] 2 (seqQ (X15 n) (subc [1, 1, 1, 1] C15) (fnQ (X15 n).E.T (resOf Proofs.Tryd.prog 15) (e27 o)))))))) .normal) := by
                    intro v98 ev110
                    cases v98
                    · have ev110 := cnd_f ev110
                      refine Ops.seg 4 14 (by kernel_rfl) ⟨q2 ((.ptr 1 0) :: (dI v76) :: (.ptr 2 0) :: (dI v87) :: q17 ((dP e67 a0.fCells) :: (dI ((a0.fCells.length : Int))) :: (dI v76) :: (dB (decide (v76 < (a0.fCells.length : Int)))) :: (dI v76) :: (.vptr [(vP eS v86.fTags), (.str v86.fCut), (.str v86.fAdd)]) :: (.v (.agg [(vP eS v86.fTags), (.str v86.fCut), (.str v86.fAdd)])) :: (.ptr 2 0) :: (dP eS v86.fTags) :: (dI v87) :: (dI v87) :: (dB (v87 != 0)) :: q3 ((.ptr 2 1) :: (.v (.str v86.fCut)) :: (dB v95) :: (dB v95) :: d91 :: d92 :: d93 :: d94 :: (dB false) :: (dB false) :: (.ptr 2 2) :: (.v (.str v86.fAdd)) :: (dB (!(v86.fAdd.toList == ((⟨#[]⟩ : ByteArray)).toList))) :: (dB (!(v86.fAdd.toList == ((⟨#[]⟩ : ByteArray)).toList))) :: q10 []))), [(.cells [(.v (.str a0.fName)), (dP e67 a0.fCells)]), (.cells [(dI 0), (dI 0)]), (.cells [(dP eS v86.fTags), (.v (.str v86.fCut)), (.v (.str v86.fAdd))])]⟩ (by kernel_rfl) ?_
                      have G15g114 : ∀ v113 : Bool, (cnd v113 (bnd (f32 m v86.fAdd) fun v115 => some (!v115)) (some false)) = some v110 → Ops (X15 n) (opl (subc [1, 1, 1, 0, 1, 0, 0, 1, 1, 0, 0, 1, 1, 0] C15)) 14 ⟨q2 ((.ptr 1 0) :: (dI v76) :: (.ptr 2 0) :: (dI v87) :: q17 ((dP e67 a0.fCells) :: (dI ((a0.fCells.length : Int))) :: (dI v76) :: (dB (decide (v76 < (a0.fCells.length : Int)))) :: (dI v76) :: (.vptr [(vP eS v86.fTags), (.str v86.fCut), (.str v86.fAdd)]) :: (.v (.agg [(vP eS v86.fTags), (.str v86.fCut), (.str v86.fAdd)])) :: (.ptr 2 0) :: (dP eS v86.fTags) :: (dI v87) :: (dI v87) :: (dB (v87 != 0)) :: q3 ((.ptr 2 1) :: (.v (.str v86.fCut)) :: (dB v95) :: (dB v95) :: d91 :: d92 :: d93 :: d94 :: (dB false) :: (dB false) :: (.ptr 2 2) :: (.v (.str v86.fAdd)) :: (dB v113) :: (dB v113) :: q10 []))), [(.cells [(.v (.str a0.fName)), (dP e67 a0.fCells)]), (.cells [(dI 0), (dI 0)]), (.cells [(dP eS v86.fTags), (.v (.str v86.fCut)), (.v (.str v86.fAdd))])]⟩ ((seqQ (X15 n) (subc [1, 1, 1, 0, 1, 0, 0, 1, 1, 0, 0, 1, 1, 1] C15) (blkQ (X15 n) 1 [2, 23, 24, 25] 2 (seqQ (X15 n) (subc [1, 1, 1, 0, 1, 0, 0, 1, 1, 1] C15) (lpQ (X15 n) [2, 23, 24, 25] 2 (subc [1, 1, 1, 0, 1, 0, 0] C15) nx79 (blkQ (X15 n) 0 [2] 2 (seqQ (X15 n) (subc [1, 1, 1, 1] C15) (fnQ (X15 n).E.T (resOf Proofs.Tryd.prog 15) (e27 o)))))))) .normal) := by
                        intro v113 ev110
                        cases v113
                        · have ev110 := cnd_f ev110
                          refine Ops.seg 6 20 (by kernel_rfl) ⟨q2 ((.ptr 1 0) :: (dI v76) :: (.ptr 2 0) :: (dI v87) :: q17 ((dP e67 a0.fCells) :: (dI ((a0.fCells.length : Int))) :: (dI v76) :: (dB (decide (v76 < (a0.fCells.length : Int)))) :: (dI v76) :: (.vptr [(vP eS v86.fTags), (.str v86.fCut), (.str v86.fAdd)]) :: (.v (.agg [(vP eS v86.fTags), (.str v86.fCut), (.str v86.fAdd)])) :: (.ptr 2 0) :: (dP eS v86.fTags) :: (dI v87) :: (dI v87) :: (dB (v87 != 0)) :: q3 ((.ptr 2 1) :: (.v (.str v86.fCut)) :: (dB v95) :: (dB v95) :: d91 :: d92 :: d93 :: d94 :: (dB false) :: (dB false) :: (.ptr 2 2) :: (.v (.str v86.fAdd)) :: (dB false) :: (dB false) :: u4 ((dB false) :: (dB false) :: q4 [])))), [(.cells [(.v (.str a0.fName)), (dP e67 a0.fCells)]), (.cells [(dI 0), (dI 0)]), (.cells [(dP eS v86.fTags), (.v (.str v86.fCut)), (.v (.str v86.fAdd))])]⟩ (by kernel_rfl) ?_
                          exact J15j111 _ _ _ _ _ _ _ _ _ _ _ (some_sub (fun v110 => f15_r1 m v76 v110 = some sx84) ev110 h)
                        · have ev110 := cnd_t ev110
                          refine Ops.seg 2 16 (by kernel_rfl) ⟨q2 ((.ptr 1 0) :: (dI v76) :: (.ptr 2 0) :: (dI v87) :: q17 ((dP e67 a0.fCells) :: (dI ((a0.fCells.length : Int))) :: (dI v76) :: (dB (decide (v76 < (a0.fCells.length : Int)))) :: (dI v76) :: (.vptr [(vP eS v86.fTags), (.str v86.fCut), (.str v86.fAdd)]) :: (.v (.agg [(vP eS v86.fTags), (.str v86.fCut), (.str v86.fAdd)])) :: (.ptr 2 0) :: (dP eS v86.fTags) :: (dI v87) :: (dI v87) :: (dB (v87 != 0)) :: q3 ((.ptr 2 1) :: (.v (.str v86.fCut)) :: (dB v95) :: (dB v95) :: d91 :: d92 :: d93 :: d94 :: (dB false) :: (dB false) :: (.ptr 2 2) :: (.v (.str v86.fAdd)) :: (dB true) :: (dB true) :: (.ptr 2 2) :: (.v (.str v86.fAdd)) :: q8 []))), [(.cells [(.v (.str a0.fName)), (dP e67 a0.fCells)]), (.cells [(dI 0), (dI 0)]), (.cells [(dP eS v86.fTags), (.v (.str v86.fCut)), (.v (.str v86.fAdd))])]⟩ (by kernel_rfl) ?_
                          obtain ⟨v115, ev115, ev110⟩ := bnd_some ev110
                          refine Ops.one 17 (by kernel_rfl) (callD (X15 n).E (run Proofs.Tryd.prog E n) 32 [(.v (.str v86.fAdd))] [(.cells [(.v (.str a0.fName)), (dP e67 a0.fCells)]), (.cells [(dI 0), (dI 0)]), (.cells [(dP eS v86.fTags), (.v (.str v86.fCut)), (.v (.str v86.fAdd))])]) (dB v115) [(.cells [(.v (.str a0.fName)), (dP e67 a0.fCells)]), (.cells [(dI 0), (dI 0)]), (.cells [(dP eS v86.fTags), (.v (.str v86.fCut)), (.v (.str v86.fAdd))])] ⟨q2 ((.ptr 1 0) :: (dI v76) :: (.ptr 2 0) :: (dI v87) :: q17 ((dP e67 a0.fCells) :: (dI ((a0.fCells.length : Int))) :: (dI v76) :: (dB (decide (v76 < (a0.fCells.length : Int)))) :: (dI v76) :: (.vptr [(vP eS v86.fTags), (.str v86.fCut), (.str v86.fAdd)]) :: (.v (.agg [(vP eS v86.fTags), (.str v86.fCut), (.str v86.fAdd)])) :: (.ptr 2 0) :: (dP eS v86.fTags) :: (dI v87) :: (dI v87) :: (dB (v87 != 0)) :: q3 ((.ptr 2 1) :: (.v (.str v86.fCut)) :: (dB v95) :: (dB v95) :: d91 :: d92 :: d93 :: d94 :: (dB false) :: (dB false) :: (.ptr 2 2) :: (.v (.str v86.fAdd)) :: (dB true) :: (dB true) :: (.ptr 2 2) :: (.v (.str v86.fAdd)) :: (dB v115) :: q7 []))), [(.cells [(.v (.str a0.fName)), (dP e67 a0.fCells)]), (.cells [(dI 0), (dI 0)]), (.cells [(dP eS v86.fTags), (.v (.str v86.fCut)), (.v (.str v86.fAdd))])]⟩ (by kernel_rfl) (call_ok (by kernel_rfl) (Args.v (.str v86.fAdd) (eS v86.fAdd) (by kernel_rfl) Args.nil) (ok32 m v86.fAdd v115 ev115 n (by omega))) (by kernel_rfl) ?_
                          refine Ops.seg 3 20 (by kernel_rfl) ⟨q2 ((.ptr 1 0) :: (dI v76) :: (.ptr 2 0) :: (dI v87) :: q17 ((dP e67 a0.fCells) :: (dI ((a0.fCells.length : Int))) :: (dI v76) :: (dB (decide (v76 < (a0.fCells.length : Int)))) :: (dI v76) :: (.vptr [(vP eS v86.fTags), (.str v86.fCut), (.str v86.fAdd)]) :: (.v (.agg [(vP eS v86.fTags), (.str v86.fCut), (.str v86.fAdd)])) :: (.ptr 2 0) :: (dP eS v86.fTags) :: (dI v87) :: (dI v87) :: (dB (v87 != 0)) :: q3 ((.ptr 2 1) :: (.v (.str v86.fCut)) :: (dB v95) :: (dB v95) :: d91 :: d92 :: d93 :: d94 :: (dB false) :: (dB false) :: (.ptr 2 2) :: (.v (.str v86.fAdd)) :: (dB true) :: (dB true) :: (.ptr 2 2) :: (.v (.str v86.fAdd)) :: (dB v115) :: (dB (!v115)) :: (dB (!v115)) :: (dB (!v115)) :: q4 []))), [(.cells [(.v (.str a0.fName)), (dP e67 a0.fCells)]), (.cells [(dI 0), (dI 0)]), (.cells [(dP eS v86.fTags), (.v (.str v86.fCut)), (.v (.str v86.fAdd))])]⟩ (by kernel_rfl) ?_
                          exact J15j111 _ _ _ _ _ _ _ _ _ _ _ (some_sub (fun v110 => f15_r1 m v76 v110 = some sx84) ev110 h)
                      exact G15g114 (!(v86.fAdd.toList == ((⟨#[]⟩ : ByteArray)).toList)) ev110
                    · have ev110 := cnd_t ev110
                      refine Ops.seg 10 20 (by kernel_rfl) ⟨q2 ((.ptr 1 0) :: (dI v76) :: (.ptr 2 0) :: (dI v87) :: q17 ((dP e67 a0.fCells) :: (dI ((a0.fCells.length : Int))) :: (dI v76) :: (dB (decide (v76 < (a0.fCells.length : Int)))) :: (dI v76) :: (.vptr [(vP eS v86.fTags), (.str v86.fCut), (.str v86.fAdd)]) :: (.v (.agg [(vP eS v86.fTags), (.str v86.fCut), (.str v86.fAdd)])) :: (.ptr 2 0) :: (dP eS v86.fTags) :: (dI v87) :: (dI v87) :: (dB (v87 != 0)) :: q3 ((.ptr 2 1) :: (.v (.str v86.fCut)) :: (dB v95) :: (dB v95) :: d91 :: d92 :: d93 :: d94 :: (dB true) :: (dB true) :: u9 ((dB true) :: q4 [])))), [(.cells [(.v (.str a0.fName)), (dP e67 a0.fCells)]), (.cells [(dI 0), (dI 0)]), (.cells [(dP eS v86.fTags), (.v (.str v86.fCut)), (.v (.str v86.fAdd))])]⟩ (by kernel_rfl) ?_
                      exact J15j111 _ _ _ _ _ _ _ _ _ _ _ (some_sub (fun v110 => f15_r1 m v76 v110 = some sx84) ev110 h)
                  exact G15g99 v96 ev110
                obtain ⟨v96, ev96, h⟩ := bnd_some h
                have G15g90 : ∀ v89 : Bool, (cnd v89 (bnd (f32 m v86.fCut) fun v116 => some (!v116)) (some false)) = some v96 → Ops (X15 n) (opl (subc [1, 1, 1, 0, 1, 0, 0, 1, 1, 0, 0, 1, 1, 0] C15)) 4 ⟨q2 ((.ptr 1 0) :: (dI v76) :: (.ptr 2 0) :: (dI v87) :: q17 ((dP e67 a0.fCells) :: (dI ((a0.fCells.length : Int))) :: (dI v76) :: (dB (decide (v76 < (a0.fCells.length : Int)))) :: (dI v76) :: (.vptr [(vP eS v86.fTags), (.str v86.fCut), (.str v86.fAdd)]) :: (.v (.agg [(vP eS v86.fTags), (.str v86.fCut), (.str v86.fAdd)])) :: (.ptr 2 0) :: (dP eS v86.fTags) :: (dI v87) :: (dI v87) :: (dB (v87 != 0)) :: q3 ((.ptr 2 1) :: (.v (.str v86.fCut)) :: (dB v89) :: (dB v89) :: q20 []))), [(.cells [(.v (.str a0.fName)), (dP e67 a0.fCells)]), (.cells [(dI 0), (dI 0)]), (.cells [(dP eS v86.fTags), (.v (.str v86.fCut)), (.v (.str v86.fAdd))])]⟩ ((seqQ (X15 n) (subc [1, 1, 1, 0, 1, 0, 0, 1, 1, 0, 0, 1, 1, 1] C15) (blkQ (X15 n) 1 [2, 23, 24, 25] 2 (seqQ (X15 n) (subc [1, 1, 1, 0, 1, 0, 0, 1, 1, 1] C15) (lpQ (X15 n) [2, 23, 24, 25] 2 (subc [1, 1, 1, 0, 1, 0, 0] C15) nx79 (blkQ (X15 n) 0 [2] 2 (seqQ (X15 n) (subc [1, 1, 1, 1] C15) (fnQ (X15 n).E.T (resOf Proofs.Tryd.prog 15) (e27 o)))))))) .normal) := by
                  intro v89 ev96
                  cases v89
                  · have ev96 := cnd_f ev96
                    refine Ops.seg 5 9 (by kernel_rfl) ⟨q2 ((.ptr 1 0) :: (dI v76) :: (.ptr 2 0) :: (dI v87) :: q17 ((dP e67 a0.fCells) :: (dI ((a0.fCells.length : Int))) :: (dI v76) :: (dB (decide (v76 < (a0.fCells.length : Int)))) :: (dI v76) :: (.vptr [(vP eS v86.fTags), (.str v86.fCut), (.str v86.fAdd)]) :: (.v (.agg [(vP eS v86.fTags), (.str v86.fCut), (.str v86.fAdd)])) :: (.ptr 2 0) :: (dP eS v86.fTags) :: (dI v87) :: (dI v87) :: (dB (v87 != 0)) :: q3 ((.ptr 2 1) :: (.v (.str v86.fCut)) :: (dB false) :: (dB false) :: u4 ((dB false) :: q15 [])))), [(.cells [(.v (.str a0.fName)), (dP e67 a0.fCells)]), (.cells [(dI 0), (dI 0)]), (.cells [(dP eS v86.fTags), (.v (.str v86.fCut)), (.v (.str v86.fAdd))])]⟩ (by kernel_rfl) ?_
                    exact J15j97 _ _ _ _ _ _ (some_sub (fun v96 => f15_r2 m v76 v86 v96 = some sx84) ev96 h)
                  · have ev96 := cnd_t ev96
                    refine Ops.seg 2 6 (by kernel_rfl) ⟨q2 ((.ptr 1 0) :: (dI v76) :: (.ptr 2 0) :: (dI v87) :: q17 ((dP e67 a0.fCells) :: (dI ((a0.fCells.length : Int))) :: (dI v76) :: (dB (decide (v76 < (a0.fCells.length : Int)))) :: (dI v76) :: (.vptr [(vP eS v86.fTags), (.str v86.fCut), (.str v86.fAdd)]) :: (.v (.agg [(vP eS v86.fTags), (.str v86.fCut), (.str v86.fAdd)])) :: (.ptr 2 0) :: (dP eS v86.fTags) :: (dI v87) :: (dI v87) :: (dB (v87 != 0)) :: q3 ((.ptr 2 1) :: (.v (.str v86.fCut)) :: (dB true) :: (dB true) :: (.ptr 2 1) :: (.v (.str v86.fCut)) :: q18 []))), [(.cells [(.v (.str a0.fName)), (dP e67 a0.fCells)]), (.cells [(dI 0), (dI 0)]), (.cells [(dP eS v86.fTags), (.v (.str v86.fCut)), (.v (.str v86.fAdd))])]⟩ (by kernel_rfl) ?_
                    obtain ⟨v116, ev116, ev96⟩ := bnd_some ev96
                    refine Ops.one 7 (by kernel_rfl) (callD (X15 n).E (run Proofs.Tryd.prog E n) 32 [(.v (.str v86.fCut))] [(.cells [(.v (.str a0.fName)), (dP e67 a0.fCells)]), (.cells [(dI 0), (dI 0)]), (.cells [(dP eS v86.fTags), (.v (.str v86.fCut)), (.v (.str v86.fAdd))])]) (dB v116) [(.cells [(.v (.str a0.fName)), (dP e67 a0.fCells)]), (.cells [(dI 0), (dI 0)]), (.cells [(dP eS v86.fTags), (.v (.str v86.fCut)), (.v (.str v86.fAdd))])] ⟨q2 ((.ptr 1 0) :: (dI v76) :: (.ptr 2 0) :: (dI v87) :: q17 ((dP e67 a0.fCells) :: (dI ((a0.fCells.length : Int))) :: (dI v76) :: (dB (decide (v76 < (a0.fCells.length : Int)))) :: (dI v76) :: (.vptr [(vP eS v86.fTags), (.str v86.fCut), (.str v86.fAdd)]) :: (.v (.agg [(vP eS v86.fTags), (.str v86.fCut), (.str v86.fAdd)])) :: (.ptr 2 0) :: (dP eS v86.fTags) :: (dI v87) :: (dI v87) :: (dB (v87 != 0)) :: q3 ((.ptr 2 1) :: (.v (.str v86.fCut)) :: (dB true) :: (dB true) :: (.ptr 2 1) :: (.v (.str v86.fCut)) :: (dB v116) :: q17 []))), [(.cells [(.v (.str a0.fName)), (dP e67 a0.fCells)]), (.cells [(dI 0), (dI 0)]), (.cells [(dP eS v86.fTags), (.v (.str v86.fCut)), (.v (.str v86.fAdd))])]⟩ (by kernel_rfl) (call_ok (by kernel_rfl) (Args.v (.str v86.fCut) (eS v86.fCut) (by kernel_rfl) Args.nil) (ok32 m v86.fCut v116 ev116 n (by omega))) (by kernel_rfl) ?_
                    refine Ops.seg 2 9 (by kernel_rfl) ⟨q2 ((.ptr 1 0) :: (dI v76) :: (.ptr 2 0) :: (dI v87) :: q17 ((dP e67 a0.fCells) :: (dI ((a0.fCells.length : Int))) :: (dI v76) :: (dB (decide (v76 < (a0.fCells.length : Int)))) :: (dI v76) :: (.vptr [(vP eS v86.fTags), (.str v86.fCut), (.str v86.fAdd)]) :: (.v (.agg [(vP eS v86.fTags), (.str v86.fCut), (.str v86.fAdd)])) :: (.ptr 2 0) :: (dP eS v86.fTags) :: (dI v87) :: (dI v87) :: (dB (v87 != 0)) :: q3 ((.ptr 2 1) :: (.v (.str v86.fCut)) :: (dB true) :: (dB true) :: (.ptr 2 1) :: (.v (.str v86.fCut)) :: (dB v116) :: (dB (!v116)) :: (dB (!v116)) :: q15 []))), [(.cells [(.v (.str a0.fName)), (dP e67 a0.fCells)]), (.cells [(dI 0), (dI 0)]), (.cells [(dP eS v86.fTags), (.v (.str v86.fCut)), (.v (.str v86.fAdd))])]⟩ (by kernel_rfl) ?_
                    exact J15j97 _ _ _ _ _ _ (some_sub (fun v96 => f15_r2 m v76 v86 v96 = some sx84) ev96 h)
                exact G15g90 (!(v86.fCut.toList == ((⟨#[]⟩ : ByteArray)).toList)) ev96
            · refine Wp.cond (decide (v76 < (a0.fCells.length : Int))) [2, 23, 24, 25] (by kernel_rfl) 2 (by kernel_rfl) (subc [1, 1, 1, 0, 1, 0, 0, 1, 0, 0] C15) (subc [1, 1, 1, 0, 1, 0, 0, 1, 0, 1] C15) (by kernel_rfl) (by kernel_rfl) (fun e => nomatch (hb.symm.trans e)) (fun _ => ?_)
              refine Wp.exit (id := 0) (by kernel_rfl) ?_
              refine sqQ.x ?_
              refine seqQ.x ?_
              cases h
              refine lpQ.x ?_
              refine blkQ.x ⟨q2 ((.ptr 1 0) :: q20 ((dP e67 a0.fCells) :: (dI ((a0.fCells.length : Int))) :: (dI v76) :: q36 [])), [(.cells [(.v (.str a0.fName)), (dP e67 a0.fCells)]), (.cells [(dI 0), (dI 0)])]⟩ (by kernel_rfl) ?_
              exact hxx82 v76  hsx85
        refine Wp.loop [2, 23, 24, 25] 2 (by kernel_rfl) (subc [1, 1, 1, 0, 1, 0, 0] C15) (by kernel_rfl) (by kernel_rfl) ⟨q2 ((.ptr 1 0) :: q20 ((dP e67 a0.fCells) :: (dI ((a0.fCells.length : Int))) :: (dI 0) :: q36 [])), [(.cells [(.v (.str a0.fName)), (dP e67 a0.fCells)]), (.cells [(dI 0), (dI 0)])]⟩ (by kernel_rfl) ?_
        rcases brk_some h with ⟨r119, er119, h⟩ | ⟨y118, ey118, h⟩
        · refine hLx117 _ 0  _ er119 n (by omega) (fun r er σ hσ => ?_) (fun y  ey => by cases ey)
          cases er
          refine seqQ.r ?_
          exact fnQ.r' (X15 n) (fun z => (e27 z)) h hσ
        · refine hLx117 _ 0  _ ey118 n (by omega) (fun r er => by cases er) (fun y  ey => ?_)
          cases ey
          refine seqQ.n ?_
          refine Wp.seq (subc [1, 1, 1, 1, 0] C15) (subc [1, 1, 1, 1, 1] C15) (by kernel_rfl) ?_
          refine Wp.region (by kernel_rfl) ?_
          refine Ops.seg 2 2 (by kernel_rfl) ⟨q2 ((.ptr 1 0) :: q20 ((dP e67 a0.fCells) :: (dI ((a0.fCells.length : Int))) :: (dI y118) :: q35 ((.v (.agg [(vI 0), (vI 0)])) :: []))), [(.cells [(.v (.str a0.fName)), (dP e67 a0.fCells)]), (.cells [(dI 0), (dI 0)])]⟩ (by kernel_rfl) ?_
          refine Ops.done (by kernel_rfl) ?_
          refine seqQ.n ?_
          refine Wp.ret (by kernel_rfl) ?_
          exact fnQ.r' (X15 n) (fun z => (e27 z)) h (RetOk.mk' (.v (.agg [(vI 0), (vI 0)])) (by kernel_rfl) (by kernel_rfl))
    have G15g4 : ∀ v3 : Bool, f15_r4 m a0 ((v3 || (decide ((a0.fCells.length : Int) > 40)))) = some o → Ops (X15 n) (opl (subc [1, 1, 0, 0] C15)) 5 ⟨(.v (.agg [(.str a0.fName), (vP e67 a0.fCells)])) :: (.ptr 0 0) :: (.ptr 1 0) :: u3 ((.ptr 0 0) :: (.v (.str a0.fName)) :: (dB v1) :: (dB (!v1)) :: u1 ((.ptr 0 1) :: (dP e67 a0.fCells) :: (dI ((a0.fCells.length : Int))) :: (dB v3) :: (dB v3) :: u40 (u6 []))), [(.cells [(.v (.str a0.fName)), (dP e67 a0.fCells)]), (.cells [(dI 0), (dI 0)])]⟩ ((seqQ (X15 n) (subc [1, 1, 0, 1] C15) (seqQ (X15 n) (subc [1, 1, 1] C15) (fnQ (X15 n).E.T (resOf Proofs.Tryd.prog 15) (e27 o)))) .normal) := by
      intro v3 h
      cases v3
      · refine Ops.seg 2 7 (by kernel_rfl) ⟨(.v (.agg [(.str a0.fName), (vP e67 a0.fCells)])) :: (.ptr 0 0) :: (.ptr 1 0) :: u3 ((.ptr 0 0) :: (.v (.str a0.fName)) :: (dB v1) :: (dB (!v1)) :: u1 ((.ptr 0 1) :: (dP e67 a0.fCells) :: (dI ((a0.fCells.length : Int))) :: (dB false) :: (dB false) :: (.ptr 0 1) :: (dP e67 a0.fCells) :: u40 (u4 []))), [(.cells [(.v (.str a0.fName)), (dP e67 a0.fCells)]), (.cells [(dI 0), (dI 0)])]⟩ (by kernel_rfl) ?_
        refine Ops.one 8 (by kernel_rfl) ((lenD (X15 n).E.T 22 (D.unt (dP e67 a0.fCells))).map (·, [(.cells [(.v (.str a0.fName)), (dP e67 a0.fCells)]), (.cells [(dI 0), (dI 0)])])) (dI ((a0.fCells.length : Int))) [(.cells [(.v (.str a0.fName)), (dP e67 a0.fCells)]), (.cells [(dI 0), (dI 0)])] ⟨(.v (.agg [(.str a0.fName), (vP e67 a0.fCells)])) :: (.ptr 0 0) :: (.ptr 1 0) :: u3 ((.ptr 0 0) :: (.v (.str a0.fName)) :: (dB v1) :: (dB (!v1)) :: u1 ((.ptr 0 1) :: (dP e67 a0.fCells) :: (dI ((a0.fCells.length : Int))) :: (dB false) :: (dB false) :: (.ptr 0 1) :: (dP e67 a0.fCells) :: (dI ((a0.fCells.length : Int))) :: u40 (u3 []))), [(.cells [(.v (.str a0.fName)), (dP e67 a0.fCells)]), (.cells [(dI 0), (dI 0)])]⟩ (by kernel_rfl) (len_r _ 22 68 .plain e67 a0.fCells (by kernel_rfl)) (by kernel_rfl) ?_
        refine Ops.seg 2 10 (by kernel_rfl) ⟨(.v (.agg [(.str a0.fName), (vP e67 a0.fCells)])) :: (.ptr 0 0) :: (.ptr 1 0) :: u3 ((.ptr 0 0) :: (.v (.str a0.fName)) :: (dB v1) :: (dB (!v1)) :: u1 ((.ptr 0 1) :: (dP e67 a0.fCells) :: (dI ((a0.fCells.length : Int))) :: (dB false) :: (dB false) :: (.ptr 0 1) :: (dP e67 a0.fCells) :: (dI ((a0.fCells.length : Int))) :: (dB (decide ((a0.fCells.length : Int) > 40))) :: (dB (decide ((a0.fCells.length : Int) > 40))) :: u40 (u1 []))), [(.cells [(.v (.str a0.fName)), (dP e67 a0.fCells)]), (.cells [(dI 0), (dI 0)])]⟩ (by kernel_rfl) ?_
        exact J15j11 _ _ _ _ _ _ h
      · refine Ops.seg 5 10 (by kernel_rfl) ⟨(.v (.agg [(.str a0.fName), (vP e67 a0.fCells)])) :: (.ptr 0 0) :: (.ptr 1 0) :: u3 ((.ptr 0 0) :: (.v (.str a0.fName)) :: (dB v1) :: (dB (!v1)) :: u1 ((.ptr 0 1) :: (dP e67 a0.fCells) :: (dI ((a0.fCells.length : Int))) :: (dB true) :: (dB true) :: u4 ((dB true) :: u40 (u1 [])))), [(.cells [(.v (.str a0.fName)), (dP e67 a0.fCells)]), (.cells [(dI 0), (dI 0)])]⟩ (by kernel_rfl) ?_
        exact J15j11 _ _ _ _ _ _ h
    exact G15g4 (decide ((a0.fCells.length : Int) < 1)) h

/-! ### 117 internal/stringslite.HasSuffix -/
def f117_r1 (m : Nat) (v13 : Bool) : Option Bool :=
  some v13
def f117 (m : Nat) (a0 : ByteArray) (a1 : ByteArray) : Option Bool :=
  bnd (cnd (decide ((a0.size : Int) ≥ (a1.size : Int)))
  (bnd (ssub a0 (w64 ((a0.size : Int) - (a1.size : Int))) (a0.size : Int)) fun v15 =>
  some ((v15.toList == a1.toList)))
  (some false)) fun v13 =>
  f117_r1 m v13
noncomputable abbrev X117 (n : Nat) : Cx := cxOf Proofs.Tryd.prog E 117 n
noncomputable def C117 : Code := bodyOf Proofs.Tryd.prog 117
theorem ok117 (m : Nat) (a0 : ByteArray) (a1 : ByteArray) (o : Bool) (h : f117 m a0 a1 = some o) (n : Nat) (hn : m + 1 ≤ n) : Fn Proofs.Tryd.prog E n 117 [eS a0, eS a1] (eB o) := by
  obtain ⟨n, rfl⟩ : ∃ q, n = q + 1 := ⟨n - 1, by omega⟩
  unfold f117 at h
  refine Fn.of (by kernel_rfl) (by kernel_rfl) ⟨(.v (.str a0)) :: (.v (.str a1)) :: u19 [], []⟩ (by kernel_rfl) ?_
  refine Wp.seq (subc [0] C117) (subc [1] C117) (by kernel_rfl) ?_
  refine Wp.region (by kernel_rfl) ?_
  refine Ops.seg 1 1 (by kernel_rfl) ⟨(.v (.str a0)) :: (.v (.str a1)) :: u2 ((dB false) :: u16 []), []⟩ (by kernel_rfl) ?_
  refine Ops.done (by kernel_rfl) ?_
  refine seqQ.n ?_
  refine Wp.seq (subc [1, 0] C117) (subc [1, 1] C117) (by kernel_rfl) ?_
  refine Wp.region (by kernel_rfl) ?_
  refine Ops.seg 6 6 (by kernel_rfl) ⟨(.v (.str a0)) :: (.v (.str a1)) :: u2 ((dB false) :: (.v (.str a0)) :: (dI ((a0.size : Int))) :: (.v (.str a1)) :: (dI ((a1.size : Int))) :: (dB (decide ((a0.size : Int) ≥ (a1.size : Int)))) :: (dB (decide ((a0.size : Int) ≥ (a1.size : Int)))) :: u10 []), []⟩ (by kernel_rfl) ?_
  have J117j14 : ∀ (d3 d4 d5 d6 d7 d8 d9 d10 d11 : D) (v12 : Bool) (v13 : Bool), f117_r1 m v13 = some o → Ops (X117 n) (opl (subc [1, 0] C117)) 16 ⟨(.v (.str a0)) :: (.v (.str a1)) :: u2 ((dB false) :: (.v (.str a0)) :: (dI ((a0.size : Int))) :: (.v (.str a1)) :: (dI ((a1.size : Int))) :: (dB v12) :: (dB v12) :: d3 :: d4 :: d5 :: d6 :: d7 :: d8 :: d9 :: d10 :: d11 :: (dB v13) :: []), []⟩ ((seqQ (X117 n) (subc [1, 1] C117) (fnQ (X117 n).E.T (resOf Proofs.Tryd.prog 117) (eB o))) .normal) := by
    intro d3 d4 d5 d6 d7 d8 d9 d10 d11 v12 v13 h
    unfold f117_r1 at h
    refine Ops.seg 1 17 (by kernel_rfl) ⟨(.v (.str a0)) :: (.v (.str a1)) :: u2 ((dB v13) :: (.v (.str a0)) :: (dI ((a0.size : Int))) :: (.v (.str a1)) :: (dI ((a1.size : Int))) :: (dB v12) :: (dB v12) :: d3 :: d4 :: d5 :: d6 :: d7 :: d8 :: d9 :: d10 :: d11 :: (dB v13) :: []), []⟩ (by kernel_rfl) ?_
    refine Ops.done (by kernel_rfl) ?_
    refine seqQ.n ?_
    refine Wp.ret (by kernel_rfl) ?_
    exact fnQ.r' (X117 n) (fun z => (eB z)) h (RetOk.mk' (dB v13) (by kernel_rfl) (by kernel_rfl))
  obtain ⟨v13, ev13, h⟩ := bnd_some h
  have G117g2 : ∀ v1 : Bool, (cnd v1 (bnd (ssub a0 (w64 ((a0.size : Int) - (a1.size : Int))) (a0.size : Int)) fun v15 => some ((v15.toList == a1.toList))) (some false)) = some v13 → Ops (X117 n) (opl (subc [1, 0] C117)) 6 ⟨(.v (.str a0)) :: (.v (.str a1)) :: u2 ((dB false) :: (.v (.str a0)) :: (dI ((a0.size : Int))) :: (.v (.str a1)) :: (dI ((a1.size : Int))) :: (dB v1) :: (dB v1) :: u10 []), []⟩ ((seqQ (X117 n) (subc [1, 1] C117) (fnQ (X117 n).E.T (resOf Proofs.Tryd.prog 117) (eB o))) .normal) := by
    intro v1 ev13
    cases v1
    · have ev13 := cnd_f ev13
      refine Ops.seg 10 16 (by kernel_rfl) ⟨(.v (.str a0)) :: (.v (.str a1)) :: u2 ((dB false) :: (.v (.str a0)) :: (dI ((a0.size : Int))) :: (.v (.str a1)) :: (dI ((a1.size : Int))) :: (dB false) :: (dB false) :: u9 ((dB false) :: [])), []⟩ (by kernel_rfl) ?_
      exact J117j14 _ _ _ _ _ _ _ _ _ _ _ (some_sub (fun v13 => f117_r1 m v13 = some o) ev13 h)
    · have ev13 := cnd_t ev13
      refine Ops.seg 6 12 (by kernel_rfl) ⟨(.v (.str a0)) :: (.v (.str a1)) :: u2 ((dB false) :: (.v (.str a0)) :: (dI ((a0.size : Int))) :: (.v (.str a1)) :: (dI ((a1.size : Int))) :: (dB true) :: (dB true) :: (.v (.str a0)) :: (.v (.str a0)) :: (dI ((a0.size : Int))) :: (.v (.str a1)) :: (dI ((a1.size : Int))) :: (dI (w64 ((a0.size : Int) - (a1.size : Int)))) :: u4 []), []⟩ (by kernel_rfl) ?_
      obtain ⟨v15, ev15, ev13⟩ := bnd_some ev13
      refine Ops.one 13 (by kernel_rfl) ((sliceD (X117 n).E.T [] 9 (D.unt (.v (.str a0))) (some ((dI (w64 ((a0.size : Int) - (a1.size : Int)))))) none none).map (·, [])) (.v (.str v15)) [] ⟨(.v (.str a0)) :: (.v (.str a1)) :: u2 ((dB false) :: (.v (.str a0)) :: (dI ((a0.size : Int))) :: (.v (.str a1)) :: (dI ((a1.size : Int))) :: (dB true) :: (dB true) :: (.v (.str a0)) :: (.v (.str a0)) :: (dI ((a0.size : Int))) :: (.v (.str a1)) :: (dI ((a1.size : Int))) :: (dI (w64 ((a0.size : Int) - (a1.size : Int)))) :: (.v (.str v15)) :: u3 []), []⟩ (by kernel_rfl) (str_sub _ 9 a0 v15 (some (w64 ((a0.size : Int) - (a1.size : Int)))) none ev15 (by kernel_rfl)) (by kernel_rfl) ?_
      refine Ops.seg 3 16 (by kernel_rfl) ⟨(.v (.str a0)) :: (.v (.str a1)) :: u2 ((dB false) :: (.v (.str a0)) :: (dI ((a0.size : Int))) :: (.v (.str a1)) :: (dI ((a1.size : Int))) :: (dB true) :: (dB true) :: (.v (.str a0)) :: (.v (.str a0)) :: (dI ((a0.size : Int))) :: (.v (.str a1)) :: (dI ((a1.size : Int))) :: (dI (w64 ((a0.size : Int) - (a1.size : Int)))) :: (.v (.str v15)) :: (.v (.str a1)) :: (dB ((v15.toList == a1.toList))) :: (dB ((v15.toList == a1.toList))) :: []), []⟩ (by kernel_rfl) ?_
      exact J117j14 _ _ _ _ _ _ _ _ _ _ _ (some_sub (fun v13 => f117_r1 m v13 = some o) ev13 h)
  exact G117g2 (decide ((a0.size : Int) ≥ (a1.size : Int))) ev13

/-! ### 102 internal/stringslite.CutSuffix -/
def f102 (m : Nat) (a0 : ByteArray) (a1 : ByteArray) : Option (ByteArray × Bool) :=
  bnd (f117 m a0 a1) fun v1 =>
  cnd (!v1)
  (some ((a0, false)))
  (bnd (ssub a0 0 (w64 ((a0.size : Int) - (a1.size : Int)))) fun v2 =>
  some ((v2, true)))
noncomputable abbrev X102 (n : Nat) : Cx := cxOf Proofs.Tryd.prog E 102 n
noncomputable def C102 : Code := bodyOf Proofs.Tryd.prog 102
theorem ok102 (m : Nat) (a0 : ByteArray) (a1 : ByteArray) (o : (ByteArray × Bool)) (h : f102 m a0 a1 = some o) (n : Nat) (hn : m + 2 ≤ n) : Fn Proofs.Tryd.prog E n 102 [eS a0, eS a1] (.tuple [eS o.1, eB o.2]) := by
  obtain ⟨n, rfl⟩ : ∃ q, n = q + 1 := ⟨n - 1, by omega⟩
  unfold f102 at h
  refine Fn.of (by kernel_rfl) (by kernel_rfl) ⟨(.v (.str a0)) :: (.v (.str a1)) :: u16 [], []⟩ (by kernel_rfl) ?_
  refine Wp.seq (subc [0] C102) (subc [1] C102) (by kernel_rfl) ?_
  refine Wp.region (by kernel_rfl) ?_
  refine Ops.seg 2 2 (by kernel_rfl) ⟨(.v (.str a0)) :: (.v (.str a1)) :: u2 ((.v (.str ((⟨#[]⟩ : ByteArray)))) :: (dB false) :: u12 []), []⟩ (by kernel_rfl) ?_
  refine Ops.done (by kernel_rfl) ?_
  refine seqQ.n ?_
  refine Wp.seq (subc [1, 0] C102) (subc [1, 1] C102) (by kernel_rfl) ?_
  refine Wp.seq (subc [1, 0, 0] C102) (subc [1, 0, 1] C102) (by kernel_rfl) ?_
  refine Wp.region (by kernel_rfl) ?_
  refine Ops.seg 2 2 (by kernel_rfl) ⟨(.v (.str a0)) :: (.v (.str a1)) :: u2 ((.v (.str ((⟨#[]⟩ : ByteArray)))) :: (dB false) :: (.v (.str a0)) :: (.v (.str a1)) :: u10 []), []⟩ (by kernel_rfl) ?_
  obtain ⟨v1, ev1, h⟩ := bnd_some h
  refine Ops.one 3 (by kernel_rfl) (callD (X102 n).E (run Proofs.Tryd.prog E n) 117 [(.v (.str a0)), (.v (.str a1))] []) (dB v1) [] ⟨(.v (.str a0)) :: (.v (.str a1)) :: u2 ((.v (.str ((⟨#[]⟩ : ByteArray)))) :: (dB false) :: (.v (.str a0)) :: (.v (.str a1)) :: (dB v1) :: u9 []), []⟩ (by kernel_rfl) (call_ok (by kernel_rfl) (Args.v (.str a0) (eS a0) (by kernel_rfl) (Args.v (.str a1) (eS a1) (by kernel_rfl) Args.nil)) (ok117 m a0 a1 v1 ev1 n (by omega))) (by kernel_rfl) ?_
  refine Ops.seg 1 4 (by kernel_rfl) ⟨(.v (.str a0)) :: (.v (.str a1)) :: u2 ((.v (.str ((⟨#[]⟩ : ByteArray)))) :: (dB false) :: (.v (.str a0)) :: (.v (.str a1)) :: (dB v1) :: (dB (!v1)) :: u8 []), []⟩ (by kernel_rfl) ?_
  refine Ops.done (by kernel_rfl) ?_
  refine seqQ.n ?_
  rcases cnd_some h with ⟨hb, h⟩ | ⟨hb, h⟩
  · refine Wp.cond (!v1) [0, 1, 4, 5] (by kernel_rfl) 0 (by kernel_rfl) (subc [1, 0, 1, 0] C102) (subc [1, 0, 1, 1] C102) (by kernel_rfl) (by kernel_rfl) (fun _ => ?_) (fun e => nomatch (hb.symm.trans e))
    refine Wp.seq (subc [1, 0, 1, 0, 0] C102) (subc [1, 0, 1, 0, 1] C102) (by kernel_rfl) ?_
    refine Wp.region (by kernel_rfl) ?_
    refine Ops.seg 3 3 (by kernel_rfl) ⟨(.v (.str a0)) :: (.v (.str a1)) :: u2 ((.v (.str a0)) :: (dB false) :: (.v (.str a0)) :: (.v (.str a1)) :: (dB v1) :: (dB (!v1)) :: (.v (.str a0)) :: u7 []), []⟩ (by kernel_rfl) ?_
    refine Ops.done (by kernel_rfl) ?_
    refine seqQ.n ?_
    refine Wp.ret (by kernel_rfl) ?_
    refine sqQ.r ?_
    refine seqQ.r ?_
    exact fnQ.r' (X102 n) (fun z => (.tuple [eS z.1, eB z.2])) h (RetOk.mk' (.v (.tuple [(.str a0), (vB false)])) (by kernel_rfl) (by kernel_rfl))
  · refine Wp.cond (!v1) [0, 1, 4, 5] (by kernel_rfl) 0 (by kernel_rfl) (subc [1, 0, 1, 0] C102) (subc [1, 0, 1, 1] C102) (by kernel_rfl) (by kernel_rfl) (fun e => nomatch (hb.symm.trans e)) (fun _ => ?_)
    refine Wp.skip (by kernel_rfl) ?_
    refine sqQ.n ⟨(.v (.str a0)) :: (.v (.str a1)) :: u2 ((.v (.str ((⟨#[]⟩ : ByteArray)))) :: (dB false) :: (.v (.str a0)) :: (.v (.str a1)) :: (dB v1) :: (dB (!v1)) :: u8 []), []⟩ (by kernel_rfl) ?_
    refine seqQ.n ?_
    refine Wp.seq (subc [1, 1, 0] C102) (subc [1, 1, 1] C102) (by kernel_rfl) ?_
    refine Wp.region (by kernel_rfl) ?_
    refine Ops.seg 6 6 (by kernel_rfl) ⟨(.v (.str a0)) :: (.v (.str a1)) :: u2 ((.v (.str ((⟨#[]⟩ : ByteArray)))) :: (dB false) :: (.v (.str a0)) :: (.v (.str a1)) :: (dB v1) :: (dB (!v1)) :: u1 ((.v (.str a0)) :: (.v (.str a0)) :: (dI ((a0.size : Int))) :: (.v (.str a1)) :: (dI ((a1.size : Int))) :: (dI (w64 ((a0.size : Int) - (a1.size : Int)))) :: u1 [])), []⟩ (by kernel_rfl) ?_
    obtain ⟨v2, ev2, h⟩ := bnd_some h
    refine Ops.one 7 (by kernel_rfl) ((sliceD (X102 n).E.T [] 9 (D.unt (.v (.str a0))) none (some ((dI (w64 ((a0.size : Int) - (a1.size : Int)))))) none).map (·, [])) (.v (.str v2)) [] ⟨(.v (.str a0)) :: (.v (.str a1)) :: u2 ((.v (.str ((⟨#[]⟩ : ByteArray)))) :: (dB false) :: (.v (.str a0)) :: (.v (.str a1)) :: (dB v1) :: (dB (!v1)) :: u1 ((.v (.str a0)) :: (.v (.str a0)) :: (dI ((a0.size : Int))) :: (.v (.str a1)) :: (dI ((a1.size : Int))) :: (dI (w64 ((a0.size : Int) - (a1.size : Int)))) :: (.v (.str v2)) :: [])), []⟩ (by kernel_rfl) (str_sub _ 9 a0 v2 none (some (w64 ((a0.size : Int) - (a1.size : Int)))) ev2 (by kernel_rfl)) (by kernel_rfl) ?_
    refine Ops.seg 2 9 (by kernel_rfl) ⟨(.v (.str a0)) :: (.v (.str a1)) :: u2 ((.v (.str v2)) :: (dB true) :: (.v (.str a0)) :: (.v (.str a1)) :: (dB v1) :: (dB (!v1)) :: u1 ((.v (.str a0)) :: (.v (.str a0)) :: (dI ((a0.size : Int))) :: (.v (.str a1)) :: (dI ((a1.size : Int))) :: (dI (w64 ((a0.size : Int) - (a1.size : Int)))) :: (.v (.str v2)) :: [])), []⟩ (by kernel_rfl) ?_
    refine Ops.done (by kernel_rfl) ?_
    refine seqQ.n ?_
    refine Wp.ret (by kernel_rfl) ?_
    exact fnQ.r' (X102 n) (fun z => (.tuple [eS z.1, eB z.2])) h (RetOk.mk' (.v (.tuple [(.str v2), (vB true)])) (by kernel_rfl) (by kernel_rfl))

/-! ### 83 strings.CutSuffix -/
def f83 (m : Nat) (a0 : ByteArray) (a1 : ByteArray) : Option (ByteArray × Bool) :=
  bnd (f102 m a0 a1) fun v1 =>
  some ((v1.1, v1.2))
noncomputable abbrev X83 (n : Nat) : Cx := cxOf Proofs.Tryd.prog E 83 n
noncomputable def C83 : Code := bodyOf Proofs.Tryd.prog 83
theorem ok83 (m : Nat) (a0 : ByteArray) (a1 : ByteArray) (o : (ByteArray × Bool)) (h : f83 m a0 a1 = some o) (n : Nat) (hn : m + 3 ≤ n) : Fn Proofs.Tryd.prog E n 83 [eS a0, eS a1] (.tuple [eS o.1, eB o.2]) := by
  obtain ⟨n, rfl⟩ : ∃ q, n = q + 1 := ⟨n - 1, by omega⟩
  unfold f83 at h
  refine Fn.of (by kernel_rfl) (by kernel_rfl) ⟨(.v (.str a0)) :: (.v (.str a1)) :: u9 [], []⟩ (by kernel_rfl) ?_
  refine Wp.seq (subc [0] C83) (subc [1] C83) (by kernel_rfl) ?_
  refine Wp.region (by kernel_rfl) ?_
  refine Ops.seg 2 2 (by kernel_rfl) ⟨(.v (.str a0)) :: (.v (.str a1)) :: u2 ((.v (.str ((⟨#[]⟩ : ByteArray)))) :: (dB false) :: u5 []), []⟩ (by kernel_rfl) ?_
  refine Ops.done (by kernel_rfl) ?_
  refine seqQ.n ?_
  refine Wp.seq (subc [1, 0] C83) (subc [1, 1] C83) (by kernel_rfl) ?_
  refine Wp.region (by kernel_rfl) ?_
  refine Ops.seg 2 2 (by kernel_rfl) ⟨(.v (.str a0)) :: (.v (.str a1)) :: u2 ((.v (.str ((⟨#[]⟩ : ByteArray)))) :: (dB false) :: (.v (.str a0)) :: (.v (.str a1)) :: u3 []), []⟩ (by kernel_rfl) ?_
  obtain ⟨v1, ev1, h⟩ := bnd_some h
  refine Ops.one 3 (by kernel_rfl) (callD (X83 n).E (run Proofs.Tryd.prog E n) 102 [(.v (.str a0)), (.v (.str a1))] []) (.v (.tuple [(.str v1.1), (vB v1.2)])) [] ⟨(.v (.str a0)) :: (.v (.str a1)) :: u2 ((.v (.str ((⟨#[]⟩ : ByteArray)))) :: (dB false) :: (.v (.str a0)) :: (.v (.str a1)) :: (.v (.tuple [(.str v1.1), (vB v1.2)])) :: u2 []), []⟩ (by kernel_rfl) (call_ok (by kernel_rfl) (Args.v (.str a0) (eS a0) (by kernel_rfl) (Args.v (.str a1) (eS a1) (by kernel_rfl) Args.nil)) (ok102 m a0 a1 v1 ev1 n (by omega))) (by kernel_rfl) ?_
  refine Ops.seg 4 7 (by kernel_rfl) ⟨(.v (.str a0)) :: (.v (.str a1)) :: u2 ((.v (.str v1.1)) :: (dB v1.2) :: (.v (.str a0)) :: (.v (.str a1)) :: (.v (.tuple [(.str v1.1), (vB v1.2)])) :: (.v (.str v1.1)) :: (dB v1.2) :: []), []⟩ (by kernel_rfl) ?_
  refine Ops.done (by kernel_rfl) ?_
  refine seqQ.n ?_
  refine Wp.ret (by kernel_rfl) ?_
  exact fnQ.r' (X83 n) (fun z => (.tuple [eS z.1, eB z.2])) h (RetOk.mk' (.v (.tuple [(.str v1.1), (vB v1.2)])) (by kernel_rfl) (by kernel_rfl))

/-! ### 84 unicode/utf8.RuneCountInString -/
def f84 (m : Nat) (a0 : ByteArray) : Option Int := if a0.size < 9223372036854775807 then some (Lib.runeCount a0 : Int) else none
theorem ok84 (m : Nat) (a0 : ByteArray) (o : Int) (h : f84 m a0 = some o) (n : Nat) (hn : m + 1 ≤ n) : Fn Proofs.Tryd.prog E n 84 [eS a0] (eI o) := by
  obtain ⟨n, rfl⟩ : ∃ q, n = q + 1 := ⟨n - 1, by omega⟩
  refine ora_fn (by kernel_rfl) (by kernel_rfl) (F := runesF) ?_ rfl
  unfold f84 at h
  unfold runesF
  split at h
  · rename_i hs
    cases h
    show (if a0.size < 9223372036854775807 then some (V.int .i64 (Lib.runeCount a0)) else none) = _
    rw [if_pos hs]
    rfl
  · cases h

/-! ### 62 glosswright/paradigm.change -/
def f62_r1 (m : Nat) (v2 : ByteArray) (v16 : Bool) : Option (ByteArray × Bool) :=
  some ((v2, v16))
def f62_r2 (m : Nat) (v2 : ByteArray) (v8 : Bool) : Option (ByteArray × Bool) :=
  bnd (cnd v8
  (bnd (f84 m v2) fun v18 =>
  some (decide (v18 ≤ 30)))
  (some false)) fun v16 =>
  f62_r1 m v2 v16
def f62 (m : Nat) (a0 : ByteArray) (a1 : ByteArray) (a2 : ByteArray) : Option (ByteArray × Bool) :=
  bnd (f83 m a0 a1) fun v1 =>
  bnd (scat v1.1 a2) fun v2 =>
  f62_r2 m v2 ((v1.2 && (!(v2.toList == ((⟨#[]⟩ : ByteArray)).toList))))
noncomputable abbrev X62 (n : Nat) : Cx := cxOf Proofs.Tryd.prog E 62 n
noncomputable def C62 : Code := bodyOf Proofs.Tryd.prog 62
theorem ok62 (m : Nat) (a0 : ByteArray) (a1 : ByteArray) (a2 : ByteArray) (o : (ByteArray × Bool)) (h : f62 m a0 a1 a2 = some o) (n : Nat) (hn : m + 4 ≤ n) : Fn Proofs.Tryd.prog E n 62 [eS a0, eS a1, eS a2] (.tuple [eS o.1, eB o.2]) := by
  obtain ⟨n, rfl⟩ : ∃ q, n = q + 1 := ⟨n - 1, by omega⟩
  unfold f62 at h
  refine Fn.of (by kernel_rfl) (by kernel_rfl) ⟨(.v (.str a0)) :: (.v (.str a1)) :: (.v (.str a2)) :: u28 [], []⟩ (by kernel_rfl) ?_
  refine Wp.seq (subc [0] C62) (subc [1] C62) (by kernel_rfl) ?_
  refine Wp.region (by kernel_rfl) ?_
  refine Ops.seg 2 2 (by kernel_rfl) ⟨(.v (.str a0)) :: (.v (.str a1)) :: (.v (.str a2)) :: u3 ((.v (.str ((⟨#[]⟩ : ByteArray)))) :: (dB false) :: u23 []), []⟩ (by kernel_rfl) ?_
  refine Ops.done (by kernel_rfl) ?_
  refine seqQ.n ?_
  refine Wp.seq (subc [1, 0] C62) (subc [1, 1] C62) (by kernel_rfl) ?_
  refine Wp.region (by kernel_rfl) ?_
  refine Ops.seg 2 2 (by kernel_rfl) ⟨(.v (.str a0)) :: (.v (.str a1)) :: (.v (.str a2)) :: u3 ((.v (.str ((⟨#[]⟩ : ByteArray)))) :: (dB false) :: u4 ((.v (.str a0)) :: (.v (.str a1)) :: u17 [])), []⟩ (by kernel_rfl) ?_
  obtain ⟨v1, ev1, h⟩ := bnd_some h
  refine Ops.one 3 (by kernel_rfl) (callD (X62 n).E (run Proofs.Tryd.prog E n) 83 [(.v (.str a0)), (.v (.str a1))] []) (.v (.tuple [(.str v1.1), (vB v1.2)])) [] ⟨(.v (.str a0)) :: (.v (.str a1)) :: (.v (.str a2)) :: u3 ((.v (.str ((⟨#[]⟩ : ByteArray)))) :: (dB false) :: u4 ((.v (.str a0)) :: (.v (.str a1)) :: (.v (.tuple [(.str v1.1), (vB v1.2)])) :: u16 [])), []⟩ (by kernel_rfl) (call_ok (by kernel_rfl) (Args.v (.str a0) (eS a0) (by kernel_rfl) (Args.v (.str a1) (eS a1) (by kernel_rfl) Args.nil)) (ok83 m a0 a1 v1 ev1 n (by omega))) (by kernel_rfl) ?_
  refine Ops.seg 5 8 (by kernel_rfl) ⟨(.v (.str a0)) :: (.v (.str a1)) :: (.v (.str a2)) :: u3 ((.v (.str ((⟨#[]⟩ : ByteArray)))) :: (dB false) :: (.v (.str v1.1)) :: (dB v1.2) :: u1 ((.v (.tuple [(.str v1.1), (vB v1.2)])) :: (.v (.str a0)) :: (.v (.str a1)) :: (.v (.tuple [(.str v1.1), (vB v1.2)])) :: (.v (.str v1.1)) :: (dB v1.2) :: u14 [])), []⟩ (by kernel_rfl) ?_
  refine Ops.done (by kernel_rfl) ?_
  refine seqQ.n ?_
  refine Wp.seq (subc [1, 1, 0] C62) (subc [1, 1, 1] C62) (by kernel_rfl) ?_
  refine Wp.region (by kernel_rfl) ?_
  refine Ops.seg 2 2 (by kernel_rfl) ⟨(.v (.str a0)) :: (.v (.str a1)) :: (.v (.str a2)) :: u3 ((.v (.str ((⟨#[]⟩ : ByteArray)))) :: (dB false) :: (.v (.str v1.1)) :: (dB v1.2) :: u1 ((.v (.tuple [(.str v1.1), (vB v1.2)])) :: (.v (.str a0)) :: (.v (.str a1)) :: (.v (.tuple [(.str v1.1), (vB v1.2)])) :: (.v (.str v1.1)) :: (dB v1.2) :: (.v (.str v1.1)) :: (.v (.str a2)) :: u12 [])), []⟩ (by kernel_rfl) ?_
  obtain ⟨v2, ev2, h⟩ := bnd_some h
  refine Ops.one 3 (by kernel_rfl) ((binD (X62 n).E.T .add 9 (D.unt (.v (.str v1.1))) (D.unt (.v (.str a2)))).map (·, [])) (.v (.str v2)) [] ⟨(.v (.str a0)) :: (.v (.str a1)) :: (.v (.str a2)) :: u3 ((.v (.str ((⟨#[]⟩ : ByteArray)))) :: (dB false) :: (.v (.str v1.1)) :: (dB v1.2) :: u1 ((.v (.tuple [(.str v1.1), (vB v1.2)])) :: (.v (.str a0)) :: (.v (.str a1)) :: (.v (.tuple [(.str v1.1), (vB v1.2)])) :: (.v (.str v1.1)) :: (dB v1.2) :: (.v (.str v1.1)) :: (.v (.str a2)) :: (.v (.str v2)) :: u11 [])), []⟩ (by kernel_rfl) (str_cat _ 9 v1.1 a2 v2 ev2) (by kernel_rfl) ?_
  refine Ops.seg 1 4 (by kernel_rfl) ⟨(.v (.str a0)) :: (.v (.str a1)) :: (.v (.str a2)) :: u3 ((.v (.str ((⟨#[]⟩ : ByteArray)))) :: (dB false) :: (.v (.str v1.1)) :: (dB v1.2) :: (.v (.str v2)) :: (.v (.tuple [(.str v1.1), (vB v1.2)])) :: (.v (.str a0)) :: (.v (.str a1)) :: (.v (.tuple [(.str v1.1), (vB v1.2)])) :: (.v (.str v1.1)) :: (dB v1.2) :: (.v (.str v1.1)) :: (.v (.str a2)) :: (.v (.str v2)) :: u11 []), []⟩ (by kernel_rfl) ?_
  refine Ops.done (by kernel_rfl) ?_
  refine seqQ.n ?_
  refine Wp.seq (subc [1, 1, 1, 0] C62) (subc [1, 1, 1, 1] C62) (by kernel_rfl) ?_
  refine Wp.region (by kernel_rfl) ?_
  refine Ops.seg 3 3 (by kernel_rfl) ⟨(.v (.str a0)) :: (.v (.str a1)) :: (.v (.str a2)) :: u3 ((.v (.str ((⟨#[]⟩ : ByteArray)))) :: (dB false) :: (.v (.str v1.1)) :: (dB v1.2) :: (.v (.str v2)) :: (.v (.tuple [(.str v1.1), (vB v1.2)])) :: (.v (.str a0)) :: (.v (.str a1)) :: (.v (.tuple [(.str v1.1), (vB v1.2)])) :: (.v (.str v1.1)) :: (dB v1.2) :: (.v (.str v1.1)) :: (.v (.str a2)) :: (.v (.str v2)) :: (.v (.str v2)) :: (dB v1.2) :: (dB v1.2) :: u8 []), []⟩ (by kernel_rfl) ?_
  have J62j9 : ∀ (d5 d6 : D) (v7 : Bool) (v8 : Bool), f62_r2 m v2 v8 = some o → Ops (X62 n) (opl (subc [1, 1, 1, 0] C62)) 6 ⟨(.v (.str a0)) :: (.v (.str a1)) :: (.v (.str a2)) :: u3 ((.v (.str ((⟨#[]⟩ : ByteArray)))) :: (dB false) :: (.v (.str v1.1)) :: (dB v7) :: (.v (.str v2)) :: (.v (.tuple [(.str v1.1), (vB v1.2)])) :: (.v (.str a0)) :: (.v (.str a1)) :: (.v (.tuple [(.str v1.1), (vB v1.2)])) :: (.v (.str v1.1)) :: (dB v7) :: (.v (.str v1.1)) :: (.v (.str a2)) :: (.v (.str v2)) :: (.v (.str v2)) :: (dB v7) :: (dB v7) :: d5 :: d6 :: (dB v8) :: u5 []), []⟩ ((seqQ (X62 n) (subc [1, 1, 1, 1] C62) (fnQ (X62 n).E.T (resOf Proofs.Tryd.prog 62) (.tuple [eS o.1, eB o.2]))) .normal) := by
    intro d5 d6 v7 v8 h
    unfold f62_r2 at h
    refine Ops.seg 1 7 (by kernel_rfl) ⟨(.v (.str a0)) :: (.v (.str a1)) :: (.v (.str a2)) :: u3 ((.v (.str ((⟨#[]⟩ : ByteArray)))) :: (dB false) :: (.v (.str v1.1)) :: (dB v7) :: (.v (.str v2)) :: (.v (.tuple [(.str v1.1), (vB v1.2)])) :: (.v (.str a0)) :: (.v (.str a1)) :: (.v (.tuple [(.str v1.1), (vB v1.2)])) :: (.v (.str v1.1)) :: (dB v7) :: (.v (.str v1.1)) :: (.v (.str a2)) :: (.v (.str v2)) :: (.v (.str v2)) :: (dB v7) :: (dB v7) :: d5 :: d6 :: (dB v8) :: (dB v8) :: u4 []), []⟩ (by kernel_rfl) ?_
    have J62j17 : ∀ (d12 d13 d14 : D) (v15 : Bool) (v16 : Bool), f62_r1 m v2 v16 = some o → Ops (X62 n) (opl (subc [1, 1, 1, 0] C62)) 11 ⟨(.v (.str a0)) :: (.v (.str a1)) :: (.v (.str a2)) :: u3 ((.v (.str ((⟨#[]⟩ : ByteArray)))) :: (dB false) :: (.v (.str v1.1)) :: (dB v7) :: (.v (.str v2)) :: (.v (.tuple [(.str v1.1), (vB v1.2)])) :: (.v (.str a0)) :: (.v (.str a1)) :: (.v (.tuple [(.str v1.1), (vB v1.2)])) :: (.v (.str v1.1)) :: (dB v7) :: (.v (.str v1.1)) :: (.v (.str a2)) :: (.v (.str v2)) :: (.v (.str v2)) :: (dB v7) :: (dB v7) :: d5 :: d6 :: (dB v15) :: (dB v15) :: d12 :: d13 :: d14 :: (dB v16) :: []), []⟩ ((seqQ (X62 n) (subc [1, 1, 1, 1] C62) (fnQ (X62 n).E.T (resOf Proofs.Tryd.prog 62) (.tuple [eS o.1, eB o.2]))) .normal) := by
      intro d12 d13 d14 v15 v16 h
      unfold f62_r1 at h
      refine Ops.seg 2 13 (by kernel_rfl) ⟨(.v (.str a0)) :: (.v (.str a1)) :: (.v (.str a2)) :: u3 ((.v (.str v2)) :: (dB v16) :: (.v (.str v1.1)) :: (dB v7) :: (.v (.str v2)) :: (.v (.tuple [(.str v1.1), (vB v1.2)])) :: (.v (.str a0)) :: (.v (.str a1)) :: (.v (.tuple [(.str v1.1), (vB v1.2)])) :: (.v (.str v1.1)) :: (dB v7) :: (.v (.str v1.1)) :: (.v (.str a2)) :: (.v (.str v2)) :: (.v (.str v2)) :: (dB v7) :: (dB v7) :: d5 :: d6 :: (dB v15) :: (dB v15) :: d12 :: d13 :: d14 :: (dB v16) :: []), []⟩ (by kernel_rfl) ?_
      refine Ops.done (by kernel_rfl) ?_
      refine seqQ.n ?_
      refine Wp.ret (by kernel_rfl) ?_
      exact fnQ.r' (X62 n) (fun z => (.tuple [eS z.1, eB z.2])) h (RetOk.mk' (.v (.tuple [(.str v2), (vB v16)])) (by kernel_rfl) (by kernel_rfl))
    obtain ⟨v16, ev16, h⟩ := bnd_some h
    have G62g11 : ∀ v10 : Bool, (cnd v10 (bnd (f84 m v2) fun v18 => some (decide (v18 ≤ 30))) (some false)) = some v16 → Ops (X62 n) (opl (subc [1, 1, 1, 0] C62)) 7 ⟨(.v (.str a0)) :: (.v (.str a1)) :: (.v (.str a2)) :: u3 ((.v (.str ((⟨#[]⟩ : ByteArray)))) :: (dB false) :: (.v (.str v1.1)) :: (dB v7) :: (.v (.str v2)) :: (.v (.tuple [(.str v1.1), (vB v1.2)])) :: (.v (.str a0)) :: (.v (.str a1)) :: (.v (.tuple [(.str v1.1), (vB v1.2)])) :: (.v (.str v1.1)) :: (dB v7) :: (.v (.str v1.1)) :: (.v (.str a2)) :: (.v (.str v2)) :: (.v (.str v2)) :: (dB v7) :: (dB v7) :: d5 :: d6 :: (dB v10) :: (dB v10) :: u4 []), []⟩ ((seqQ (X62 n) (subc [1, 1, 1, 1] C62) (fnQ (X62 n).E.T (resOf Proofs.Tryd.prog 62) (.tuple [eS o.1, eB o.2]))) .normal) := by
      intro v10 ev16
      cases v10
      · have ev16 := cnd_f ev16
        refine Ops.seg 4 11 (by kernel_rfl) ⟨(.v (.str a0)) :: (.v (.str a1)) :: (.v (.str a2)) :: u3 ((.v (.str ((⟨#[]⟩ : ByteArray)))) :: (dB false) :: (.v (.str v1.1)) :: (dB v7) :: (.v (.str v2)) :: (.v (.tuple [(.str v1.1), (vB v1.2)])) :: (.v (.str a0)) :: (.v (.str a1)) :: (.v (.tuple [(.str v1.1), (vB v1.2)])) :: (.v (.str v1.1)) :: (dB v7) :: (.v (.str v1.1)) :: (.v (.str a2)) :: (.v (.str v2)) :: (.v (.str v2)) :: (dB v7) :: (dB v7) :: d5 :: d6 :: (dB false) :: (dB false) :: u3 ((dB false) :: [])), []⟩ (by kernel_rfl) ?_
        exact J62j17 _ _ _ _ _ (some_sub (fun v16 => f62_r1 m v2 v16 = some o) ev16 h)
      · have ev16 := cnd_t ev16
        refine Ops.seg 1 8 (by kernel_rfl) ⟨(.v (.str a0)) :: (.v (.str a1)) :: (.v (.str a2)) :: u3 ((.v (.str ((⟨#[]⟩ : ByteArray)))) :: (dB false) :: (.v (.str v1.1)) :: (dB v7) :: (.v (.str v2)) :: (.v (.tuple [(.str v1.1), (vB v1.2)])) :: (.v (.str a0)) :: (.v (.str a1)) :: (.v (.tuple [(.str v1.1), (vB v1.2)])) :: (.v (.str v1.1)) :: (dB v7) :: (.v (.str v1.1)) :: (.v (.str a2)) :: (.v (.str v2)) :: (.v (.str v2)) :: (dB v7) :: (dB v7) :: d5 :: d6 :: (dB true) :: (dB true) :: (.v (.str v2)) :: u3 []), []⟩ (by kernel_rfl) ?_
        obtain ⟨v18, ev18, ev16⟩ := bnd_some ev16
        refine Ops.one 9 (by kernel_rfl) (callD (X62 n).E (run Proofs.Tryd.prog E n) 84 [(.v (.str v2))] []) (dI v18) [] ⟨(.v (.str a0)) :: (.v (.str a1)) :: (.v (.str a2)) :: u3 ((.v (.str ((⟨#[]⟩ : ByteArray)))) :: (dB false) :: (.v (.str v1.1)) :: (dB v7) :: (.v (.str v2)) :: (.v (.tuple [(.str v1.1), (vB v1.2)])) :: (.v (.str a0)) :: (.v (.str a1)) :: (.v (.tuple [(.str v1.1), (vB v1.2)])) :: (.v (.str v1.1)) :: (dB v7) :: (.v (.str v1.1)) :: (.v (.str a2)) :: (.v (.str v2)) :: (.v (.str v2)) :: (dB v7) :: (dB v7) :: d5 :: d6 :: (dB true) :: (dB true) :: (.v (.str v2)) :: (dI v18) :: u2 []), []⟩ (by kernel_rfl) (call_ok (by kernel_rfl) (Args.v (.str v2) (eS v2) (by kernel_rfl) Args.nil) (ok84 m v2 v18 ev18 n (by omega))) (by kernel_rfl) ?_
        refine Ops.seg 2 11 (by kernel_rfl) ⟨(.v (.str a0)) :: (.v (.str a1)) :: (.v (.str a2)) :: u3 ((.v (.str ((⟨#[]⟩ : ByteArray)))) :: (dB false) :: (.v (.str v1.1)) :: (dB v7) :: (.v (.str v2)) :: (.v (.tuple [(.str v1.1), (vB v1.2)])) :: (.v (.str a0)) :: (.v (.str a1)) :: (.v (.tuple [(.str v1.1), (vB v1.2)])) :: (.v (.str v1.1)) :: (dB v7) :: (.v (.str v1.1)) :: (.v (.str a2)) :: (.v (.str v2)) :: (.v (.str v2)) :: (dB v7) :: (dB v7) :: d5 :: d6 :: (dB true) :: (dB true) :: (.v (.str v2)) :: (dI v18) :: (dB (decide (v18 ≤ 30))) :: (dB (decide (v18 ≤ 30))) :: []), []⟩ (by kernel_rfl) ?_
        exact J62j17 _ _ _ _ _ (some_sub (fun v16 => f62_r1 m v2 v16 = some o) ev16 h)
    exact G62g11 v8 ev16
  have G62g4 : ∀ v3 : Bool, f62_r2 m v2 ((v3 && (!(v2.toList == ((⟨#[]⟩ : ByteArray)).toList)))) = some o → Ops (X62 n) (opl (subc [1, 1, 1, 0] C62)) 3 ⟨(.v (.str a0)) :: (.v (.str a1)) :: (.v (.str a2)) :: u3 ((.v (.str ((⟨#[]⟩ : ByteArray)))) :: (dB false) :: (.v (.str v1.1)) :: (dB v3) :: (.v (.str v2)) :: (.v (.tuple [(.str v1.1), (vB v1.2)])) :: (.v (.str a0)) :: (.v (.str a1)) :: (.v (.tuple [(.str v1.1), (vB v1.2)])) :: (.v (.str v1.1)) :: (dB v3) :: (.v (.str v1.1)) :: (.v (.str a2)) :: (.v (.str v2)) :: (.v (.str v2)) :: (dB v3) :: (dB v3) :: u8 []), []⟩ ((seqQ (X62 n) (subc [1, 1, 1, 1] C62) (fnQ (X62 n).E.T (resOf Proofs.Tryd.prog 62) (.tuple [eS o.1, eB o.2]))) .normal) := by
    intro v3 h
    cases v3
    · refine Ops.seg 3 6 (by kernel_rfl) ⟨(.v (.str a0)) :: (.v (.str a1)) :: (.v (.str a2)) :: u3 ((.v (.str ((⟨#[]⟩ : ByteArray)))) :: (dB false) :: (.v (.str v1.1)) :: (dB false) :: (.v (.str v2)) :: (.v (.tuple [(.str v1.1), (vB v1.2)])) :: (.v (.str a0)) :: (.v (.str a1)) :: (.v (.tuple [(.str v1.1), (vB v1.2)])) :: (.v (.str v1.1)) :: (dB false) :: (.v (.str v1.1)) :: (.v (.str a2)) :: (.v (.str v2)) :: (.v (.str v2)) :: (dB false) :: (dB false) :: u2 ((dB false) :: u5 [])), []⟩ (by kernel_rfl) ?_
      exact J62j9 _ _ _ _ h
    · refine Ops.seg 3 6 (by kernel_rfl) ⟨(.v (.str a0)) :: (.v (.str a1)) :: (.v (.str a2)) :: u3 ((.v (.str ((⟨#[]⟩ : ByteArray)))) :: (dB false) :: (.v (.str v1.1)) :: (dB true) :: (.v (.str v2)) :: (.v (.tuple [(.str v1.1), (vB v1.2)])) :: (.v (.str a0)) :: (.v (.str a1)) :: (.v (.tuple [(.str v1.1), (vB v1.2)])) :: (.v (.str v1.1)) :: (dB true) :: (.v (.str v1.1)) :: (.v (.str a2)) :: (.v (.str v2)) :: (.v (.str v2)) :: (dB true) :: (dB true) :: (.v (.str v2)) :: (dB (!(v2.toList == ((⟨#[]⟩ : ByteArray)).toList))) :: (dB (!(v2.toList == ((⟨#[]⟩ : ByteArray)).toList))) :: u5 []), []⟩ (by kernel_rfl) ?_
      exact J62j9 _ _ _ _ h
  exact G62g4 v1.2 h

/-! ### 63 slices.Clone[[]string,string] -/
def f63 (m : Nat) (a0 : (List ByteArray)) : Option (List ByteArray) := app 16 [] a0
theorem ok63 (m : Nat) (a0 : (List ByteArray)) (o : (List ByteArray)) (h : f63 m a0 = some o) (n : Nat) (hn : m + 1 ≤ n) : Fn Proofs.Tryd.prog E n 63 [(eL eS) a0] ((eL eS) o) :=
  clone_fn (by kernel_rfl) (by kernel_rfl) (fun _ => rfl) h hn

/-! ### 34 glosswright/paradigm.table -/
def f34_j1 (m : Nat) (v20 : Int) (v30 : (List S41)) : Option (Stp ((List S41)) ((List S41) × Int)) :=
  some (.nxt (v30, w64 (v20 + 1)))
def f34_j2 (m : Nat) (v20 : Int) (v34 : (List S41)) : Option (Stp ((List S41)) ((List S41) × Int)) :=
  f34_j1 m v20 v34
def f34_B3 (m : Nat) (a0 : S23) (a1 : ByteArray) (v19 : (List S41)) (v20 : Int) : Option (Stp ((List S41)) ((List S41) × Int)) :=
  cnd (decide (v20 < (a0.fCells.length : Int)))
  (bnd (idx a0.fCells v20) fun v32 =>
  bnd (f62 m a1 v32.fCut v32.fAdd) fun v33 =>
  cnd v33.2
  (bnd (f63 m v32.fTags) fun v36 =>
  bnd (app 40 v19 ([(⟨v36, v33.1⟩ : S41)])) fun v37 =>
  f34_j2 m v20 v37)
  (f34_j2 m v20 v19))
  (some (.brk (v19, v20)))
def f34 (m : Nat) (a0 : S23) (a1 : ByteArray) : Option (List S41) :=
  brk (iter (fun (y : (List S41) × Int) => f34_B3 m a0 a1 y.1 y.2) m ([], 0)) some fun y39 =>
  some y39.1
noncomputable abbrev X34 (n : Nat) : Cx := cxOf Proofs.Tryd.prog E 34 n
noncomputable def C34 : Code := bodyOf Proofs.Tryd.prog 34
theorem ok34 (m : Nat) (a0 : S23) (a1 : ByteArray) (o : (List S41)) (h : f34 m a0 a1 = some o) (n : Nat) (hn : m + 5 ≤ n) : Fn Proofs.Tryd.prog E n 34 [e23 a0, eS a1] ((eL e41) o) := by
  obtain ⟨n, rfl⟩ : ∃ q, n = q + 1 := ⟨n - 1, by omega⟩
  unfold f34 at h
  refine Fn.of (by kernel_rfl) (by kernel_rfl) ⟨(.v (.agg [(.str a0.fName), (vP e67 a0.fCells)])) :: (.v (.str a1)) :: u35 [], []⟩ (by kernel_rfl) ?_
  refine Wp.seq (subc [0] C34) (subc [1] C34) (by kernel_rfl) ?_
  refine Wp.region (by kernel_rfl) ?_
  refine Ops.seg 2 2 (by kernel_rfl) ⟨(.v (.agg [(.str a0.fName), (vP e67 a0.fCells)])) :: (.v (.str a1)) :: (.ptr 0 0) :: u1 ((.v (.sl .nil (List.map e41 []))) :: u32 []), [(.cells [(.v (.str a0.fName)), (dP e67 a0.fCells)])]⟩ (by kernel_rfl) ?_
  refine Ops.done (by kernel_rfl) ?_
  refine seqQ.n ?_
  refine Wp.seq (subc [1, 0] C34) (subc [1, 1] C34) (by kernel_rfl) ?_
  refine Wp.region (by kernel_rfl) ?_
  refine Ops.seg 1 1 (by kernel_rfl) ⟨(.v (.agg [(.str a0.fName), (vP e67 a0.fCells)])) :: (.v (.str a1)) :: (.ptr 0 0) :: u1 ((.v (.sl .nil (List.map e41 []))) :: (.v (.sl .nil (List.map e41 []))) :: u31 []), [(.cells [(.v (.str a0.fName)), (dP e67 a0.fCells)])]⟩ (by kernel_rfl) ?_
  refine Ops.done (by kernel_rfl) ?_
  refine seqQ.n ?_
  refine Wp.seq (subc [1, 1, 0] C34) (subc [1, 1, 1] C34) (by kernel_rfl) ?_
  refine Wp.seq (subc [1, 1, 0, 0] C34) (subc [1, 1, 0, 1] C34) (by kernel_rfl) ?_
  refine Wp.region (by kernel_rfl) ?_
  refine Ops.seg 2 2 (by kernel_rfl) ⟨(.v (.agg [(.str a0.fName), (vP e67 a0.fCells)])) :: (.v (.str a1)) :: (.ptr 0 0) :: u1 ((.v (.sl .nil (List.map e41 []))) :: (.v (.sl .nil (List.map e41 []))) :: u4 ((.ptr 0 1) :: (dP e67 a0.fCells) :: u25 [])), [(.cells [(.v (.str a0.fName)), (dP e67 a0.fCells)])]⟩ (by kernel_rfl) ?_
  refine Ops.one 3 (by kernel_rfl) ((lenD (X34 n).E.T 22 (D.unt (dP e67 a0.fCells))).map (·, [(.cells [(.v (.str a0.fName)), (dP e67 a0.fCells)])])) (dI ((a0.fCells.length : Int))) [(.cells [(.v (.str a0.fName)), (dP e67 a0.fCells)])] ⟨(.v (.agg [(.str a0.fName), (vP e67 a0.fCells)])) :: (.v (.str a1)) :: (.ptr 0 0) :: u1 ((.v (.sl .nil (List.map e41 []))) :: (.v (.sl .nil (List.map e41 []))) :: u4 ((.ptr 0 1) :: (dP e67 a0.fCells) :: (dI ((a0.fCells.length : Int))) :: u24 [])), [(.cells [(.v (.str a0.fName)), (dP e67 a0.fCells)])]⟩ (by kernel_rfl) (len_r _ 22 68 .plain e67 a0.fCells (by kernel_rfl)) (by kernel_rfl) ?_
  refine Ops.seg 1 4 (by kernel_rfl) ⟨(.v (.agg [(.str a0.fName), (vP e67 a0.fCells)])) :: (.v (.str a1)) :: (.ptr 0 0) :: u1 ((.v (.sl .nil (List.map e41 []))) :: (.v (.sl .nil (List.map e41 []))) :: u4 ((.ptr 0 1) :: (dP e67 a0.fCells) :: (dI ((a0.fCells.length : Int))) :: (dI 0) :: u23 [])), [(.cells [(.v (.str a0.fName)), (dP e67 a0.fCells)])]⟩ (by kernel_rfl) ?_
  refine Ops.done (by kernel_rfl) ?_
  refine seqQ.n ?_
  refine Wp.block (id := 0) [4, 5] (by kernel_rfl) 1 (by kernel_rfl) (subc [1, 1, 0, 1, 0] C34) (by kernel_rfl) ?_
  have hLx38 : ∀ (kx22 : Nat) (v19 : (List S41)) (v20 : Int)  (ox21 : (List S41) ⊕ ((List S41) × Int)), iter (fun (y : (List S41) × Int) => f34_B3 m a0 a1 y.1 y.2) kx22 (v19, v20) = some ox21 → ∀ nx23, kx22 ≤ nx23 → (∀ r, ox21 = .inl r → ∀ σ, RetOk (X34 n) (resOf Proofs.Tryd.prog 34) ((eL e41) r) σ → (seqQ (X34 n) (subc [1, 1, 1] C34) (fnQ (X34 n).E.T (resOf Proofs.Tryd.prog 34) ((eL e41) o))) .ret σ) → (∀ (y : (List S41) × Int) , ox21 = .inr y → (seqQ (X34 n) (subc [1, 1, 1] C34) (fnQ (X34 n).E.T (resOf Proofs.Tryd.prog 34) ((eL e41) o))) .normal ⟨q4 ((.v (.sl .nil (List.map e41 []))) :: (appD 1 (List.map e41 y.1)) :: q31 []), [(.cells [(.v (.str a0.fName)), (dP e67 a0.fCells)]), (appO 2 (List.map e41 y.1))]⟩) → Lp (X34 n) [1, 4, 5, 11, 12, 13] 1 (subc [1, 1, 0, 1, 0, 0] C34) nx23 ⟨q1 ((.v (.str a1)) :: q2 ((.v (.sl .nil (List.map e41 []))) :: (appD 1 (List.map e41 v19)) :: q5 ((dP e67 a0.fCells) :: (dI ((a0.fCells.length : Int))) :: (dI v20) :: q23 []))), [(.cells [(.v (.str a0.fName)), (dP e67 a0.fCells)]), (appO 2 (List.map e41 v19))]⟩ (blkQ (X34 n) 0 [4, 5] 1 (seqQ (X34 n) (subc [1, 1, 1] C34) (fnQ (X34 n).E.T (resOf Proofs.Tryd.prog 34) ((eL e41) o)))) := by
    intro kx22
    induction kx22 with
    | zero => intro v19 v20  ox21 h; exact (iter_zero h).elim
    | succ kx22 ihx24 =>
      intro v19 v20  ox21 h nx23 hnx27 hrx25 hxx26
      obtain ⟨nx23, rfl⟩ : ∃ q, nx23 = q + 1 := ⟨nx23 - 1, by omega⟩
      obtain ⟨sx28, h, hsx29⟩ := iter_some h
      have h : f34_B3 m a0 a1 v19 v20 = some sx28 := h
      unfold f34_B3 at h
      refine Lp.succ ?_
      refine Wp.seq (subc [1, 1, 0, 1, 0, 0, 0] C34) (subc [1, 1, 0, 1, 0, 0, 1] C34) (by kernel_rfl) ?_
      refine Wp.region (by kernel_rfl) ?_
      refine Ops.seg 1 1 (by kernel_rfl) ⟨q1 ((.v (.str a1)) :: q2 ((.v (.sl .nil (List.map e41 []))) :: (appD 1 (List.map e41 v19)) :: q5 ((dP e67 a0.fCells) :: (dI ((a0.fCells.length : Int))) :: (dI v20) :: (dB (decide (v20 < (a0.fCells.length : Int)))) :: q22 []))), [(.cells [(.v (.str a0.fName)), (dP e67 a0.fCells)]), (appO 2 (List.map e41 v19))]⟩ (by kernel_rfl) ?_
      refine Ops.done (by kernel_rfl) ?_
      refine seqQ.n ?_
      refine Wp.seq (subc [1, 1, 0, 1, 0, 0, 1, 0] C34) (subc [1, 1, 0, 1, 0, 0, 1, 1] C34) (by kernel_rfl) ?_
      rcases cnd_some h with ⟨hb, h⟩ | ⟨hb, h⟩
      · refine Wp.cond (decide (v20 < (a0.fCells.length : Int))) [1, 4, 5, 11, 12, 13] (by kernel_rfl) 2 (by kernel_rfl) (subc [1, 1, 0, 1, 0, 0, 1, 0, 0] C34) (subc [1, 1, 0, 1, 0, 0, 1, 0, 1] C34) (by kernel_rfl) (by kernel_rfl) (fun _ => ?_) (fun e => nomatch (hb.symm.trans e))
        refine Wp.skip (by kernel_rfl) ?_
        refine sqQ.n ⟨q1 ((.v (.str a1)) :: q2 ((.v (.sl .nil (List.map e41 []))) :: (appD 2 (List.map e41 v19)) :: q5 ((dP e67 a0.fCells) :: (dI ((a0.fCells.length : Int))) :: (dI v20) :: q23 []))), [(.cells [(.v (.str a0.fName)), (dP e67 a0.fCells)]), .dead, (appO 2 (List.map e41 v19))]⟩ (by generalize v19 = z0; cases z0 <;> kernel_rfl) ?_
        refine seqQ.n ?_
        refine Wp.seq (subc [1, 1, 0, 1, 0, 0, 1, 1, 0] C34) (subc [1, 1, 0, 1, 0, 0, 1, 1, 1] C34) (by kernel_rfl) ?_
        have J34j31 : ∀ (v30 : (List S41)) , f34_j1 m v20 v30 = some sx28 → (seqQ (X34 n) (subc [1, 1, 0, 1, 0, 0, 1, 1, 1] C34) (lpQ (X34 n) [1, 4, 5, 11, 12, 13] 1 (subc [1, 1, 0, 1, 0, 0] C34) nx23 (blkQ (X34 n) 0 [4, 5] 1 (seqQ (X34 n) (subc [1, 1, 1] C34) (fnQ (X34 n).E.T (resOf Proofs.Tryd.prog 34) ((eL e41) o)))))) .normal ⟨q1 ((.v (.str a1)) :: q2 ((.v (.sl .nil (List.map e41 []))) :: (appD 3 (List.map e41 v30)) :: q5 ((dP e67 a0.fCells) :: (dI ((a0.fCells.length : Int))) :: (dI v20) :: q23 []))), [(.cells [(.v (.str a0.fName)), (dP e67 a0.fCells)]), .dead, .dead, (appO 2 (List.map e41 v30))]⟩ := by
          intro v30  h
          unfold f34_j1 at h
          refine seqQ.n ?_
          refine Wp.region (by kernel_rfl) ?_
          refine Ops.seg 2 2 (by kernel_rfl) ⟨q1 ((.v (.str a1)) :: q2 ((.v (.sl .nil (List.map e41 []))) :: (appD 3 (List.map e41 v30)) :: q5 ((dP e67 a0.fCells) :: (dI ((a0.fCells.length : Int))) :: (dI (w64 (v20 + 1))) :: q21 ((dI (w64 (v20 + 1))) :: q1 [])))), [(.cells [(.v (.str a0.fName)), (dP e67 a0.fCells)]), .dead, .dead, (appO 2 (List.map e41 v30))]⟩ (by kernel_rfl) ?_
          refine Ops.done (by kernel_rfl) ?_
          refine lpQ.n ⟨q1 ((.v (.str a1)) :: q2 ((.v (.sl .nil (List.map e41 []))) :: (appD 1 (List.map e41 v30)) :: q5 ((dP e67 a0.fCells) :: (dI ((a0.fCells.length : Int))) :: (dI (w64 (v20 + 1))) :: q23 []))), [(.cells [(.v (.str a0.fName)), (dP e67 a0.fCells)]), (appO 2 (List.map e41 v30))]⟩ (by generalize v30 = z0; cases z0 <;> kernel_rfl) ?_
          cases h
          exact ihx24 v30 (w64 (v20 + 1))  _ hsx29 _ (by omega) hrx25 hxx26
        refine Wp.block (id := 1) [1, 4, 5, 11, 12, 13] (by kernel_rfl) 3 (by kernel_rfl) (subc [1, 1, 0, 1, 0, 0, 1, 1, 0, 0] C34) (by kernel_rfl) ?_
        refine Wp.seq (subc [1, 1, 0, 1, 0, 0, 1, 1, 0, 0, 0] C34) (subc [1, 1, 0, 1, 0, 0, 1, 1, 0, 0, 1] C34) (by kernel_rfl) ?_
        refine Wp.region (by kernel_rfl) ?_
        obtain ⟨v32, ev32, h⟩ := bnd_some h
        refine Ops.one 1 (by kernel_rfl) ((indexAddrH (X34 n).E.T [(.cells [(.v (.str a0.fName)), (dP e67 a0.fCells)]), .dead, (appO 2 (List.map e41 v19))] 22 (D.unt (dP e67 a0.fCells)) (dI v20)).map (·, [(.cells [(.v (.str a0.fName)), (dP e67 a0.fCells)]), .dead, (appO 2 (List.map e41 v19))])) (.vptr [(vP eS v32.fTags), (.str v32.fCut), (.str v32.fAdd)]) [(.cells [(.v (.str a0.fName)), (dP e67 a0.fCells)]), .dead, (appO 2 (List.map e41 v19))] ⟨q1 ((.v (.str a1)) :: q2 ((.v (.sl .nil (List.map e41 []))) :: (appD 2 (List.map e41 v19)) :: q5 ((dP e67 a0.fCells) :: (dI ((a0.fCells.length : Int))) :: (dI v20) :: q1 ((.vptr [(vP eS v32.fTags), (.str v32.fCut), (.str v32.fAdd)]) :: q21 [])))), [(.cells [(.v (.str a0.fName)), (dP e67 a0.fCells)]), .dead, (appO 2 (List.map e41 v19))]⟩ (by kernel_rfl) (ix_r _ 22 68 3 .plain e67 a0.fCells v20 v32 ev32 (by kernel_rfl) (by kernel_rfl) (fun _ => rfl)) (by kernel_rfl) ?_
        refine Ops.seg 3 4 (by kernel_rfl) ⟨q1 ((.v (.str a1)) :: q2 ((.v (.sl .nil (List.map e41 []))) :: (appD 2 (List.map e41 v19)) :: q1 ((.ptr 3 0) :: q3 ((dP e67 a0.fCells) :: (dI ((a0.fCells.length : Int))) :: (dI v20) :: q1 ((.vptr [(vP eS v32.fTags), (.str v32.fCut), (.str v32.fAdd)]) :: (.v (.agg [(vP eS v32.fTags), (.str v32.fCut), (.str v32.fAdd)])) :: q20 []))))), [(.cells [(.v (.str a0.fName)), (dP e67 a0.fCells)]), .dead, (appO 2 (List.map e41 v19)), (.cells [(dP eS v32.fTags), (.v (.str v32.fCut)), (.v (.str v32.fAdd))])]⟩ (by kernel_rfl) ?_
        refine Ops.done (by kernel_rfl) ?_
        refine seqQ.n ?_
        refine Wp.seq (subc [1, 1, 0, 1, 0, 0, 1, 1, 0, 0, 1, 0] C34) (subc [1, 1, 0, 1, 0, 0, 1, 1, 0, 0, 1, 1] C34) (by kernel_rfl) ?_
        refine Wp.region (by kernel_rfl) ?_
        refine Ops.seg 5 5 (by kernel_rfl) ⟨q1 ((.v (.str a1)) :: q2 ((.v (.sl .nil (List.map e41 []))) :: (appD 2 (List.map e41 v19)) :: q1 ((.ptr 3 0) :: q3 ((dP e67 a0.fCells) :: (dI ((a0.fCells.length : Int))) :: (dI v20) :: q1 ((.vptr [(vP eS v32.fTags), (.str v32.fCut), (.str v32.fAdd)]) :: (.v (.agg [(vP eS v32.fTags), (.str v32.fCut), (.str v32.fAdd)])) :: q1 ((.v (.str a1)) :: (.ptr 3 1) :: (.v (.str v32.fCut)) :: (.ptr 3 2) :: (.v (.str v32.fAdd)) :: q14 [])))))), [(.cells [(.v (.str a0.fName)), (dP e67 a0.fCells)]), .dead, (appO 2 (List.map e41 v19)), (.cells [(dP eS v32.fTags), (.v (.str v32.fCut)), (.v (.str v32.fAdd))])]⟩ (by kernel_rfl) ?_
        obtain ⟨v33, ev33, h⟩ := bnd_some h
        refine Ops.one 6 (by kernel_rfl) (callD (X34 n).E (run Proofs.Tryd.prog E n) 62 [(.v (.str a1)), (.v (.str v32.fCut)), (.v (.str v32.fAdd))] [(.cells [(.v (.str a0.fName)), (dP e67 a0.fCells)]), .dead, (appO 2 (List.map e41 v19)), (.cells [(dP eS v32.fTags), (.v (.str v32.fCut)), (.v (.str v32.fAdd))])]) (.v (.tuple [(.str v33.1), (vB v33.2)])) [(.cells [(.v (.str a0.fName)), (dP e67 a0.fCells)]), .dead, (appO 2 (List.map e41 v19)), (.cells [(dP eS v32.fTags), (.v (.str v32.fCut)), (.v (.str v32.fAdd))])] ⟨q1 ((.v (.str a1)) :: q2 ((.v (.sl .nil (List.map e41 []))) :: (appD 2 (List.map e41 v19)) :: q1 ((.ptr 3 0) :: q3 ((dP e67 a0.fCells) :: (dI ((a0.fCells.length : Int))) :: (dI v20) :: q1 ((.vptr [(vP eS v32.fTags), (.str v32.fCut), (.str v32.fAdd)]) :: (.v (.agg [(vP eS v32.fTags), (.str v32.fCut), (.str v32.fAdd)])) :: q1 ((.v (.str a1)) :: (.ptr 3 1) :: (.v (.str v32.fCut)) :: (.ptr 3 2) :: (.v (.str v32.fAdd)) :: (.v (.tuple [(.str v33.1), (vB v33.2)])) :: q13 [])))))), [(.cells [(.v (.str a0.fName)), (dP e67 a0.fCells)]), .dead, (appO 2 (List.map e41 v19)), (.cells [(dP eS v32.fTags), (.v (.str v32.fCut)), (.v (.str v32.fAdd))])]⟩ (by kernel_rfl) (call_ok (by kernel_rfl) (Args.v (.str a1) (eS a1) (by kernel_rfl) (Args.v (.str v32.fCut) (eS v32.fCut) (by kernel_rfl) (Args.v (.str v32.fAdd) (eS v32.fAdd) (by kernel_rfl) Args.nil))) (ok62 m a1 v32.fCut v32.fAdd v33 ev33 n (by omega))) (by kernel_rfl) ?_
        refine Ops.seg 5 11 (by kernel_rfl) ⟨q1 ((.v (.str a1)) :: q2 ((.v (.sl .nil (List.map e41 []))) :: (appD 2 (List.map e41 v19)) :: q1 ((.ptr 3 0) :: (.v (.str v33.1)) :: (dB v33.2) :: q1 ((dP e67 a0.fCells) :: (dI ((a0.fCells.length : Int))) :: (dI v20) :: q1 ((.vptr [(vP eS v32.fTags), (.str v32.fCut), (.str v32.fAdd)]) :: (.v (.agg [(vP eS v32.fTags), (.str v32.fCut), (.str v32.fAdd)])) :: (.v (.tuple [(.str v33.1), (vB v33.2)])) :: (.v (.str a1)) :: (.ptr 3 1) :: (.v (.str v32.fCut)) :: (.ptr 3 2) :: (.v (.str v32.fAdd)) :: (.v (.tuple [(.str v33.1), (vB v33.2)])) :: (.v (.str v33.1)) :: (dB v33.2) :: q11 []))))), [(.cells [(.v (.str a0.fName)), (dP e67 a0.fCells)]), .dead, (appO 2 (List.map e41 v19)), (.cells [(dP eS v32.fTags), (.v (.str v32.fCut)), (.v (.str v32.fAdd))])]⟩ (by kernel_rfl) ?_
        refine Ops.done (by kernel_rfl) ?_
        refine seqQ.n ?_
        refine Wp.seq (subc [1, 1, 0, 1, 0, 0, 1, 1, 0, 0, 1, 1, 0] C34) (subc [1, 1, 0, 1, 0, 0, 1, 1, 0, 0, 1, 1, 1] C34) (by kernel_rfl) ?_
        refine Wp.region (by kernel_rfl) ?_
        refine Ops.seg 1 1 (by kernel_rfl) ⟨q1 ((.v (.str a1)) :: q2 ((.v (.sl .nil (List.map e41 []))) :: (appD 2 (List.map e41 v19)) :: q1 ((.ptr 3 0) :: (.v (.str v33.1)) :: (dB v33.2) :: q1 ((dP e67 a0.fCells) :: (dI ((a0.fCells.length : Int))) :: (dI v20) :: q1 ((.vptr [(vP eS v32.fTags), (.str v32.fCut), (.str v32.fAdd)]) :: (.v (.agg [(vP eS v32.fTags), (.str v32.fCut), (.str v32.fAdd)])) :: (.v (.tuple [(.str v33.1), (vB v33.2)])) :: (.v (.str a1)) :: (.ptr 3 1) :: (.v (.str v32.fCut)) :: (.ptr 3 2) :: (.v (.str v32.fAdd)) :: (.v (.tuple [(.str v33.1), (vB v33.2)])) :: (.v (.str v33.1)) :: (dB v33.2) :: (dB v33.2) :: q10 []))))), [(.cells [(.v (.str a0.fName)), (dP e67 a0.fCells)]), .dead, (appO 2 (List.map e41 v19)), (.cells [(dP eS v32.fTags), (.v (.str v32.fCut)), (.v (.str v32.fAdd))])]⟩ (by kernel_rfl) ?_
        refine Ops.done (by kernel_rfl) ?_
        refine seqQ.n ?_
        have J34j35 : ∀ (v34 : (List S41)) , f34_j2 m v20 v34 = some sx28 → (blkQ (X34 n) 1 [1, 4, 5, 11, 12, 13] 3 (seqQ (X34 n) (subc [1, 1, 0, 1, 0, 0, 1, 1, 1] C34) (lpQ (X34 n) [1, 4, 5, 11, 12, 13] 1 (subc [1, 1, 0, 1, 0, 0] C34) nx23 (blkQ (X34 n) 0 [4, 5] 1 (seqQ (X34 n) (subc [1, 1, 1] C34) (fnQ (X34 n).E.T (resOf Proofs.Tryd.prog 34) ((eL e41) o))))))) .normal ⟨q1 ((.v (.str a1)) :: q2 ((.v (.sl .nil (List.map e41 []))) :: (appD 4 (List.map e41 v34)) :: q5 ((dP e67 a0.fCells) :: (dI ((a0.fCells.length : Int))) :: (dI v20) :: q23 []))), [(.cells [(.v (.str a0.fName)), (dP e67 a0.fCells)]), .dead, .dead, (.cells [(dP eS v32.fTags), (.v (.str v32.fCut)), (.v (.str v32.fAdd))]), (appO 2 (List.map e41 v34))]⟩ := by
          intro v34  h
          unfold f34_j2 at h
          refine blkQ.n ⟨q1 ((.v (.str a1)) :: q2 ((.v (.sl .nil (List.map e41 []))) :: (appD 3 (List.map e41 v34)) :: q5 ((dP e67 a0.fCells) :: (dI ((a0.fCells.length : Int))) :: (dI v20) :: q23 []))), [(.cells [(.v (.str a0.fName)), (dP e67 a0.fCells)]), .dead, .dead, (appO 2 (List.map e41 v34))]⟩ (by generalize v34 = z0; cases z0 <;> kernel_rfl) ?_
          exact J34j31 v34  h
        rcases cnd_some h with ⟨hb, h⟩ | ⟨hb, h⟩
        · refine Wp.cond v33.2 [1, 4, 5, 11, 12, 13] (by kernel_rfl) 4 (by kernel_rfl) (subc [1, 1, 0, 1, 0, 0, 1, 1, 0, 0, 1, 1, 1, 0] C34) (subc [1, 1, 0, 1, 0, 0, 1, 1, 0, 0, 1, 1, 1, 1] C34) (by kernel_rfl) (by kernel_rfl) (fun _ => ?_) (fun e => nomatch (hb.symm.trans e))
          refine Wp.region (by kernel_rfl) ?_
          refine Ops.seg 3 3 (by kernel_rfl) ⟨q1 ((.v (.str a1)) :: q2 ((.v (.sl .nil (List.map e41 []))) :: (appD 2 (List.map e41 v19)) :: q1 ((.ptr 3 0) :: (.v (.str v33.1)) :: (dB v33.2) :: q1 ((dP e67 a0.fCells) :: (dI ((a0.fCells.length : Int))) :: (dI v20) :: q1 ((.vptr [(vP eS v32.fTags), (.str v32.fCut), (.str v32.fAdd)]) :: (.v (.agg [(vP eS v32.fTags), (.str v32.fCut), (.str v32.fAdd)])) :: (.v (.tuple [(.str v33.1), (vB v33.2)])) :: (.v (.str a1)) :: (.ptr 3 1) :: (.v (.str v32.fCut)) :: (.ptr 3 2) :: (.v (.str v32.fAdd)) :: (.v (.tuple [(.str v33.1), (vB v33.2)])) :: (.v (.str v33.1)) :: (dB v33.2) :: (dB v33.2) :: (appD 2 (List.map e41 v19)) :: (.ptr 3 0) :: (dP eS v32.fTags) :: q7 []))))), [(.cells [(.v (.str a0.fName)), (dP e67 a0.fCells)]), .dead, (appO 2 (List.map e41 v19)), (.cells [(dP eS v32.fTags), (.v (.str v32.fCut)), (.v (.str v32.fAdd))])]⟩ (by kernel_rfl) ?_
          obtain ⟨v36, ev36, h⟩ := bnd_some h
          refine Ops.one 4 (by kernel_rfl) (callD (X34 n).E (run Proofs.Tryd.prog E n) 63 [(dP eS v32.fTags)] [(.cells [(.v (.str a0.fName)), (dP e67 a0.fCells)]), .dead, (appO 2 (List.map e41 v19)), (.cells [(dP eS v32.fTags), (.v (.str v32.fCut)), (.v (.str v32.fAdd))])]) (dP eS v36) [(.cells [(.v (.str a0.fName)), (dP e67 a0.fCells)]), .dead, (appO 2 (List.map e41 v19)), (.cells [(dP eS v32.fTags), (.v (.str v32.fCut)), (.v (.str v32.fAdd))])] ⟨q1 ((.v (.str a1)) :: q2 ((.v (.sl .nil (List.map e41 []))) :: (appD 2 (List.map e41 v19)) :: q1 ((.ptr 3 0) :: (.v (.str v33.1)) :: (dB v33.2) :: q1 ((dP e67 a0.fCells) :: (dI ((a0.fCells.length : Int))) :: (dI v20) :: q1 ((.vptr [(vP eS v32.fTags), (.str v32.fCut), (.str v32.fAdd)]) :: (.v (.agg [(vP eS v32.fTags), (.str v32.fCut), (.str v32.fAdd)])) :: (.v (.tuple [(.str v33.1), (vB v33.2)])) :: (.v (.str a1)) :: (.ptr 3 1) :: (.v (.str v32.fCut)) :: (.ptr 3 2) :: (.v (.str v32.fAdd)) :: (.v (.tuple [(.str v33.1), (vB v33.2)])) :: (.v (.str v33.1)) :: (dB v33.2) :: (dB v33.2) :: (appD 2 (List.map e41 v19)) :: (.ptr 3 0) :: (dP eS v32.fTags) :: (dP eS v36) :: q6 []))))), [(.cells [(.v (.str a0.fName)), (dP e67 a0.fCells)]), .dead, (appO 2 (List.map e41 v19)), (.cells [(dP eS v32.fTags), (.v (.str v32.fCut)), (.v (.str v32.fAdd))])]⟩ (by kernel_rfl) (call_ok (by kernel_rfl) (Args.v (vP eS v32.fTags) ((eL eS) v32.fTags) (by kernel_rfl) Args.nil) (ok63 m v32.fTags v36 ev36 n (by omega))) (by kernel_rfl) ?_
          refine Ops.seg 3 7 (by kernel_rfl) ⟨q1 ((.v (.str a1)) :: q2 ((.v (.sl .nil (List.map e41 []))) :: (appD 2 (List.map e41 v19)) :: q1 ((.ptr 3 0) :: (.v (.str v33.1)) :: (dB v33.2) :: q1 ((dP e67 a0.fCells) :: (dI ((a0.fCells.length : Int))) :: (dI v20) :: q1 ((.vptr [(vP eS v32.fTags), (.str v32.fCut), (.str v32.fAdd)]) :: (.v (.agg [(vP eS v32.fTags), (.str v32.fCut), (.str v32.fAdd)])) :: (.v (.tuple [(.str v33.1), (vB v33.2)])) :: (.v (.str a1)) :: (.ptr 3 1) :: (.v (.str v32.fCut)) :: (.ptr 3 2) :: (.v (.str v32.fAdd)) :: (.v (.tuple [(.str v33.1), (vB v33.2)])) :: (.v (.str v33.1)) :: (dB v33.2) :: (dB v33.2) :: (appD 2 (List.map e41 v19)) :: (.ptr 3 0) :: (dP eS v32.fTags) :: (dP eS v36) :: (.v (.str v33.1)) :: (.v (.agg [(vP eS v36), (.str v33.1)])) :: (.v (.sl .nonfull (List.map e41 ([(⟨v36, v33.1⟩ : S41)])))) :: q3 []))))), [(.cells [(.v (.str a0.fName)), (dP e67 a0.fCells)]), .dead, (appO 2 (List.map e41 v19)), (.cells [(dP eS v32.fTags), (.v (.str v32.fCut)), (.v (.str v32.fAdd))])]⟩ (by kernel_rfl) ?_
          obtain ⟨v37, ev37, h⟩ := bnd_some h
          refine Ops.one 8 (by kernel_rfl) (appendD (X34 n).E.T false 26 [(.cells [(.v (.str a0.fName)), (dP e67 a0.fCells)]), .dead, (appO 2 (List.map e41 v19)), (.cells [(dP eS v32.fTags), (.v (.str v32.fCut)), (.v (.str v32.fAdd))])] (appD 2 (List.map e41 v19)) (.v (.sl .nonfull (List.map e41 ([(⟨v36, v33.1⟩ : S41)]))))) (appD 4 (List.map e41 v37)) [(.cells [(.v (.str a0.fName)), (dP e67 a0.fCells)]), .dead, .dead, (.cells [(dP eS v32.fTags), (.v (.str v32.fCut)), (.v (.str v32.fAdd))]), (appO 2 (List.map e41 v37))] ⟨q1 ((.v (.str a1)) :: q2 ((.v (.sl .nil (List.map e41 []))) :: (appD 2 (List.map e41 v19)) :: q1 ((.ptr 3 0) :: (.v (.str v33.1)) :: (dB v33.2) :: q1 ((dP e67 a0.fCells) :: (dI ((a0.fCells.length : Int))) :: (dI v20) :: q1 ((.vptr [(vP eS v32.fTags), (.str v32.fCut), (.str v32.fAdd)]) :: (.v (.agg [(vP eS v32.fTags), (.str v32.fCut), (.str v32.fAdd)])) :: (.v (.tuple [(.str v33.1), (vB v33.2)])) :: (.v (.str a1)) :: (.ptr 3 1) :: (.v (.str v32.fCut)) :: (.ptr 3 2) :: (.v (.str v32.fAdd)) :: (.v (.tuple [(.str v33.1), (vB v33.2)])) :: (.v (.str v33.1)) :: (dB v33.2) :: (dB v33.2) :: (appD 2 (List.map e41 v19)) :: (.ptr 3 0) :: (dP eS v32.fTags) :: (dP eS v36) :: (.v (.str v33.1)) :: (.v (.agg [(vP eS v36), (.str v33.1)])) :: (.v (.sl .nonfull (List.map e41 ([(⟨v36, v33.1⟩ : S41)])))) :: (appD 4 (List.map e41 v37)) :: q2 []))))), [(.cells [(.v (.str a0.fName)), (dP e67 a0.fCells)]), .dead, .dead, (.cells [(dP eS v32.fTags), (.v (.str v32.fCut)), (.v (.str v32.fAdd))]), (appO 2 (List.map e41 v37))]⟩ (by kernel_rfl) (app_r _ 26 42 2 2 ti42 .nonfull e41 v19 ([(⟨v36, v33.1⟩ : S41)]) v37 ev37 (by kernel_rfl) (by kernel_rfl) (by kernel_rfl) (by kernel_rfl) (fun _ => rfl) (by kernel_rfl)) (by kernel_rfl) ?_
          refine Ops.seg 1 9 (by kernel_rfl) ⟨q1 ((.v (.str a1)) :: q2 ((.v (.sl .nil (List.map e41 []))) :: (appD 4 (List.map e41 v37)) :: q1 ((.ptr 3 0) :: (.v (.str v33.1)) :: (dB v33.2) :: q1 ((dP e67 a0.fCells) :: (dI ((a0.fCells.length : Int))) :: (dI v20) :: q1 ((.vptr [(vP eS v32.fTags), (.str v32.fCut), (.str v32.fAdd)]) :: (.v (.agg [(vP eS v32.fTags), (.str v32.fCut), (.str v32.fAdd)])) :: (.v (.tuple [(.str v33.1), (vB v33.2)])) :: (.v (.str a1)) :: (.ptr 3 1) :: (.v (.str v32.fCut)) :: (.ptr 3 2) :: (.v (.str v32.fAdd)) :: (.v (.tuple [(.str v33.1), (vB v33.2)])) :: (.v (.str v33.1)) :: (dB v33.2) :: (dB v33.2) :: (appD 2 (List.map e41 v19)) :: (.ptr 3 0) :: (dP eS v32.fTags) :: (dP eS v36) :: (.v (.str v33.1)) :: (.v (.agg [(vP eS v36), (.str v33.1)])) :: (.v (.sl .nonfull (List.map e41 ([(⟨v36, v33.1⟩ : S41)])))) :: (appD 4 (List.map e41 v37)) :: q2 []))))), [(.cells [(.v (.str a0.fName)), (dP e67 a0.fCells)]), .dead, .dead, (.cells [(dP eS v32.fTags), (.v (.str v32.fCut)), (.v (.str v32.fAdd))]), (appO 2 (List.map e41 v37))]⟩ (by kernel_rfl) ?_
          refine Ops.done (by kernel_rfl) ?_
          refine sqQ.n ⟨q1 ((.v (.str a1)) :: q2 ((.v (.sl .nil (List.map e41 []))) :: (appD 4 (List.map e41 v37)) :: q5 ((dP e67 a0.fCells) :: (dI ((a0.fCells.length : Int))) :: (dI v20) :: q23 []))), [(.cells [(.v (.str a0.fName)), (dP e67 a0.fCells)]), .dead, .dead, (.cells [(dP eS v32.fTags), (.v (.str v32.fCut)), (.v (.str v32.fAdd))]), (appO 2 (List.map e41 v37))]⟩ (by generalize v37 = z0; cases z0 <;> kernel_rfl) ?_
          exact J34j35 v37  h
        · refine Wp.cond v33.2 [1, 4, 5, 11, 12, 13] (by kernel_rfl) 4 (by kernel_rfl) (subc [1, 1, 0, 1, 0, 0, 1, 1, 0, 0, 1, 1, 1, 0] C34) (subc [1, 1, 0, 1, 0, 0, 1, 1, 0, 0, 1, 1, 1, 1] C34) (by kernel_rfl) (by kernel_rfl) (fun e => nomatch (hb.symm.trans e)) (fun _ => ?_)
          refine Wp.skip (by kernel_rfl) ?_
          refine sqQ.n ⟨q1 ((.v (.str a1)) :: q2 ((.v (.sl .nil (List.map e41 []))) :: (appD 4 (List.map e41 v19)) :: q5 ((dP e67 a0.fCells) :: (dI ((a0.fCells.length : Int))) :: (dI v20) :: q23 []))), [(.cells [(.v (.str a0.fName)), (dP e67 a0.fCells)]), .dead, .dead, (.cells [(dP eS v32.fTags), (.v (.str v32.fCut)), (.v (.str v32.fAdd))]), (appO 2 (List.map e41 v19))]⟩ (by generalize v19 = z0; cases z0 <;> kernel_rfl) ?_
          exact J34j35 v19  h
      · refine Wp.cond (decide (v20 < (a0.fCells.length : Int))) [1, 4, 5, 11, 12, 13] (by kernel_rfl) 2 (by kernel_rfl) (subc [1, 1, 0, 1, 0, 0, 1, 0, 0] C34) (subc [1, 1, 0, 1, 0, 0, 1, 0, 1] C34) (by kernel_rfl) (by kernel_rfl) (fun e => nomatch (hb.symm.trans e)) (fun _ => ?_)
        refine Wp.exit (id := 0) (by kernel_rfl) ?_
        refine sqQ.x ?_
        refine seqQ.x ?_
        cases h
        refine lpQ.x ?_
        refine blkQ.x ⟨q4 ((.v (.sl .nil (List.map e41 []))) :: (appD 1 (List.map e41 v19)) :: q31 []), [(.cells [(.v (.str a0.fName)), (dP e67 a0.fCells)]), (appO 2 (List.map e41 v19))]⟩ (by generalize v19 = z0; cases z0 <;> kernel_rfl) ?_
        exact hxx26 (v19, v20)  hsx29
  refine Wp.loop [1, 4, 5, 11, 12, 13] 1 (by kernel_rfl) (subc [1, 1, 0, 1, 0, 0] C34) (by kernel_rfl) (by kernel_rfl) ⟨q1 ((.v (.str a1)) :: q2 ((.v (.sl .nil (List.map e41 []))) :: (appD 1 (List.map e41 [])) :: q5 ((dP e67 a0.fCells) :: (dI ((a0.fCells.length : Int))) :: (dI 0) :: q23 []))), [(.cells [(.v (.str a0.fName)), (dP e67 a0.fCells)]), (appO 2 (List.map e41 []))]⟩ (by kernel_rfl) ?_
  rcases brk_some h with ⟨r40, er40, h⟩ | ⟨y39, ey39, h⟩
  · refine hLx38 _ [] 0  _ er40 n (by omega) (fun r er σ hσ => ?_) (fun y  ey => by cases ey)
    cases er
    refine seqQ.r ?_
    exact fnQ.r' (X34 n) (fun z => ((eL e41) z)) h hσ
  · refine hLx38 _ [] 0  _ ey39 n (by omega) (fun r er => by cases er) (fun y  ey => ?_)
    cases ey
    refine seqQ.n ?_
    refine Wp.seq (subc [1, 1, 1, 0] C34) (subc [1, 1, 1, 1] C34) (by kernel_rfl) ?_
    refine Wp.region (by kernel_rfl) ?_
    refine Ops.seg 2 2 (by kernel_rfl) ⟨q4 ((appD 1 (List.map e41 y39.1)) :: (appD 1 (List.map e41 y39.1)) :: q30 ((appD 1 (List.map e41 y39.1)) :: [])), [(.cells [(.v (.str a0.fName)), (dP e67 a0.fCells)]), (appO 2 (List.map e41 y39.1))]⟩ (by kernel_rfl) ?_
    refine Ops.done (by kernel_rfl) ?_
    refine seqQ.n ?_
    refine Wp.ret (by kernel_rfl) ?_
    exact fnQ.r' (X34 n) (fun z => ((eL e41) z)) h (RetOk.mk' (appD 1 (List.map e41 y39.1)) (by kernel_rfl) (appD_frz _ _ _ _))

/-! ### 13 glosswright/paradigm.Table -/
def f13 (m : Nat) (a0 : S23) (a1 : ByteArray) : Option ((List S41) × S27) :=
  bnd (f15 m a0) fun v1 =>
  cnd (!((v1.fCode == 0) && ((v1.fIndex == 0) && true)))
  (some (([], v1)))
  (bnd (f32 m a1) fun v2 =>
  cnd (!v2)
  (bnd (f33 m 5 ((-2))) fun v3 =>
  some (([], v3)))
  (bnd (f34 m a0 a1) fun v4 =>
  some ((v4, (⟨0, 0⟩ : S27)))))
noncomputable abbrev X13 (n : Nat) : Cx := cxOf Proofs.Tryd.prog E 13 n
noncomputable def C13 : Code := bodyOf Proofs.Tryd.prog 13
theorem ok13 (m : Nat) (a0 : S23) (a1 : ByteArray) (o : ((List S41) × S27)) (h : f13 m a0 a1 = some o) (n : Nat) (hn : m + 6 ≤ n) : Fn Proofs.Tryd.prog E n 13 [e23 a0, eS a1] (.tuple [(eL e41) o.1, e27 o.2]) := by
  obtain ⟨n, rfl⟩ : ∃ q, n = q + 1 := ⟨n - 1, by omega⟩
  unfold f13 at h
  refine Fn.of (by kernel_rfl) (by kernel_rfl) ⟨(.v (.agg [(.str a0.fName), (vP e67 a0.fCells)])) :: (.v (.str a1)) :: u19 [], []⟩ (by kernel_rfl) ?_
  refine Wp.seq (subc [0] C13) (subc [1] C13) (by kernel_rfl) ?_
  refine Wp.region (by kernel_rfl) ?_
  refine Ops.seg 3 3 (by kernel_rfl) ⟨(.v (.agg [(.str a0.fName), (vP e67 a0.fCells)])) :: (.v (.str a1)) :: (.ptr 0 0) :: u1 ((.v (.sl .nil (List.map e41 []))) :: (.ptr 1 0) :: u15 []), [(.cells [(.v (.str a0.fName)), (dP e67 a0.fCells)]), (.cells [(dI 0), (dI 0)])]⟩ (by kernel_rfl) ?_
  refine Ops.done (by kernel_rfl) ?_
  refine seqQ.n ?_
  refine Wp.seq (subc [1, 0] C13) (subc [1, 1] C13) (by kernel_rfl) ?_
  refine Wp.seq (subc [1, 0, 0] C13) (subc [1, 0, 1] C13) (by kernel_rfl) ?_
  refine Wp.region (by kernel_rfl) ?_
  refine Ops.seg 1 1 (by kernel_rfl) ⟨(.v (.agg [(.str a0.fName), (vP e67 a0.fCells)])) :: (.v (.str a1)) :: (.ptr 0 0) :: u1 ((.v (.sl .nil (List.map e41 []))) :: (.ptr 1 0) :: u1 ((.v (.agg [(.str a0.fName), (vP e67 a0.fCells)])) :: u13 [])), [(.cells [(.v (.str a0.fName)), (dP e67 a0.fCells)]), (.cells [(dI 0), (dI 0)])]⟩ (by kernel_rfl) ?_
  obtain ⟨v1, ev1, h⟩ := bnd_some h
  refine Ops.one 2 (by kernel_rfl) (callD (X13 n).E (run Proofs.Tryd.prog E n) 15 [(.v (.agg [(.str a0.fName), (vP e67 a0.fCells)]))] [(.cells [(.v (.str a0.fName)), (dP e67 a0.fCells)]), (.cells [(dI 0), (dI 0)])]) (.v (.agg [(vI v1.fCode), (vI v1.fIndex)])) [(.cells [(.v (.str a0.fName)), (dP e67 a0.fCells)]), (.cells [(dI 0), (dI 0)])] ⟨(.v (.agg [(.str a0.fName), (vP e67 a0.fCells)])) :: (.v (.str a1)) :: (.ptr 0 0) :: u1 ((.v (.sl .nil (List.map e41 []))) :: (.ptr 1 0) :: u1 ((.v (.agg [(.str a0.fName), (vP e67 a0.fCells)])) :: (.v (.agg [(vI v1.fCode), (vI v1.fIndex)])) :: u12 [])), [(.cells [(.v (.str a0.fName)), (dP e67 a0.fCells)]), (.cells [(dI 0), (dI 0)])]⟩ (by kernel_rfl) (call_ok (by kernel_rfl) (Args.v (.agg [(.str a0.fName), (vP e67 a0.fCells)]) (e23 a0) (by kernel_rfl) Args.nil) (ok15 m a0 v1 ev1 n (by omega))) (by kernel_rfl) ?_
  refine Ops.seg 2 4 (by kernel_rfl) ⟨(.v (.agg [(.str a0.fName), (vP e67 a0.fCells)])) :: (.v (.str a1)) :: (.ptr 0 0) :: u1 ((.v (.sl .nil (List.map e41 []))) :: (.ptr 1 0) :: (.ptr 2 0) :: (.v (.agg [(.str a0.fName), (vP e67 a0.fCells)])) :: (.v (.agg [(vI v1.fCode), (vI v1.fIndex)])) :: u12 []), [(.cells [(.v (.str a0.fName)), (dP e67 a0.fCells)]), (.cells [(dI 0), (dI 0)]), (.cells [(dI v1.fCode), (dI v1.fIndex)])]⟩ (by kernel_rfl) ?_
  refine Ops.done (by kernel_rfl) ?_
  refine seqQ.n ?_
  refine Wp.seq (subc [1, 0, 1, 0] C13) (subc [1, 0, 1, 1] C13) (by kernel_rfl) ?_
  refine Wp.region (by kernel_rfl) ?_
  refine Ops.seg 3 3 (by kernel_rfl) ⟨(.v (.agg [(.str a0.fName), (vP e67 a0.fCells)])) :: (.v (.str a1)) :: (.ptr 0 0) :: u1 ((.v (.sl .nil (List.map e41 []))) :: (.ptr 1 0) :: (.ptr 2 0) :: (.v (.agg [(.str a0.fName), (vP e67 a0.fCells)])) :: (.v (.agg [(vI v1.fCode), (vI v1.fIndex)])) :: (.v (.agg [(vI v1.fCode), (vI v1.fIndex)])) :: (.v (.agg [(vI 0), (vI 0)])) :: (dB (!((v1.fCode == 0) && ((v1.fIndex == 0) && true)))) :: u9 []), [(.cells [(.v (.str a0.fName)), (dP e67 a0.fCells)]), (.cells [(dI 0), (dI 0)]), (.cells [(dI v1.fCode), (dI v1.fIndex)])]⟩ (by kernel_rfl) ?_
  refine Ops.done (by kernel_rfl) ?_
  refine seqQ.n ?_
  rcases cnd_some h with ⟨hb, h⟩ | ⟨hb, h⟩
  · refine Wp.cond (!((v1.fCode == 0) && ((v1.fIndex == 0) && true))) [1, 2, 4, 5] (by kernel_rfl) 3 (by kernel_rfl) (subc [1, 0, 1, 1, 0] C13) (subc [1, 0, 1, 1, 1] C13) (by kernel_rfl) (by kernel_rfl) (fun _ => ?_) (fun e => nomatch (hb.symm.trans e))
    refine Wp.seq (subc [1, 0, 1, 1, 0, 0] C13) (subc [1, 0, 1, 1, 0, 1] C13) (by kernel_rfl) ?_
    refine Wp.region (by kernel_rfl) ?_
    refine Ops.seg 3 3 (by kernel_rfl) ⟨(.v (.agg [(.str a0.fName), (vP e67 a0.fCells)])) :: (.v (.str a1)) :: (.ptr 0 0) :: u1 ((.v (.sl .nil (List.map e41 []))) :: (.ptr 1 0) :: (.ptr 2 0) :: (.v (.agg [(.str a0.fName), (vP e67 a0.fCells)])) :: (.v (.agg [(vI v1.fCode), (vI v1.fIndex)])) :: (.v (.agg [(vI v1.fCode), (vI v1.fIndex)])) :: (.v (.agg [(vI 0), (vI 0)])) :: (dB (!((v1.fCode == 0) && ((v1.fIndex == 0) && true)))) :: (.v (.agg [(vI v1.fCode), (vI v1.fIndex)])) :: u8 []), [(.cells [(.v (.str a0.fName)), (dP e67 a0.fCells)]), (.cells [(dI v1.fCode), (dI v1.fIndex)]), (.cells [(dI v1.fCode), (dI v1.fIndex)])]⟩ (by kernel_rfl) ?_
    refine Ops.done (by kernel_rfl) ?_
    refine seqQ.n ?_
    refine Wp.ret (by kernel_rfl) ?_
    refine sqQ.r ?_
    refine seqQ.r ?_
    exact fnQ.r' (X13 n) (fun z => (.tuple [(eL e41) z.1, e27 z.2])) h (RetOk.mk' (.v (.tuple [(.sl .nil (List.map e41 [])), (.agg [(vI v1.fCode), (vI v1.fIndex)])])) (by kernel_rfl) (by kernel_rfl))
  · refine Wp.cond (!((v1.fCode == 0) && ((v1.fIndex == 0) && true))) [1, 2, 4, 5] (by kernel_rfl) 3 (by kernel_rfl) (subc [1, 0, 1, 1, 0] C13) (subc [1, 0, 1, 1, 1] C13) (by kernel_rfl) (by kernel_rfl) (fun e => nomatch (hb.symm.trans e)) (fun _ => ?_)
    refine Wp.skip (by kernel_rfl) ?_
    refine sqQ.n ⟨(.v (.agg [(.str a0.fName), (vP e67 a0.fCells)])) :: (.v (.str a1)) :: (.ptr 0 0) :: u1 ((.v (.sl .nil (List.map e41 []))) :: (.ptr 1 0) :: (.ptr 2 0) :: (.v (.agg [(.str a0.fName), (vP e67 a0.fCells)])) :: (.v (.agg [(vI v1.fCode), (vI v1.fIndex)])) :: (.v (.agg [(vI v1.fCode), (vI v1.fIndex)])) :: (.v (.agg [(vI 0), (vI 0)])) :: (dB (!((v1.fCode == 0) && ((v1.fIndex == 0) && true)))) :: u9 []), [(.cells [(.v (.str a0.fName)), (dP e67 a0.fCells)]), (.cells [(dI 0), (dI 0)]), (.cells [(dI v1.fCode), (dI v1.fIndex)])]⟩ (by kernel_rfl) ?_
    refine seqQ.n ?_
    refine Wp.seq (subc [1, 1, 0] C13) (subc [1, 1, 1] C13) (by kernel_rfl) ?_
    refine Wp.seq (subc [1, 1, 0, 0] C13) (subc [1, 1, 0, 1] C13) (by kernel_rfl) ?_
    refine Wp.region (by kernel_rfl) ?_
    refine Ops.seg 1 1 (by kernel_rfl) ⟨(.v (.agg [(.str a0.fName), (vP e67 a0.fCells)])) :: (.v (.str a1)) :: (.ptr 0 0) :: u1 ((.v (.sl .nil (List.map e41 []))) :: (.ptr 1 0) :: (.ptr 2 0) :: (.v (.agg [(.str a0.fName), (vP e67 a0.fCells)])) :: (.v (.agg [(vI v1.fCode), (vI v1.fIndex)])) :: (.v (.agg [(vI v1.fCode), (vI v1.fIndex)])) :: (.v (.agg [(vI 0), (vI 0)])) :: (dB (!((v1.fCode == 0) && ((v1.fIndex == 0) && true)))) :: u1 ((.v (.str a1)) :: u7 [])), [(.cells [(.v (.str a0.fName)), (dP e67 a0.fCells)]), (.cells [(dI 0), (dI 0)]), (.cells [(dI v1.fCode), (dI v1.fIndex)])]⟩ (by kernel_rfl) ?_
    obtain ⟨v2, ev2, h⟩ := bnd_some h
    refine Ops.one 2 (by kernel_rfl) (callD (X13 n).E (run Proofs.Tryd.prog E n) 32 [(.v (.str a1))] [(.cells [(.v (.str a0.fName)), (dP e67 a0.fCells)]), (.cells [(dI 0), (dI 0)]), (.cells [(dI v1.fCode), (dI v1.fIndex)])]) (dB v2) [(.cells [(.v (.str a0.fName)), (dP e67 a0.fCells)]), (.cells [(dI 0), (dI 0)]), (.cells [(dI v1.fCode), (dI v1.fIndex)])] ⟨(.v (.agg [(.str a0.fName), (vP e67 a0.fCells)])) :: (.v (.str a1)) :: (.ptr 0 0) :: u1 ((.v (.sl .nil (List.map e41 []))) :: (.ptr 1 0) :: (.ptr 2 0) :: (.v (.agg [(.str a0.fName), (vP e67 a0.fCells)])) :: (.v (.agg [(vI v1.fCode), (vI v1.fIndex)])) :: (.v (.agg [(vI v1.fCode), (vI v1.fIndex)])) :: (.v (.agg [(vI 0), (vI 0)])) :: (dB (!((v1.fCode == 0) && ((v1.fIndex == 0) && true)))) :: u1 ((.v (.str a1)) :: (dB v2) :: u6 [])), [(.cells [(.v (.str a0.fName)), (dP e67 a0.fCells)]), (.cells [(dI 0), (dI 0)]), (.cells [(dI v1.fCode), (dI v1.fIndex)])]⟩ (by kernel_rfl) (call_ok (by kernel_rfl) (Args.v (.str a1) (eS a1) (by kernel_rfl) Args.nil) (ok32 m a1 v2 ev2 n (by omega))) (by kernel_rfl) ?_
    refine Ops.seg 1 3 (by kernel_rfl) ⟨(.v (.agg [(.str a0.fName), (vP e67 a0.fCells)])) :: (.v (.str a1)) :: (.ptr 0 0) :: u1 ((.v (.sl .nil (List.map e41 []))) :: (.ptr 1 0) :: (.ptr 2 0) :: (.v (.agg [(.str a0.fName), (vP e67 a0.fCells)])) :: (.v (.agg [(vI v1.fCode), (vI v1.fIndex)])) :: (.v (.agg [(vI v1.fCode), (vI v1.fIndex)])) :: (.v (.agg [(vI 0), (vI 0)])) :: (dB (!((v1.fCode == 0) && ((v1.fIndex == 0) && true)))) :: u1 ((.v (.str a1)) :: (dB v2) :: (dB (!v2)) :: u5 [])), [(.cells [(.v (.str a0.fName)), (dP e67 a0.fCells)]), (.cells [(dI 0), (dI 0)]), (.cells [(dI v1.fCode), (dI v1.fIndex)])]⟩ (by kernel_rfl) ?_
    refine Ops.done (by kernel_rfl) ?_
    refine seqQ.n ?_
    rcases cnd_some h with ⟨hb, h⟩ | ⟨hb, h⟩
    · refine Wp.cond (!v2) [1, 2, 4, 5] (by kernel_rfl) 3 (by kernel_rfl) (subc [1, 1, 0, 1, 0] C13) (subc [1, 1, 0, 1, 1] C13) (by kernel_rfl) (by kernel_rfl) (fun _ => ?_) (fun e => nomatch (hb.symm.trans e))
      refine Wp.seq (subc [1, 1, 0, 1, 0, 0] C13) (subc [1, 1, 0, 1, 0, 1] C13) (by kernel_rfl) ?_
      refine Wp.region (by kernel_rfl) ?_
      obtain ⟨v3, ev3, h⟩ := bnd_some h
      refine Ops.one 1 (by kernel_rfl) (callD (X13 n).E (run Proofs.Tryd.prog E n) 33 [(dI 5), (dI ((-2)))] [(.cells [(.v (.str a0.fName)), (dP e67 a0.fCells)]), (.cells [(dI 0), (dI 0)]), (.cells [(dI v1.fCode), (dI v1.fIndex)])]) (.v (.agg [(vI v3.fCode), (vI v3.fIndex)])) [(.cells [(.v (.str a0.fName)), (dP e67 a0.fCells)]), (.cells [(dI 0), (dI 0)]), (.cells [(dI v1.fCode), (dI v1.fIndex)])] ⟨(.v (.agg [(.str a0.fName), (vP e67 a0.fCells)])) :: (.v (.str a1)) :: (.ptr 0 0) :: u1 ((.v (.sl .nil (List.map e41 []))) :: (.ptr 1 0) :: (.ptr 2 0) :: (.v (.agg [(.str a0.fName), (vP e67 a0.fCells)])) :: (.v (.agg [(vI v1.fCode), (vI v1.fIndex)])) :: (.v (.agg [(vI v1.fCode), (vI v1.fIndex)])) :: (.v (.agg [(vI 0), (vI 0)])) :: (dB (!((v1.fCode == 0) && ((v1.fIndex == 0) && true)))) :: u1 ((.v (.str a1)) :: (dB v2) :: (dB (!v2)) :: (.v (.agg [(vI v3.fCode), (vI v3.fIndex)])) :: u4 [])), [(.cells [(.v (.str a0.fName)), (dP e67 a0.fCells)]), (.cells [(dI 0), (dI 0)]), (.cells [(dI v1.fCode), (dI v1.fIndex)])]⟩ (by kernel_rfl) (call_ok (by kernel_rfl) (Args.v (vI 5) (eI 5) (by kernel_rfl) (Args.v (vI ((-2))) (eI ((-2))) (by kernel_rfl) Args.nil)) (ok33 m 5 ((-2)) v3 ev3 n (by omega))) (by kernel_rfl) ?_
      refine Ops.seg 2 3 (by kernel_rfl) ⟨(.v (.agg [(.str a0.fName), (vP e67 a0.fCells)])) :: (.v (.str a1)) :: (.ptr 0 0) :: u1 ((.v (.sl .nil (List.map e41 []))) :: (.ptr 1 0) :: (.ptr 2 0) :: (.v (.agg [(.str a0.fName), (vP e67 a0.fCells)])) :: (.v (.agg [(vI v1.fCode), (vI v1.fIndex)])) :: (.v (.agg [(vI v1.fCode), (vI v1.fIndex)])) :: (.v (.agg [(vI 0), (vI 0)])) :: (dB (!((v1.fCode == 0) && ((v1.fIndex == 0) && true)))) :: u1 ((.v (.str a1)) :: (dB v2) :: (dB (!v2)) :: (.v (.agg [(vI v3.fCode), (vI v3.fIndex)])) :: u4 [])), [(.cells [(.v (.str a0.fName)), (dP e67 a0.fCells)]), (.cells [(dI v3.fCode), (dI v3.fIndex)]), (.cells [(dI v1.fCode), (dI v1.fIndex)])]⟩ (by kernel_rfl) ?_
      refine Ops.done (by kernel_rfl) ?_
      refine seqQ.n ?_
      refine Wp.ret (by kernel_rfl) ?_
      refine sqQ.r ?_
      refine seqQ.r ?_
      exact fnQ.r' (X13 n) (fun z => (.tuple [(eL e41) z.1, e27 z.2])) h (RetOk.mk' (.v (.tuple [(.sl .nil (List.map e41 [])), (.agg [(vI v3.fCode), (vI v3.fIndex)])])) (by kernel_rfl) (by kernel_rfl))
    · refine Wp.cond (!v2) [1, 2, 4, 5] (by kernel_rfl) 3 (by kernel_rfl) (subc [1, 1, 0, 1, 0] C13) (subc [1, 1, 0, 1, 1] C13) (by kernel_rfl) (by kernel_rfl) (fun e => nomatch (hb.symm.trans e)) (fun _ => ?_)
      refine Wp.skip (by kernel_rfl) ?_
      refine sqQ.n ⟨(.v (.agg [(.str a0.fName), (vP e67 a0.fCells)])) :: (.v (.str a1)) :: (.ptr 0 0) :: u1 ((.v (.sl .nil (List.map e41 []))) :: (.ptr 1 0) :: (.ptr 2 0) :: (.v (.agg [(.str a0.fName), (vP e67 a0.fCells)])) :: (.v (.agg [(vI v1.fCode), (vI v1.fIndex)])) :: (.v (.agg [(vI v1.fCode), (vI v1.fIndex)])) :: (.v (.agg [(vI 0), (vI 0)])) :: (dB (!((v1.fCode == 0) && ((v1.fIndex == 0) && true)))) :: u1 ((.v (.str a1)) :: (dB v2) :: (dB (!v2)) :: u5 [])), [(.cells [(.v (.str a0.fName)), (dP e67 a0.fCells)]), (.cells [(dI 0), (dI 0)]), (.cells [(dI v1.fCode), (dI v1.fIndex)])]⟩ (by kernel_rfl) ?_
      refine seqQ.n ?_
      refine Wp.seq (subc [1, 1, 1, 0] C13) (subc [1, 1, 1, 1] C13) (by kernel_rfl) ?_
      refine Wp.region (by kernel_rfl) ?_
      refine Ops.seg 2 2 (by kernel_rfl) ⟨(.v (.agg [(.str a0.fName), (vP e67 a0.fCells)])) :: (.v (.str a1)) :: (.ptr 0 0) :: u1 ((.v (.sl .nil (List.map e41 []))) :: (.ptr 1 0) :: (.ptr 2 0) :: (.v (.agg [(.str a0.fName), (vP e67 a0.fCells)])) :: (.v (.agg [(vI v1.fCode), (vI v1.fIndex)])) :: (.v (.agg [(vI v1.fCode), (vI v1.fIndex)])) :: (.v (.agg [(vI 0), (vI 0)])) :: (dB (!((v1.fCode == 0) && ((v1.fIndex == 0) && true)))) :: u1 ((.v (.str a1)) :: (dB v2) :: (dB (!v2)) :: u1 ((.v (.agg [(.str a0.fName), (vP e67 a0.fCells)])) :: (.v (.str a1)) :: u2 []))), [(.cells [(.v (.str a0.fName)), (dP e67 a0.fCells)]), (.cells [(dI 0), (dI 0)]), (.cells [(dI v1.fCode), (dI v1.fIndex)])]⟩ (by kernel_rfl) ?_
      obtain ⟨v4, ev4, h⟩ := bnd_some h
      refine Ops.one 3 (by kernel_rfl) (callD (X13 n).E (run Proofs.Tryd.prog E n) 34 [(.v (.agg [(.str a0.fName), (vP e67 a0.fCells)])), (.v (.str a1))] [(.cells [(.v (.str a0.fName)), (dP e67 a0.fCells)]), (.cells [(dI 0), (dI 0)]), (.cells [(dI v1.fCode), (dI v1.fIndex)])]) (dP e41 v4) [(.cells [(.v (.str a0.fName)), (dP e67 a0.fCells)]), (.cells [(dI 0), (dI 0)]), (.cells [(dI v1.fCode), (dI v1.fIndex)])] ⟨(.v (.agg [(.str a0.fName), (vP e67 a0.fCells)])) :: (.v (.str a1)) :: (.ptr 0 0) :: u1 ((.v (.sl .nil (List.map e41 []))) :: (.ptr 1 0) :: (.ptr 2 0) :: (.v (.agg [(.str a0.fName), (vP e67 a0.fCells)])) :: (.v (.agg [(vI v1.fCode), (vI v1.fIndex)])) :: (.v (.agg [(vI v1.fCode), (vI v1.fIndex)])) :: (.v (.agg [(vI 0), (vI 0)])) :: (dB (!((v1.fCode == 0) && ((v1.fIndex == 0) && true)))) :: u1 ((.v (.str a1)) :: (dB v2) :: (dB (!v2)) :: u1 ((.v (.agg [(.str a0.fName), (vP e67 a0.fCells)])) :: (.v (.str a1)) :: (dP e41 v4) :: u1 []))), [(.cells [(.v (.str a0.fName)), (dP e67 a0.fCells)]), (.cells [(dI 0), (dI 0)]), (.cells [(dI v1.fCode), (dI v1.fIndex)])]⟩ (by kernel_rfl) (call_ok (by kernel_rfl) (Args.v (.agg [(.str a0.fName), (vP e67 a0.fCells)]) (e23 a0) (by kernel_rfl) (Args.v (.str a1) (eS a1) (by kernel_rfl) Args.nil)) (ok34 m a0 a1 v4 ev4 n (by omega))) (by kernel_rfl) ?_
      refine Ops.seg 3 6 (by kernel_rfl) ⟨(.v (.agg [(.str a0.fName), (vP e67 a0.fCells)])) :: (.v (.str a1)) :: (.ptr 0 0) :: u1 ((dP e41 v4) :: (.ptr 1 0) :: (.ptr 2 0) :: (.v (.agg [(.str a0.fName), (vP e67 a0.fCells)])) :: (.v (.agg [(vI v1.fCode), (vI v1.fIndex)])) :: (.v (.agg [(vI v1.fCode), (vI v1.fIndex)])) :: (.v (.agg [(vI 0), (vI 0)])) :: (dB (!((v1.fCode == 0) && ((v1.fIndex == 0) && true)))) :: u1 ((.v (.str a1)) :: (dB v2) :: (dB (!v2)) :: u1 ((.v (.agg [(.str a0.fName), (vP e67 a0.fCells)])) :: (.v (.str a1)) :: (dP e41 v4) :: (.v (.agg [(vI 0), (vI 0)])) :: []))), [(.cells [(.v (.str a0.fName)), (dP e67 a0.fCells)]), (.cells [(dI 0), (dI 0)]), (.cells [(dI v1.fCode), (dI v1.fIndex)])]⟩ (by kernel_rfl) ?_
      refine Ops.done (by kernel_rfl) ?_
      refine seqQ.n ?_
      refine Wp.ret (by kernel_rfl) ?_
      exact fnQ.r' (X13 n) (fun z => (.tuple [(eL e41) z.1, e27 z.2])) h (RetOk.mk' (.v (.tuple [(vP e41 v4), (.agg [(vI 0), (vI 0)])])) (by kernel_rfl) (by kernel_rfl))

end Go.Abs
