import Derived.Test.YthjhdnonlkooiaaDoorWF1
namespace Go.Abs
set_option linter.unusedVariables false
set_option maxRecDepth 100000

/-! ### 37 glosswright/glosswrightref6.TagsFault -/
def f37_B1 (m : Nat) (a0 : (List ByteArray)) (v6 : Int) : Option (Stp Int (Int)) :=
  cnd (decide (v6 < (a0.length : Int)))
  (bnd (idx a0 v6) fun v16 =>
  bnd (f35 m v16) fun v17 =>
  cnd (!v17)
  (some (.ret 10))
  (some (.nxt (w64 (v6 + 1)))))
  (some (.brk v6))
def f37 (m : Nat) (a0 : (List ByteArray)) (a1 : Int) : Option Int :=
  cnd (decide ((a0.length : Int) > a1))
  (some 2)
  (brk (iter (fun (y : Int) => f37_B1 m a0 y) m 0) some fun y19 =>
  some 0)
noncomputable abbrev X37 (n : Nat) : Cx := cxOf Proofs.Tryd.prog E 37 n
noncomputable def C37 : Code := bodyOf Proofs.Tryd.prog 37
theorem ok37 (m : Nat) (a0 : (List ByteArray)) (a1 : Int) (o : Int) (h : f37 m a0 a1 = some o) (n : Nat) (hn : m + 2 ≤ n) : Fn Proofs.Tryd.prog E n 37 [.v ((eL eS) a0), .v (eI a1)] (eI o) := by
  obtain ⟨n, rfl⟩ : ∃ q, n = q + 1 := ⟨n - 1, by omega⟩
  unfold f37 at h
  refine Fn.of (by kernel_rfl) (by kernel_rfl) (by kernel_rfl) ⟨(dP eS a0) :: (dI a1) :: u19 [], []⟩ (by kernel_rfl) ?_
  refine Wp.seq' (by kernel_rfl) ?_
  refine Wp.region (by kernel_rfl) ?_
  refine Ops.seg' 1 1 (by kernel_rfl) ?_
  refine Ops.done (by kernel_rfl) ?_
  refine seqQ.n ?_
  refine Wp.seq' (by kernel_rfl) ?_
  refine Wp.seq' (by kernel_rfl) ?_
  refine Wp.region (by kernel_rfl) ?_
  refine Ops.seg' 1 1 (by kernel_rfl) ?_
  refine Ops.one' 2 (fun h0 e0 => (len_r (T := T) h0 36 9 .plain eS a0 (by kernel_rfl))) (by kernel_rfl) (by kernel_rfl) ?_
  refine Ops.seg' 2 4 (by kernel_rfl) ?_
  refine Ops.done (by kernel_rfl) ?_
  refine seqQ.n ?_
  refine Wp.cnd h [0, 4] 0 (by kernel_rfl) (fun h => ?_) (fun h => ?_)
  · refine Wp.seq' (by kernel_rfl) ?_
    refine Wp.region (by kernel_rfl) ?_
    refine Ops.seg' 1 1 (by kernel_rfl) ?_
    refine Ops.done (by kernel_rfl) ?_
    refine seqQ.n ?_
    refine Wp.ret (by kernel_rfl) ?_
    refine sqQ.r ?_
    refine seqQ.r ?_
    exact fnQ.r' (X37 n) (fun z => (eI z)) h (RetOk.mk' (dI 2) (by kernel_rfl) (by kernel_rfl))
  · refine Wp.skip (by kernel_rfl) ?_
    refine sqQ.n' ?_
    refine seqQ.n ?_
    refine Wp.seq' (by kernel_rfl) ?_
    refine Wp.seq' (by kernel_rfl) ?_
    refine Wp.region (by kernel_rfl) ?_
    refine Ops.seg' 1 1 (by kernel_rfl) ?_
    refine Ops.one' 2 (fun h0 e0 => (len_r (T := T) h0 36 9 .plain eS a0 (by kernel_rfl))) (by kernel_rfl) (by kernel_rfl) ?_
    refine Ops.seg' 1 3 (by kernel_rfl) ?_
    refine Ops.done (by kernel_rfl) ?_
    refine seqQ.n ?_
    refine Wp.block' 0 [4] 0 (by kernel_rfl) ?_
    have hLx18 : ∀ (kx8 : Nat) (v6 : Int)  (ox7 : Int ⊕ (Int)), iter (fun (y : Int) => f37_B1 m a0 y) kx8 v6 = some ox7 → ∀ nx9, kx8 ≤ nx9 → (∀ r, ox7 = .inl r → ∀ σ, RetOk (X37 n) (resOf Proofs.Tryd.prog 37) (eI r) σ → (seqQ (X37 n) (cR (cR (cR C37))) (fnQ (X37 n).E.T (resOf Proofs.Tryd.prog 37) (eI o))) .ret σ) → (∀ (y : Int) , ox7 = .inr y → (seqQ (X37 n) (cR (cR (cR C37))) (fnQ (X37 n).E.T (resOf Proofs.Tryd.prog 37) (eI o))) .normal ⟨q4 ((dI 0) :: q6 ((dP eS a0) :: (dI ((a0.length : Int))) :: (dI y) :: q7 [])), []⟩) → Lp (X37 n) [4, 11, 12, 13] 0 (cL (cL (cR (cL (cR (cR C37)))))) nx9 ⟨q4 ((dI 0) :: q6 ((dP eS a0) :: (dI ((a0.length : Int))) :: (dI v6) :: q7 [])), []⟩ (blkQ (X37 n) 0 [4] 0 (seqQ (X37 n) (cR (cR (cR C37))) (fnQ (X37 n).E.T (resOf Proofs.Tryd.prog 37) (eI o)))) := by
      intro kx8
      induction kx8 with
      | zero => intro v6  ox7 h; exact (iter_zero h).elim
      | succ kx8 ihx10 =>
        intro v6  ox7 h nx9 hnx13 hrx11 hxx12
        obtain ⟨nx9, rfl⟩ : ∃ q, nx9 = q + 1 := ⟨nx9 - 1, by omega⟩
        obtain ⟨sx14, h, hsx15⟩ := iter_some h
        have h : f37_B1 m a0 v6 = some sx14 := h
        unfold f37_B1 at h
        refine Lp.succ ?_
        refine Wp.seq' (by kernel_rfl) ?_
        refine Wp.region (by kernel_rfl) ?_
        refine Ops.seg' 1 1 (by kernel_rfl) ?_
        refine Ops.done (by kernel_rfl) ?_
        refine seqQ.n ?_
        refine Wp.seq' (by kernel_rfl) ?_
        refine Wp.cnd h [4, 11, 12, 13] 0 (by kernel_rfl) (fun h => ?_) (fun h => ?_)
        · refine Wp.skip (by kernel_rfl) ?_
          refine sqQ.n' ?_
          refine seqQ.n ?_
          refine Wp.seq' (by kernel_rfl) ?_
          refine Wp.block' 1 [4, 11, 12, 13] 0 (by kernel_rfl) ?_
          refine Wp.seq' (by kernel_rfl) ?_
          refine Wp.region (by kernel_rfl) ?_
          obtain ⟨v16, ev16, h⟩ := bnd_some h
          refine Ops.one' 1 (fun h0 e0 => (ix_r (T := T) h0 36 9 1 .plain eS a0 v6 v16 ev16 (by kernel_rfl) (by kernel_rfl) (fun _ => rfl))) (by kernel_rfl) (by kernel_rfl) ?_
          refine Ops.seg' 2 3 (by kernel_rfl) ?_
          refine Ops.done (by kernel_rfl) ?_
          refine seqQ.n ?_
          refine Wp.seq' (by kernel_rfl) ?_
          refine Wp.region (by kernel_rfl) ?_
          refine Ops.seg' 1 1 (by kernel_rfl) ?_
          obtain ⟨v17, ev17, h⟩ := bnd_some h
          refine Ops.one' 2 (fun h0 e0 => (call_ok (E' := E) (h := h0) (by kernel_rfl) (Args.v (.str v16) (eS v16) (by kernel_rfl) Args.nil) (ok35 m v16 v17 ev17 n (by omega)))) (by kernel_rfl) (by kernel_rfl) ?_
          refine Ops.seg' 1 3 (by kernel_rfl) ?_
          refine Ops.done (by kernel_rfl) ?_
          refine seqQ.n ?_
          refine Wp.cnd h [4, 11, 12, 13] 0 (by kernel_rfl) (fun h => ?_) (fun h => ?_)
          · refine Wp.seq' (by kernel_rfl) ?_
            refine Wp.region (by kernel_rfl) ?_
            refine Ops.seg' 1 1 (by kernel_rfl) ?_
            refine Ops.done (by kernel_rfl) ?_
            refine seqQ.n ?_
            refine Wp.ret (by kernel_rfl) ?_
            refine sqQ.r ?_
            refine blkQ.r ?_
            refine seqQ.r ?_
            cases h
            refine lpQ.r ?_
            refine blkQ.r ?_
            exact hrx11 _ hsx15 _ (RetOk.forget [4, 11, 12, 13] (by kernel_rfl) (RetOk.mk' (dI 10) (by kernel_rfl) (by kernel_rfl)))
          · refine Wp.skip (by kernel_rfl) ?_
            refine sqQ.n' ?_
            refine blkQ.n' ?_
            refine seqQ.n ?_
            refine Wp.region (by kernel_rfl) ?_
            refine Ops.seg' 2 2 (by kernel_rfl) ?_
            refine Ops.done (by kernel_rfl) ?_
            refine lpQ.n ⟨q4 ((dI 0) :: q6 ((dP eS a0) :: (dI ((a0.length : Int))) :: (dI (w64 (v6 + 1))) :: q7 [])), []⟩ (by kernel_rfl) ?_
            cases h
            exact ihx10 (w64 (v6 + 1))  _ hsx15 _ (by omega) hrx11 hxx12
        · refine Wp.exit (id := 0) (by kernel_rfl) ?_
          refine sqQ.x ?_
          refine seqQ.x ?_
          cases h
          refine lpQ.x ?_
          refine blkQ.x ⟨q4 ((dI 0) :: q6 ((dP eS a0) :: (dI ((a0.length : Int))) :: (dI v6) :: q7 [])), []⟩ (by kernel_rfl) ?_
          exact hxx12 v6  hsx15
    refine Wp.loop' [4, 11, 12, 13] 0 (by kernel_rfl) ⟨q4 ((dI 0) :: q6 ((dP eS a0) :: (dI ((a0.length : Int))) :: (dI 0) :: q7 [])), []⟩ (by kernel_rfl) ?_
    rcases brk_some h with ⟨r20, er20, h⟩ | ⟨y19, ey19, h⟩
    · refine hLx18 _ 0  _ er20 n (by omega) (fun r er σ hσ => ?_) (fun y  ey => by cases ey)
      cases er
      refine seqQ.r ?_
      exact fnQ.r' (X37 n) (fun z => (eI z)) h hσ
    · refine hLx18 _ 0  _ ey19 n (by omega) (fun r er => by cases er) (fun y  ey => ?_)
      cases ey
      refine seqQ.n ?_
      refine Wp.seq' (by kernel_rfl) ?_
      refine Wp.region (by kernel_rfl) ?_
      refine Ops.seg' 1 1 (by kernel_rfl) ?_
      refine Ops.done (by kernel_rfl) ?_
      refine seqQ.n ?_
      refine Wp.ret (by kernel_rfl) ?_
      exact fnQ.r' (X37 n) (fun z => (eI z)) h (RetOk.mk' (dI 0) (by kernel_rfl) (by kernel_rfl))

/-! ### 64 glosswright/glosswrightref5.fault -/
def f64 (m : Nat) (a0 : Int) (a1 : Int) : Option S27 :=
  some ((⟨a0, a1⟩ : S27))
noncomputable abbrev X64 (n : Nat) : Cx := cxOf Proofs.Tryd.prog E 64 n
noncomputable def C64 : Code := bodyOf Proofs.Tryd.prog 64
theorem ok64 (m : Nat) (a0 : Int) (a1 : Int) (o : S27) (h : f64 m a0 a1 = some o) (n : Nat) (hn : m + 1 ≤ n) : Fn Proofs.Tryd.prog E n 64 [.v (eI a0), .v (eI a1)] (e27 o) := by
  obtain ⟨n, rfl⟩ : ∃ q, n = q + 1 := ⟨n - 1, by omega⟩
  unfold f64 at h
  refine Fn.of (by kernel_rfl) (by kernel_rfl) (by kernel_rfl) ⟨(dI a0) :: (dI a1) :: u6 [], []⟩ (by kernel_rfl) ?_
  refine Wp.seq' (by kernel_rfl) ?_
  refine Wp.region (by kernel_rfl) ?_
  refine Ops.seg' 1 1 (by kernel_rfl) ?_
  refine Ops.done (by kernel_rfl) ?_
  refine seqQ.n ?_
  refine Wp.seq' (by kernel_rfl) ?_
  refine Wp.region (by kernel_rfl) ?_
  refine Ops.seg' 4 4 (by kernel_rfl) ?_
  refine Ops.done (by kernel_rfl) ?_
  refine seqQ.n ?_
  refine Wp.ret (by kernel_rfl) ?_
  exact fnQ.r' (X64 n) (fun z => (e27 z)) h (RetOk.mk' (.v (.agg [(vI a0), (vI a1)])) (by kernel_rfl) (by kernel_rfl))

/-! ### 85 glosswright/glosswrightref5.Scalar -/
def f85_r1 (m : Nat) (v17 : Bool) : Option Bool :=
  some v17
def f85_r2 (m : Nat) (a0 : Int) (v6 : Bool) : Option Bool :=
  f85_r1 m ((v6 || (((decide (a0 > 57343)) && (decide (a0 ≤ 1114111))))))
def f85 (m : Nat) (a0 : Int) : Option Bool :=
  f85_r2 m a0 (((decide (a0 ≥ 0)) && (decide (a0 < 55296))))
noncomputable abbrev X85 (n : Nat) : Cx := cxOf Proofs.Tryd.prog E 85 n
noncomputable def C85 : Code := bodyOf Proofs.Tryd.prog 85
theorem ok85 (m : Nat) (a0 : Int) (o : Bool) (h : f85 m a0 = some o) (n : Nat) (hn : m + 1 ≤ n) : Fn Proofs.Tryd.prog E n 85 [.v (eI a0)] (eB o) := by
  obtain ⟨n, rfl⟩ : ∃ q, n = q + 1 := ⟨n - 1, by omega⟩
  unfold f85 at h
  refine Fn.of (by kernel_rfl) (by kernel_rfl) (by kernel_rfl) ⟨(dI a0) :: u16 [], []⟩ (by kernel_rfl) ?_
  refine Wp.seq' (by kernel_rfl) ?_
  refine Wp.region (by kernel_rfl) ?_
  refine Ops.seg' 1 1 (by kernel_rfl) ?_
  refine Ops.done (by kernel_rfl) ?_
  refine seqQ.n ?_
  refine Wp.seq' (by kernel_rfl) ?_
  refine Wp.region (by kernel_rfl) ?_
  refine Ops.seg' 3 3 (by kernel_rfl) ?_
  have J85j7 : ∀ (d3 d4 : D) (v5 : Bool) (v6 : Bool), f85_r2 m a0 v6 = some o → Ops (X85 n) (opl (cL (cR C85))) 6 ⟨(dI a0) :: u1 ((dB false) :: (dI a0) :: (dB v5) :: (dB v5) :: d3 :: d4 :: (dB v6) :: u8 []), []⟩ ((seqQ (X85 n) (cR (cR C85)) (fnQ (X85 n).E.T (resOf Proofs.Tryd.prog 85) (eB o))) .normal) := by
    intro d3 d4 v5 v6 h
    unfold f85_r2 at h
    refine Ops.seg' 1 7 (by kernel_rfl) ?_
    have J85j18 : ∀ (d10 d11 d12 d13 d14 d15 : D) (v16 : Bool) (v17 : Bool), f85_r1 m v17 = some o → Ops (X85 n) (opl (cL (cR C85))) 14 ⟨(dI a0) :: u1 ((dB false) :: (dI a0) :: (dB v5) :: (dB v5) :: d3 :: d4 :: (dB v16) :: (dB v16) :: d10 :: d11 :: d12 :: d13 :: d14 :: d15 :: (dB v17) :: []), []⟩ ((seqQ (X85 n) (cR (cR C85)) (fnQ (X85 n).E.T (resOf Proofs.Tryd.prog 85) (eB o))) .normal) := by
      intro d10 d11 d12 d13 d14 d15 v16 v17 h
      unfold f85_r1 at h
      refine Ops.seg' 1 15 (by kernel_rfl) ?_
      refine Ops.done (by kernel_rfl) ?_
      refine seqQ.n ?_
      refine Wp.ret (by kernel_rfl) ?_
      exact fnQ.r' (X85 n) (fun z => (eB z)) h (RetOk.mk' (dB v17) (by kernel_rfl) (by kernel_rfl))
    have G85g9 : ∀ v8 : Bool, f85_r1 m ((v8 || (((decide (a0 > 57343)) && (decide (a0 ≤ 1114111)))))) = some o → Ops (X85 n) (opl (cL (cR C85))) 7 ⟨(dI a0) :: u1 ((dB false) :: (dI a0) :: (dB v5) :: (dB v5) :: d3 :: d4 :: (dB v8) :: (dB v8) :: u7 []), []⟩ ((seqQ (X85 n) (cR (cR C85)) (fnQ (X85 n).E.T (resOf Proofs.Tryd.prog 85) (eB o))) .normal) := by
      intro v8 h
      cases v8
      · refine Ops.seg' 3 10 (by kernel_rfl) ?_
        have G85g20 : ∀ v19 : Bool, (f85_r1 m ((false || ((v19 && (decide (a0 ≤ 1114111))))))) = some o → Ops (X85 n) (opl (cL (cR C85))) 10 ⟨(dI a0) :: u1 ((dB false) :: (dI a0) :: (dB v5) :: (dB v5) :: d3 :: d4 :: (dB false) :: (dB false) :: (dI a0) :: (dB v19) :: (dB v19) :: u4 []), []⟩ ((seqQ (X85 n) (cR (cR C85)) (fnQ (X85 n).E.T (resOf Proofs.Tryd.prog 85) (eB o))) .normal) := by
          intro v19 h
          cases v19
          · refine Ops.seg' 4 14 (by kernel_rfl) ?_
            refine Ops.st ⟨(dI a0) :: u1 ((dB false) :: (dI a0) :: (dB v5) :: (dB v5) :: d3 :: d4 :: (dB false) :: (dB false) :: (dI a0) :: (dB false) :: (dB false) :: u2 ((dB false) :: (dB false) :: [])), []⟩ (by kernel_rfl) ?_
            exact J85j18 _ _ _ _ _ _ _ _ h
          · refine Ops.seg' 4 14 (by kernel_rfl) ?_
            refine Ops.st ⟨(dI a0) :: u1 ((dB false) :: (dI a0) :: (dB v5) :: (dB v5) :: d3 :: d4 :: (dB false) :: (dB false) :: (dI a0) :: (dB true) :: (dB true) :: (dI a0) :: (dB (decide (a0 ≤ 1114111))) :: (dB (decide (a0 ≤ 1114111))) :: (dB (decide (a0 ≤ 1114111))) :: []), []⟩ (by kernel_rfl) ?_
            exact J85j18 _ _ _ _ _ _ _ _ h
        exact Ops.st ⟨(dI a0) :: u1 ((dB false) :: (dI a0) :: (dB v5) :: (dB v5) :: d3 :: d4 :: (dB false) :: (dB false) :: (dI a0) :: (dB ((decide (a0 > 57343)))) :: (dB ((decide (a0 > 57343)))) :: u4 []), []⟩ (by kernel_rfl) (G85g20 (decide (a0 > 57343)) h)
      · refine Ops.seg' 7 14 (by kernel_rfl) ?_
        refine Ops.st ⟨(dI a0) :: u1 ((dB false) :: (dI a0) :: (dB v5) :: (dB v5) :: d3 :: d4 :: (dB true) :: (dB true) :: u6 ((dB true) :: [])), []⟩ (by kernel_rfl) ?_
        exact J85j18 _ _ _ _ _ _ _ _ h
    exact Ops.st ⟨(dI a0) :: u1 ((dB false) :: (dI a0) :: (dB v5) :: (dB v5) :: d3 :: d4 :: (dB v6) :: (dB v6) :: u7 []), []⟩ (by kernel_rfl) (G85g9 v6 h)
  have G85g2 : ∀ v1 : Bool, f85_r2 m a0 ((v1 && (decide (a0 < 55296)))) = some o → Ops (X85 n) (opl (cL (cR C85))) 3 ⟨(dI a0) :: u1 ((dB false) :: (dI a0) :: (dB v1) :: (dB v1) :: u11 []), []⟩ ((seqQ (X85 n) (cR (cR C85)) (fnQ (X85 n).E.T (resOf Proofs.Tryd.prog 85) (eB o))) .normal) := by
    intro v1 h
    cases v1
    · refine Ops.seg' 3 6 (by kernel_rfl) ?_
      refine Ops.st ⟨(dI a0) :: u1 ((dB false) :: (dI a0) :: (dB false) :: (dB false) :: u2 ((dB false) :: u8 [])), []⟩ (by kernel_rfl) ?_
      exact J85j7 _ _ _ _ h
    · refine Ops.seg' 3 6 (by kernel_rfl) ?_
      refine Ops.st ⟨(dI a0) :: u1 ((dB false) :: (dI a0) :: (dB true) :: (dB true) :: (dI a0) :: (dB (decide (a0 < 55296))) :: (dB (decide (a0 < 55296))) :: u8 []), []⟩ (by kernel_rfl) ?_
      exact J85j7 _ _ _ _ h
  exact Ops.st ⟨(dI a0) :: u1 ((dB false) :: (dI a0) :: (dB ((decide (a0 ≥ 0)))) :: (dB ((decide (a0 ≥ 0)))) :: u11 []), []⟩ (by kernel_rfl) (G85g2 (decide (a0 ≥ 0)) h)

/-! ### 66 glosswright/glosswrightref5.Width -/
def f66 (m : Nat) (a0 : Int) : Option Int :=
  cnd (decide (a0 < 128))
  (some 1)
  (cnd (decide (a0 < 2048))
  (some 2)
  (cnd (decide (a0 < 65536))
  (some 3)
  (some 4)))
noncomputable abbrev X66 (n : Nat) : Cx := cxOf Proofs.Tryd.prog E 66 n
noncomputable def C66 : Code := bodyOf Proofs.Tryd.prog 66
theorem ok66 (m : Nat) (a0 : Int) (o : Int) (h : f66 m a0 = some o) (n : Nat) (hn : m + 1 ≤ n) : Fn Proofs.Tryd.prog E n 66 [.v (eI a0)] (eI o) := by
  obtain ⟨n, rfl⟩ : ∃ q, n = q + 1 := ⟨n - 1, by omega⟩
  unfold f66 at h
  refine Fn.of (by kernel_rfl) (by kernel_rfl) (by kernel_rfl) ⟨(dI a0) :: u8 [], []⟩ (by kernel_rfl) ?_
  refine Wp.seq' (by kernel_rfl) ?_
  refine Wp.region (by kernel_rfl) ?_
  refine Ops.seg' 1 1 (by kernel_rfl) ?_
  refine Ops.done (by kernel_rfl) ?_
  refine seqQ.n ?_
  refine Wp.seq' (by kernel_rfl) ?_
  refine Wp.seq' (by kernel_rfl) ?_
  refine Wp.region (by kernel_rfl) ?_
  refine Ops.seg' 2 2 (by kernel_rfl) ?_
  refine Ops.done (by kernel_rfl) ?_
  refine seqQ.n ?_
  refine Wp.cnd h [0, 2] 0 (by kernel_rfl) (fun h => ?_) (fun h => ?_)
  · refine Wp.seq' (by kernel_rfl) ?_
    refine Wp.region (by kernel_rfl) ?_
    refine Ops.seg' 1 1 (by kernel_rfl) ?_
    refine Ops.done (by kernel_rfl) ?_
    refine seqQ.n ?_
    refine Wp.ret (by kernel_rfl) ?_
    refine sqQ.r ?_
    refine seqQ.r ?_
    exact fnQ.r' (X66 n) (fun z => (eI z)) h (RetOk.mk' (dI 1) (by kernel_rfl) (by kernel_rfl))
  · refine Wp.skip (by kernel_rfl) ?_
    refine sqQ.n' ?_
    refine seqQ.n ?_
    refine Wp.seq' (by kernel_rfl) ?_
    refine Wp.seq' (by kernel_rfl) ?_
    refine Wp.region (by kernel_rfl) ?_
    refine Ops.seg' 2 2 (by kernel_rfl) ?_
    refine Ops.done (by kernel_rfl) ?_
    refine seqQ.n ?_
    refine Wp.cnd h [0, 2] 0 (by kernel_rfl) (fun h => ?_) (fun h => ?_)
    · refine Wp.seq' (by kernel_rfl) ?_
      refine Wp.region (by kernel_rfl) ?_
      refine Ops.seg' 1 1 (by kernel_rfl) ?_
      refine Ops.done (by kernel_rfl) ?_
      refine seqQ.n ?_
      refine Wp.ret (by kernel_rfl) ?_
      refine sqQ.r ?_
      refine seqQ.r ?_
      exact fnQ.r' (X66 n) (fun z => (eI z)) h (RetOk.mk' (dI 2) (by kernel_rfl) (by kernel_rfl))
    · refine Wp.skip (by kernel_rfl) ?_
      refine sqQ.n' ?_
      refine seqQ.n ?_
      refine Wp.seq' (by kernel_rfl) ?_
      refine Wp.seq' (by kernel_rfl) ?_
      refine Wp.region (by kernel_rfl) ?_
      refine Ops.seg' 2 2 (by kernel_rfl) ?_
      refine Ops.done (by kernel_rfl) ?_
      refine seqQ.n ?_
      refine Wp.cnd h [2] 0 (by kernel_rfl) (fun h => ?_) (fun h => ?_)
      · refine Wp.seq' (by kernel_rfl) ?_
        refine Wp.region (by kernel_rfl) ?_
        refine Ops.seg' 1 1 (by kernel_rfl) ?_
        refine Ops.done (by kernel_rfl) ?_
        refine seqQ.n ?_
        refine Wp.ret (by kernel_rfl) ?_
        refine sqQ.r ?_
        refine seqQ.r ?_
        exact fnQ.r' (X66 n) (fun z => (eI z)) h (RetOk.mk' (dI 3) (by kernel_rfl) (by kernel_rfl))
      · refine Wp.skip (by kernel_rfl) ?_
        refine sqQ.n' ?_
        refine seqQ.n ?_
        refine Wp.seq' (by kernel_rfl) ?_
        refine Wp.region (by kernel_rfl) ?_
        refine Ops.seg' 1 1 (by kernel_rfl) ?_
        refine Ops.done (by kernel_rfl) ?_
        refine seqQ.n ?_
        refine Wp.ret (by kernel_rfl) ?_
        exact fnQ.r' (X66 n) (fun z => (eI z)) h (RetOk.mk' (dI 4) (by kernel_rfl) (by kernel_rfl))

/-! ### 65 glosswright/glosswrightref5.one -/
def f65_r1 (m : Nat) (v35 : Int) (v36 : Int) (v46 : Int) (v52 : Bool) : Option (Stp Int (Int × Int)) :=
  cnd v52
  (some (.ret ((-1))))
  (some (.nxt (w64 (w64 (w64 (v35 * 64) + w64 v46) - 128), w64 (v36 + 1))))
def f65_B2 (m : Nat) (a0 : ByteArray) (a1 : Int) (v2 : Int) (v35 : Int) (v36 : Int) : Option (Stp Int (Int × Int)) :=
  cnd (decide (v36 < v2))
  (bnd (sidx a0 (w64 (a1 + v36))) fun v46 =>
  f65_r1 m v35 v36 v46 (((decide (w64 v46 < 128)) || (decide (w64 v46 > 191)))))
  (some (.brk (v35, v36)))
def f65_r3 (m : Nat) (y55 : Int × Int) (v65 : Bool) : Option Int :=
  cnd v65
  (some ((-1)))
  (some y55.1)
def f65_j4 (m : Nat) (a0 : ByteArray) (a1 : Int) (v2 : Int) (v3 : Int) : Option Int :=
  cnd (decide (w64 (a1 + v2) > (a0.size : Int)))
  (some ((-1)))
  (brk (iter (fun (y : Int × Int) => f65_B2 m a0 a1 v2 y.1 y.2) m (v3, 1)) some fun y55 =>
  bnd (f85 m y55.1) fun v57 =>
  bnd (cnd (!v57)
  (some true)
  (bnd (f66 m y55.1) fun v67 =>
  some (v67 != v2))) fun v65 =>
  f65_r3 m y55 v65)
def f65_j5 (m : Nat) (a0 : ByteArray) (a1 : Int) (v68 : Int) (v69 : Int) : Option Int :=
  f65_j4 m a0 a1 v68 v69
def f65_j6 (m : Nat) (a0 : ByteArray) (a1 : Int) (v79 : Int) (v80 : Int) : Option Int :=
  f65_j5 m a0 a1 v79 v80
def f65 (m : Nat) (a0 : ByteArray) (a1 : Int) : Option Int :=
  bnd (sidx a0 a1) fun v1 =>
  cnd (decide (w64 v1 ≥ 240))
  (f65_j4 m a0 a1 4 (w64 (w64 v1 - 240)))
  (cnd (decide (w64 v1 ≥ 224))
  (f65_j5 m a0 a1 3 (w64 (w64 v1 - 224)))
  (cnd (decide (w64 v1 ≥ 192))
  (f65_j6 m a0 a1 2 (w64 (w64 v1 - 192)))
  (cnd (decide (w64 v1 ≥ 128))
  (some ((-1)))
  (f65_j6 m a0 a1 1 (w64 v1)))))
noncomputable abbrev X65 (n : Nat) : Cx := cxOf Proofs.Tryd.prog E 65 n
noncomputable def C65 : Code := bodyOf Proofs.Tryd.prog 65
theorem ok65 (m : Nat) (a0 : ByteArray) (a1 : Int) (o : Int) (h : f65 m a0 a1 = some o) (n : Nat) (hn : m + 2 ≤ n) : Fn Proofs.Tryd.prog E n 65 [.v (eS a0), .v (eI a1)] (eI o) := by
  obtain ⟨n, rfl⟩ : ∃ q, n = q + 1 := ⟨n - 1, by omega⟩
  unfold f65 at h
  refine Fn.of (by kernel_rfl) (by kernel_rfl) (by kernel_rfl) ⟨(.v (.str a0)) :: (dI a1) :: u40 (u25 []), []⟩ (by kernel_rfl) ?_
  refine Wp.seq' (by kernel_rfl) ?_
  refine Wp.region (by kernel_rfl) ?_
  refine Ops.seg' 1 1 (by kernel_rfl) ?_
  refine Ops.done (by kernel_rfl) ?_
  refine seqQ.n ?_
  refine Wp.seq' (by kernel_rfl) ?_
  refine Wp.region (by kernel_rfl) ?_
  refine Ops.seg' 2 2 (by kernel_rfl) ?_
  obtain ⟨v1, ev1, h⟩ := bnd_some h
  refine Ops.one' 3 (fun h0 e0 => (str_ix (T := T) h0 9 a0 a1 v1 ev1 (by kernel_rfl))) (by kernel_rfl) (by kernel_rfl) ?_
  refine Ops.seg' 2 5 (by kernel_rfl) ?_
  refine Ops.done (by kernel_rfl) ?_
  refine seqQ.n ?_
  refine Wp.seq' (by kernel_rfl) ?_
  refine Wp.region (by kernel_rfl) ?_
  refine Ops.seg' 1 1 (by kernel_rfl) ?_
  refine Ops.done (by kernel_rfl) ?_
  refine seqQ.n ?_
  refine Wp.seq' (by kernel_rfl) ?_
  refine Wp.region (by kernel_rfl) ?_
  refine Ops.seg' 2 2 (by kernel_rfl) ?_
  refine Ops.done (by kernel_rfl) ?_
  refine seqQ.n ?_
  refine Wp.seq' (by kernel_rfl) ?_
  refine Wp.seq' (by kernel_rfl) ?_
  refine Wp.region (by kernel_rfl) ?_
  refine Ops.seg' 2 2 (by kernel_rfl) ?_
  refine Ops.done (by kernel_rfl) ?_
  refine seqQ.n ?_
  have J65j16 : ∀ (v2 : Int) (v3 : Int) (d4 : D) (d5 : D) (d6 : D) (d7 : D) (d8 : D) (d9 : D) (d10 : D) (d11 : D) (d12 : D) (d13 : D) (d14 : D) (d15 : D), f65_j4 m a0 a1 v2 v3 = some o → (seqQ (X65 n) (cR (cR (cR (cR (cR C65))))) (fnQ (X65 n).E.T (resOf Proofs.Tryd.prog 65) (eI o))) .normal ⟨(.v (.str a0)) :: (dI a1) :: u2 ((dI 0) :: (dI (w64 v1)) :: (dI v2) :: (dI v3) :: u2 ((.v (.str a0)) :: (dI a1) :: (.v (.int .u8 v1)) :: (dI (w64 v1)) :: (dI (w64 v1)) :: (dI (w64 v1)) :: (dB (decide (w64 v1 ≥ 240))) :: d4 :: d5 :: d6 :: d7 :: d8 :: d9 :: d10 :: d11 :: d12 :: d13 :: d14 :: d15 :: u38 [])), []⟩ := by
    intro v2 v3 d4 d5 d6 d7 d8 d9 d10 d11 d12 d13 d14 d15 h
    unfold f65_j4 at h
    refine seqQ.n ?_
    refine Wp.seq' (by kernel_rfl) ?_
    refine Wp.seq' (by kernel_rfl) ?_
    refine Wp.region (by kernel_rfl) ?_
    refine Ops.seg' 6 6 (by kernel_rfl) ?_
    refine Ops.done (by kernel_rfl) ?_
    refine seqQ.n ?_
    refine Wp.cnd h [0, 1, 4, 6, 7] 0 (by kernel_rfl) (fun h => ?_) (fun h => ?_)
    · refine Wp.seq' (by kernel_rfl) ?_
      refine Wp.region (by kernel_rfl) ?_
      refine Ops.seg' 1 1 (by kernel_rfl) ?_
      refine Ops.done (by kernel_rfl) ?_
      refine seqQ.n ?_
      refine Wp.ret (by kernel_rfl) ?_
      refine sqQ.r ?_
      refine seqQ.r ?_
      exact fnQ.r' (X65 n) (fun z => (eI z)) h (RetOk.mk' (dI ((-1))) (by kernel_rfl) (by kernel_rfl))
    · refine Wp.skip (by kernel_rfl) ?_
      refine sqQ.n' ?_
      refine seqQ.n ?_
      refine Wp.seq' (by kernel_rfl) ?_
      refine Wp.seq' (by kernel_rfl) ?_
      refine Wp.region (by kernel_rfl) ?_
      refine Ops.seg' 1 1 (by kernel_rfl) ?_
      refine Ops.done (by kernel_rfl) ?_
      refine seqQ.n ?_
      refine Wp.block' 0 [4, 6, 7] 0 (by kernel_rfl) ?_
      have hLx54 : ∀ (kx38 : Nat) (v35 : Int) (v36 : Int)  (ox37 : Int ⊕ (Int × Int)), iter (fun (y : Int × Int) => f65_B2 m a0 a1 v2 y.1 y.2) kx38 (v35, v36) = some ox37 → ∀ nx39, kx38 ≤ nx39 → (∀ r, ox37 = .inl r → ∀ σ, RetOk (X65 n) (resOf Proofs.Tryd.prog 65) (eI r) σ → (seqQ (X65 n) (cR (cR (cR (cR (cR (cR (cR C65))))))) (fnQ (X65 n).E.T (resOf Proofs.Tryd.prog 65) (eI o))) .ret σ) → (∀ (y : Int × Int) , ox37 = .inr y → (seqQ (X65 n) (cR (cR (cR (cR (cR (cR (cR C65))))))) (fnQ (X65 n).E.T (resOf Proofs.Tryd.prog 65) (eI o))) .normal ⟨(.v (.str a0)) :: (dI a1) :: q2 ((dI 0) :: q1 ((dI v2) :: (dI y.1) :: (dI y.2) :: q40 (q18 []))), []⟩) → Lp (X65 n) [0, 1, 4, 6, 7, 8] 0 (cL (cL (cR (cL (cR (cR (cR (cR (cR (cR C65)))))))))) nx39 ⟨(.v (.str a0)) :: (dI a1) :: q2 ((dI 0) :: q1 ((dI v2) :: (dI v35) :: (dI v36) :: q40 (q18 []))), []⟩ (blkQ (X65 n) 0 [4, 6, 7] 0 (seqQ (X65 n) (cR (cR (cR (cR (cR (cR (cR C65))))))) (fnQ (X65 n).E.T (resOf Proofs.Tryd.prog 65) (eI o)))) := by
        intro kx38
        induction kx38 with
        | zero => intro v35 v36  ox37 h; exact (iter_zero h).elim
        | succ kx38 ihx40 =>
          intro v35 v36  ox37 h nx39 hnx43 hrx41 hxx42
          obtain ⟨nx39, rfl⟩ : ∃ q, nx39 = q + 1 := ⟨nx39 - 1, by omega⟩
          obtain ⟨sx44, h, hsx45⟩ := iter_some h
          have h : f65_B2 m a0 a1 v2 v35 v36 = some sx44 := h
          unfold f65_B2 at h
          refine Lp.succ ?_
          refine Wp.seq' (by kernel_rfl) ?_
          refine Wp.seq' (by kernel_rfl) ?_
          refine Wp.region (by kernel_rfl) ?_
          refine Ops.seg' 3 3 (by kernel_rfl) ?_
          refine Ops.done (by kernel_rfl) ?_
          refine seqQ.n ?_
          refine Wp.cnd h [0, 1, 4, 6, 7, 8] 0 (by kernel_rfl) (fun h => ?_) (fun h => ?_)
          · refine Wp.skip (by kernel_rfl) ?_
            refine sqQ.n' ?_
            refine seqQ.n ?_
            refine Wp.seq' (by kernel_rfl) ?_
            refine Wp.block' 1 [0, 1, 4, 6, 7, 8] 0 (by kernel_rfl) ?_
            refine Wp.seq' (by kernel_rfl) ?_
            refine Wp.region (by kernel_rfl) ?_
            refine Ops.seg' 4 4 (by kernel_rfl) ?_
            obtain ⟨v46, ev46, h⟩ := bnd_some h
            refine Ops.one' 5 (fun h0 e0 => (str_ix (T := T) h0 9 a0 (w64 (a1 + v36)) v46 ev46 (by kernel_rfl))) (by kernel_rfl) (by kernel_rfl) ?_
            refine Ops.seg' 2 7 (by kernel_rfl) ?_
            refine Ops.done (by kernel_rfl) ?_
            refine seqQ.n ?_
            refine Wp.seq' (by kernel_rfl) ?_
            refine Wp.seq' (by kernel_rfl) ?_
            refine Wp.region (by kernel_rfl) ?_
            refine Ops.seg' 3 3 (by kernel_rfl) ?_
            have J65j53 : ∀ (d49 d50 : D) (v51 : Bool) (v52 : Bool), f65_r1 m v35 v36 v46 v52 = some sx44 → Ops (X65 n) (opl (cL (cL (cR (cL (cL (cR (cL (cL (cR (cL (cR (cR (cR (cR (cR (cR C65))))))))))))))))) 6 ⟨(.v (.str a0)) :: (dI a1) :: q2 ((dI 0) :: q1 ((dI v2) :: (dI v35) :: (dI v36) :: (dI (w64 v46)) :: q25 ((dI v36) :: (dI v2) :: (dB (decide (v36 < v2))) :: q2 ((.v (.str a0)) :: (dI a1) :: (dI v36) :: (dI (w64 (a1 + v36))) :: (.v (.int .u8 v46)) :: (dI (w64 v46)) :: (dI (w64 v46)) :: (dB v51) :: (dB v51) :: d49 :: d50 :: (dB v52) :: q15 [])))), []⟩ ((seqQ (X65 n) (cR (cL (cR (cL (cL (cR (cL (cL (cR (cL (cR (cR (cR (cR (cR (cR C65)))))))))))))))) (seqQ (X65 n) (cR (cR (cL (cL (cR (cL (cL (cR (cL (cR (cR (cR (cR (cR (cR C65))))))))))))))) (blkQ (X65 n) 1 [0, 1, 4, 6, 7, 8] 0 (seqQ (X65 n) (cR (cR (cL (cL (cR (cL (cR (cR (cR (cR (cR (cR C65)))))))))))) (lpQ (X65 n) [0, 1, 4, 6, 7, 8] 0 (cL (cL (cR (cL (cR (cR (cR (cR (cR (cR C65)))))))))) nx39 (blkQ (X65 n) 0 [4, 6, 7] 0 (seqQ (X65 n) (cR (cR (cR (cR (cR (cR (cR C65))))))) (fnQ (X65 n).E.T (resOf Proofs.Tryd.prog 65) (eI o))))))))) .normal) := by
              intro d49 d50 v51 v52 h
              unfold f65_r1 at h
              refine Ops.done (by kernel_rfl) ?_
              refine seqQ.n ?_
              refine Wp.cnd h [0, 1, 4, 6, 7, 8, 9] 0 (by kernel_rfl) (fun h => ?_) (fun h => ?_)
              · refine Wp.seq' (by kernel_rfl) ?_
                refine Wp.region (by kernel_rfl) ?_
                refine Ops.seg' 1 1 (by kernel_rfl) ?_
                refine Ops.done (by kernel_rfl) ?_
                refine seqQ.n ?_
                refine Wp.ret (by kernel_rfl) ?_
                refine sqQ.r ?_
                refine seqQ.r ?_
                refine blkQ.r ?_
                refine seqQ.r ?_
                cases h
                refine lpQ.r ?_
                refine blkQ.r ?_
                exact hrx41 _ hsx45 _ (RetOk.forget [0, 1, 4, 6, 7, 8] (by kernel_rfl) (RetOk.mk' (dI ((-1))) (by kernel_rfl) (by kernel_rfl)))
              · refine Wp.skip (by kernel_rfl) ?_
                refine sqQ.n' ?_
                refine seqQ.n ?_
                refine Wp.region (by kernel_rfl) ?_
                refine Ops.seg' 6 6 (by kernel_rfl) ?_
                refine Ops.done (by kernel_rfl) ?_
                refine blkQ.n' ?_
                refine seqQ.n ?_
                refine Wp.region (by kernel_rfl) ?_
                refine Ops.seg' 3 3 (by kernel_rfl) ?_
                refine Ops.done (by kernel_rfl) ?_
                refine lpQ.n ⟨(.v (.str a0)) :: (dI a1) :: q2 ((dI 0) :: q1 ((dI v2) :: (dI (w64 (w64 (w64 (v35 * 64) + w64 v46) - 128))) :: (dI (w64 (v36 + 1))) :: q40 (q18 []))), []⟩ (by kernel_rfl) ?_
                cases h
                exact ihx40 (w64 (w64 (w64 (v35 * 64) + w64 v46) - 128)) (w64 (v36 + 1))  _ hsx45 _ (by omega) hrx41 hxx42
            have G65g48 : ∀ v47 : Bool, f65_r1 m v35 v36 v46 ((v47 || (decide (w64 v46 > 191)))) = some sx44 → Ops (X65 n) (opl (cL (cL (cR (cL (cL (cR (cL (cL (cR (cL (cR (cR (cR (cR (cR (cR C65))))))))))))))))) 3 ⟨(.v (.str a0)) :: (dI a1) :: q2 ((dI 0) :: q1 ((dI v2) :: (dI v35) :: (dI v36) :: (dI (w64 v46)) :: q25 ((dI v36) :: (dI v2) :: (dB (decide (v36 < v2))) :: q2 ((.v (.str a0)) :: (dI a1) :: (dI v36) :: (dI (w64 (a1 + v36))) :: (.v (.int .u8 v46)) :: (dI (w64 v46)) :: (dI (w64 v46)) :: (dB v47) :: (dB v47) :: q18 [])))), []⟩ ((seqQ (X65 n) (cR (cL (cR (cL (cL (cR (cL (cL (cR (cL (cR (cR (cR (cR (cR (cR C65)))))))))))))))) (seqQ (X65 n) (cR (cR (cL (cL (cR (cL (cL (cR (cL (cR (cR (cR (cR (cR (cR C65))))))))))))))) (blkQ (X65 n) 1 [0, 1, 4, 6, 7, 8] 0 (seqQ (X65 n) (cR (cR (cL (cL (cR (cL (cR (cR (cR (cR (cR (cR C65)))))))))))) (lpQ (X65 n) [0, 1, 4, 6, 7, 8] 0 (cL (cL (cR (cL (cR (cR (cR (cR (cR (cR C65)))))))))) nx39 (blkQ (X65 n) 0 [4, 6, 7] 0 (seqQ (X65 n) (cR (cR (cR (cR (cR (cR (cR C65))))))) (fnQ (X65 n).E.T (resOf Proofs.Tryd.prog 65) (eI o))))))))) .normal) := by
              intro v47 h
              cases v47
              · refine Ops.seg' 3 6 (by kernel_rfl) ?_
                refine Ops.st ⟨(.v (.str a0)) :: (dI a1) :: q2 ((dI 0) :: q1 ((dI v2) :: (dI v35) :: (dI v36) :: (dI (w64 v46)) :: q25 ((dI v36) :: (dI v2) :: (dB (decide (v36 < v2))) :: q2 ((.v (.str a0)) :: (dI a1) :: (dI v36) :: (dI (w64 (a1 + v36))) :: (.v (.int .u8 v46)) :: (dI (w64 v46)) :: (dI (w64 v46)) :: (dB false) :: (dB false) :: (dI (w64 v46)) :: (dB (decide (w64 v46 > 191))) :: (dB (decide (w64 v46 > 191))) :: q15 [])))), []⟩ (by kernel_rfl) ?_
                exact J65j53 _ _ _ _ h
              · refine Ops.seg' 3 6 (by kernel_rfl) ?_
                refine Ops.st ⟨(.v (.str a0)) :: (dI a1) :: q2 ((dI 0) :: q1 ((dI v2) :: (dI v35) :: (dI v36) :: (dI (w64 v46)) :: q25 ((dI v36) :: (dI v2) :: (dB (decide (v36 < v2))) :: q2 ((.v (.str a0)) :: (dI a1) :: (dI v36) :: (dI (w64 (a1 + v36))) :: (.v (.int .u8 v46)) :: (dI (w64 v46)) :: (dI (w64 v46)) :: (dB true) :: (dB true) :: u2 ((dB true) :: q15 []))))), []⟩ (by kernel_rfl) ?_
                exact J65j53 _ _ _ _ h
            exact Ops.st ⟨(.v (.str a0)) :: (dI a1) :: q2 ((dI 0) :: q1 ((dI v2) :: (dI v35) :: (dI v36) :: (dI (w64 v46)) :: q25 ((dI v36) :: (dI v2) :: (dB (decide (v36 < v2))) :: q2 ((.v (.str a0)) :: (dI a1) :: (dI v36) :: (dI (w64 (a1 + v36))) :: (.v (.int .u8 v46)) :: (dI (w64 v46)) :: (dI (w64 v46)) :: (dB ((decide (w64 v46 < 128)))) :: (dB ((decide (w64 v46 < 128)))) :: q18 [])))), []⟩ (by kernel_rfl) (G65g48 (decide (w64 v46 < 128)) h)
          · refine Wp.exit (id := 0) (by kernel_rfl) ?_
            refine sqQ.x ?_
            refine seqQ.x ?_
            cases h
            refine lpQ.x ?_
            refine blkQ.x ⟨(.v (.str a0)) :: (dI a1) :: q2 ((dI 0) :: q1 ((dI v2) :: (dI v35) :: (dI v36) :: q40 (q18 []))), []⟩ (by kernel_rfl) ?_
            exact hxx42 (v35, v36)  hsx45
      refine Wp.loop' [0, 1, 4, 6, 7, 8] 0 (by kernel_rfl) ⟨(.v (.str a0)) :: (dI a1) :: q2 ((dI 0) :: q1 ((dI v2) :: (dI v3) :: (dI 1) :: q40 (q18 []))), []⟩ (by kernel_rfl) ?_
      rcases brk_some h with ⟨r56, er56, h⟩ | ⟨y55, ey55, h⟩
      · refine hLx54 _ v3 1  _ er56 n (by omega) (fun r er σ hσ => ?_) (fun y  ey => by cases ey)
        cases er
        refine seqQ.r ?_
        exact fnQ.r' (X65 n) (fun z => (eI z)) h hσ
      · refine hLx54 _ v3 1  _ ey55 n (by omega) (fun r er => by cases er) (fun y  ey => ?_)
        cases ey
        refine seqQ.n ?_
        refine Wp.seq' (by kernel_rfl) ?_
        refine Wp.seq' (by kernel_rfl) ?_
        refine Wp.region (by kernel_rfl) ?_
        refine Ops.seg' 1 1 (by kernel_rfl) ?_
        obtain ⟨v57, ev57, h⟩ := bnd_some h
        refine Ops.one' 2 (fun h0 e0 => (call_ok (E' := E) (h := h0) (by kernel_rfl) (Args.v (vI y55.1) (eI y55.1) (by kernel_rfl) Args.nil) (ok85 m y55.1 v57 ev57 n (by omega)))) (by kernel_rfl) (by kernel_rfl) ?_
        refine Ops.seg' 2 4 (by kernel_rfl) ?_
        have J65j66 : ∀ (d60 d61 d62 d63 : D) (v64 : Bool) (v65 : Bool), f65_r3 m y55 v65 = some o → Ops (X65 n) (opl (cL (cL (cR (cR (cR (cR (cR (cR (cR C65)))))))))) 9 ⟨(.v (.str a0)) :: (dI a1) :: q2 ((dI 0) :: q1 ((dI v2) :: (dI y55.1) :: (dI y55.2) :: q40 (q8 ((dI y55.1) :: (dB v57) :: (dB v64) :: (dB v64) :: d60 :: d61 :: d62 :: d63 :: (dB v65) :: q1 [])))), []⟩ ((seqQ (X65 n) (cR (cL (cR (cR (cR (cR (cR (cR (cR C65))))))))) (seqQ (X65 n) (cR (cR (cR (cR (cR (cR (cR (cR C65)))))))) (fnQ (X65 n).E.T (resOf Proofs.Tryd.prog 65) (eI o)))) .normal) := by
          intro d60 d61 d62 d63 v64 v65 h
          unfold f65_r3 at h
          refine Ops.done (by kernel_rfl) ?_
          refine seqQ.n ?_
          refine Wp.cnd h [4, 7] 0 (by kernel_rfl) (fun h => ?_) (fun h => ?_)
          · refine Wp.seq' (by kernel_rfl) ?_
            refine Wp.region (by kernel_rfl) ?_
            refine Ops.seg' 1 1 (by kernel_rfl) ?_
            refine Ops.done (by kernel_rfl) ?_
            refine seqQ.n ?_
            refine Wp.ret (by kernel_rfl) ?_
            refine sqQ.r ?_
            refine seqQ.r ?_
            exact fnQ.r' (X65 n) (fun z => (eI z)) h (RetOk.mk' (dI ((-1))) (by kernel_rfl) (by kernel_rfl))
          · refine Wp.skip (by kernel_rfl) ?_
            refine sqQ.n' ?_
            refine seqQ.n ?_
            refine Wp.seq' (by kernel_rfl) ?_
            refine Wp.region (by kernel_rfl) ?_
            refine Ops.seg' 2 2 (by kernel_rfl) ?_
            refine Ops.done (by kernel_rfl) ?_
            refine seqQ.n ?_
            refine Wp.ret (by kernel_rfl) ?_
            exact fnQ.r' (X65 n) (fun z => (eI z)) h (RetOk.mk' (dI y55.1) (by kernel_rfl) (by kernel_rfl))
        obtain ⟨v65, ev65, h⟩ := bnd_some h
        have G65g59 : ∀ v58 : Bool, (cnd v58 (some true) (bnd (f66 m y55.1) fun v67 => some (v67 != v2))) = some v65 → Ops (X65 n) (opl (cL (cL (cR (cR (cR (cR (cR (cR (cR C65)))))))))) 4 ⟨(.v (.str a0)) :: (dI a1) :: q2 ((dI 0) :: q1 ((dI v2) :: (dI y55.1) :: (dI y55.2) :: q40 (q8 ((dI y55.1) :: (dB v57) :: (dB v58) :: (dB v58) :: q6 [])))), []⟩ ((seqQ (X65 n) (cR (cL (cR (cR (cR (cR (cR (cR (cR C65))))))))) (seqQ (X65 n) (cR (cR (cR (cR (cR (cR (cR (cR C65)))))))) (fnQ (X65 n).E.T (resOf Proofs.Tryd.prog 65) (eI o)))) .normal) := by
          intro v58 ev65
          cases v58
          · have ev65 := cnd_f ev65
            refine Ops.seg' 1 5 (by kernel_rfl) ?_
            obtain ⟨v67, ev67, ev65⟩ := bnd_some ev65
            refine Ops.one' 6 (fun h0 e0 => (call_ok (E' := E) (h := h0) (by kernel_rfl) (Args.v (vI y55.1) (eI y55.1) (by kernel_rfl) Args.nil) (ok66 m y55.1 v67 ev67 n (by omega)))) (by kernel_rfl) (by kernel_rfl) ?_
            refine Ops.seg' 3 9 (by kernel_rfl) ?_
            refine Ops.st ⟨(.v (.str a0)) :: (dI a1) :: q2 ((dI 0) :: q1 ((dI v2) :: (dI y55.1) :: (dI y55.2) :: q40 (q8 ((dI y55.1) :: (dB v57) :: (dB false) :: (dB false) :: (dI y55.1) :: (dI v67) :: (dI v2) :: (dB (v67 != v2)) :: (dB (v67 != v2)) :: q1 [])))), []⟩ (by kernel_rfl) ?_
            exact J65j66 _ _ _ _ _ _ (some_sub (fun v65 => f65_r3 m y55 v65 = some o) ev65 h)
          · have ev65 := cnd_t ev65
            refine Ops.seg' 5 9 (by kernel_rfl) ?_
            refine Ops.st ⟨(.v (.str a0)) :: (dI a1) :: q2 ((dI 0) :: q1 ((dI v2) :: (dI y55.1) :: (dI y55.2) :: q40 (q8 ((dI y55.1) :: (dB v57) :: (dB true) :: (dB true) :: u4 ((dB true) :: q1 []))))), []⟩ (by kernel_rfl) ?_
            exact J65j66 _ _ _ _ _ _ (some_sub (fun v65 => f65_r3 m y55 v65 = some o) ev65 h)
        exact Ops.st ⟨(.v (.str a0)) :: (dI a1) :: q2 ((dI 0) :: q1 ((dI v2) :: (dI y55.1) :: (dI y55.2) :: q40 (q8 ((dI y55.1) :: (dB v57) :: (dB ((!v57))) :: (dB ((!v57))) :: q6 [])))), []⟩ (by kernel_rfl) (G65g59 (!v57) ev65)
  refine Wp.cnd h [0, 1, 4, 6, 7] 0 (by kernel_rfl) (fun h => ?_) (fun h => ?_)
  · refine Wp.seq' (by kernel_rfl) ?_
    refine Wp.region (by kernel_rfl) ?_
    refine Ops.seg' 1 1 (by kernel_rfl) ?_
    refine Ops.done (by kernel_rfl) ?_
    refine seqQ.n ?_
    refine Wp.region (by kernel_rfl) ?_
    refine Ops.seg' 3 3 (by kernel_rfl) ?_
    refine Ops.done (by kernel_rfl) ?_
    refine sqQ.n ⟨(.v (.str a0)) :: (dI a1) :: u2 ((dI 0) :: (dI (w64 v1)) :: (dI 4) :: (dI (w64 (w64 v1 - 240))) :: u2 ((.v (.str a0)) :: (dI a1) :: (.v (.int .u8 v1)) :: (dI (w64 v1)) :: (dI (w64 v1)) :: (dI (w64 v1)) :: (dB (decide (w64 v1 ≥ 240))) :: (dI (w64 v1)) :: (dI (w64 (w64 v1 - 240))) :: u40 (u8 []))), []⟩ (by kernel_rfl) ?_
    exact J65j16 4 (w64 (w64 v1 - 240)) _ _ _ _ _ _ _ _ _ _ _ _ h
  · refine Wp.seq' (by kernel_rfl) ?_
    refine Wp.region (by kernel_rfl) ?_
    refine Ops.seg' 2 2 (by kernel_rfl) ?_
    refine Ops.done (by kernel_rfl) ?_
    refine seqQ.n ?_
    have J65j78 : ∀ (v68 : Int) (v69 : Int) (d70 : D) (d71 : D) (d72 : D) (d73 : D) (d74 : D) (d75 : D) (d76 : D) (d77 : D), f65_j5 m a0 a1 v68 v69 = some o → (sqQ (X65 n) [0, 1, 4, 6, 7] 0 (seqQ (X65 n) (cR (cR (cR (cR (cR C65))))) (fnQ (X65 n).E.T (resOf Proofs.Tryd.prog 65) (eI o)))) .normal ⟨(.v (.str a0)) :: (dI a1) :: u2 ((dI 0) :: (dI (w64 v1)) :: (dI v68) :: (dI v69) :: u2 ((.v (.str a0)) :: (dI a1) :: (.v (.int .u8 v1)) :: (dI (w64 v1)) :: (dI (w64 v1)) :: (dI (w64 v1)) :: (dB (decide (w64 v1 ≥ 240))) :: u2 ((dI (w64 v1)) :: (dB (decide (w64 v1 ≥ 224))) :: d70 :: d71 :: d72 :: d73 :: d74 :: d75 :: d76 :: d77 :: u38 []))), []⟩ := by
      intro v68 v69 d70 d71 d72 d73 d74 d75 d76 d77 h
      unfold f65_j5 at h
      refine sqQ.n ⟨(.v (.str a0)) :: (dI a1) :: u2 ((dI 0) :: (dI (w64 v1)) :: (dI v68) :: (dI v69) :: u2 ((.v (.str a0)) :: (dI a1) :: (.v (.int .u8 v1)) :: (dI (w64 v1)) :: (dI (w64 v1)) :: (dI (w64 v1)) :: (dB (decide (w64 v1 ≥ 240))) :: u2 ((dI (w64 v1)) :: (dB (decide (w64 v1 ≥ 224))) :: d70 :: d71 :: d72 :: d73 :: d74 :: d75 :: d76 :: d77 :: u38 []))), []⟩ (by kernel_rfl) ?_
      exact J65j16 v68 v69 _ _ _ _ _ _ _ _ _ _ _ _ h
    refine Wp.cnd h [0, 1, 4, 6, 7] 0 (by kernel_rfl) (fun h => ?_) (fun h => ?_)
    · refine Wp.seq' (by kernel_rfl) ?_
      refine Wp.region (by kernel_rfl) ?_
      refine Ops.seg' 1 1 (by kernel_rfl) ?_
      refine Ops.done (by kernel_rfl) ?_
      refine seqQ.n ?_
      refine Wp.region (by kernel_rfl) ?_
      refine Ops.seg' 3 3 (by kernel_rfl) ?_
      refine Ops.done (by kernel_rfl) ?_
      refine sqQ.n ⟨(.v (.str a0)) :: (dI a1) :: u2 ((dI 0) :: (dI (w64 v1)) :: (dI 3) :: (dI (w64 (w64 v1 - 224))) :: u2 ((.v (.str a0)) :: (dI a1) :: (.v (.int .u8 v1)) :: (dI (w64 v1)) :: (dI (w64 v1)) :: (dI (w64 v1)) :: (dB (decide (w64 v1 ≥ 240))) :: u2 ((dI (w64 v1)) :: (dB (decide (w64 v1 ≥ 224))) :: (dI (w64 v1)) :: (dI (w64 (w64 v1 - 224))) :: u40 (u4 [])))), []⟩ (by kernel_rfl) ?_
      exact J65j78 3 (w64 (w64 v1 - 224)) _ _ _ _ _ _ _ _ h
    · refine Wp.seq' (by kernel_rfl) ?_
      refine Wp.region (by kernel_rfl) ?_
      refine Ops.seg' 2 2 (by kernel_rfl) ?_
      refine Ops.done (by kernel_rfl) ?_
      refine seqQ.n ?_
      have J65j85 : ∀ (v79 : Int) (v80 : Int) (d81 : D) (d82 : D) (d83 : D) (d84 : D), f65_j6 m a0 a1 v79 v80 = some o → (sqQ (X65 n) [0, 1, 4, 6, 7] 0 (sqQ (X65 n) [0, 1, 4, 6, 7] 0 (seqQ (X65 n) (cR (cR (cR (cR (cR C65))))) (fnQ (X65 n).E.T (resOf Proofs.Tryd.prog 65) (eI o))))) .normal ⟨(.v (.str a0)) :: (dI a1) :: u2 ((dI 0) :: (dI (w64 v1)) :: (dI v79) :: (dI v80) :: u2 ((.v (.str a0)) :: (dI a1) :: (.v (.int .u8 v1)) :: (dI (w64 v1)) :: (dI (w64 v1)) :: (dI (w64 v1)) :: (dB (decide (w64 v1 ≥ 240))) :: u2 ((dI (w64 v1)) :: (dB (decide (w64 v1 ≥ 224))) :: u2 ((dI (w64 v1)) :: (dB (decide (w64 v1 ≥ 192))) :: d81 :: d82 :: d83 :: d84 :: u38 [])))), []⟩ := by
        intro v79 v80 d81 d82 d83 d84 h
        unfold f65_j6 at h
        refine sqQ.n ⟨(.v (.str a0)) :: (dI a1) :: u2 ((dI 0) :: (dI (w64 v1)) :: (dI v79) :: (dI v80) :: u2 ((.v (.str a0)) :: (dI a1) :: (.v (.int .u8 v1)) :: (dI (w64 v1)) :: (dI (w64 v1)) :: (dI (w64 v1)) :: (dB (decide (w64 v1 ≥ 240))) :: u2 ((dI (w64 v1)) :: (dB (decide (w64 v1 ≥ 224))) :: u2 ((dI (w64 v1)) :: (dB (decide (w64 v1 ≥ 192))) :: d81 :: d82 :: d83 :: d84 :: u38 [])))), []⟩ (by kernel_rfl) ?_
        exact J65j78 v79 v80 _ _ _ _ _ _ _ _ h
      refine Wp.cnd h [0, 1, 4, 6, 7] 0 (by kernel_rfl) (fun h => ?_) (fun h => ?_)
      · refine Wp.seq' (by kernel_rfl) ?_
        refine Wp.region (by kernel_rfl) ?_
        refine Ops.seg' 1 1 (by kernel_rfl) ?_
        refine Ops.done (by kernel_rfl) ?_
        refine seqQ.n ?_
        refine Wp.region (by kernel_rfl) ?_
        refine Ops.seg' 3 3 (by kernel_rfl) ?_
        refine Ops.done (by kernel_rfl) ?_
        refine sqQ.n ⟨(.v (.str a0)) :: (dI a1) :: u2 ((dI 0) :: (dI (w64 v1)) :: (dI 2) :: (dI (w64 (w64 v1 - 192))) :: u2 ((.v (.str a0)) :: (dI a1) :: (.v (.int .u8 v1)) :: (dI (w64 v1)) :: (dI (w64 v1)) :: (dI (w64 v1)) :: (dB (decide (w64 v1 ≥ 240))) :: u2 ((dI (w64 v1)) :: (dB (decide (w64 v1 ≥ 224))) :: u2 ((dI (w64 v1)) :: (dB (decide (w64 v1 ≥ 192))) :: (dI (w64 v1)) :: (dI (w64 (w64 v1 - 192))) :: u40 [])))), []⟩ (by kernel_rfl) ?_
        exact J65j85 2 (w64 (w64 v1 - 192)) _ _ _ _ h
      · refine Wp.seq' (by kernel_rfl) ?_
        refine Wp.region (by kernel_rfl) ?_
        refine Ops.seg' 2 2 (by kernel_rfl) ?_
        refine Ops.done (by kernel_rfl) ?_
        refine seqQ.n ?_
        refine Wp.cnd h [0, 1, 4, 6, 7] 0 (by kernel_rfl) (fun h => ?_) (fun h => ?_)
        · refine Wp.seq' (by kernel_rfl) ?_
          refine Wp.region (by kernel_rfl) ?_
          refine Ops.seg' 1 1 (by kernel_rfl) ?_
          refine Ops.done (by kernel_rfl) ?_
          refine seqQ.n ?_
          refine Wp.ret (by kernel_rfl) ?_
          refine sqQ.r ?_
          refine sqQ.r ?_
          refine sqQ.r ?_
          refine sqQ.r ?_
          refine seqQ.r ?_
          exact fnQ.r' (X65 n) (fun z => (eI z)) h (RetOk.mk' (dI ((-1))) (by kernel_rfl) (by kernel_rfl))
        · refine Wp.skip (by kernel_rfl) ?_
          refine sqQ.n' ?_
          refine sqQ.n ⟨(.v (.str a0)) :: (dI a1) :: u2 ((dI 0) :: (dI (w64 v1)) :: (dI 1) :: (dI (w64 v1)) :: u2 ((.v (.str a0)) :: (dI a1) :: (.v (.int .u8 v1)) :: (dI (w64 v1)) :: (dI (w64 v1)) :: (dI (w64 v1)) :: (dB (decide (w64 v1 ≥ 240))) :: u2 ((dI (w64 v1)) :: (dB (decide (w64 v1 ≥ 224))) :: u2 ((dI (w64 v1)) :: (dB (decide (w64 v1 ≥ 192))) :: u2 ((dI (w64 v1)) :: (dB (decide (w64 v1 ≥ 128))) :: u38 []))))), []⟩ (by kernel_rfl) ?_
          exact J65j85 1 (w64 v1) _ _ _ _ h

/-! ### 41 glosswright/glosswrightref5.Points -/
def f41_B1 (m : Nat) (a0 : ByteArray) (v12 : (List Int)) (v13 : Int) : Option (Stp (((List Int) × S27)) ((List Int) × Int)) :=
  cnd (decide (v13 < (a0.size : Int)))
  (bnd (f65 m a0 v13) fun v23 =>
  cnd (decide (v23 < 0))
  (bnd (f64 m 5 v13) fun v24 =>
  some (.ret (([], v24))))
  (bnd (app 8 v12 [v23]) fun v25 =>
  bnd (f66 m v23) fun v26 =>
  some (.nxt (v25, w64 (v13 + v26)))))
  (some (.brk (v12, v13)))
def f41 (m : Nat) (a0 : ByteArray) : Option ((List Int) × S27) :=
  cnd (decide ((a0.size : Int) > 4000))
  (bnd (f64 m 1 ((-1))) fun v1 =>
  some (([], v1)))
  (brk (iter (fun (y : (List Int) × Int) => f41_B1 m a0 y.1 y.2) m ([], 0)) some fun y28 =>
  some ((y28.1, (⟨0, 0⟩ : S27))))
noncomputable abbrev X41 (n : Nat) : Cx := cxOf Proofs.Tryd.prog E 41 n
noncomputable def C41 : Code := bodyOf Proofs.Tryd.prog 41
theorem ok41 (m : Nat) (a0 : ByteArray) (o : ((List Int) × S27)) (h : f41 m a0 = some o) (n : Nat) (hn : m + 3 ≤ n) : Fn Proofs.Tryd.prog E n 41 [.v (eS a0)] (.tuple [(eL eI) o.1, e27 o.2]) := by
  obtain ⟨n, rfl⟩ : ∃ q, n = q + 1 := ⟨n - 1, by omega⟩
  unfold f41 at h
  refine Fn.of (by kernel_rfl) (by kernel_rfl) (by kernel_rfl) ⟨(.v (.str a0)) :: u31 [], []⟩ (by kernel_rfl) ?_
  refine Wp.seq' (by kernel_rfl) ?_
  refine Wp.region (by kernel_rfl) ?_
  refine Ops.seg' 2 2 (by kernel_rfl) ?_
  refine Ops.done (by kernel_rfl) ?_
  refine seqQ.n ?_
  refine Wp.seq' (by kernel_rfl) ?_
  refine Wp.seq' (by kernel_rfl) ?_
  refine Wp.region (by kernel_rfl) ?_
  refine Ops.seg' 3 3 (by kernel_rfl) ?_
  refine Ops.done (by kernel_rfl) ?_
  refine seqQ.n ?_
  refine Wp.cnd h [0, 2, 3] 1 (by kernel_rfl) (fun h => ?_) (fun h => ?_)
  · refine Wp.seq' (by kernel_rfl) ?_
    refine Wp.region (by kernel_rfl) ?_
    obtain ⟨v1, ev1, h⟩ := bnd_some h
    refine Ops.one' 1 (fun h0 e0 => (call_ok (E' := E) (h := h0) (by kernel_rfl) (Args.v (vI 1) (eI 1) (by kernel_rfl) (Args.v (vI ((-1))) (eI ((-1))) (by kernel_rfl) Args.nil)) (ok64 m 1 ((-1)) v1 ev1 n (by omega)))) (by kernel_rfl) (by kernel_rfl) ?_
    refine Ops.seg' 2 3 (by kernel_rfl) ?_
    refine Ops.done (by kernel_rfl) ?_
    refine seqQ.n ?_
    refine Wp.ret (by kernel_rfl) ?_
    refine sqQ.r ?_
    refine seqQ.r ?_
    exact fnQ.r' (X41 n) (fun z => (.tuple [(eL eI) z.1, e27 z.2])) h (RetOk.mk' (.v (.tuple [(.sl .nil (List.map eI [])), (.agg [(vI v1.fCode), (vI v1.fIndex)])])) (by kernel_rfl) (by kernel_rfl))
  · refine Wp.skip (by kernel_rfl) ?_
    refine sqQ.n' ?_
    refine seqQ.n ?_
    refine Wp.seq' (by kernel_rfl) ?_
    refine Wp.region (by kernel_rfl) ?_
    refine Ops.seg' 1 1 (by kernel_rfl) ?_
    refine Ops.done (by kernel_rfl) ?_
    refine seqQ.n ?_
    refine Wp.seq' (by kernel_rfl) ?_
    refine Wp.seq' (by kernel_rfl) ?_
    refine Wp.region (by kernel_rfl) ?_
    refine Ops.seg' 1 1 (by kernel_rfl) ?_
    refine Ops.done (by kernel_rfl) ?_
    refine seqQ.n ?_
    refine Wp.block' 0 [2, 3, 4] 2 (by kernel_rfl) ?_
    have hLx27 : ∀ (kx15 : Nat) (v12 : (List Int)) (v13 : Int)  (ox14 : ((List Int) × S27) ⊕ ((List Int) × Int)), iter (fun (y : (List Int) × Int) => f41_B1 m a0 y.1 y.2) kx15 (v12, v13) = some ox14 → ∀ nx16, kx15 ≤ nx16 → (∀ r, ox14 = .inl r → ∀ σ, RetOk (X41 n) (resOf Proofs.Tryd.prog 41) (.tuple [(eL eI) r.1, e27 r.2]) σ → (seqQ (X41 n) (cR (cR (cR (cR C41)))) (fnQ (X41 n).E.T (resOf Proofs.Tryd.prog 41) (.tuple [(eL eI) o.1, e27 o.2]))) .ret σ) → (∀ (y : (List Int) × Int) , ox14 = .inr y → (seqQ (X41 n) (cR (cR (cR (cR C41)))) (fnQ (X41 n).E.T (resOf Proofs.Tryd.prog 41) (.tuple [(eL eI) o.1, e27 o.2]))) .normal ⟨q2 ((.v (.sl .nil (List.map eI []))) :: (.ptr 0 0) :: (appD 2 (List.map eI y.1)) :: q27 []), [(.cells [(dI 0), (dI 0)]), .dead, (appO 1 (List.map eI y.1))]⟩) → Lp (X41 n) [0, 2, 3, 4, 5] 2 (cL (cL (cR (cL (cR (cR (cR C41))))))) nx16 ⟨(.v (.str a0)) :: q1 ((.v (.sl .nil (List.map eI []))) :: (.ptr 0 0) :: (appD 2 (List.map eI v12)) :: (dI v13) :: q26 []), [(.cells [(dI 0), (dI 0)]), .dead, (appO 1 (List.map eI v12))]⟩ (blkQ (X41 n) 0 [2, 3, 4] 2 (seqQ (X41 n) (cR (cR (cR (cR C41)))) (fnQ (X41 n).E.T (resOf Proofs.Tryd.prog 41) (.tuple [(eL eI) o.1, e27 o.2])))) := by
      intro kx15
      induction kx15 with
      | zero => intro v12 v13  ox14 h; exact (iter_zero h).elim
      | succ kx15 ihx17 =>
        intro v12 v13  ox14 h nx16 hnx20 hrx18 hxx19
        obtain ⟨nx16, rfl⟩ : ∃ q, nx16 = q + 1 := ⟨nx16 - 1, by omega⟩
        obtain ⟨sx21, h, hsx22⟩ := iter_some h
        have h : f41_B1 m a0 v12 v13 = some sx21 := h
        unfold f41_B1 at h
        refine Lp.succ ?_
        refine Wp.seq' (by kernel_rfl) ?_
        refine Wp.seq' (by kernel_rfl) ?_
        refine Wp.region (by kernel_rfl) ?_
        refine Ops.seg' 4 4 (by kernel_rfl) ?_
        refine Ops.done (by kernel_rfl) ?_
        refine seqQ.n ?_
        refine Wp.cnd h [0, 2, 3, 4, 5] 3 (by kernel_rfl) (fun h => ?_) (fun h => ?_)
        · refine Wp.skip (by kernel_rfl) ?_
          refine sqQ.n ⟨(.v (.str a0)) :: q1 ((.v (.sl .nil (List.map eI []))) :: (.ptr 0 0) :: (appD 3 (List.map eI v12)) :: (dI v13) :: q26 []), [(.cells [(dI 0), (dI 0)]), .dead, .dead, (appO 1 (List.map eI v12))]⟩ (by generalize v12 = z0; cases z0 <;> kernel_rfl) ?_
          refine seqQ.n ?_
          refine Wp.block' 1 [0, 2, 3, 4, 5] 4 (by kernel_rfl) ?_
          refine Wp.seq' (by kernel_rfl) ?_
          refine Wp.region (by kernel_rfl) ?_
          refine Ops.seg' 2 2 (by kernel_rfl) ?_
          obtain ⟨v23, ev23, h⟩ := bnd_some h
          refine Ops.one' 3 (fun h0 e0 => (call_ok (E' := E) (h := h0) (by kernel_rfl) (Args.v (.str a0) (eS a0) (by kernel_rfl) (Args.v (vI v13) (eI v13) (by kernel_rfl) Args.nil)) (ok65 m a0 v13 v23 ev23 n (by omega)))) (by kernel_rfl) (by kernel_rfl) ?_
          refine Ops.seg' 1 4 (by kernel_rfl) ?_
          refine Ops.done (by kernel_rfl) ?_
          refine seqQ.n ?_
          refine Wp.seq' (by kernel_rfl) ?_
          refine Wp.seq' (by kernel_rfl) ?_
          refine Wp.region (by kernel_rfl) ?_
          refine Ops.seg' 2 2 (by kernel_rfl) ?_
          refine Ops.done (by kernel_rfl) ?_
          refine seqQ.n ?_
          refine Wp.cnd h [0, 2, 3, 4, 5, 6] 4 (by kernel_rfl) (fun h => ?_) (fun h => ?_)
          · refine Wp.seq' (by kernel_rfl) ?_
            refine Wp.region (by kernel_rfl) ?_
            refine Ops.seg' 1 1 (by kernel_rfl) ?_
            obtain ⟨v24, ev24, h⟩ := bnd_some h
            refine Ops.one' 2 (fun h0 e0 => (call_ok (E' := E) (h := h0) (by kernel_rfl) (Args.v (vI 5) (eI 5) (by kernel_rfl) (Args.v (vI v13) (eI v13) (by kernel_rfl) Args.nil)) (ok64 m 5 v13 v24 ev24 n (by omega)))) (by kernel_rfl) (by kernel_rfl) ?_
            refine Ops.seg' 2 4 (by kernel_rfl) ?_
            refine Ops.done (by kernel_rfl) ?_
            refine seqQ.n ?_
            refine Wp.ret (by kernel_rfl) ?_
            refine sqQ.r ?_
            refine seqQ.r ?_
            refine blkQ.r ?_
            cases h
            refine lpQ.r ?_
            refine blkQ.r ?_
            exact hrx18 _ hsx22 _ (RetOk.forget [0, 2, 3, 4, 5] (by kernel_rfl) (RetOk.mk' (.v (.tuple [(.sl .nil (List.map eI [])), (.agg [(vI v24.fCode), (vI v24.fIndex)])])) (by kernel_rfl) (by kernel_rfl)))
          · refine Wp.skip (by kernel_rfl) ?_
            refine sqQ.n ⟨(.v (.str a0)) :: q1 ((.v (.sl .nil (List.map eI []))) :: (.ptr 0 0) :: (appD 4 (List.map eI v12)) :: (dI v13) :: (dI v23) :: q25 []), [(.cells [(dI 0), (dI 0)]), .dead, .dead, .dead, (appO 1 (List.map eI v12))]⟩ (by generalize v12 = z0; cases z0 <;> kernel_rfl) ?_
            refine seqQ.n ?_
            refine Wp.seq' (by kernel_rfl) ?_
            refine Wp.region (by kernel_rfl) ?_
            refine Ops.seg' 3 3 (by kernel_rfl) ?_
            obtain ⟨v25, ev25, h⟩ := bnd_some h
            refine Ops.one' 4 (fun h0 e0 => (app_r (T := T) (g := .nil) h0 44 3 4 1 ti3 .nonfull eI v12 [v23] v25 ev25 (by kernel_rfl) (by kernel_rfl) (by kernel_rfl) (by kernel_rfl) (fun _ => rfl) (hq_of e0 (by kernel_rfl)))) (by kernel_rfl) (by kernel_rfl) ?_
            refine Ops.seg' 1 5 (by kernel_rfl) ?_
            refine Ops.done (by kernel_rfl) ?_
            refine seqQ.n ?_
            refine Wp.region (by kernel_rfl) ?_
            refine Ops.seg' 2 2 (by kernel_rfl) ?_
            obtain ⟨v26, ev26, h⟩ := bnd_some h
            refine Ops.one' 3 (fun h0 e0 => (call_ok (E' := E) (h := h0) (by kernel_rfl) (Args.v (vI v23) (eI v23) (by kernel_rfl) Args.nil) (ok66 m v23 v26 ev26 n (by omega)))) (by kernel_rfl) (by kernel_rfl) ?_
            refine Ops.seg' 2 5 (by kernel_rfl) ?_
            refine Ops.done (by kernel_rfl) ?_
            refine blkQ.n ⟨(.v (.str a0)) :: q1 ((.v (.sl .nil (List.map eI []))) :: (.ptr 0 0) :: (appD 4 (List.map eI v25)) :: (dI (w64 (v13 + v26))) :: q26 []), [(.cells [(dI 0), (dI 0)]), .dead, .dead, .dead, (appO 1 (List.map eI v25))]⟩ (by generalize v25 = z0; cases z0 <;> kernel_rfl) ?_
            refine lpQ.n ⟨(.v (.str a0)) :: q1 ((.v (.sl .nil (List.map eI []))) :: (.ptr 0 0) :: (appD 2 (List.map eI v25)) :: (dI (w64 (v13 + v26))) :: q26 []), [(.cells [(dI 0), (dI 0)]), .dead, (appO 1 (List.map eI v25))]⟩ (by generalize v25 = z0; cases z0 <;> kernel_rfl) ?_
            cases h
            exact ihx17 v25 (w64 (v13 + v26))  _ hsx22 _ (by omega) hrx18 hxx19
        · refine Wp.exit (id := 0) (by kernel_rfl) ?_
          refine sqQ.x ?_
          refine seqQ.x ?_
          cases h
          refine lpQ.x ?_
          refine blkQ.x ⟨q2 ((.v (.sl .nil (List.map eI []))) :: (.ptr 0 0) :: (appD 2 (List.map eI v12)) :: q27 []), [(.cells [(dI 0), (dI 0)]), .dead, (appO 1 (List.map eI v12))]⟩ (by generalize v12 = z0; cases z0 <;> kernel_rfl) ?_
          exact hxx19 (v12, v13)  hsx22
    refine Wp.loop' [0, 2, 3, 4, 5] 2 (by kernel_rfl) ⟨(.v (.str a0)) :: q1 ((.v (.sl .nil (List.map eI []))) :: (.ptr 0 0) :: (appD 2 (List.map eI [])) :: (dI 0) :: q26 []), [(.cells [(dI 0), (dI 0)]), .dead, .dead]⟩ (by kernel_rfl) ?_
    rcases brk_some h with ⟨r29, er29, h⟩ | ⟨y28, ey28, h⟩
    · refine hLx27 _ [] 0  _ er29 n (by omega) (fun r er σ hσ => ?_) (fun y  ey => by cases ey)
      cases er
      refine seqQ.r ?_
      exact fnQ.r' (X41 n) (fun z => (.tuple [(eL eI) z.1, e27 z.2])) h hσ
    · refine hLx27 _ [] 0  _ ey28 n (by omega) (fun r er => by cases er) (fun y  ey => ?_)
      cases ey
      refine seqQ.n ?_
      refine Wp.seq' (by kernel_rfl) ?_
      refine Wp.region (by kernel_rfl) ?_
      refine Ops.seg' 4 4 (by kernel_rfl) ?_
      refine Ops.done (by kernel_rfl) ?_
      refine seqQ.n ?_
      refine Wp.ret (by kernel_rfl) ?_
      exact fnQ.r' (X41 n) (fun z => (.tuple [(eL eI) z.1, e27 z.2])) h (RetOk.tup [(appD 2 (List.map eI y28.1)), (.v (.agg [(vI 0), (vI 0)]))] (by kernel_rfl) (.d (appD 2 (List.map eI y28.1)) _ (appD_frz _ _ _ _) (appF_nt _ _ _) (.v (.agg [(vI 0), (vI 0)]) _ (by kernel_rfl) (by kernel_rfl) .nil)))

/-! ### 16 glosswright/glosswrightref6.Word -/
def f16_B1 (m : Nat) (v65 : Int) (v69 : Int) : Option (Stp Bool (Int)) :=
  cnd (decide (v69 < (([0, 9, 10, 32, 40, 41, 91, 93, 44, 59]).length : Int)))
  (bnd (idx ([0, 9, 10, 32, 40, 41, 91, 93, 44, 59]) v69) fun v79 =>
  cnd (v65 == v79)
  (some (.ret false))
  (some (.nxt (w64 (v69 + 1)))))
  (some (.brk v69))
def f16_B2 (m : Nat) (v1 : ((List Int) × S27)) (v55 : Int) : Option (Stp Bool (Int)) :=
  cnd (decide (v55 < (v1.1.length : Int)))
  (bnd (idx v1.1 v55) fun v65 =>
  brk (iter (fun (y : Int) => f16_B1 m v65 y) m 0) (fun r => some (.ret r)) fun y81 =>
  cnd (decide (v65 ≥ 983040))
  (some (.ret false))
  (some (.nxt (w64 (v55 + 1)))))
  (some (.brk v55))
def f16_r3 (m : Nat) (v1 : ((List Int) × S27)) (v16 : Bool) : Option Bool :=
  cnd v16
  (some false)
  (brk (iter (fun (y : Int) => f16_B2 m v1 y) m 0) some fun y84 =>
  some true)
def f16_r4 (m : Nat) (v1 : ((List Int) × S27)) (v8 : Bool) : Option Bool :=
  f16_r3 m v1 ((v8 || (decide ((v1.1.length : Int) > 30))))
def f16 (m : Nat) (a0 : ByteArray) : Option Bool :=
  bnd (f41 m a0) fun v1 =>
  f16_r4 m v1 (((!((v1.2.fCode == 0) && ((v1.2.fIndex == 0) && true))) || (((v1.1.length : Int)) == 0)))
noncomputable abbrev X16 (n : Nat) : Cx := cxOf Proofs.Tryd.prog E 16 n
noncomputable def C16 : Code := bodyOf Proofs.Tryd.prog 16
theorem ok16 (m : Nat) (a0 : ByteArray) (o : Bool) (h : f16 m a0 = some o) (n : Nat) (hn : m + 4 ≤ n) : Fn Proofs.Tryd.prog E n 16 [.v (eS a0)] (eB o) := by
  obtain ⟨n, rfl⟩ : ∃ q, n = q + 1 := ⟨n - 1, by omega⟩
  unfold f16 at h
  refine Fn.of (by kernel_rfl) (by kernel_rfl) (by kernel_rfl) ⟨(.v (.str a0)) :: u40 (u5 []), []⟩ (by kernel_rfl) ?_
  refine Wp.seq' (by kernel_rfl) ?_
  refine Wp.region (by kernel_rfl) ?_
  refine Ops.seg' 1 1 (by kernel_rfl) ?_
  refine Ops.done (by kernel_rfl) ?_
  refine seqQ.n ?_
  refine Wp.seq' (by kernel_rfl) ?_
  refine Wp.region (by kernel_rfl) ?_
  refine Ops.seg' 1 1 (by kernel_rfl) ?_
  obtain ⟨v1, ev1, h⟩ := bnd_some h
  refine Ops.one' 2 (fun h0 e0 => (call_ok (E' := E) (h := h0) (by kernel_rfl) (Args.v (.str a0) (eS a0) (by kernel_rfl) Args.nil) (ok41 m a0 v1 ev1 n (by omega)))) (by kernel_rfl) (by kernel_rfl) ?_
  refine Ops.seg' 6 8 (by kernel_rfl) ?_
  refine Ops.done (by kernel_rfl) ?_
  refine seqQ.n ?_
  refine Wp.seq' (by kernel_rfl) ?_
  refine Wp.seq' (by kernel_rfl) ?_
  refine Wp.region (by kernel_rfl) ?_
  refine Ops.seg' 4 4 (by kernel_rfl) ?_
  have J16j9 : ∀ (d4 d5 d6 : D) (v7 : Bool) (v8 : Bool), f16_r4 m v1 v8 = some o → Ops (X16 n) (opl (cL (cL (cR (cR C16))))) 8 ⟨(.v (.str a0)) :: u1 ((dB false) :: (dP eI v1.1) :: (.ptr 0 0) :: u4 ((.v (.tuple [(vP eI v1.1), (.agg [(vI v1.2.fCode), (vI v1.2.fIndex)])])) :: (.v (.str a0)) :: (.v (.tuple [(vP eI v1.1), (.agg [(vI v1.2.fCode), (vI v1.2.fIndex)])])) :: (dP eI v1.1) :: (.v (.agg [(vI v1.2.fCode), (vI v1.2.fIndex)])) :: (.v (.agg [(vI v1.2.fCode), (vI v1.2.fIndex)])) :: (.v (.agg [(vI 0), (vI 0)])) :: (dB v7) :: (dB v7) :: d4 :: d5 :: d6 :: (dB v8) :: u24 [])), [(.cells [(dI v1.2.fCode), (dI v1.2.fIndex)])]⟩ ((seqQ (X16 n) (cR (cL (cR (cR C16)))) (seqQ (X16 n) (cR (cR (cR C16))) (fnQ (X16 n).E.T (resOf Proofs.Tryd.prog 16) (eB o)))) .normal) := by
    intro d4 d5 d6 v7 v8 h
    unfold f16_r4 at h
    refine Ops.seg' 1 9 (by kernel_rfl) ?_
    have J16j17 : ∀ (d12 d13 d14 : D) (v15 : Bool) (v16 : Bool), f16_r3 m v1 v16 = some o → Ops (X16 n) (opl (cL (cL (cR (cR C16))))) 13 ⟨(.v (.str a0)) :: u1 ((dB false) :: (dP eI v1.1) :: (.ptr 0 0) :: u4 ((.v (.tuple [(vP eI v1.1), (.agg [(vI v1.2.fCode), (vI v1.2.fIndex)])])) :: (.v (.str a0)) :: (.v (.tuple [(vP eI v1.1), (.agg [(vI v1.2.fCode), (vI v1.2.fIndex)])])) :: (dP eI v1.1) :: (.v (.agg [(vI v1.2.fCode), (vI v1.2.fIndex)])) :: (.v (.agg [(vI v1.2.fCode), (vI v1.2.fIndex)])) :: (.v (.agg [(vI 0), (vI 0)])) :: (dB v7) :: (dB v7) :: d4 :: d5 :: d6 :: (dB v15) :: (dB v15) :: d12 :: d13 :: d14 :: (dB v16) :: u19 [])), [(.cells [(dI v1.2.fCode), (dI v1.2.fIndex)])]⟩ ((seqQ (X16 n) (cR (cL (cR (cR C16)))) (seqQ (X16 n) (cR (cR (cR C16))) (fnQ (X16 n).E.T (resOf Proofs.Tryd.prog 16) (eB o)))) .normal) := by
      intro d12 d13 d14 v15 v16 h
      unfold f16_r3 at h
      refine Ops.done (by kernel_rfl) ?_
      refine seqQ.n ?_
      refine Wp.cnd h [2, 3] 1 (by kernel_rfl) (fun h => ?_) (fun h => ?_)
      · refine Wp.seq' (by kernel_rfl) ?_
        refine Wp.region (by kernel_rfl) ?_
        refine Ops.seg' 1 1 (by kernel_rfl) ?_
        refine Ops.done (by kernel_rfl) ?_
        refine seqQ.n ?_
        refine Wp.ret (by kernel_rfl) ?_
        refine sqQ.r ?_
        refine seqQ.r ?_
        exact fnQ.r' (X16 n) (fun z => (eB z)) h (RetOk.mk' (dB false) (by kernel_rfl) (by kernel_rfl))
      · refine Wp.skip (by kernel_rfl) ?_
        refine sqQ.n' ?_
        refine seqQ.n ?_
        refine Wp.seq' (by kernel_rfl) ?_
        refine Wp.seq' (by kernel_rfl) ?_
        refine Wp.region (by kernel_rfl) ?_
        refine Ops.seg' 1 1 (by kernel_rfl) ?_
        refine Ops.one' 2 (fun h0 e0 => (len_r (T := T) h0 44 3 .plain eI v1.1 (by kernel_rfl))) (by kernel_rfl) (by kernel_rfl) ?_
        refine Ops.seg' 1 3 (by kernel_rfl) ?_
        refine Ops.done (by kernel_rfl) ?_
        refine seqQ.n ?_
        refine Wp.block' 0 [2] 1 (by kernel_rfl) ?_
        have hLx83 : ∀ (kx57 : Nat) (v55 : Int)  (ox56 : Bool ⊕ (Int)), iter (fun (y : Int) => f16_B2 m v1 y) kx57 v55 = some ox56 → ∀ nx58, kx57 ≤ nx58 → (∀ r, ox56 = .inl r → ∀ σ, RetOk (X16 n) (resOf Proofs.Tryd.prog 16) (eB r) σ → (seqQ (X16 n) (cR (cR (cR (cR C16)))) (fnQ (X16 n).E.T (resOf Proofs.Tryd.prog 16) (eB o))) .ret σ) → (∀ (y : Int) , ox56 = .inr y → (seqQ (X16 n) (cR (cR (cR (cR C16)))) (fnQ (X16 n).E.T (resOf Proofs.Tryd.prog 16) (eB o))) .normal ⟨q2 ((dB false) :: q24 ((dP eI v1.1) :: (dI ((v1.1.length : Int))) :: (dI y) :: q16 [])), [(.cells [(dI v1.2.fCode), (dI v1.2.fIndex)])]⟩) → Lp (X16 n) [2, 27, 28, 29] 1 (cL (cL (cR (cL (cR (cR (cR C16))))))) nx58 ⟨q2 ((dB false) :: q24 ((dP eI v1.1) :: (dI ((v1.1.length : Int))) :: (dI v55) :: q16 [])), [(.cells [(dI v1.2.fCode), (dI v1.2.fIndex)])]⟩ (blkQ (X16 n) 0 [2] 1 (seqQ (X16 n) (cR (cR (cR (cR C16)))) (fnQ (X16 n).E.T (resOf Proofs.Tryd.prog 16) (eB o)))) := by
          intro kx57
          induction kx57 with
          | zero => intro v55  ox56 h; exact (iter_zero h).elim
          | succ kx57 ihx59 =>
            intro v55  ox56 h nx58 hnx62 hrx60 hxx61
            obtain ⟨nx58, rfl⟩ : ∃ q, nx58 = q + 1 := ⟨nx58 - 1, by omega⟩
            obtain ⟨sx63, h, hsx64⟩ := iter_some h
            have h : f16_B2 m v1 v55 = some sx63 := h
            unfold f16_B2 at h
            refine Lp.succ ?_
            refine Wp.seq' (by kernel_rfl) ?_
            refine Wp.region (by kernel_rfl) ?_
            refine Ops.seg' 1 1 (by kernel_rfl) ?_
            refine Ops.done (by kernel_rfl) ?_
            refine seqQ.n ?_
            refine Wp.seq' (by kernel_rfl) ?_
            refine Wp.cnd h [2, 27, 28, 29] 1 (by kernel_rfl) (fun h => ?_) (fun h => ?_)
            · refine Wp.skip (by kernel_rfl) ?_
              refine sqQ.n' ?_
              refine seqQ.n ?_
              refine Wp.seq' (by kernel_rfl) ?_
              refine Wp.block' 1 [2, 27, 28, 29] 1 (by kernel_rfl) ?_
              refine Wp.seq' (by kernel_rfl) ?_
              refine Wp.region (by kernel_rfl) ?_
              obtain ⟨v65, ev65, h⟩ := bnd_some h
              refine Ops.one' 1 (fun h0 e0 => (ix_r (T := T) h0 44 3 1 .plain eI v1.1 v55 v65 ev65 (by kernel_rfl) (by kernel_rfl) (fun _ => rfl))) (by kernel_rfl) (by kernel_rfl) ?_
              refine Ops.seg' 2 3 (by kernel_rfl) ?_
              refine Ops.done (by kernel_rfl) ?_
              refine seqQ.n ?_
              refine Wp.seq' (by kernel_rfl) ?_
              refine Wp.seq' (by kernel_rfl) ?_
              refine Wp.region (by kernel_rfl) ?_
              refine Ops.seg' 1 1 (by kernel_rfl) ?_
              refine Ops.one' 2 (fun h0 e0 => (len_r (T := T) h0 44 3 .nonfull eI ([0, 9, 10, 32, 40, 41, 91, 93, 44, 59]) (by kernel_rfl))) (by kernel_rfl) (by kernel_rfl) ?_
              refine Ops.seg' 1 3 (by kernel_rfl) ?_
              refine Ops.done (by kernel_rfl) ?_
              refine seqQ.n ?_
              refine Wp.block' 2 [2, 6, 27, 28, 29] 1 (by kernel_rfl) ?_
              have hLx80 : ∀ (kx71 : Nat) (v69 : Int)  (ox70 : Bool ⊕ (Int)), iter (fun (y : Int) => f16_B1 m v65 y) kx71 v69 = some ox70 → ∀ nx72, kx71 ≤ nx72 → (∀ r, ox70 = .inl r → ∀ σ, RetOk (X16 n) (resOf Proofs.Tryd.prog 16) (eB r) σ → (seqQ (X16 n) (cR (cR (cL (cL (cR (cR (cL (cL (cR (cL (cR (cR (cR C16))))))))))))) (blkQ (X16 n) 1 [2, 27, 28, 29] 1 (seqQ (X16 n) (cR (cR (cR (cL (cL (cR (cL (cR (cR (cR C16)))))))))) (lpQ (X16 n) [2, 27, 28, 29] 1 (cL (cL (cR (cL (cR (cR (cR C16))))))) nx58 (blkQ (X16 n) 0 [2] 1 (seqQ (X16 n) (cR (cR (cR (cR C16)))) (fnQ (X16 n).E.T (resOf Proofs.Tryd.prog 16) (eB o)))))))) .ret σ) → (∀ (y : Int) , ox70 = .inr y → (seqQ (X16 n) (cR (cR (cL (cL (cR (cR (cL (cL (cR (cL (cR (cR (cR C16))))))))))))) (blkQ (X16 n) 1 [2, 27, 28, 29] 1 (seqQ (X16 n) (cR (cR (cR (cL (cL (cR (cL (cR (cR (cR C16)))))))))) (lpQ (X16 n) [2, 27, 28, 29] 1 (cL (cL (cR (cL (cR (cR (cR C16))))))) nx58 (blkQ (X16 n) 0 [2] 1 (seqQ (X16 n) (cR (cR (cR (cR C16)))) (fnQ (X16 n).E.T (resOf Proofs.Tryd.prog 16) (eB o)))))))) .normal ⟨q2 ((dB false) :: q3 ((dI v65) :: q20 ((dP eI v1.1) :: (dI ((v1.1.length : Int))) :: (dI v55) :: q3 ((.v (.sl .nonfull (List.map eI ([0, 9, 10, 32, 40, 41, 91, 93, 44, 59])))) :: (dI ((([0, 9, 10, 32, 40, 41, 91, 93, 44, 59]).length : Int))) :: (dI y) :: q10 [])))), [(.cells [(dI v1.2.fCode), (dI v1.2.fIndex)])]⟩) → Lp (X16 n) [2, 6, 27, 28, 29, 33, 34, 35] 1 (cL (cL (cR (cL (cR (cL (cL (cR (cR (cL (cL (cR (cL (cR (cR (cR C16)))))))))))))))) nx72 ⟨q2 ((dB false) :: q3 ((dI v65) :: q20 ((dP eI v1.1) :: (dI ((v1.1.length : Int))) :: (dI v55) :: q3 ((.v (.sl .nonfull (List.map eI ([0, 9, 10, 32, 40, 41, 91, 93, 44, 59])))) :: (dI ((([0, 9, 10, 32, 40, 41, 91, 93, 44, 59]).length : Int))) :: (dI v69) :: q10 [])))), [(.cells [(dI v1.2.fCode), (dI v1.2.fIndex)])]⟩ (blkQ (X16 n) 2 [2, 6, 27, 28, 29] 1 (seqQ (X16 n) (cR (cR (cL (cL (cR (cR (cL (cL (cR (cL (cR (cR (cR C16))))))))))))) (blkQ (X16 n) 1 [2, 27, 28, 29] 1 (seqQ (X16 n) (cR (cR (cR (cL (cL (cR (cL (cR (cR (cR C16)))))))))) (lpQ (X16 n) [2, 27, 28, 29] 1 (cL (cL (cR (cL (cR (cR (cR C16))))))) nx58 (blkQ (X16 n) 0 [2] 1 (seqQ (X16 n) (cR (cR (cR (cR C16)))) (fnQ (X16 n).E.T (resOf Proofs.Tryd.prog 16) (eB o))))))))) := by
                intro kx71
                induction kx71 with
                | zero => intro v69  ox70 h; exact (iter_zero h).elim
                | succ kx71 ihx73 =>
                  intro v69  ox70 h nx72 hnx76 hrx74 hxx75
                  obtain ⟨nx72, rfl⟩ : ∃ q, nx72 = q + 1 := ⟨nx72 - 1, by omega⟩
                  obtain ⟨sx77, h, hsx78⟩ := iter_some h
                  have h : f16_B1 m v65 v69 = some sx77 := h
                  unfold f16_B1 at h
                  refine Lp.succ ?_
                  refine Wp.seq' (by kernel_rfl) ?_
                  refine Wp.region (by kernel_rfl) ?_
                  refine Ops.seg' 1 1 (by kernel_rfl) ?_
                  refine Ops.done (by kernel_rfl) ?_
                  refine seqQ.n ?_
                  refine Wp.seq' (by kernel_rfl) ?_
                  refine Wp.cnd h [2, 6, 27, 28, 29, 33, 34, 35] 1 (by kernel_rfl) (fun h => ?_) (fun h => ?_)
                  · refine Wp.skip (by kernel_rfl) ?_
                    refine sqQ.n' ?_
                    refine seqQ.n ?_
                    refine Wp.seq' (by kernel_rfl) ?_
                    refine Wp.block' 3 [2, 6, 27, 28, 29, 33, 34, 35] 1 (by kernel_rfl) ?_
                    refine Wp.seq' (by kernel_rfl) ?_
                    refine Wp.region (by kernel_rfl) ?_
                    obtain ⟨v79, ev79, h⟩ := bnd_some h
                    refine Ops.one' 1 (fun h0 e0 => (ix_r (T := T) h0 44 3 1 .nonfull eI ([0, 9, 10, 32, 40, 41, 91, 93, 44, 59]) v69 v79 ev79 (by kernel_rfl) (by kernel_rfl) (fun _ => rfl))) (by kernel_rfl) (by kernel_rfl) ?_
                    refine Ops.seg' 2 3 (by kernel_rfl) ?_
                    refine Ops.done (by kernel_rfl) ?_
                    refine seqQ.n ?_
                    refine Wp.seq' (by kernel_rfl) ?_
                    refine Wp.region (by kernel_rfl) ?_
                    refine Ops.seg' 3 3 (by kernel_rfl) ?_
                    refine Ops.done (by kernel_rfl) ?_
                    refine seqQ.n ?_
                    refine Wp.cnd h [2, 6, 27, 28, 29, 33, 34, 35] 1 (by kernel_rfl) (fun h => ?_) (fun h => ?_)
                    · refine Wp.seq' (by kernel_rfl) ?_
                      refine Wp.region (by kernel_rfl) ?_
                      refine Ops.seg' 1 1 (by kernel_rfl) ?_
                      refine Ops.done (by kernel_rfl) ?_
                      refine seqQ.n ?_
                      refine Wp.ret (by kernel_rfl) ?_
                      refine sqQ.r ?_
                      refine blkQ.r ?_
                      refine seqQ.r ?_
                      cases h
                      refine lpQ.r ?_
                      refine blkQ.r ?_
                      exact hrx74 _ hsx78 _ (RetOk.forget [2, 6, 27, 28, 29, 33, 34, 35] (by kernel_rfl) (RetOk.mk' (dB false) (by kernel_rfl) (by kernel_rfl)))
                    · refine Wp.skip (by kernel_rfl) ?_
                      refine sqQ.n' ?_
                      refine blkQ.n' ?_
                      refine seqQ.n ?_
                      refine Wp.region (by kernel_rfl) ?_
                      refine Ops.seg' 2 2 (by kernel_rfl) ?_
                      refine Ops.done (by kernel_rfl) ?_
                      refine lpQ.n ⟨q2 ((dB false) :: q3 ((dI v65) :: q20 ((dP eI v1.1) :: (dI ((v1.1.length : Int))) :: (dI v55) :: q3 ((.v (.sl .nonfull (List.map eI ([0, 9, 10, 32, 40, 41, 91, 93, 44, 59])))) :: (dI ((([0, 9, 10, 32, 40, 41, 91, 93, 44, 59]).length : Int))) :: (dI (w64 (v69 + 1))) :: q10 [])))), [(.cells [(dI v1.2.fCode), (dI v1.2.fIndex)])]⟩ (by kernel_rfl) ?_
                      cases h
                      exact ihx73 (w64 (v69 + 1))  _ hsx78 _ (by omega) hrx74 hxx75
                  · refine Wp.exit (id := 2) (by kernel_rfl) ?_
                    refine sqQ.x ?_
                    refine seqQ.x ?_
                    cases h
                    refine lpQ.x ?_
                    refine blkQ.x ⟨q2 ((dB false) :: q3 ((dI v65) :: q20 ((dP eI v1.1) :: (dI ((v1.1.length : Int))) :: (dI v55) :: q3 ((.v (.sl .nonfull (List.map eI ([0, 9, 10, 32, 40, 41, 91, 93, 44, 59])))) :: (dI ((([0, 9, 10, 32, 40, 41, 91, 93, 44, 59]).length : Int))) :: (dI v69) :: q10 [])))), [(.cells [(dI v1.2.fCode), (dI v1.2.fIndex)])]⟩ (by kernel_rfl) ?_
                    exact hxx75 v69  hsx78
              refine Wp.loop' [2, 6, 27, 28, 29, 33, 34, 35] 1 (by kernel_rfl) ⟨q2 ((dB false) :: q3 ((dI v65) :: q20 ((dP eI v1.1) :: (dI ((v1.1.length : Int))) :: (dI v55) :: q3 ((.v (.sl .nonfull (List.map eI ([0, 9, 10, 32, 40, 41, 91, 93, 44, 59])))) :: (dI ((([0, 9, 10, 32, 40, 41, 91, 93, 44, 59]).length : Int))) :: (dI 0) :: q10 [])))), [(.cells [(dI v1.2.fCode), (dI v1.2.fIndex)])]⟩ (by kernel_rfl) ?_
              rcases brk_some h with ⟨r82, er82, h⟩ | ⟨y81, ey81, h⟩
              · refine hLx80 _ 0  _ er82 n (by omega) (fun r er σ hσ => ?_) (fun y  ey => by cases ey)
                cases er
                refine seqQ.r ?_
                refine blkQ.r ?_
                refine seqQ.r ?_
                refine lpQ.r ?_
                cases h
                refine blkQ.r ?_
                exact hrx60 _ hsx64 _ (RetOk.forget [2, 27, 28, 29] (by kernel_rfl) hσ)
              · refine hLx80 _ 0  _ ey81 n (by omega) (fun r er => by cases er) (fun y  ey => ?_)
                cases ey
                refine seqQ.n ?_
                refine Wp.seq' (by kernel_rfl) ?_
                refine Wp.region (by kernel_rfl) ?_
                refine Ops.seg' 2 2 (by kernel_rfl) ?_
                refine Ops.done (by kernel_rfl) ?_
                refine seqQ.n ?_
                refine Wp.cnd h [2, 27, 28, 29] 1 (by kernel_rfl) (fun h => ?_) (fun h => ?_)
                · refine Wp.seq' (by kernel_rfl) ?_
                  refine Wp.region (by kernel_rfl) ?_
                  refine Ops.seg' 1 1 (by kernel_rfl) ?_
                  refine Ops.done (by kernel_rfl) ?_
                  refine seqQ.n ?_
                  refine Wp.ret (by kernel_rfl) ?_
                  refine sqQ.r ?_
                  refine blkQ.r ?_
                  refine seqQ.r ?_
                  cases h
                  refine lpQ.r ?_
                  refine blkQ.r ?_
                  exact hrx60 _ hsx64 _ (RetOk.forget [2, 27, 28, 29] (by kernel_rfl) (RetOk.mk' (dB false) (by kernel_rfl) (by kernel_rfl)))
                · refine Wp.skip (by kernel_rfl) ?_
                  refine sqQ.n' ?_
                  refine blkQ.n' ?_
                  refine seqQ.n ?_
                  refine Wp.region (by kernel_rfl) ?_
                  refine Ops.seg' 2 2 (by kernel_rfl) ?_
                  refine Ops.done (by kernel_rfl) ?_
                  refine lpQ.n ⟨q2 ((dB false) :: q24 ((dP eI v1.1) :: (dI ((v1.1.length : Int))) :: (dI (w64 (v55 + 1))) :: q16 [])), [(.cells [(dI v1.2.fCode), (dI v1.2.fIndex)])]⟩ (by kernel_rfl) ?_
                  cases h
                  exact ihx59 (w64 (v55 + 1))  _ hsx64 _ (by omega) hrx60 hxx61
            · refine Wp.exit (id := 0) (by kernel_rfl) ?_
              refine sqQ.x ?_
              refine seqQ.x ?_
              cases h
              refine lpQ.x ?_
              refine blkQ.x ⟨q2 ((dB false) :: q24 ((dP eI v1.1) :: (dI ((v1.1.length : Int))) :: (dI v55) :: q16 [])), [(.cells [(dI v1.2.fCode), (dI v1.2.fIndex)])]⟩ (by kernel_rfl) ?_
              exact hxx61 v55  hsx64
        refine Wp.loop' [2, 27, 28, 29] 1 (by kernel_rfl) ⟨q2 ((dB false) :: q24 ((dP eI v1.1) :: (dI ((v1.1.length : Int))) :: (dI 0) :: q16 [])), [(.cells [(dI v1.2.fCode), (dI v1.2.fIndex)])]⟩ (by kernel_rfl) ?_
        rcases brk_some h with ⟨r85, er85, h⟩ | ⟨y84, ey84, h⟩
        · refine hLx83 _ 0  _ er85 n (by omega) (fun r er σ hσ => ?_) (fun y  ey => by cases ey)
          cases er
          refine seqQ.r ?_
          exact fnQ.r' (X16 n) (fun z => (eB z)) h hσ
        · refine hLx83 _ 0  _ ey84 n (by omega) (fun r er => by cases er) (fun y  ey => ?_)
          cases ey
          refine seqQ.n ?_
          refine Wp.seq' (by kernel_rfl) ?_
          refine Wp.region (by kernel_rfl) ?_
          refine Ops.seg' 1 1 (by kernel_rfl) ?_
          refine Ops.done (by kernel_rfl) ?_
          refine seqQ.n ?_
          refine Wp.ret (by kernel_rfl) ?_
          exact fnQ.r' (X16 n) (fun z => (eB z)) h (RetOk.mk' (dB true) (by kernel_rfl) (by kernel_rfl))
    have G16g11 : ∀ v10 : Bool, f16_r3 m v1 ((v10 || (decide ((v1.1.length : Int) > 30)))) = some o → Ops (X16 n) (opl (cL (cL (cR (cR C16))))) 9 ⟨(.v (.str a0)) :: u1 ((dB false) :: (dP eI v1.1) :: (.ptr 0 0) :: u4 ((.v (.tuple [(vP eI v1.1), (.agg [(vI v1.2.fCode), (vI v1.2.fIndex)])])) :: (.v (.str a0)) :: (.v (.tuple [(vP eI v1.1), (.agg [(vI v1.2.fCode), (vI v1.2.fIndex)])])) :: (dP eI v1.1) :: (.v (.agg [(vI v1.2.fCode), (vI v1.2.fIndex)])) :: (.v (.agg [(vI v1.2.fCode), (vI v1.2.fIndex)])) :: (.v (.agg [(vI 0), (vI 0)])) :: (dB v7) :: (dB v7) :: d4 :: d5 :: d6 :: (dB v10) :: (dB v10) :: u23 [])), [(.cells [(dI v1.2.fCode), (dI v1.2.fIndex)])]⟩ ((seqQ (X16 n) (cR (cL (cR (cR C16)))) (seqQ (X16 n) (cR (cR (cR C16))) (fnQ (X16 n).E.T (resOf Proofs.Tryd.prog 16) (eB o)))) .normal) := by
      intro v10 h
      cases v10
      · refine Ops.seg' 1 10 (by kernel_rfl) ?_
        refine Ops.one' 11 (fun h0 e0 => (len_r (T := T) h0 44 3 .plain eI v1.1 (by kernel_rfl))) (by kernel_rfl) (by kernel_rfl) ?_
        refine Ops.seg' 2 13 (by kernel_rfl) ?_
        refine Ops.st ⟨(.v (.str a0)) :: u1 ((dB false) :: (dP eI v1.1) :: (.ptr 0 0) :: u4 ((.v (.tuple [(vP eI v1.1), (.agg [(vI v1.2.fCode), (vI v1.2.fIndex)])])) :: (.v (.str a0)) :: (.v (.tuple [(vP eI v1.1), (.agg [(vI v1.2.fCode), (vI v1.2.fIndex)])])) :: (dP eI v1.1) :: (.v (.agg [(vI v1.2.fCode), (vI v1.2.fIndex)])) :: (.v (.agg [(vI v1.2.fCode), (vI v1.2.fIndex)])) :: (.v (.agg [(vI 0), (vI 0)])) :: (dB v7) :: (dB v7) :: d4 :: d5 :: d6 :: (dB false) :: (dB false) :: (dP eI v1.1) :: (dI ((v1.1.length : Int))) :: (dB (decide ((v1.1.length : Int) > 30))) :: (dB (decide ((v1.1.length : Int) > 30))) :: u19 [])), [(.cells [(dI v1.2.fCode), (dI v1.2.fIndex)])]⟩ (by kernel_rfl) ?_
        exact J16j17 _ _ _ _ _ h
      · refine Ops.seg' 4 13 (by kernel_rfl) ?_
        refine Ops.st ⟨(.v (.str a0)) :: u1 ((dB false) :: (dP eI v1.1) :: (.ptr 0 0) :: u4 ((.v (.tuple [(vP eI v1.1), (.agg [(vI v1.2.fCode), (vI v1.2.fIndex)])])) :: (.v (.str a0)) :: (.v (.tuple [(vP eI v1.1), (.agg [(vI v1.2.fCode), (vI v1.2.fIndex)])])) :: (dP eI v1.1) :: (.v (.agg [(vI v1.2.fCode), (vI v1.2.fIndex)])) :: (.v (.agg [(vI v1.2.fCode), (vI v1.2.fIndex)])) :: (.v (.agg [(vI 0), (vI 0)])) :: (dB v7) :: (dB v7) :: d4 :: d5 :: d6 :: (dB true) :: (dB true) :: u3 ((dB true) :: u19 []))), [(.cells [(dI v1.2.fCode), (dI v1.2.fIndex)])]⟩ (by kernel_rfl) ?_
        exact J16j17 _ _ _ _ _ h
    exact Ops.st ⟨(.v (.str a0)) :: u1 ((dB false) :: (dP eI v1.1) :: (.ptr 0 0) :: u4 ((.v (.tuple [(vP eI v1.1), (.agg [(vI v1.2.fCode), (vI v1.2.fIndex)])])) :: (.v (.str a0)) :: (.v (.tuple [(vP eI v1.1), (.agg [(vI v1.2.fCode), (vI v1.2.fIndex)])])) :: (dP eI v1.1) :: (.v (.agg [(vI v1.2.fCode), (vI v1.2.fIndex)])) :: (.v (.agg [(vI v1.2.fCode), (vI v1.2.fIndex)])) :: (.v (.agg [(vI 0), (vI 0)])) :: (dB v7) :: (dB v7) :: d4 :: d5 :: d6 :: (dB v8) :: (dB v8) :: u23 [])), [(.cells [(dI v1.2.fCode), (dI v1.2.fIndex)])]⟩ (by kernel_rfl) (G16g11 v8 h)
  have G16g3 : ∀ v2 : Bool, f16_r4 m v1 ((v2 || (((v1.1.length : Int)) == 0))) = some o → Ops (X16 n) (opl (cL (cL (cR (cR C16))))) 4 ⟨(.v (.str a0)) :: u1 ((dB false) :: (dP eI v1.1) :: (.ptr 0 0) :: u4 ((.v (.tuple [(vP eI v1.1), (.agg [(vI v1.2.fCode), (vI v1.2.fIndex)])])) :: (.v (.str a0)) :: (.v (.tuple [(vP eI v1.1), (.agg [(vI v1.2.fCode), (vI v1.2.fIndex)])])) :: (dP eI v1.1) :: (.v (.agg [(vI v1.2.fCode), (vI v1.2.fIndex)])) :: (.v (.agg [(vI v1.2.fCode), (vI v1.2.fIndex)])) :: (.v (.agg [(vI 0), (vI 0)])) :: (dB v2) :: (dB v2) :: u28 [])), [(.cells [(dI v1.2.fCode), (dI v1.2.fIndex)])]⟩ ((seqQ (X16 n) (cR (cL (cR (cR C16)))) (seqQ (X16 n) (cR (cR (cR C16))) (fnQ (X16 n).E.T (resOf Proofs.Tryd.prog 16) (eB o)))) .normal) := by
    intro v2 h
    cases v2
    · refine Ops.seg' 1 5 (by kernel_rfl) ?_
      refine Ops.one' 6 (fun h0 e0 => (len_r (T := T) h0 44 3 .plain eI v1.1 (by kernel_rfl))) (by kernel_rfl) (by kernel_rfl) ?_
      refine Ops.seg' 2 8 (by kernel_rfl) ?_
      refine Ops.st ⟨(.v (.str a0)) :: u1 ((dB false) :: (dP eI v1.1) :: (.ptr 0 0) :: u4 ((.v (.tuple [(vP eI v1.1), (.agg [(vI v1.2.fCode), (vI v1.2.fIndex)])])) :: (.v (.str a0)) :: (.v (.tuple [(vP eI v1.1), (.agg [(vI v1.2.fCode), (vI v1.2.fIndex)])])) :: (dP eI v1.1) :: (.v (.agg [(vI v1.2.fCode), (vI v1.2.fIndex)])) :: (.v (.agg [(vI v1.2.fCode), (vI v1.2.fIndex)])) :: (.v (.agg [(vI 0), (vI 0)])) :: (dB false) :: (dB false) :: (dP eI v1.1) :: (dI ((v1.1.length : Int))) :: (dB (((v1.1.length : Int)) == 0)) :: (dB (((v1.1.length : Int)) == 0)) :: u24 [])), [(.cells [(dI v1.2.fCode), (dI v1.2.fIndex)])]⟩ (by kernel_rfl) ?_
      exact J16j9 _ _ _ _ _ h
    · refine Ops.seg' 4 8 (by kernel_rfl) ?_
      refine Ops.st ⟨(.v (.str a0)) :: u1 ((dB false) :: (dP eI v1.1) :: (.ptr 0 0) :: u4 ((.v (.tuple [(vP eI v1.1), (.agg [(vI v1.2.fCode), (vI v1.2.fIndex)])])) :: (.v (.str a0)) :: (.v (.tuple [(vP eI v1.1), (.agg [(vI v1.2.fCode), (vI v1.2.fIndex)])])) :: (dP eI v1.1) :: (.v (.agg [(vI v1.2.fCode), (vI v1.2.fIndex)])) :: (.v (.agg [(vI v1.2.fCode), (vI v1.2.fIndex)])) :: (.v (.agg [(vI 0), (vI 0)])) :: (dB true) :: (dB true) :: u3 ((dB true) :: u24 []))), [(.cells [(dI v1.2.fCode), (dI v1.2.fIndex)])]⟩ (by kernel_rfl) ?_
      exact J16j9 _ _ _ _ _ h
  exact Ops.st ⟨(.v (.str a0)) :: u1 ((dB false) :: (dP eI v1.1) :: (.ptr 0 0) :: u4 ((.v (.tuple [(vP eI v1.1), (.agg [(vI v1.2.fCode), (vI v1.2.fIndex)])])) :: (.v (.str a0)) :: (.v (.tuple [(vP eI v1.1), (.agg [(vI v1.2.fCode), (vI v1.2.fIndex)])])) :: (dP eI v1.1) :: (.v (.agg [(vI v1.2.fCode), (vI v1.2.fIndex)])) :: (.v (.agg [(vI v1.2.fCode), (vI v1.2.fIndex)])) :: (.v (.agg [(vI 0), (vI 0)])) :: (dB ((!((v1.2.fCode == 0) && ((v1.2.fIndex == 0) && true))))) :: (dB ((!((v1.2.fCode == 0) && ((v1.2.fIndex == 0) && true))))) :: u28 [])), [(.cells [(dI v1.2.fCode), (dI v1.2.fIndex)])]⟩ (by kernel_rfl) (G16g3 (!((v1.2.fCode == 0) && ((v1.2.fIndex == 0) && true))) h)

/-! ### 38 glosswright/glosswrightref6.Part -/
def f38_r1 (m : Nat) (v6 : Bool) : Option Bool :=
  some v6
def f38 (m : Nat) (a0 : ByteArray) : Option Bool :=
  bnd (cnd ((a0.toList == ((⟨#[]⟩ : ByteArray)).toList))
  (some true)
  (bnd (f16 m a0) fun v8 =>
  some v8)) fun v6 =>
  f38_r1 m v6
noncomputable abbrev X38 (n : Nat) : Cx := cxOf Proofs.Tryd.prog E 38 n
noncomputable def C38 : Code := bodyOf Proofs.Tryd.prog 38
theorem ok38 (m : Nat) (a0 : ByteArray) (o : Bool) (h : f38 m a0 = some o) (n : Nat) (hn : m + 5 ≤ n) : Fn Proofs.Tryd.prog E n 38 [.v (eS a0)] (eB o) := by
  obtain ⟨n, rfl⟩ : ∃ q, n = q + 1 := ⟨n - 1, by omega⟩
  unfold f38 at h
  refine Fn.of (by kernel_rfl) (by kernel_rfl) (by kernel_rfl) ⟨(.v (.str a0)) :: u8 [], []⟩ (by kernel_rfl) ?_
  refine Wp.seq' (by kernel_rfl) ?_
  refine Wp.region (by kernel_rfl) ?_
  refine Ops.seg' 1 1 (by kernel_rfl) ?_
  refine Ops.done (by kernel_rfl) ?_
  refine seqQ.n ?_
  refine Wp.seq' (by kernel_rfl) ?_
  refine Wp.region (by kernel_rfl) ?_
  refine Ops.seg' 3 3 (by kernel_rfl) ?_
  have J38j7 : ∀ (d3 d4 : D) (v5 : Bool) (v6 : Bool), f38_r1 m v6 = some o → Ops (X38 n) (opl (cL (cR C38))) 6 ⟨(.v (.str a0)) :: u1 ((dB false) :: (.v (.str a0)) :: (dB v5) :: (dB v5) :: d3 :: d4 :: (dB v6) :: []), []⟩ ((seqQ (X38 n) (cR (cR C38)) (fnQ (X38 n).E.T (resOf Proofs.Tryd.prog 38) (eB o))) .normal) := by
    intro d3 d4 v5 v6 h
    unfold f38_r1 at h
    refine Ops.seg' 1 7 (by kernel_rfl) ?_
    refine Ops.done (by kernel_rfl) ?_
    refine seqQ.n ?_
    refine Wp.ret (by kernel_rfl) ?_
    exact fnQ.r' (X38 n) (fun z => (eB z)) h (RetOk.mk' (dB v6) (by kernel_rfl) (by kernel_rfl))
  obtain ⟨v6, ev6, h⟩ := bnd_some h
  have G38g2 : ∀ v1 : Bool, (cnd v1 (some true) (bnd (f16 m a0) fun v8 => some v8)) = some v6 → Ops (X38 n) (opl (cL (cR C38))) 3 ⟨(.v (.str a0)) :: u1 ((dB false) :: (.v (.str a0)) :: (dB v1) :: (dB v1) :: u3 []), []⟩ ((seqQ (X38 n) (cR (cR C38)) (fnQ (X38 n).E.T (resOf Proofs.Tryd.prog 38) (eB o))) .normal) := by
    intro v1 ev6
    cases v1
    · have ev6 := cnd_f ev6
      refine Ops.seg' 1 4 (by kernel_rfl) ?_
      obtain ⟨v8, ev8, ev6⟩ := bnd_some ev6
      refine Ops.one' 5 (fun h0 e0 => (call_ok (E' := E) (h := h0) (by kernel_rfl) (Args.v (.str a0) (eS a0) (by kernel_rfl) Args.nil) (ok16 m a0 v8 ev8 n (by omega)))) (by kernel_rfl) (by kernel_rfl) ?_
      refine Ops.seg' 1 6 (by kernel_rfl) ?_
      refine Ops.st ⟨(.v (.str a0)) :: u1 ((dB false) :: (.v (.str a0)) :: (dB false) :: (dB false) :: (.v (.str a0)) :: (dB v8) :: (dB v8) :: []), []⟩ (by kernel_rfl) ?_
      exact J38j7 _ _ _ _ (some_sub (fun v6 => f38_r1 m v6 = some o) ev6 h)
    · have ev6 := cnd_t ev6
      refine Ops.seg' 3 6 (by kernel_rfl) ?_
      refine Ops.st ⟨(.v (.str a0)) :: u1 ((dB false) :: (.v (.str a0)) :: (dB true) :: (dB true) :: u2 ((dB true) :: [])), []⟩ (by kernel_rfl) ?_
      exact J38j7 _ _ _ _ (some_sub (fun v6 => f38_r1 m v6 = some o) ev6 h)
  exact Ops.st ⟨(.v (.str a0)) :: u1 ((dB false) :: (.v (.str a0)) :: (dB (((a0.toList == ((⟨#[]⟩ : ByteArray)).toList)))) :: (dB (((a0.toList == ((⟨#[]⟩ : ByteArray)).toList)))) :: u3 []), []⟩ (by kernel_rfl) (G38g2 ((a0.toList == ((⟨#[]⟩ : ByteArray)).toList)) ev6)

/-! ### 14 glosswright/glosswrightref6.ParadigmFault -/
def f14_r1 (m : Nat) (v44 : Int) (v65 : Bool) : Option (Stp S27 (Int)) :=
  cnd v65
  (bnd (f36 m 5 v44) fun v67 =>
  some (.ret v67))
  (some (.nxt (w64 (v44 + 1))))
def f14_B2 (m : Nat) (a0 : S23) (v44 : Int) : Option (Stp S27 (Int)) :=
  cnd (decide (v44 < (a0.fCells.length : Int)))
  (bnd (idx a0.fCells v44) fun v54 =>
  bnd (f37 m v54.fTags 4) fun v55 =>
  cnd (v55 != 0)
  (bnd (f36 m v55 v44) fun v56 =>
  some (.ret v56))
  (bnd (f38 m v54.fCut) fun v57 =>
  bnd (cnd (!v57)
  (some true)
  (bnd (f38 m v54.fAdd) fun v68 =>
  some (!v68))) fun v65 =>
  f14_r1 m v44 v65))
  (some (.brk v44))
def f14_r3 (m : Nat) (a0 : S23) (v10 : Bool) : Option S27 :=
  cnd v10
  (bnd (f36 m 9 ((-1))) fun v12 =>
  some v12)
  (brk (iter (fun (y : Int) => f14_B2 m a0 y) m 0) some fun y70 =>
  some ((⟨0, 0⟩ : S27)))
def f14 (m : Nat) (a0 : S23) : Option S27 :=
  bnd (f35 m a0.fName) fun v1 =>
  cnd (!v1)
  (bnd (f36 m 10 ((-1))) fun v2 =>
  some v2)
  (f14_r3 m a0 (((((a0.fCells.length : Int)) == 0) || (decide ((a0.fCells.length : Int) > 40)))))
noncomputable abbrev X14 (n : Nat) : Cx := cxOf Proofs.Tryd.prog E 14 n
noncomputable def C14 : Code := bodyOf Proofs.Tryd.prog 14
theorem ok14 (m : Nat) (a0 : S23) (o : S27) (h : f14 m a0 = some o) (n : Nat) (hn : m + 6 ≤ n) : Fn Proofs.Tryd.prog E n 14 [.v (e23 a0)] (e27 o) := by
  obtain ⟨n, rfl⟩ : ∃ q, n = q + 1 := ⟨n - 1, by omega⟩
  unfold f14 at h
  refine Fn.of (by kernel_rfl) (by kernel_rfl) (by kernel_rfl) ⟨(.v (.agg [(.str a0.fName), (vP e67 a0.fCells)])) :: u40 (u11 []), []⟩ (by kernel_rfl) ?_
  refine Wp.seq' (by kernel_rfl) ?_
  refine Wp.region (by kernel_rfl) ?_
  refine Ops.seg' 2 2 (by kernel_rfl) ?_
  refine Ops.done (by kernel_rfl) ?_
  refine seqQ.n ?_
  refine Wp.seq' (by kernel_rfl) ?_
  refine Wp.seq' (by kernel_rfl) ?_
  refine Wp.region (by kernel_rfl) ?_
  refine Ops.seg' 2 2 (by kernel_rfl) ?_
  obtain ⟨v1, ev1, h⟩ := bnd_some h
  refine Ops.one' 3 (fun h0 e0 => (call_ok (E' := E) (h := h0) (by kernel_rfl) (Args.v (.str a0.fName) (eS a0.fName) (by kernel_rfl) Args.nil) (ok35 m a0.fName v1 ev1 n (by omega)))) (by kernel_rfl) (by kernel_rfl) ?_
  refine Ops.seg' 1 4 (by kernel_rfl) ?_
  refine Ops.done (by kernel_rfl) ?_
  refine seqQ.n ?_
  refine Wp.cnd h [1, 2] 2 (by kernel_rfl) (fun h => ?_) (fun h => ?_)
  · refine Wp.seq' (by kernel_rfl) ?_
    refine Wp.region (by kernel_rfl) ?_
    obtain ⟨v2, ev2, h⟩ := bnd_some h
    refine Ops.one' 1 (fun h0 e0 => (call_ok (E' := E) (h := h0) (by kernel_rfl) (Args.v (vI 10) (eI 10) (by kernel_rfl) (Args.v (vI ((-1))) (eI ((-1))) (by kernel_rfl) Args.nil)) (ok36 m 10 ((-1)) v2 ev2 n (by omega)))) (by kernel_rfl) (by kernel_rfl) ?_
    refine Ops.seg' 1 2 (by kernel_rfl) ?_
    refine Ops.done (by kernel_rfl) ?_
    refine seqQ.n ?_
    refine Wp.ret (by kernel_rfl) ?_
    refine sqQ.r ?_
    refine seqQ.r ?_
    exact fnQ.r' (X14 n) (fun z => (e27 z)) h (RetOk.mk' (.v (.agg [(vI v2.fCode), (vI v2.fIndex)])) (by kernel_rfl) (by kernel_rfl))
  · refine Wp.skip (by kernel_rfl) ?_
    refine sqQ.n' ?_
    refine seqQ.n ?_
    refine Wp.seq' (by kernel_rfl) ?_
    refine Wp.seq' (by kernel_rfl) ?_
    refine Wp.region (by kernel_rfl) ?_
    refine Ops.seg' 2 2 (by kernel_rfl) ?_
    refine Ops.one' 3 (fun h0 e0 => (len_r (T := T) h0 22 68 .plain e67 a0.fCells (by kernel_rfl))) (by kernel_rfl) (by kernel_rfl) ?_
    refine Ops.seg' 2 5 (by kernel_rfl) ?_
    have J14j11 : ∀ (d5 d6 d7 d8 : D) (v9 : Bool) (v10 : Bool), f14_r3 m a0 v10 = some o → Ops (X14 n) (opl (cL (cL (cR (cR C14))))) 10 ⟨(.v (.agg [(.str a0.fName), (vP e67 a0.fCells)])) :: (.ptr 0 0) :: (.ptr 1 0) :: u3 ((.ptr 0 0) :: (.v (.str a0.fName)) :: (dB v1) :: (dB (!v1)) :: u1 ((.ptr 0 1) :: (dP e67 a0.fCells) :: (dI ((a0.fCells.length : Int))) :: (dB v9) :: (dB v9) :: d5 :: d6 :: d7 :: d8 :: (dB v10) :: u31 [])), [(.cells [(.v (.str a0.fName)), (dP e67 a0.fCells)]), (.cells [(dI 0), (dI 0)])]⟩ ((seqQ (X14 n) (cR (cL (cR (cR C14)))) (seqQ (X14 n) (cR (cR (cR C14))) (fnQ (X14 n).E.T (resOf Proofs.Tryd.prog 14) (e27 o)))) .normal) := by
      intro d5 d6 d7 d8 v9 v10 h
      unfold f14_r3 at h
      refine Ops.done (by kernel_rfl) ?_
      refine seqQ.n ?_
      refine Wp.cnd h [1, 2] 2 (by kernel_rfl) (fun h => ?_) (fun h => ?_)
      · refine Wp.seq' (by kernel_rfl) ?_
        refine Wp.region (by kernel_rfl) ?_
        obtain ⟨v12, ev12, h⟩ := bnd_some h
        refine Ops.one' 1 (fun h0 e0 => (call_ok (E' := E) (h := h0) (by kernel_rfl) (Args.v (vI 9) (eI 9) (by kernel_rfl) (Args.v (vI ((-1))) (eI ((-1))) (by kernel_rfl) Args.nil)) (ok36 m 9 ((-1)) v12 ev12 n (by omega)))) (by kernel_rfl) (by kernel_rfl) ?_
        refine Ops.seg' 1 2 (by kernel_rfl) ?_
        refine Ops.done (by kernel_rfl) ?_
        refine seqQ.n ?_
        refine Wp.ret (by kernel_rfl) ?_
        refine sqQ.r ?_
        refine seqQ.r ?_
        exact fnQ.r' (X14 n) (fun z => (e27 z)) h (RetOk.mk' (.v (.agg [(vI v12.fCode), (vI v12.fIndex)])) (by kernel_rfl) (by kernel_rfl))
      · refine Wp.skip (by kernel_rfl) ?_
        refine sqQ.n' ?_
        refine seqQ.n ?_
        refine Wp.seq' (by kernel_rfl) ?_
        refine Wp.seq' (by kernel_rfl) ?_
        refine Wp.region (by kernel_rfl) ?_
        refine Ops.seg' 2 2 (by kernel_rfl) ?_
        refine Ops.one' 3 (fun h0 e0 => (len_r (T := T) h0 22 68 .plain e67 a0.fCells (by kernel_rfl))) (by kernel_rfl) (by kernel_rfl) ?_
        refine Ops.seg' 1 4 (by kernel_rfl) ?_
        refine Ops.done (by kernel_rfl) ?_
        refine seqQ.n ?_
        refine Wp.block' 0 [2] 2 (by kernel_rfl) ?_
        have hLx69 : ∀ (kx46 : Nat) (v44 : Int)  (ox45 : S27 ⊕ (Int)), iter (fun (y : Int) => f14_B2 m a0 y) kx46 v44 = some ox45 → ∀ nx47, kx46 ≤ nx47 → (∀ r, ox45 = .inl r → ∀ σ, RetOk (X14 n) (resOf Proofs.Tryd.prog 14) (e27 r) σ → (seqQ (X14 n) (cR (cR (cR (cR C14)))) (fnQ (X14 n).E.T (resOf Proofs.Tryd.prog 14) (e27 o))) .ret σ) → (∀ (y : Int) , ox45 = .inr y → (seqQ (X14 n) (cR (cR (cR (cR C14)))) (fnQ (X14 n).E.T (resOf Proofs.Tryd.prog 14) (e27 o))) .normal ⟨q2 ((.ptr 1 0) :: q20 ((dP e67 a0.fCells) :: (dI ((a0.fCells.length : Int))) :: (dI y) :: q26 [])), [(.cells [(.v (.str a0.fName)), (dP e67 a0.fCells)]), (.cells [(dI 0), (dI 0)])]⟩) → Lp (X14 n) [2, 23, 24, 25] 2 (cL (cL (cR (cL (cR (cR (cR C14))))))) nx47 ⟨q2 ((.ptr 1 0) :: q20 ((dP e67 a0.fCells) :: (dI ((a0.fCells.length : Int))) :: (dI v44) :: q26 [])), [(.cells [(.v (.str a0.fName)), (dP e67 a0.fCells)]), (.cells [(dI 0), (dI 0)])]⟩ (blkQ (X14 n) 0 [2] 2 (seqQ (X14 n) (cR (cR (cR (cR C14)))) (fnQ (X14 n).E.T (resOf Proofs.Tryd.prog 14) (e27 o)))) := by
          intro kx46
          induction kx46 with
          | zero => intro v44  ox45 h; exact (iter_zero h).elim
          | succ kx46 ihx48 =>
            intro v44  ox45 h nx47 hnx51 hrx49 hxx50
            obtain ⟨nx47, rfl⟩ : ∃ q, nx47 = q + 1 := ⟨nx47 - 1, by omega⟩
            obtain ⟨sx52, h, hsx53⟩ := iter_some h
            have h : f14_B2 m a0 v44 = some sx52 := h
            unfold f14_B2 at h
            refine Lp.succ ?_
            refine Wp.seq' (by kernel_rfl) ?_
            refine Wp.region (by kernel_rfl) ?_
            refine Ops.seg' 1 1 (by kernel_rfl) ?_
            refine Ops.done (by kernel_rfl) ?_
            refine seqQ.n ?_
            refine Wp.seq' (by kernel_rfl) ?_
            refine Wp.cnd h [2, 23, 24, 25] 2 (by kernel_rfl) (fun h => ?_) (fun h => ?_)
            · refine Wp.skip (by kernel_rfl) ?_
              refine sqQ.n' ?_
              refine seqQ.n ?_
              refine Wp.seq' (by kernel_rfl) ?_
              refine Wp.block' 1 [2, 23, 24, 25] 2 (by kernel_rfl) ?_
              refine Wp.seq' (by kernel_rfl) ?_
              refine Wp.region (by kernel_rfl) ?_
              refine Ops.seg' 1 1 (by kernel_rfl) ?_
              obtain ⟨v54, ev54, h⟩ := bnd_some h
              refine Ops.one' 2 (fun h0 e0 => (ix_r (T := T) h0 22 68 3 .plain e67 a0.fCells v44 v54 ev54 (by kernel_rfl) (by kernel_rfl) (fun _ => rfl))) (by kernel_rfl) (by kernel_rfl) ?_
              refine Ops.seg' 4 6 (by kernel_rfl) ?_
              refine Ops.done (by kernel_rfl) ?_
              refine seqQ.n ?_
              refine Wp.seq' (by kernel_rfl) ?_
              refine Wp.seq' (by kernel_rfl) ?_
              refine Wp.region (by kernel_rfl) ?_
              refine Ops.seg' 2 2 (by kernel_rfl) ?_
              obtain ⟨v55, ev55, h⟩ := bnd_some h
              refine Ops.one' 3 (fun h0 e0 => (call_ok (E' := E) (h := h0) (by kernel_rfl) (Args.v (vP eS v54.fTags) ((eL eS) v54.fTags) (by kernel_rfl) (Args.v (vI 4) (eI 4) (by kernel_rfl) Args.nil)) (ok37 m v54.fTags 4 v55 ev55 n (by omega)))) (by kernel_rfl) (by kernel_rfl) ?_
              refine Ops.seg' 1 4 (by kernel_rfl) ?_
              refine Ops.done (by kernel_rfl) ?_
              refine seqQ.n ?_
              refine Wp.seq' (by kernel_rfl) ?_
              refine Wp.region (by kernel_rfl) ?_
              refine Ops.seg' 2 2 (by kernel_rfl) ?_
              refine Ops.done (by kernel_rfl) ?_
              refine seqQ.n ?_
              refine Wp.cnd h [2, 3, 4, 23, 24, 25] 3 (by kernel_rfl) (fun h => ?_) (fun h => ?_)
              · refine Wp.seq' (by kernel_rfl) ?_
                refine Wp.region (by kernel_rfl) ?_
                refine Ops.seg' 2 2 (by kernel_rfl) ?_
                obtain ⟨v56, ev56, h⟩ := bnd_some h
                refine Ops.one' 3 (fun h0 e0 => (call_ok (E' := E) (h := h0) (by kernel_rfl) (Args.v (vI v55) (eI v55) (by kernel_rfl) (Args.v (vI v44) (eI v44) (by kernel_rfl) Args.nil)) (ok36 m v55 v44 v56 ev56 n (by omega)))) (by kernel_rfl) (by kernel_rfl) ?_
                refine Ops.seg' 1 4 (by kernel_rfl) ?_
                refine Ops.done (by kernel_rfl) ?_
                refine seqQ.n ?_
                refine Wp.ret (by kernel_rfl) ?_
                refine sqQ.r ?_
                refine seqQ.r ?_
                refine blkQ.r ?_
                refine seqQ.r ?_
                cases h
                refine lpQ.r ?_
                refine blkQ.r ?_
                exact hrx49 _ hsx53 _ (RetOk.forget [2, 23, 24, 25] (by kernel_rfl) (RetOk.mk' (.v (.agg [(vI v56.fCode), (vI v56.fIndex)])) (by kernel_rfl) (by kernel_rfl)))
              · refine Wp.skip (by kernel_rfl) ?_
                refine sqQ.n' ?_
                refine seqQ.n ?_
                refine Wp.seq' (by kernel_rfl) ?_
                refine Wp.region (by kernel_rfl) ?_
                refine Ops.seg' 2 2 (by kernel_rfl) ?_
                obtain ⟨v57, ev57, h⟩ := bnd_some h
                refine Ops.one' 3 (fun h0 e0 => (call_ok (E' := E) (h := h0) (by kernel_rfl) (Args.v (.str v54.fCut) (eS v54.fCut) (by kernel_rfl) Args.nil) (ok38 m v54.fCut v57 ev57 n (by omega)))) (by kernel_rfl) (by kernel_rfl) ?_
                refine Ops.seg' 2 5 (by kernel_rfl) ?_
                have J14j66 : ∀ (d60 d61 d62 d63 : D) (v64 : Bool) (v65 : Bool), f14_r1 m v44 v65 = some sx52 → Ops (X14 n) (opl (cL (cR (cR (cL (cL (cR (cR (cL (cL (cR (cL (cR (cR (cR C14))))))))))))))) 10 ⟨q2 ((.ptr 1 0) :: (dI v44) :: (.ptr 2 0) :: (dI v55) :: q17 ((dP e67 a0.fCells) :: (dI ((a0.fCells.length : Int))) :: (dI v44) :: (dB (decide (v44 < (a0.fCells.length : Int)))) :: (dI v44) :: (.vptr [(vP eS v54.fTags), (.str v54.fCut), (.str v54.fAdd)]) :: (.v (.agg [(vP eS v54.fTags), (.str v54.fCut), (.str v54.fAdd)])) :: (.ptr 2 0) :: (dP eS v54.fTags) :: (dI v55) :: (dI v55) :: (dB (v55 != 0)) :: q3 ((.ptr 2 1) :: (.v (.str v54.fCut)) :: (dB v57) :: (dB v64) :: (dB v64) :: d60 :: d61 :: d62 :: d63 :: (dB v65) :: q4 []))), [(.cells [(.v (.str a0.fName)), (dP e67 a0.fCells)]), (.cells [(dI 0), (dI 0)]), (.cells [(dP eS v54.fTags), (.v (.str v54.fCut)), (.v (.str v54.fAdd))])]⟩ ((seqQ (X14 n) (cR (cR (cR (cL (cL (cR (cR (cL (cL (cR (cL (cR (cR (cR C14)))))))))))))) (blkQ (X14 n) 1 [2, 23, 24, 25] 2 (seqQ (X14 n) (cR (cR (cR (cL (cL (cR (cL (cR (cR (cR C14)))))))))) (lpQ (X14 n) [2, 23, 24, 25] 2 (cL (cL (cR (cL (cR (cR (cR C14))))))) nx47 (blkQ (X14 n) 0 [2] 2 (seqQ (X14 n) (cR (cR (cR (cR C14)))) (fnQ (X14 n).E.T (resOf Proofs.Tryd.prog 14) (e27 o)))))))) .normal) := by
                  intro d60 d61 d62 d63 v64 v65 h
                  unfold f14_r1 at h
                  refine Ops.done (by kernel_rfl) ?_
                  refine seqQ.n ?_
                  refine Wp.cnd h [2, 23, 24, 25] 3 (by kernel_rfl) (fun h => ?_) (fun h => ?_)
                  · refine Wp.seq' (by kernel_rfl) ?_
                    refine Wp.region (by kernel_rfl) ?_
                    refine Ops.seg' 1 1 (by kernel_rfl) ?_
                    obtain ⟨v67, ev67, h⟩ := bnd_some h
                    refine Ops.one' 2 (fun h0 e0 => (call_ok (E' := E) (h := h0) (by kernel_rfl) (Args.v (vI 5) (eI 5) (by kernel_rfl) (Args.v (vI v44) (eI v44) (by kernel_rfl) Args.nil)) (ok36 m 5 v44 v67 ev67 n (by omega)))) (by kernel_rfl) (by kernel_rfl) ?_
                    refine Ops.seg' 1 3 (by kernel_rfl) ?_
                    refine Ops.done (by kernel_rfl) ?_
                    refine seqQ.n ?_
                    refine Wp.ret (by kernel_rfl) ?_
                    refine sqQ.r ?_
                    refine blkQ.r ?_
                    refine seqQ.r ?_
                    cases h
                    refine lpQ.r ?_
                    refine blkQ.r ?_
                    exact hrx49 _ hsx53 _ (RetOk.forget [2, 23, 24, 25] (by kernel_rfl) (RetOk.mk' (.v (.agg [(vI v67.fCode), (vI v67.fIndex)])) (by kernel_rfl) (by kernel_rfl)))
                  · refine Wp.skip (by kernel_rfl) ?_
                    refine sqQ.n' ?_
                    refine blkQ.n' ?_
                    refine seqQ.n ?_
                    refine Wp.region (by kernel_rfl) ?_
                    refine Ops.seg' 2 2 (by kernel_rfl) ?_
                    refine Ops.done (by kernel_rfl) ?_
                    refine lpQ.n ⟨q2 ((.ptr 1 0) :: q20 ((dP e67 a0.fCells) :: (dI ((a0.fCells.length : Int))) :: (dI (w64 (v44 + 1))) :: q26 [])), [(.cells [(.v (.str a0.fName)), (dP e67 a0.fCells)]), (.cells [(dI 0), (dI 0)])]⟩ (by kernel_rfl) ?_
                    cases h
                    exact ihx48 (w64 (v44 + 1))  _ hsx53 _ (by omega) hrx49 hxx50
                obtain ⟨v65, ev65, h⟩ := bnd_some h
                have G14g59 : ∀ v58 : Bool, (cnd v58 (some true) (bnd (f38 m v54.fAdd) fun v68 => some (!v68))) = some v65 → Ops (X14 n) (opl (cL (cR (cR (cL (cL (cR (cR (cL (cL (cR (cL (cR (cR (cR C14))))))))))))))) 5 ⟨q2 ((.ptr 1 0) :: (dI v44) :: (.ptr 2 0) :: (dI v55) :: q17 ((dP e67 a0.fCells) :: (dI ((a0.fCells.length : Int))) :: (dI v44) :: (dB (decide (v44 < (a0.fCells.length : Int)))) :: (dI v44) :: (.vptr [(vP eS v54.fTags), (.str v54.fCut), (.str v54.fAdd)]) :: (.v (.agg [(vP eS v54.fTags), (.str v54.fCut), (.str v54.fAdd)])) :: (.ptr 2 0) :: (dP eS v54.fTags) :: (dI v55) :: (dI v55) :: (dB (v55 != 0)) :: q3 ((.ptr 2 1) :: (.v (.str v54.fCut)) :: (dB v57) :: (dB v58) :: (dB v58) :: q9 []))), [(.cells [(.v (.str a0.fName)), (dP e67 a0.fCells)]), (.cells [(dI 0), (dI 0)]), (.cells [(dP eS v54.fTags), (.v (.str v54.fCut)), (.v (.str v54.fAdd))])]⟩ ((seqQ (X14 n) (cR (cR (cR (cL (cL (cR (cR (cL (cL (cR (cL (cR (cR (cR C14)))))))))))))) (blkQ (X14 n) 1 [2, 23, 24, 25] 2 (seqQ (X14 n) (cR (cR (cR (cL (cL (cR (cL (cR (cR (cR C14)))))))))) (lpQ (X14 n) [2, 23, 24, 25] 2 (cL (cL (cR (cL (cR (cR (cR C14))))))) nx47 (blkQ (X14 n) 0 [2] 2 (seqQ (X14 n) (cR (cR (cR (cR C14)))) (fnQ (X14 n).E.T (resOf Proofs.Tryd.prog 14) (e27 o)))))))) .normal) := by
                  intro v58 ev65
                  cases v58
                  · have ev65 := cnd_f ev65
                    refine Ops.seg' 2 7 (by kernel_rfl) ?_
                    obtain ⟨v68, ev68, ev65⟩ := bnd_some ev65
                    refine Ops.one' 8 (fun h0 e0 => (call_ok (E' := E) (h := h0) (by kernel_rfl) (Args.v (.str v54.fAdd) (eS v54.fAdd) (by kernel_rfl) Args.nil) (ok38 m v54.fAdd v68 ev68 n (by omega)))) (by kernel_rfl) (by kernel_rfl) ?_
                    refine Ops.seg' 2 10 (by kernel_rfl) ?_
                    refine Ops.st ⟨q2 ((.ptr 1 0) :: (dI v44) :: (.ptr 2 0) :: (dI v55) :: q17 ((dP e67 a0.fCells) :: (dI ((a0.fCells.length : Int))) :: (dI v44) :: (dB (decide (v44 < (a0.fCells.length : Int)))) :: (dI v44) :: (.vptr [(vP eS v54.fTags), (.str v54.fCut), (.str v54.fAdd)]) :: (.v (.agg [(vP eS v54.fTags), (.str v54.fCut), (.str v54.fAdd)])) :: (.ptr 2 0) :: (dP eS v54.fTags) :: (dI v55) :: (dI v55) :: (dB (v55 != 0)) :: q3 ((.ptr 2 1) :: (.v (.str v54.fCut)) :: (dB v57) :: (dB false) :: (dB false) :: (.ptr 2 2) :: (.v (.str v54.fAdd)) :: (dB v68) :: (dB (!v68)) :: (dB (!v68)) :: q4 []))), [(.cells [(.v (.str a0.fName)), (dP e67 a0.fCells)]), (.cells [(dI 0), (dI 0)]), (.cells [(dP eS v54.fTags), (.v (.str v54.fCut)), (.v (.str v54.fAdd))])]⟩ (by kernel_rfl) ?_
                    exact J14j66 _ _ _ _ _ _ (some_sub (fun v65 => f14_r1 m v44 v65 = some sx52) ev65 h)
                  · have ev65 := cnd_t ev65
                    refine Ops.seg' 5 10 (by kernel_rfl) ?_
                    refine Ops.st ⟨q2 ((.ptr 1 0) :: (dI v44) :: (.ptr 2 0) :: (dI v55) :: q17 ((dP e67 a0.fCells) :: (dI ((a0.fCells.length : Int))) :: (dI v44) :: (dB (decide (v44 < (a0.fCells.length : Int)))) :: (dI v44) :: (.vptr [(vP eS v54.fTags), (.str v54.fCut), (.str v54.fAdd)]) :: (.v (.agg [(vP eS v54.fTags), (.str v54.fCut), (.str v54.fAdd)])) :: (.ptr 2 0) :: (dP eS v54.fTags) :: (dI v55) :: (dI v55) :: (dB (v55 != 0)) :: q3 ((.ptr 2 1) :: (.v (.str v54.fCut)) :: (dB v57) :: (dB true) :: (dB true) :: u4 ((dB true) :: q4 [])))), [(.cells [(.v (.str a0.fName)), (dP e67 a0.fCells)]), (.cells [(dI 0), (dI 0)]), (.cells [(dP eS v54.fTags), (.v (.str v54.fCut)), (.v (.str v54.fAdd))])]⟩ (by kernel_rfl) ?_
                    exact J14j66 _ _ _ _ _ _ (some_sub (fun v65 => f14_r1 m v44 v65 = some sx52) ev65 h)
                exact Ops.st ⟨q2 ((.ptr 1 0) :: (dI v44) :: (.ptr 2 0) :: (dI v55) :: q17 ((dP e67 a0.fCells) :: (dI ((a0.fCells.length : Int))) :: (dI v44) :: (dB (decide (v44 < (a0.fCells.length : Int)))) :: (dI v44) :: (.vptr [(vP eS v54.fTags), (.str v54.fCut), (.str v54.fAdd)]) :: (.v (.agg [(vP eS v54.fTags), (.str v54.fCut), (.str v54.fAdd)])) :: (.ptr 2 0) :: (dP eS v54.fTags) :: (dI v55) :: (dI v55) :: (dB (v55 != 0)) :: q3 ((.ptr 2 1) :: (.v (.str v54.fCut)) :: (dB v57) :: (dB ((!v57))) :: (dB ((!v57))) :: q9 []))), [(.cells [(.v (.str a0.fName)), (dP e67 a0.fCells)]), (.cells [(dI 0), (dI 0)]), (.cells [(dP eS v54.fTags), (.v (.str v54.fCut)), (.v (.str v54.fAdd))])]⟩ (by kernel_rfl) (G14g59 (!v57) ev65)
            · refine Wp.exit (id := 0) (by kernel_rfl) ?_
              refine sqQ.x ?_
              refine seqQ.x ?_
              cases h
              refine lpQ.x ?_
              refine blkQ.x ⟨q2 ((.ptr 1 0) :: q20 ((dP e67 a0.fCells) :: (dI ((a0.fCells.length : Int))) :: (dI v44) :: q26 [])), [(.cells [(.v (.str a0.fName)), (dP e67 a0.fCells)]), (.cells [(dI 0), (dI 0)])]⟩ (by kernel_rfl) ?_
              exact hxx50 v44  hsx53
        refine Wp.loop' [2, 23, 24, 25] 2 (by kernel_rfl) ⟨q2 ((.ptr 1 0) :: q20 ((dP e67 a0.fCells) :: (dI ((a0.fCells.length : Int))) :: (dI 0) :: q26 [])), [(.cells [(.v (.str a0.fName)), (dP e67 a0.fCells)]), (.cells [(dI 0), (dI 0)])]⟩ (by kernel_rfl) ?_
        rcases brk_some h with ⟨r71, er71, h⟩ | ⟨y70, ey70, h⟩
        · refine hLx69 _ 0  _ er71 n (by omega) (fun r er σ hσ => ?_) (fun y  ey => by cases ey)
          cases er
          refine seqQ.r ?_
          exact fnQ.r' (X14 n) (fun z => (e27 z)) h hσ
        · refine hLx69 _ 0  _ ey70 n (by omega) (fun r er => by cases er) (fun y  ey => ?_)
          cases ey
          refine seqQ.n ?_
          refine Wp.seq' (by kernel_rfl) ?_
          refine Wp.region (by kernel_rfl) ?_
          refine Ops.seg' 2 2 (by kernel_rfl) ?_
          refine Ops.done (by kernel_rfl) ?_
          refine seqQ.n ?_
          refine Wp.ret (by kernel_rfl) ?_
          exact fnQ.r' (X14 n) (fun z => (e27 z)) h (RetOk.mk' (.v (.agg [(vI 0), (vI 0)])) (by kernel_rfl) (by kernel_rfl))
    have G14g4 : ∀ v3 : Bool, f14_r3 m a0 ((v3 || (decide ((a0.fCells.length : Int) > 40)))) = some o → Ops (X14 n) (opl (cL (cL (cR (cR C14))))) 5 ⟨(.v (.agg [(.str a0.fName), (vP e67 a0.fCells)])) :: (.ptr 0 0) :: (.ptr 1 0) :: u3 ((.ptr 0 0) :: (.v (.str a0.fName)) :: (dB v1) :: (dB (!v1)) :: u1 ((.ptr 0 1) :: (dP e67 a0.fCells) :: (dI ((a0.fCells.length : Int))) :: (dB v3) :: (dB v3) :: u36 [])), [(.cells [(.v (.str a0.fName)), (dP e67 a0.fCells)]), (.cells [(dI 0), (dI 0)])]⟩ ((seqQ (X14 n) (cR (cL (cR (cR C14)))) (seqQ (X14 n) (cR (cR (cR C14))) (fnQ (X14 n).E.T (resOf Proofs.Tryd.prog 14) (e27 o)))) .normal) := by
      intro v3 h
      cases v3
      · refine Ops.seg' 2 7 (by kernel_rfl) ?_
        refine Ops.one' 8 (fun h0 e0 => (len_r (T := T) h0 22 68 .plain e67 a0.fCells (by kernel_rfl))) (by kernel_rfl) (by kernel_rfl) ?_
        refine Ops.seg' 2 10 (by kernel_rfl) ?_
        refine Ops.st ⟨(.v (.agg [(.str a0.fName), (vP e67 a0.fCells)])) :: (.ptr 0 0) :: (.ptr 1 0) :: u3 ((.ptr 0 0) :: (.v (.str a0.fName)) :: (dB v1) :: (dB (!v1)) :: u1 ((.ptr 0 1) :: (dP e67 a0.fCells) :: (dI ((a0.fCells.length : Int))) :: (dB false) :: (dB false) :: (.ptr 0 1) :: (dP e67 a0.fCells) :: (dI ((a0.fCells.length : Int))) :: (dB (decide ((a0.fCells.length : Int) > 40))) :: (dB (decide ((a0.fCells.length : Int) > 40))) :: u31 [])), [(.cells [(.v (.str a0.fName)), (dP e67 a0.fCells)]), (.cells [(dI 0), (dI 0)])]⟩ (by kernel_rfl) ?_
        exact J14j11 _ _ _ _ _ _ h
      · refine Ops.seg' 5 10 (by kernel_rfl) ?_
        refine Ops.st ⟨(.v (.agg [(.str a0.fName), (vP e67 a0.fCells)])) :: (.ptr 0 0) :: (.ptr 1 0) :: u3 ((.ptr 0 0) :: (.v (.str a0.fName)) :: (dB v1) :: (dB (!v1)) :: u1 ((.ptr 0 1) :: (dP e67 a0.fCells) :: (dI ((a0.fCells.length : Int))) :: (dB true) :: (dB true) :: u4 ((dB true) :: u31 []))), [(.cells [(.v (.str a0.fName)), (dP e67 a0.fCells)]), (.cells [(dI 0), (dI 0)])]⟩ (by kernel_rfl) ?_
        exact J14j11 _ _ _ _ _ _ h
    exact Ops.st ⟨(.v (.agg [(.str a0.fName), (vP e67 a0.fCells)])) :: (.ptr 0 0) :: (.ptr 1 0) :: u3 ((.ptr 0 0) :: (.v (.str a0.fName)) :: (dB v1) :: (dB (!v1)) :: u1 ((.ptr 0 1) :: (dP e67 a0.fCells) :: (dI ((a0.fCells.length : Int))) :: (dB ((((a0.fCells.length : Int)) == 0))) :: (dB ((((a0.fCells.length : Int)) == 0))) :: u36 [])), [(.cells [(.v (.str a0.fName)), (dP e67 a0.fCells)]), (.cells [(dI 0), (dI 0)])]⟩ (by kernel_rfl) (G14g4 (((a0.fCells.length : Int)) == 0) h)

/-! ### 42 glosswright/glosswrightref6.Ended -/
def f42_r1 (m : Nat) (a0 : ByteArray) (a1 : ByteArray) (a2 : ByteArray) (v9 : Bool) : Option ByteArray :=
  cnd v9
  (some ((⟨#[]⟩ : ByteArray)))
  (bnd (ssub a0 0 (w64 ((a0.size : Int) - (a1.size : Int)))) fun v11 =>
  bnd (scat v11 a2) fun v12 =>
  bnd (f16 m v12) fun v13 =>
  cnd (!v13)
  (some ((⟨#[]⟩ : ByteArray)))
  (some v12))
def f42 (m : Nat) (a0 : ByteArray) (a1 : ByteArray) (a2 : ByteArray) : Option ByteArray :=
  bnd (cnd (decide (w64 ((a0.size : Int) - (a1.size : Int)) < 0))
  (some true)
  (bnd (ssub a0 (w64 ((a0.size : Int) - (a1.size : Int))) (a0.size : Int)) fun v14 =>
  some (!(v14.toList == a1.toList)))) fun v9 =>
  f42_r1 m a0 a1 a2 v9
noncomputable abbrev X42 (n : Nat) : Cx := cxOf Proofs.Tryd.prog E 42 n
noncomputable def C42 : Code := bodyOf Proofs.Tryd.prog 42
theorem ok42 (m : Nat) (a0 : ByteArray) (a1 : ByteArray) (a2 : ByteArray) (o : ByteArray) (h : f42 m a0 a1 a2 = some o) (n : Nat) (hn : m + 5 ≤ n) : Fn Proofs.Tryd.prog E n 42 [.v (eS a0), .v (eS a1), .v (eS a2)] (eS o) := by
  obtain ⟨n, rfl⟩ : ∃ q, n = q + 1 := ⟨n - 1, by omega⟩
  unfold f42 at h
  refine Fn.of (by kernel_rfl) (by kernel_rfl) (by kernel_rfl) ⟨(.v (.str a0)) :: (.v (.str a1)) :: (.v (.str a2)) :: u29 [], []⟩ (by kernel_rfl) ?_
  refine Wp.seq' (by kernel_rfl) ?_
  refine Wp.region (by kernel_rfl) ?_
  refine Ops.seg' 1 1 (by kernel_rfl) ?_
  refine Ops.done (by kernel_rfl) ?_
  refine seqQ.n ?_
  refine Wp.seq' (by kernel_rfl) ?_
  refine Wp.region (by kernel_rfl) ?_
  refine Ops.seg' 6 6 (by kernel_rfl) ?_
  refine Ops.done (by kernel_rfl) ?_
  refine seqQ.n ?_
  refine Wp.seq' (by kernel_rfl) ?_
  refine Wp.seq' (by kernel_rfl) ?_
  refine Wp.region (by kernel_rfl) ?_
  refine Ops.seg' 3 3 (by kernel_rfl) ?_
  have J42j10 : ∀ (d3 d4 d5 d6 d7 : D) (v8 : Bool) (v9 : Bool), f42_r1 m a0 a1 a2 v9 = some o → Ops (X42 n) (opl (cL (cL (cR (cR C42))))) 9 ⟨(.v (.str a0)) :: (.v (.str a1)) :: (.v (.str a2)) :: u3 ((.v (.str ((⟨#[]⟩ : ByteArray)))) :: (dI (w64 ((a0.size : Int) - (a1.size : Int)))) :: u1 ((.v (.str a0)) :: (dI ((a0.size : Int))) :: (.v (.str a1)) :: (dI ((a1.size : Int))) :: (dI (w64 ((a0.size : Int) - (a1.size : Int)))) :: (dI (w64 ((a0.size : Int) - (a1.size : Int)))) :: (dB v8) :: (dB v8) :: d3 :: d4 :: d5 :: d6 :: d7 :: (dB v9) :: u9 [])), []⟩ ((seqQ (X42 n) (cR (cL (cR (cR C42)))) (seqQ (X42 n) (cR (cR (cR C42))) (fnQ (X42 n).E.T (resOf Proofs.Tryd.prog 42) (eS o)))) .normal) := by
    intro d3 d4 d5 d6 d7 v8 v9 h
    unfold f42_r1 at h
    refine Ops.done (by kernel_rfl) ?_
    refine seqQ.n ?_
    refine Wp.cnd h [0, 2, 6, 7] 0 (by kernel_rfl) (fun h => ?_) (fun h => ?_)
    · refine Wp.seq' (by kernel_rfl) ?_
      refine Wp.region (by kernel_rfl) ?_
      refine Ops.seg' 1 1 (by kernel_rfl) ?_
      refine Ops.done (by kernel_rfl) ?_
      refine seqQ.n ?_
      refine Wp.ret (by kernel_rfl) ?_
      refine sqQ.r ?_
      refine seqQ.r ?_
      exact fnQ.r' (X42 n) (fun z => (eS z)) h (RetOk.mk' (.v (.str ((⟨#[]⟩ : ByteArray)))) (by kernel_rfl) (by kernel_rfl))
    · refine Wp.skip (by kernel_rfl) ?_
      refine sqQ.n' ?_
      refine seqQ.n ?_
      refine Wp.seq' (by kernel_rfl) ?_
      refine Wp.region (by kernel_rfl) ?_
      refine Ops.seg' 2 2 (by kernel_rfl) ?_
      obtain ⟨v11, ev11, h⟩ := bnd_some h
      refine Ops.one' 3 (fun h0 e0 => (str_sub (T := T) h0 9 a0 v11 none (some (w64 ((a0.size : Int) - (a1.size : Int)))) ev11 (by kernel_rfl))) (by kernel_rfl) (by kernel_rfl) ?_
      refine Ops.seg' 1 4 (by kernel_rfl) ?_
      obtain ⟨v12, ev12, h⟩ := bnd_some h
      refine Ops.one' 5 (fun h0 e0 => (str_cat (T := T) h0 9 v11 a2 v12 ev12)) (by kernel_rfl) (by kernel_rfl) ?_
      refine Ops.seg' 1 6 (by kernel_rfl) ?_
      refine Ops.done (by kernel_rfl) ?_
      refine seqQ.n ?_
      refine Wp.seq' (by kernel_rfl) ?_
      refine Wp.seq' (by kernel_rfl) ?_
      refine Wp.region (by kernel_rfl) ?_
      refine Ops.seg' 1 1 (by kernel_rfl) ?_
      obtain ⟨v13, ev13, h⟩ := bnd_some h
      refine Ops.one' 2 (fun h0 e0 => (call_ok (E' := E) (h := h0) (by kernel_rfl) (Args.v (.str v12) (eS v12) (by kernel_rfl) Args.nil) (ok16 m v12 v13 ev13 n (by omega)))) (by kernel_rfl) (by kernel_rfl) ?_
      refine Ops.seg' 1 3 (by kernel_rfl) ?_
      refine Ops.done (by kernel_rfl) ?_
      refine seqQ.n ?_
      refine Wp.cnd h [6, 8] 0 (by kernel_rfl) (fun h => ?_) (fun h => ?_)
      · refine Wp.seq' (by kernel_rfl) ?_
        refine Wp.region (by kernel_rfl) ?_
        refine Ops.seg' 1 1 (by kernel_rfl) ?_
        refine Ops.done (by kernel_rfl) ?_
        refine seqQ.n ?_
        refine Wp.ret (by kernel_rfl) ?_
        refine sqQ.r ?_
        refine seqQ.r ?_
        exact fnQ.r' (X42 n) (fun z => (eS z)) h (RetOk.mk' (.v (.str ((⟨#[]⟩ : ByteArray)))) (by kernel_rfl) (by kernel_rfl))
      · refine Wp.skip (by kernel_rfl) ?_
        refine sqQ.n' ?_
        refine seqQ.n ?_
        refine Wp.seq' (by kernel_rfl) ?_
        refine Wp.region (by kernel_rfl) ?_
        refine Ops.seg' 2 2 (by kernel_rfl) ?_
        refine Ops.done (by kernel_rfl) ?_
        refine seqQ.n ?_
        refine Wp.ret (by kernel_rfl) ?_
        exact fnQ.r' (X42 n) (fun z => (eS z)) h (RetOk.mk' (.v (.str v12)) (by kernel_rfl) (by kernel_rfl))
  obtain ⟨v9, ev9, h⟩ := bnd_some h
  have G42g2 : ∀ v1 : Bool, (cnd v1 (some true) (bnd (ssub a0 (w64 ((a0.size : Int) - (a1.size : Int))) (a0.size : Int)) fun v14 => some (!(v14.toList == a1.toList)))) = some v9 → Ops (X42 n) (opl (cL (cL (cR (cR C42))))) 3 ⟨(.v (.str a0)) :: (.v (.str a1)) :: (.v (.str a2)) :: u3 ((.v (.str ((⟨#[]⟩ : ByteArray)))) :: (dI (w64 ((a0.size : Int) - (a1.size : Int)))) :: u1 ((.v (.str a0)) :: (dI ((a0.size : Int))) :: (.v (.str a1)) :: (dI ((a1.size : Int))) :: (dI (w64 ((a0.size : Int) - (a1.size : Int)))) :: (dI (w64 ((a0.size : Int) - (a1.size : Int)))) :: (dB v1) :: (dB v1) :: u15 [])), []⟩ ((seqQ (X42 n) (cR (cL (cR (cR C42)))) (seqQ (X42 n) (cR (cR (cR C42))) (fnQ (X42 n).E.T (resOf Proofs.Tryd.prog 42) (eS o)))) .normal) := by
    intro v1 ev9
    cases v1
    · have ev9 := cnd_f ev9
      refine Ops.seg' 2 5 (by kernel_rfl) ?_
      obtain ⟨v14, ev14, ev9⟩ := bnd_some ev9
      refine Ops.one' 6 (fun h0 e0 => (str_sub (T := T) h0 9 a0 v14 (some (w64 ((a0.size : Int) - (a1.size : Int)))) none ev14 (by kernel_rfl))) (by kernel_rfl) (by kernel_rfl) ?_
      refine Ops.seg' 3 9 (by kernel_rfl) ?_
      refine Ops.st ⟨(.v (.str a0)) :: (.v (.str a1)) :: (.v (.str a2)) :: u3 ((.v (.str ((⟨#[]⟩ : ByteArray)))) :: (dI (w64 ((a0.size : Int) - (a1.size : Int)))) :: u1 ((.v (.str a0)) :: (dI ((a0.size : Int))) :: (.v (.str a1)) :: (dI ((a1.size : Int))) :: (dI (w64 ((a0.size : Int) - (a1.size : Int)))) :: (dI (w64 ((a0.size : Int) - (a1.size : Int)))) :: (dB false) :: (dB false) :: (.v (.str a0)) :: (dI (w64 ((a0.size : Int) - (a1.size : Int)))) :: (.v (.str v14)) :: (.v (.str a1)) :: (dB (!(v14.toList == a1.toList))) :: (dB (!(v14.toList == a1.toList))) :: u9 [])), []⟩ (by kernel_rfl) ?_
      exact J42j10 _ _ _ _ _ _ _ (some_sub (fun v9 => f42_r1 m a0 a1 a2 v9 = some o) ev9 h)
    · have ev9 := cnd_t ev9
      refine Ops.seg' 6 9 (by kernel_rfl) ?_
      refine Ops.st ⟨(.v (.str a0)) :: (.v (.str a1)) :: (.v (.str a2)) :: u3 ((.v (.str ((⟨#[]⟩ : ByteArray)))) :: (dI (w64 ((a0.size : Int) - (a1.size : Int)))) :: u1 ((.v (.str a0)) :: (dI ((a0.size : Int))) :: (.v (.str a1)) :: (dI ((a1.size : Int))) :: (dI (w64 ((a0.size : Int) - (a1.size : Int)))) :: (dI (w64 ((a0.size : Int) - (a1.size : Int)))) :: (dB true) :: (dB true) :: u5 ((dB true) :: u9 []))), []⟩ (by kernel_rfl) ?_
      exact J42j10 _ _ _ _ _ _ _ (some_sub (fun v9 => f42_r1 m a0 a1 a2 v9 = some o) ev9 h)
  exact Ops.st ⟨(.v (.str a0)) :: (.v (.str a1)) :: (.v (.str a2)) :: u3 ((.v (.str ((⟨#[]⟩ : ByteArray)))) :: (dI (w64 ((a0.size : Int) - (a1.size : Int)))) :: u1 ((.v (.str a0)) :: (dI ((a0.size : Int))) :: (.v (.str a1)) :: (dI ((a1.size : Int))) :: (dI (w64 ((a0.size : Int) - (a1.size : Int)))) :: (dI (w64 ((a0.size : Int) - (a1.size : Int)))) :: (dB ((decide (w64 ((a0.size : Int) - (a1.size : Int)) < 0)))) :: (dB ((decide (w64 ((a0.size : Int) - (a1.size : Int)) < 0)))) :: u15 [])), []⟩ (by kernel_rfl) (G42g2 (decide (w64 ((a0.size : Int) - (a1.size : Int)) < 0)) ev9)

/-! ### 18 glosswright/glosswrightref6.TableOf -/
def f18_j1 (m : Nat) (v18 : Int) (v28 : (List S41)) : Option (Stp ((List S41)) ((List S41) × Int)) :=
  some (.nxt (v28, w64 (v18 + 1)))
def f18_j2 (m : Nat) (v18 : Int) (v32 : (List S41)) : Option (Stp ((List S41)) ((List S41) × Int)) :=
  f18_j1 m v18 v32
def f18_B3 (m : Nat) (a0 : S23) (a1 : ByteArray) (v17 : (List S41)) (v18 : Int) : Option (Stp ((List S41)) ((List S41) × Int)) :=
  cnd (decide (v18 < (a0.fCells.length : Int)))
  (bnd (idx a0.fCells v18) fun v30 =>
  bnd (f42 m a1 v30.fCut v30.fAdd) fun v31 =>
  cnd (!(v31.toList == ((⟨#[]⟩ : ByteArray)).toList))
  (bnd (app 40 v17 ([(⟨v30.fTags, v31⟩ : S41)])) fun v34 =>
  f18_j2 m v18 v34)
  (f18_j2 m v18 v17))
  (some (.brk (v17, v18)))
def f18 (m : Nat) (a0 : S23) (a1 : ByteArray) : Option (List S41) :=
  brk (iter (fun (y : (List S41) × Int) => f18_B3 m a0 a1 y.1 y.2) m ([], 0)) some fun y36 =>
  some y36.1
noncomputable abbrev X18 (n : Nat) : Cx := cxOf Proofs.Tryd.prog E 18 n
noncomputable def C18 : Code := bodyOf Proofs.Tryd.prog 18
theorem ok18 (m : Nat) (a0 : S23) (a1 : ByteArray) (o : (List S41)) (h : f18 m a0 a1 = some o) (n : Nat) (hn : m + 6 ≤ n) : Fn Proofs.Tryd.prog E n 18 [.v (e23 a0), .v (eS a1)] ((eL e41) o) := by
  obtain ⟨n, rfl⟩ : ∃ q, n = q + 1 := ⟨n - 1, by omega⟩
  unfold f18 at h
  refine Fn.of (by kernel_rfl) (by kernel_rfl) (by kernel_rfl) ⟨(.v (.agg [(.str a0.fName), (vP e67 a0.fCells)])) :: (.v (.str a1)) :: u31 [], []⟩ (by kernel_rfl) ?_
  refine Wp.seq' (by kernel_rfl) ?_
  refine Wp.region (by kernel_rfl) ?_
  refine Ops.seg' 2 2 (by kernel_rfl) ?_
  refine Ops.done (by kernel_rfl) ?_
  refine seqQ.n ?_
  refine Wp.seq' (by kernel_rfl) ?_
  refine Wp.region (by kernel_rfl) ?_
  refine Ops.seg' 1 1 (by kernel_rfl) ?_
  refine Ops.done (by kernel_rfl) ?_
  refine seqQ.n ?_
  refine Wp.seq' (by kernel_rfl) ?_
  refine Wp.seq' (by kernel_rfl) ?_
  refine Wp.region (by kernel_rfl) ?_
  refine Ops.seg' 2 2 (by kernel_rfl) ?_
  refine Ops.one' 3 (fun h0 e0 => (len_r (T := T) h0 22 68 .plain e67 a0.fCells (by kernel_rfl))) (by kernel_rfl) (by kernel_rfl) ?_
  refine Ops.seg' 1 4 (by kernel_rfl) ?_
  refine Ops.done (by kernel_rfl) ?_
  refine seqQ.n ?_
  refine Wp.block' 0 [4, 5] 1 (by kernel_rfl) ?_
  have hLx35 : ∀ (kx20 : Nat) (v17 : (List S41)) (v18 : Int)  (ox19 : (List S41) ⊕ ((List S41) × Int)), iter (fun (y : (List S41) × Int) => f18_B3 m a0 a1 y.1 y.2) kx20 (v17, v18) = some ox19 → ∀ nx21, kx20 ≤ nx21 → (∀ r, ox19 = .inl r → ∀ σ, RetOk (X18 n) (resOf Proofs.Tryd.prog 18) ((eL e41) r) σ → (seqQ (X18 n) (cR (cR (cR C18))) (fnQ (X18 n).E.T (resOf Proofs.Tryd.prog 18) ((eL e41) o))) .ret σ) → (∀ (y : (List S41) × Int) , ox19 = .inr y → (seqQ (X18 n) (cR (cR (cR C18))) (fnQ (X18 n).E.T (resOf Proofs.Tryd.prog 18) ((eL e41) o))) .normal ⟨q4 ((.v (.sl .nil (List.map e41 []))) :: (appD 1 (List.map e41 y.1)) :: q27 []), [(.cells [(.v (.str a0.fName)), (dP e67 a0.fCells)]), (appO 2 (List.map e41 y.1))]⟩) → Lp (X18 n) [1, 4, 5, 10, 11, 12] 1 (cL (cL (cR (cL (cR (cR C18)))))) nx21 ⟨q1 ((.v (.str a1)) :: q2 ((.v (.sl .nil (List.map e41 []))) :: (appD 1 (List.map e41 v17)) :: q4 ((dP e67 a0.fCells) :: (dI ((a0.fCells.length : Int))) :: (dI v18) :: q20 []))), [(.cells [(.v (.str a0.fName)), (dP e67 a0.fCells)]), (appO 2 (List.map e41 v17))]⟩ (blkQ (X18 n) 0 [4, 5] 1 (seqQ (X18 n) (cR (cR (cR C18))) (fnQ (X18 n).E.T (resOf Proofs.Tryd.prog 18) ((eL e41) o)))) := by
    intro kx20
    induction kx20 with
    | zero => intro v17 v18  ox19 h; exact (iter_zero h).elim
    | succ kx20 ihx22 =>
      intro v17 v18  ox19 h nx21 hnx25 hrx23 hxx24
      obtain ⟨nx21, rfl⟩ : ∃ q, nx21 = q + 1 := ⟨nx21 - 1, by omega⟩
      obtain ⟨sx26, h, hsx27⟩ := iter_some h
      have h : f18_B3 m a0 a1 v17 v18 = some sx26 := h
      unfold f18_B3 at h
      refine Lp.succ ?_
      refine Wp.seq' (by kernel_rfl) ?_
      refine Wp.region (by kernel_rfl) ?_
      refine Ops.seg' 1 1 (by kernel_rfl) ?_
      refine Ops.done (by kernel_rfl) ?_
      refine seqQ.n ?_
      refine Wp.seq' (by kernel_rfl) ?_
      refine Wp.cnd h [1, 4, 5, 10, 11, 12] 2 (by kernel_rfl) (fun h => ?_) (fun h => ?_)
      · refine Wp.skip (by kernel_rfl) ?_
        refine sqQ.n ⟨q1 ((.v (.str a1)) :: q2 ((.v (.sl .nil (List.map e41 []))) :: (appD 2 (List.map e41 v17)) :: q4 ((dP e67 a0.fCells) :: (dI ((a0.fCells.length : Int))) :: (dI v18) :: q20 []))), [(.cells [(.v (.str a0.fName)), (dP e67 a0.fCells)]), .dead, (appO 2 (List.map e41 v17))]⟩ (by generalize v17 = z0; cases z0 <;> kernel_rfl) ?_
        refine seqQ.n ?_
        refine Wp.seq' (by kernel_rfl) ?_
        have J18j29 : ∀ (v28 : (List S41)) , f18_j1 m v18 v28 = some sx26 → (seqQ (X18 n) (cR (cR (cR (cL (cL (cR (cL (cR (cR C18))))))))) (lpQ (X18 n) [1, 4, 5, 10, 11, 12] 1 (cL (cL (cR (cL (cR (cR C18)))))) nx21 (blkQ (X18 n) 0 [4, 5] 1 (seqQ (X18 n) (cR (cR (cR C18))) (fnQ (X18 n).E.T (resOf Proofs.Tryd.prog 18) ((eL e41) o)))))) .normal ⟨q1 ((.v (.str a1)) :: q2 ((.v (.sl .nil (List.map e41 []))) :: (appD 3 (List.map e41 v28)) :: q4 ((dP e67 a0.fCells) :: (dI ((a0.fCells.length : Int))) :: (dI v18) :: q20 []))), [(.cells [(.v (.str a0.fName)), (dP e67 a0.fCells)]), .dead, .dead, (appO 2 (List.map e41 v28))]⟩ := by
          intro v28  h
          unfold f18_j1 at h
          refine seqQ.n ?_
          refine Wp.region (by kernel_rfl) ?_
          refine Ops.seg' 2 2 (by kernel_rfl) ?_
          refine Ops.done (by kernel_rfl) ?_
          refine lpQ.n ⟨q1 ((.v (.str a1)) :: q2 ((.v (.sl .nil (List.map e41 []))) :: (appD 1 (List.map e41 v28)) :: q4 ((dP e67 a0.fCells) :: (dI ((a0.fCells.length : Int))) :: (dI (w64 (v18 + 1))) :: q20 []))), [(.cells [(.v (.str a0.fName)), (dP e67 a0.fCells)]), (appO 2 (List.map e41 v28))]⟩ (by generalize v28 = z0; cases z0 <;> kernel_rfl) ?_
          cases h
          exact ihx22 v28 (w64 (v18 + 1))  _ hsx27 _ (by omega) hrx23 hxx24
        refine Wp.block' 1 [1, 4, 5, 10, 11, 12] 3 (by kernel_rfl) ?_
        refine Wp.seq' (by kernel_rfl) ?_
        refine Wp.region (by kernel_rfl) ?_
        obtain ⟨v30, ev30, h⟩ := bnd_some h
        refine Ops.one' 1 (fun h0 e0 => (ix_r (T := T) h0 22 68 3 .plain e67 a0.fCells v18 v30 ev30 (by kernel_rfl) (by kernel_rfl) (fun _ => rfl))) (by kernel_rfl) (by kernel_rfl) ?_
        refine Ops.seg' 3 4 (by kernel_rfl) ?_
        refine Ops.done (by kernel_rfl) ?_
        refine seqQ.n ?_
        refine Wp.seq' (by kernel_rfl) ?_
        refine Wp.region (by kernel_rfl) ?_
        refine Ops.seg' 5 5 (by kernel_rfl) ?_
        obtain ⟨v31, ev31, h⟩ := bnd_some h
        refine Ops.one' 6 (fun h0 e0 => (call_ok (E' := E) (h := h0) (by kernel_rfl) (Args.v (.str a1) (eS a1) (by kernel_rfl) (Args.v (.str v30.fCut) (eS v30.fCut) (by kernel_rfl) (Args.v (.str v30.fAdd) (eS v30.fAdd) (by kernel_rfl) Args.nil))) (ok42 m a1 v30.fCut v30.fAdd v31 ev31 n (by omega)))) (by kernel_rfl) (by kernel_rfl) ?_
        refine Ops.seg' 1 7 (by kernel_rfl) ?_
        refine Ops.done (by kernel_rfl) ?_
        refine seqQ.n ?_
        refine Wp.seq' (by kernel_rfl) ?_
        refine Wp.region (by kernel_rfl) ?_
        refine Ops.seg' 2 2 (by kernel_rfl) ?_
        refine Ops.done (by kernel_rfl) ?_
        refine seqQ.n ?_
        have J18j33 : ∀ (v32 : (List S41)) , f18_j2 m v18 v32 = some sx26 → (blkQ (X18 n) 1 [1, 4, 5, 10, 11, 12] 3 (seqQ (X18 n) (cR (cR (cR (cL (cL (cR (cL (cR (cR C18))))))))) (lpQ (X18 n) [1, 4, 5, 10, 11, 12] 1 (cL (cL (cR (cL (cR (cR C18)))))) nx21 (blkQ (X18 n) 0 [4, 5] 1 (seqQ (X18 n) (cR (cR (cR C18))) (fnQ (X18 n).E.T (resOf Proofs.Tryd.prog 18) ((eL e41) o))))))) .normal ⟨q1 ((.v (.str a1)) :: q2 ((.v (.sl .nil (List.map e41 []))) :: (appD 4 (List.map e41 v32)) :: q4 ((dP e67 a0.fCells) :: (dI ((a0.fCells.length : Int))) :: (dI v18) :: q20 []))), [(.cells [(.v (.str a0.fName)), (dP e67 a0.fCells)]), .dead, .dead, (.cells [(dP eS v30.fTags), (.v (.str v30.fCut)), (.v (.str v30.fAdd))]), (appO 2 (List.map e41 v32))]⟩ := by
          intro v32  h
          unfold f18_j2 at h
          refine blkQ.n ⟨q1 ((.v (.str a1)) :: q2 ((.v (.sl .nil (List.map e41 []))) :: (appD 3 (List.map e41 v32)) :: q4 ((dP e67 a0.fCells) :: (dI ((a0.fCells.length : Int))) :: (dI v18) :: q20 []))), [(.cells [(.v (.str a0.fName)), (dP e67 a0.fCells)]), .dead, .dead, (appO 2 (List.map e41 v32))]⟩ (by generalize v32 = z0; cases z0 <;> kernel_rfl) ?_
          exact J18j29 v32  h
        refine Wp.cnd h [1, 4, 5, 10, 11, 12] 4 (by kernel_rfl) (fun h => ?_) (fun h => ?_)
        · refine Wp.region (by kernel_rfl) ?_
          refine Ops.seg' 6 6 (by kernel_rfl) ?_
          obtain ⟨v34, ev34, h⟩ := bnd_some h
          refine Ops.one' 7 (fun h0 e0 => (app_r (T := T) (g := .nil) h0 26 42 2 2 ti42 .nonfull e41 v17 ([(⟨v30.fTags, v31⟩ : S41)]) v34 ev34 (by kernel_rfl) (by kernel_rfl) (by kernel_rfl) (by kernel_rfl) (fun _ => rfl) (hq_of e0 (by kernel_rfl)))) (by kernel_rfl) (by kernel_rfl) ?_
          refine Ops.seg' 1 8 (by kernel_rfl) ?_
          refine Ops.done (by kernel_rfl) ?_
          refine sqQ.n ⟨q1 ((.v (.str a1)) :: q2 ((.v (.sl .nil (List.map e41 []))) :: (appD 4 (List.map e41 v34)) :: q4 ((dP e67 a0.fCells) :: (dI ((a0.fCells.length : Int))) :: (dI v18) :: q20 []))), [(.cells [(.v (.str a0.fName)), (dP e67 a0.fCells)]), .dead, .dead, (.cells [(dP eS v30.fTags), (.v (.str v30.fCut)), (.v (.str v30.fAdd))]), (appO 2 (List.map e41 v34))]⟩ (by generalize v34 = z0; cases z0 <;> kernel_rfl) ?_
          exact J18j33 v34  h
        · refine Wp.skip (by kernel_rfl) ?_
          refine sqQ.n ⟨q1 ((.v (.str a1)) :: q2 ((.v (.sl .nil (List.map e41 []))) :: (appD 4 (List.map e41 v17)) :: q4 ((dP e67 a0.fCells) :: (dI ((a0.fCells.length : Int))) :: (dI v18) :: q20 []))), [(.cells [(.v (.str a0.fName)), (dP e67 a0.fCells)]), .dead, .dead, (.cells [(dP eS v30.fTags), (.v (.str v30.fCut)), (.v (.str v30.fAdd))]), (appO 2 (List.map e41 v17))]⟩ (by generalize v17 = z0; cases z0 <;> kernel_rfl) ?_
          exact J18j33 v17  h
      · refine Wp.exit (id := 0) (by kernel_rfl) ?_
        refine sqQ.x ?_
        refine seqQ.x ?_
        cases h
        refine lpQ.x ?_
        refine blkQ.x ⟨q4 ((.v (.sl .nil (List.map e41 []))) :: (appD 1 (List.map e41 v17)) :: q27 []), [(.cells [(.v (.str a0.fName)), (dP e67 a0.fCells)]), (appO 2 (List.map e41 v17))]⟩ (by generalize v17 = z0; cases z0 <;> kernel_rfl) ?_
        exact hxx24 (v17, v18)  hsx27
  refine Wp.loop' [1, 4, 5, 10, 11, 12] 1 (by kernel_rfl) ⟨q1 ((.v (.str a1)) :: q2 ((.v (.sl .nil (List.map e41 []))) :: (appD 1 (List.map e41 [])) :: q4 ((dP e67 a0.fCells) :: (dI ((a0.fCells.length : Int))) :: (dI 0) :: q20 []))), [(.cells [(.v (.str a0.fName)), (dP e67 a0.fCells)]), .dead]⟩ (by kernel_rfl) ?_
  rcases brk_some h with ⟨r37, er37, h⟩ | ⟨y36, ey36, h⟩
  · refine hLx35 _ [] 0  _ er37 n (by omega) (fun r er σ hσ => ?_) (fun y  ey => by cases ey)
    cases er
    refine seqQ.r ?_
    exact fnQ.r' (X18 n) (fun z => ((eL e41) z)) h hσ
  · refine hLx35 _ [] 0  _ ey36 n (by omega) (fun r er => by cases er) (fun y  ey => ?_)
    cases ey
    refine seqQ.n ?_
    refine Wp.seq' (by kernel_rfl) ?_
    refine Wp.region (by kernel_rfl) ?_
    refine Ops.seg' 2 2 (by kernel_rfl) ?_
    refine Ops.done (by kernel_rfl) ?_
    refine seqQ.n ?_
    refine Wp.ret (by kernel_rfl) ?_
    exact fnQ.r' (X18 n) (fun z => ((eL e41) z)) h (RetOk.mk' (appD 1 (List.map e41 y36.1)) (by kernel_rfl) (appD_frz _ _ _ _))

/-! ### 21 glosswright/glosswrightref6.BasesOf -/
def f21_j1 (m : Nat) (v931 : Int) (v941 : (List ByteArray)) : Option (Stp ((List ByteArray)) ((List ByteArray) × Int)) :=
  some (.nxt (v941, w64 (v931 + 1)))
def f21_j2 (m : Nat) (v961 : Int) (v971 : Bool) : Option (Stp ((List ByteArray)) (Bool × Int)) :=
  some (.nxt (v971, w64 (v961 + 1)))
def f21_j3 (m : Nat) (v961 : Int) (v974 : Bool) : Option (Stp ((List ByteArray)) (Bool × Int)) :=
  f21_j2 m v961 v974
def f21_B4 (m : Nat) (a1 : ByteArray) (v947 : (List S41)) (v960 : Bool) (v961 : Int) : Option (Stp ((List ByteArray)) (Bool × Int)) :=
  cnd (decide (v961 < (v947.length : Int)))
  (bnd (idx v947 v961) fun v973 =>
  cnd ((v973.fForm.toList == a1.toList))
  (f21_j3 m v961 true)
  (f21_j3 m v961 v960))
  (some (.brk (v960, v961)))
def f21_r5 (m : Nat) (v1004 : Int) (v1023 : Bool) : Option (Stp ((List ByteArray)) (Int)) :=
  cnd v1023
  (some (.nxt (w64 (v1004 + 1))))
  (some (.brk v1004))
def f21_B6 (m : Nat) (v929 : (List ByteArray)) (v945 : ByteArray) (v1004 : Int) : Option (Stp ((List ByteArray)) (Int)) :=
  bnd (cnd (decide (v1004 < (v929.length : Int)))
  (bnd (idx v929 v1004) fun v1025 =>
  some (Op.bytesLess v1025.toList v945.toList))
  (some false)) fun v1023 =>
  f21_r5 m v1004 v1023
def f21_j7 (m : Nat) (v931 : Int) (v1040 : (List ByteArray)) : Option (Stp ((List ByteArray)) ((List ByteArray) × Int)) :=
  f21_j1 m v931 v1040
def f21_r8 (m : Nat) (v929 : (List ByteArray)) (v931 : Int) (v945 : ByteArray) (y1027 : Int) (v1038 : Bool) : Option (Stp ((List ByteArray)) ((List ByteArray) × Int)) :=
  cnd v1038
  (bnd (sub v929 0 y1027) fun v1044 =>
  bnd (app 16 [] v1044) fun v1045 =>
  bnd (app 16 v1045 [v945]) fun v1046 =>
  bnd (sub v929 y1027 (v929.length : Int)) fun v1047 =>
  bnd (app 16 v1046 v1047) fun v1048 =>
  f21_j7 m v931 v1048)
  (f21_j7 m v931 v929)
def f21_B9 (m : Nat) (a0 : S23) (a1 : ByteArray) (v707 : S67) (v929 : (List ByteArray)) (v931 : Int) : Option (Stp ((List ByteArray)) ((List ByteArray) × Int)) :=
  cnd (decide (v931 ≤ (a1.size : Int)))
  (bnd (ssub a1 0 v931) fun v944 =>
  bnd (scat v944 v707.fCut) fun v945 =>
  bnd (f16 m v945) fun v946 =>
  cnd (!v946)
  (f21_j1 m v931 v929)
  (bnd (f18 m a0 v945) fun v947 =>
  brk (iter (fun (y : Bool × Int) => f21_B4 m a1 v947 y.1 y.2) m (false, 0)) (fun r => some (.ret r)) fun y977 =>
  cnd (!y977.1)
  (f21_j1 m v931 v929)
  (brk (iter (fun (y : Int) => f21_B6 m v929 v945 y) m 0) (fun r => some (.ret r)) fun y1027 =>
  bnd (cnd (y1027 == ((v929.length : Int)))
  (some true)
  (bnd (idx v929 y1027) fun v1049 =>
  some (!(v1049.toList == v945.toList)))) fun v1038 =>
  f21_r8 m v929 v931 v945 y1027 v1038)))
  (some (.brk (v929, v931)))
def f21_B10 (m : Nat) (a0 : S23) (a1 : ByteArray) (v695 : (List ByteArray)) (v697 : Int) : Option (Stp ((List ByteArray)) ((List ByteArray) × Int)) :=
  cnd (decide (v697 < (a0.fCells.length : Int)))
  (bnd (idx a0.fCells v697) fun v707 =>
  brk (iter (fun (y : (List ByteArray) × Int) => f21_B9 m a0 a1 v707 y.1 y.2) m (v695, 0)) (fun r => some (.ret r)) fun y1051 =>
  some (.nxt (y1051.1, w64 (v697 + 1))))
  (some (.brk (v695, v697)))
def f21 (m : Nat) (a0 : S23) (a1 : ByteArray) : Option (List ByteArray) :=
  brk (iter (fun (y : (List ByteArray) × Int) => f21_B10 m a0 a1 y.1 y.2) m ([], 0)) some fun y1054 =>
  some y1054.1
noncomputable abbrev X21 (n : Nat) : Cx := cxOf Proofs.Tryd.prog E 21 n
noncomputable def C21 : Code := bodyOf Proofs.Tryd.prog 21
theorem f21_hLx1026 (m : Nat) (a0 : S23) (a1 : ByteArray) (o : (List ByteArray)) (n : Nat) (hn : m + 7 ≤ n + 1) (v929 : (List ByteArray)) (v945 : ByteArray) (nx934 : Nat) (nx700 : Nat) (ag930 : AG) (v931 : Int) (v697 : Int) (v707 : S67) : ∀ (kx1006 : Nat) (v1004 : Int)  (ox1005 : (List ByteArray) ⊕ (Int)), iter (fun (y : Int) => f21_B6 m v929 v945 y) kx1006 v1004 = some ox1005 → ∀ nx1007, kx1006 ≤ nx1007 → (∀ r, ox1005 = .inl r → ∀ σ, RetOk (X21 n) (resOf Proofs.Tryd.prog 21) ((eL eS) r) σ → (seqQ (X21 n) (cR (cR (cR (cR (cR (cR (cR (cL (cL (cR (cL (cL (cR (cR (cL (cL (cR (cR (cL (cL (cR (cL (cR (cR C21)))))))))))))))))))))))) (blkQ (X21 n) 3 [1, 2, 4, 5, 7, 8, 15, 16, 17] 6 (seqQ (X21 n) (cR (cR (cL (cL (cR (cR (cL (cL (cR (cR (cL (cL (cR (cL (cR (cR C21)))))))))))))))) (lpQ (X21 n) [1, 2, 4, 5, 7, 8, 15, 16, 17] 4 (cL (cL (cR (cR (cL (cL (cR (cR (cL (cL (cR (cL (cR (cR C21)))))))))))))) nx934 (blkQ (X21 n) 2 [1, 2, 4, 5, 15, 16, 17] 4 (blkQ (X21 n) 1 [1, 2, 4, 5, 15, 16, 17] 3 (seqQ (X21 n) (cR (cR (cR (cL (cL (cR (cL (cR (cR C21))))))))) (lpQ (X21 n) [1, 2, 4, 5, 15, 16, 17] 1 (cL (cL (cR (cL (cR (cR C21)))))) nx700 (blkQ (X21 n) 0 [4, 5] 1 (seqQ (X21 n) (cR (cR (cR C21))) (fnQ (X21 n).E.T (resOf Proofs.Tryd.prog 21) ((eL eS) o)))))))))))) .ret σ) → (∀ (y : Int) , ox1005 = .inr y → (seqQ (X21 n) (cR (cR (cR (cR (cR (cR (cR (cL (cL (cR (cL (cL (cR (cR (cL (cL (cR (cR (cL (cL (cR (cL (cR (cR C21)))))))))))))))))))))))) (blkQ (X21 n) 3 [1, 2, 4, 5, 7, 8, 15, 16, 17] 6 (seqQ (X21 n) (cR (cR (cL (cL (cR (cR (cL (cL (cR (cR (cL (cL (cR (cL (cR (cR C21)))))))))))))))) (lpQ (X21 n) [1, 2, 4, 5, 7, 8, 15, 16, 17] 4 (cL (cL (cR (cR (cL (cL (cR (cR (cL (cL (cR (cL (cR (cR C21)))))))))))))) nx934 (blkQ (X21 n) 2 [1, 2, 4, 5, 15, 16, 17] 4 (blkQ (X21 n) 1 [1, 2, 4, 5, 15, 16, 17] 3 (seqQ (X21 n) (cR (cR (cR (cL (cL (cR (cL (cR (cR C21))))))))) (lpQ (X21 n) [1, 2, 4, 5, 15, 16, 17] 1 (cL (cL (cR (cL (cR (cR C21)))))) nx700 (blkQ (X21 n) 0 [4, 5] 1 (seqQ (X21 n) (cR (cR (cR C21))) (fnQ (X21 n).E.T (resOf Proofs.Tryd.prog 21) ((eL eS) o)))))))))))) .normal ⟨q1 ((.v (.str a1)) :: (.ptr 0 0) :: q1 ((.v (.sl .nil (List.map eS []))) :: (AG.d ag930 9 (List.map eS v929)) :: q1 ((.ptr 3 0) :: (dI v931) :: (.v (.str v945)) :: q3 ((dI y) :: q1 ((dP e67 a0.fCells) :: (dI ((a0.fCells.length : Int))) :: (dI v697) :: q40 (q33 [])))))), [(.cells [(.v (.str a0.fName)), (dP e67 a0.fCells)]), .dead, .dead, (.cells [(dP eS v707.fTags), (.v (.str v707.fCut)), (.v (.str v707.fAdd))]), .dead, .dead, .dead, .dead, .dead, (AG.o ag930 1 (List.map eS v929))]⟩) → Lp (X21 n) [1, 2, 4, 5, 7, 8, 9, 13, 15, 16, 17] 9 (cL (cL (cL (cR (cR (cR (cR (cR (cR (cL (cL (cR (cL (cL (cR (cR (cL (cL (cR (cR (cL (cL (cR (cL (cR (cR C21)))))))))))))))))))))))))) nx1007 ⟨q1 ((.v (.str a1)) :: (.ptr 0 0) :: q1 ((.v (.sl .nil (List.map eS []))) :: (AG.d ag930 9 (List.map eS v929)) :: q1 ((.ptr 3 0) :: (dI v931) :: (.v (.str v945)) :: q3 ((dI v1004) :: q1 ((dP e67 a0.fCells) :: (dI ((a0.fCells.length : Int))) :: (dI v697) :: q40 (q33 [])))))), [(.cells [(.v (.str a0.fName)), (dP e67 a0.fCells)]), .dead, .dead, (.cells [(dP eS v707.fTags), (.v (.str v707.fCut)), (.v (.str v707.fAdd))]), .dead, .dead, .dead, .dead, .dead, (AG.o ag930 1 (List.map eS v929))]⟩ (blkQ (X21 n) 6 [1, 2, 4, 5, 7, 8, 9, 13, 15, 16, 17] 9 (seqQ (X21 n) (cR (cR (cR (cR (cR (cR (cR (cL (cL (cR (cL (cL (cR (cR (cL (cL (cR (cR (cL (cL (cR (cL (cR (cR C21)))))))))))))))))))))))) (blkQ (X21 n) 3 [1, 2, 4, 5, 7, 8, 15, 16, 17] 6 (seqQ (X21 n) (cR (cR (cL (cL (cR (cR (cL (cL (cR (cR (cL (cL (cR (cL (cR (cR C21)))))))))))))))) (lpQ (X21 n) [1, 2, 4, 5, 7, 8, 15, 16, 17] 4 (cL (cL (cR (cR (cL (cL (cR (cR (cL (cL (cR (cL (cR (cR C21)))))))))))))) nx934 (blkQ (X21 n) 2 [1, 2, 4, 5, 15, 16, 17] 4 (blkQ (X21 n) 1 [1, 2, 4, 5, 15, 16, 17] 3 (seqQ (X21 n) (cR (cR (cR (cL (cL (cR (cL (cR (cR C21))))))))) (lpQ (X21 n) [1, 2, 4, 5, 15, 16, 17] 1 (cL (cL (cR (cL (cR (cR C21)))))) nx700 (blkQ (X21 n) 0 [4, 5] 1 (seqQ (X21 n) (cR (cR (cR C21))) (fnQ (X21 n).E.T (resOf Proofs.Tryd.prog 21) ((eL eS) o))))))))))))) := by
  intro kx1006
  induction kx1006 with
  | zero => intro v1004  ox1005 h; exact (iter_zero h).elim
  | succ kx1006 ihx1008 =>
    intro v1004  ox1005 h nx1007 hnx1011 hrx1009 hxx1010
    obtain ⟨nx1007, rfl⟩ : ∃ q, nx1007 = q + 1 := ⟨nx1007 - 1, by omega⟩
    obtain ⟨sx1012, h, hsx1013⟩ := iter_some h
    have h : f21_B6 m v929 v945 v1004 = some sx1012 := h
    unfold f21_B6 at h
    refine Lp.succ ?_
    refine Wp.seq' (by kernel_rfl) ?_
    refine Wp.seq' (by kernel_rfl) ?_
    refine Wp.region (by kernel_rfl) ?_
    refine Ops.seg' 2 2 (by kernel_rfl) ?_
    refine Ops.one' 3 (fun h0 e0 => (len_g (T := T) h0 36 9 9 ag930 eS v929 (by kernel_rfl))) (by kernel_rfl) (by kernel_rfl) ?_
    refine Ops.seg' 2 5 (by kernel_rfl) ?_
    have J21j1024 : ∀ (d1016 d1017 d1018 d1019 d1020 d1021 : D) (v1022 : Bool) (v1023 : Bool), f21_r5 m v1004 v1023 = some sx1012 → Ops (X21 n) (opl (cL (cL (cL (cL (cL (cR (cR (cR (cR (cR (cR (cL (cL (cR (cL (cL (cR (cR (cL (cL (cR (cR (cL (cL (cR (cL (cR (cR C21))))))))))))))))))))))))))))) 12 ⟨q1 ((.v (.str a1)) :: (.ptr 0 0) :: q1 ((.v (.sl .nil (List.map eS []))) :: (AG.d ag930 9 (List.map eS v929)) :: q1 ((.ptr 3 0) :: (dI v931) :: (.v (.str v945)) :: q3 ((dI v1004) :: q1 ((dP e67 a0.fCells) :: (dI ((a0.fCells.length : Int))) :: (dI v697) :: q33 ((dI v1004) :: (AG.d ag930 9 (List.map eS v929)) :: (dI ((v929.length : Int))) :: (dB v1022) :: (dB v1022) :: d1016 :: d1017 :: d1018 :: d1019 :: d1020 :: d1021 :: (dB v1023) :: q28 [])))))), [(.cells [(.v (.str a0.fName)), (dP e67 a0.fCells)]), .dead, .dead, (.cells [(dP eS v707.fTags), (.v (.str v707.fCut)), (.v (.str v707.fAdd))]), .dead, .dead, .dead, .dead, .dead, (AG.o ag930 1 (List.map eS v929))]⟩ ((seqQ (X21 n) (cR (cL (cL (cL (cL (cR (cR (cR (cR (cR (cR (cL (cL (cR (cL (cL (cR (cR (cL (cL (cR (cR (cL (cL (cR (cL (cR (cR C21)))))))))))))))))))))))))))) (seqQ (X21 n) (cR (cL (cL (cL (cR (cR (cR (cR (cR (cR (cL (cL (cR (cL (cL (cR (cR (cL (cL (cR (cR (cL (cL (cR (cL (cR (cR C21))))))))))))))))))))))))))) (lpQ (X21 n) [1, 2, 4, 5, 7, 8, 9, 13, 15, 16, 17] 9 (cL (cL (cL (cR (cR (cR (cR (cR (cR (cL (cL (cR (cL (cL (cR (cR (cL (cL (cR (cR (cL (cL (cR (cL (cR (cR C21)))))))))))))))))))))))))) nx1007 (blkQ (X21 n) 6 [1, 2, 4, 5, 7, 8, 9, 13, 15, 16, 17] 9 (seqQ (X21 n) (cR (cR (cR (cR (cR (cR (cR (cL (cL (cR (cL (cL (cR (cR (cL (cL (cR (cR (cL (cL (cR (cL (cR (cR C21)))))))))))))))))))))))) (blkQ (X21 n) 3 [1, 2, 4, 5, 7, 8, 15, 16, 17] 6 (seqQ (X21 n) (cR (cR (cL (cL (cR (cR (cL (cL (cR (cR (cL (cL (cR (cL (cR (cR C21)))))))))))))))) (lpQ (X21 n) [1, 2, 4, 5, 7, 8, 15, 16, 17] 4 (cL (cL (cR (cR (cL (cL (cR (cR (cL (cL (cR (cL (cR (cR C21)))))))))))))) nx934 (blkQ (X21 n) 2 [1, 2, 4, 5, 15, 16, 17] 4 (blkQ (X21 n) 1 [1, 2, 4, 5, 15, 16, 17] 3 (seqQ (X21 n) (cR (cR (cR (cL (cL (cR (cL (cR (cR C21))))))))) (lpQ (X21 n) [1, 2, 4, 5, 15, 16, 17] 1 (cL (cL (cR (cL (cR (cR C21)))))) nx700 (blkQ (X21 n) 0 [4, 5] 1 (seqQ (X21 n) (cR (cR (cR C21))) (fnQ (X21 n).E.T (resOf Proofs.Tryd.prog 21) ((eL eS) o)))))))))))))))) .normal) := by
      intro d1016 d1017 d1018 d1019 d1020 d1021 v1022 v1023 h
      unfold f21_r5 at h
      refine Ops.done (by kernel_rfl) ?_
      refine seqQ.n ?_
      refine Wp.cnd h [1, 2, 4, 5, 7, 8, 9, 13, 15, 16, 17] 10 (by kernel_rfl) (fun h => ?_) (fun h => ?_)
      · refine Wp.skip (by kernel_rfl) ?_
        refine sqQ.n ⟨q1 ((.v (.str a1)) :: (.ptr 0 0) :: q1 ((.v (.sl .nil (List.map eS []))) :: (AG.d ag930 10 (List.map eS v929)) :: q1 ((.ptr 3 0) :: (dI v931) :: (.v (.str v945)) :: q3 ((dI v1004) :: q1 ((dP e67 a0.fCells) :: (dI ((a0.fCells.length : Int))) :: (dI v697) :: q40 (q33 [])))))), [(.cells [(.v (.str a0.fName)), (dP e67 a0.fCells)]), .dead, .dead, (.cells [(dP eS v707.fTags), (.v (.str v707.fCut)), (.v (.str v707.fAdd))]), .dead, .dead, .dead, .dead, .dead, .dead, (AG.o ag930 1 (List.map eS v929))]⟩ (by cases ag930 <;> kernel_rfl) ?_
        refine seqQ.n ?_
        refine Wp.block' 7 [1, 2, 4, 5, 7, 8, 9, 13, 15, 16, 17] 11 (by kernel_rfl) ?_
        refine Wp.region (by kernel_rfl) ?_
        refine Ops.seg' 3 3 (by kernel_rfl) ?_
        refine Ops.done (by kernel_rfl) ?_
        refine blkQ.n ⟨q1 ((.v (.str a1)) :: (.ptr 0 0) :: q1 ((.v (.sl .nil (List.map eS []))) :: (AG.d ag930 11 (List.map eS v929)) :: q1 ((.ptr 3 0) :: (dI v931) :: (.v (.str v945)) :: q3 ((dI (w64 (v1004 + 1))) :: q1 ((dP e67 a0.fCells) :: (dI ((a0.fCells.length : Int))) :: (dI v697) :: q40 (q33 [])))))), [(.cells [(.v (.str a0.fName)), (dP e67 a0.fCells)]), .dead, .dead, (.cells [(dP eS v707.fTags), (.v (.str v707.fCut)), (.v (.str v707.fAdd))]), .dead, .dead, .dead, .dead, .dead, .dead, .dead, (AG.o ag930 1 (List.map eS v929))]⟩ (by cases ag930 <;> kernel_rfl) ?_
        refine lpQ.n ⟨q1 ((.v (.str a1)) :: (.ptr 0 0) :: q1 ((.v (.sl .nil (List.map eS []))) :: (AG.d ag930 9 (List.map eS v929)) :: q1 ((.ptr 3 0) :: (dI v931) :: (.v (.str v945)) :: q3 ((dI (w64 (v1004 + 1))) :: q1 ((dP e67 a0.fCells) :: (dI ((a0.fCells.length : Int))) :: (dI v697) :: q40 (q33 [])))))), [(.cells [(.v (.str a0.fName)), (dP e67 a0.fCells)]), .dead, .dead, (.cells [(dP eS v707.fTags), (.v (.str v707.fCut)), (.v (.str v707.fAdd))]), .dead, .dead, .dead, .dead, .dead, (AG.o ag930 1 (List.map eS v929))]⟩ (by cases ag930 <;> kernel_rfl) ?_
        cases h
        exact ihx1008 (w64 (v1004 + 1))  _ hsx1013 _ (by omega) hrx1009 hxx1010
      · refine Wp.exit (id := 6) (by kernel_rfl) ?_
        refine sqQ.x ?_
        refine seqQ.x ?_
        cases h
        refine lpQ.x ?_
        refine blkQ.x ⟨q1 ((.v (.str a1)) :: (.ptr 0 0) :: q1 ((.v (.sl .nil (List.map eS []))) :: (AG.d ag930 9 (List.map eS v929)) :: q1 ((.ptr 3 0) :: (dI v931) :: (.v (.str v945)) :: q3 ((dI v1004) :: q1 ((dP e67 a0.fCells) :: (dI ((a0.fCells.length : Int))) :: (dI v697) :: q40 (q33 [])))))), [(.cells [(.v (.str a0.fName)), (dP e67 a0.fCells)]), .dead, .dead, (.cells [(dP eS v707.fTags), (.v (.str v707.fCut)), (.v (.str v707.fAdd))]), .dead, .dead, .dead, .dead, .dead, (AG.o ag930 1 (List.map eS v929))]⟩ (by cases ag930 <;> kernel_rfl) ?_
        exact hxx1010 v1004  hsx1013
    obtain ⟨v1023, ev1023, h⟩ := bnd_some h
    have G21g1015 : ∀ v1014 : Bool, (cnd v1014 (bnd (idx v929 v1004) fun v1025 => some (Op.bytesLess v1025.toList v945.toList)) (some false)) = some v1023 → Ops (X21 n) (opl (cL (cL (cL (cL (cL (cR (cR (cR (cR (cR (cR (cL (cL (cR (cL (cL (cR (cR (cL (cL (cR (cR (cL (cL (cR (cL (cR (cR C21))))))))))))))))))))))))))))) 5 ⟨q1 ((.v (.str a1)) :: (.ptr 0 0) :: q1 ((.v (.sl .nil (List.map eS []))) :: (AG.d ag930 9 (List.map eS v929)) :: q1 ((.ptr 3 0) :: (dI v931) :: (.v (.str v945)) :: q3 ((dI v1004) :: q1 ((dP e67 a0.fCells) :: (dI ((a0.fCells.length : Int))) :: (dI v697) :: q33 ((dI v1004) :: (AG.d ag930 9 (List.map eS v929)) :: (dI ((v929.length : Int))) :: (dB v1014) :: (dB v1014) :: q35 [])))))), [(.cells [(.v (.str a0.fName)), (dP e67 a0.fCells)]), .dead, .dead, (.cells [(dP eS v707.fTags), (.v (.str v707.fCut)), (.v (.str v707.fAdd))]), .dead, .dead, .dead, .dead, .dead, (AG.o ag930 1 (List.map eS v929))]⟩ ((seqQ (X21 n) (cR (cL (cL (cL (cL (cR (cR (cR (cR (cR (cR (cL (cL (cR (cL (cL (cR (cR (cL (cL (cR (cR (cL (cL (cR (cL (cR (cR C21)))))))))))))))))))))))))))) (seqQ (X21 n) (cR (cL (cL (cL (cR (cR (cR (cR (cR (cR (cL (cL (cR (cL (cL (cR (cR (cL (cL (cR (cR (cL (cL (cR (cL (cR (cR C21))))))))))))))))))))))))))) (lpQ (X21 n) [1, 2, 4, 5, 7, 8, 9, 13, 15, 16, 17] 9 (cL (cL (cL (cR (cR (cR (cR (cR (cR (cL (cL (cR (cL (cL (cR (cR (cL (cL (cR (cR (cL (cL (cR (cL (cR (cR C21)))))))))))))))))))))))))) nx1007 (blkQ (X21 n) 6 [1, 2, 4, 5, 7, 8, 9, 13, 15, 16, 17] 9 (seqQ (X21 n) (cR (cR (cR (cR (cR (cR (cR (cL (cL (cR (cL (cL (cR (cR (cL (cL (cR (cR (cL (cL (cR (cL (cR (cR C21)))))))))))))))))))))))) (blkQ (X21 n) 3 [1, 2, 4, 5, 7, 8, 15, 16, 17] 6 (seqQ (X21 n) (cR (cR (cL (cL (cR (cR (cL (cL (cR (cR (cL (cL (cR (cL (cR (cR C21)))))))))))))))) (lpQ (X21 n) [1, 2, 4, 5, 7, 8, 15, 16, 17] 4 (cL (cL (cR (cR (cL (cL (cR (cR (cL (cL (cR (cL (cR (cR C21)))))))))))))) nx934 (blkQ (X21 n) 2 [1, 2, 4, 5, 15, 16, 17] 4 (blkQ (X21 n) 1 [1, 2, 4, 5, 15, 16, 17] 3 (seqQ (X21 n) (cR (cR (cR (cL (cL (cR (cL (cR (cR C21))))))))) (lpQ (X21 n) [1, 2, 4, 5, 15, 16, 17] 1 (cL (cL (cR (cL (cR (cR C21)))))) nx700 (blkQ (X21 n) 0 [4, 5] 1 (seqQ (X21 n) (cR (cR (cR C21))) (fnQ (X21 n).E.T (resOf Proofs.Tryd.prog 21) ((eL eS) o)))))))))))))))) .normal) := by
      intro v1014 ev1023
      cases v1014
      · have ev1023 := cnd_f ev1023
        refine Ops.seg' 7 12 (by kernel_rfl) ?_
        refine Ops.st ⟨q1 ((.v (.str a1)) :: (.ptr 0 0) :: q1 ((.v (.sl .nil (List.map eS []))) :: (AG.d ag930 9 (List.map eS v929)) :: q1 ((.ptr 3 0) :: (dI v931) :: (.v (.str v945)) :: q3 ((dI v1004) :: q1 ((dP e67 a0.fCells) :: (dI ((a0.fCells.length : Int))) :: (dI v697) :: q33 ((dI v1004) :: (AG.d ag930 9 (List.map eS v929)) :: (dI ((v929.length : Int))) :: (dB false) :: (dB false) :: u6 ((dB false) :: q28 []))))))), [(.cells [(.v (.str a0.fName)), (dP e67 a0.fCells)]), .dead, .dead, (.cells [(dP eS v707.fTags), (.v (.str v707.fCut)), (.v (.str v707.fAdd))]), .dead, .dead, .dead, .dead, .dead, (AG.o ag930 1 (List.map eS v929))]⟩ (by kernel_rfl) ?_
        exact J21j1024 _ _ _ _ _ _ _ _ (some_sub (fun v1023 => f21_r5 m v1004 v1023 = some sx1012) ev1023 h)
      · have ev1023 := cnd_t ev1023
        refine Ops.seg' 2 7 (by kernel_rfl) ?_
        obtain ⟨v1025, ev1025, ev1023⟩ := bnd_some ev1023
        refine Ops.one' 8 (fun h0 e0 => (ix_g (T := T) h0 36 9 1 9 ag930 eS v929 v1004 v1025 ev1025 (by kernel_rfl) (by kernel_rfl) (fun _ => rfl))) (by kernel_rfl) (by kernel_rfl) ?_
        refine Ops.seg' 4 12 (by kernel_rfl) ?_
        refine Ops.st ⟨q1 ((.v (.str a1)) :: (.ptr 0 0) :: q1 ((.v (.sl .nil (List.map eS []))) :: (AG.d ag930 9 (List.map eS v929)) :: q1 ((.ptr 3 0) :: (dI v931) :: (.v (.str v945)) :: q3 ((dI v1004) :: q1 ((dP e67 a0.fCells) :: (dI ((a0.fCells.length : Int))) :: (dI v697) :: q33 ((dI v1004) :: (AG.d ag930 9 (List.map eS v929)) :: (dI ((v929.length : Int))) :: (dB true) :: (dB true) :: (AG.d ag930 9 (List.map eS v929)) :: (dI v1004) :: (.vptr [(.str v1025)]) :: (.v (.str v1025)) :: (.v (.str v945)) :: (dB (Op.bytesLess v1025.toList v945.toList)) :: (dB (Op.bytesLess v1025.toList v945.toList)) :: q28 [])))))), [(.cells [(.v (.str a0.fName)), (dP e67 a0.fCells)]), .dead, .dead, (.cells [(dP eS v707.fTags), (.v (.str v707.fCut)), (.v (.str v707.fAdd))]), .dead, .dead, .dead, .dead, .dead, (AG.o ag930 1 (List.map eS v929))]⟩ (by kernel_rfl) ?_
        exact J21j1024 _ _ _ _ _ _ _ _ (some_sub (fun v1023 => f21_r5 m v1004 v1023 = some sx1012) ev1023 h)
    exact Ops.st ⟨q1 ((.v (.str a1)) :: (.ptr 0 0) :: q1 ((.v (.sl .nil (List.map eS []))) :: (AG.d ag930 9 (List.map eS v929)) :: q1 ((.ptr 3 0) :: (dI v931) :: (.v (.str v945)) :: q3 ((dI v1004) :: q1 ((dP e67 a0.fCells) :: (dI ((a0.fCells.length : Int))) :: (dI v697) :: q33 ((dI v1004) :: (AG.d ag930 9 (List.map eS v929)) :: (dI ((v929.length : Int))) :: (dB ((decide (v1004 < (v929.length : Int))))) :: (dB ((decide (v1004 < (v929.length : Int))))) :: q35 [])))))), [(.cells [(.v (.str a0.fName)), (dP e67 a0.fCells)]), .dead, .dead, (.cells [(dP eS v707.fTags), (.v (.str v707.fCut)), (.v (.str v707.fAdd))]), .dead, .dead, .dead, .dead, .dead, (AG.o ag930 1 (List.map eS v929))]⟩ (by kernel_rfl) (G21g1015 (decide (v1004 < (v929.length : Int))) ev1023)
theorem f21_hLx976 (m : Nat) (a0 : S23) (a1 : ByteArray) (o : (List ByteArray)) (n : Nat) (hn : m + 7 ≤ n + 1) (v947 : (List S41)) (nx934 : Nat) (nx700 : Nat) (ag930 : AG) (v929 : (List ByteArray)) (v931 : Int) (v945 : ByteArray) (v697 : Int) (v707 : S67) : ∀ (kx963 : Nat) (v960 : Bool) (v961 : Int)  (ox962 : (List ByteArray) ⊕ (Bool × Int)), iter (fun (y : Bool × Int) => f21_B4 m a1 v947 y.1 y.2) kx963 (v960, v961) = some ox962 → ∀ nx964, kx963 ≤ nx964 → (∀ r, ox962 = .inl r → ∀ σ, RetOk (X21 n) (resOf Proofs.Tryd.prog 21) ((eL eS) r) σ → (seqQ (X21 n) (cR (cR (cR (cR (cL (cL (cR (cL (cL (cR (cR (cL (cL (cR (cR (cL (cL (cR (cL (cR (cR C21))))))))))))))))))))) (blkQ (X21 n) 3 [1, 2, 4, 5, 7, 8, 15, 16, 17] 6 (seqQ (X21 n) (cR (cR (cL (cL (cR (cR (cL (cL (cR (cR (cL (cL (cR (cL (cR (cR C21)))))))))))))))) (lpQ (X21 n) [1, 2, 4, 5, 7, 8, 15, 16, 17] 4 (cL (cL (cR (cR (cL (cL (cR (cR (cL (cL (cR (cL (cR (cR C21)))))))))))))) nx934 (blkQ (X21 n) 2 [1, 2, 4, 5, 15, 16, 17] 4 (blkQ (X21 n) 1 [1, 2, 4, 5, 15, 16, 17] 3 (seqQ (X21 n) (cR (cR (cR (cL (cL (cR (cL (cR (cR C21))))))))) (lpQ (X21 n) [1, 2, 4, 5, 15, 16, 17] 1 (cL (cL (cR (cL (cR (cR C21)))))) nx700 (blkQ (X21 n) 0 [4, 5] 1 (seqQ (X21 n) (cR (cR (cR C21))) (fnQ (X21 n).E.T (resOf Proofs.Tryd.prog 21) ((eL eS) o)))))))))))) .ret σ) → (∀ (y : Bool × Int) , ox962 = .inr y → (seqQ (X21 n) (cR (cR (cR (cR (cL (cL (cR (cL (cL (cR (cR (cL (cL (cR (cR (cL (cL (cR (cL (cR (cR C21))))))))))))))))))))) (blkQ (X21 n) 3 [1, 2, 4, 5, 7, 8, 15, 16, 17] 6 (seqQ (X21 n) (cR (cR (cL (cL (cR (cR (cL (cL (cR (cR (cL (cL (cR (cL (cR (cR C21)))))))))))))))) (lpQ (X21 n) [1, 2, 4, 5, 7, 8, 15, 16, 17] 4 (cL (cL (cR (cR (cL (cL (cR (cR (cL (cL (cR (cL (cR (cR C21)))))))))))))) nx934 (blkQ (X21 n) 2 [1, 2, 4, 5, 15, 16, 17] 4 (blkQ (X21 n) 1 [1, 2, 4, 5, 15, 16, 17] 3 (seqQ (X21 n) (cR (cR (cR (cL (cL (cR (cL (cR (cR C21))))))))) (lpQ (X21 n) [1, 2, 4, 5, 15, 16, 17] 1 (cL (cL (cR (cL (cR (cR C21)))))) nx700 (blkQ (X21 n) 0 [4, 5] 1 (seqQ (X21 n) (cR (cR (cR C21))) (fnQ (X21 n).E.T (resOf Proofs.Tryd.prog 21) ((eL eS) o)))))))))))) .normal ⟨q1 ((.v (.str a1)) :: (.ptr 0 0) :: q1 ((.v (.sl .nil (List.map eS []))) :: (AG.d ag930 7 (List.map eS v929)) :: q1 ((.ptr 3 0) :: (dI v931) :: (.v (.str v945)) :: (dB y.1) :: q4 ((dP e67 a0.fCells) :: (dI ((a0.fCells.length : Int))) :: (dI v697) :: q40 (q33 []))))), [(.cells [(.v (.str a0.fName)), (dP e67 a0.fCells)]), .dead, .dead, (.cells [(dP eS v707.fTags), (.v (.str v707.fCut)), (.v (.str v707.fAdd))]), .dead, .dead, .dead, (AG.o ag930 1 (List.map eS v929))]⟩) → Lp (X21 n) [1, 2, 4, 5, 7, 8, 9, 10, 15, 16, 17, 38, 39, 40] 7 (cL (cL (cR (cL (cR (cR (cR (cL (cL (cR (cL (cL (cR (cR (cL (cL (cR (cR (cL (cL (cR (cL (cR (cR C21)))))))))))))))))))))))) nx964 ⟨q1 ((.v (.str a1)) :: (.ptr 0 0) :: q1 ((.v (.sl .nil (List.map eS []))) :: (AG.d ag930 7 (List.map eS v929)) :: q1 ((.ptr 3 0) :: (dI v931) :: (.v (.str v945)) :: (dB v960) :: q4 ((dP e67 a0.fCells) :: (dI ((a0.fCells.length : Int))) :: (dI v697) :: q20 ((dP e41 v947) :: (dI ((v947.length : Int))) :: (dI v961) :: q40 (q10 [])))))), [(.cells [(.v (.str a0.fName)), (dP e67 a0.fCells)]), .dead, .dead, (.cells [(dP eS v707.fTags), (.v (.str v707.fCut)), (.v (.str v707.fAdd))]), .dead, .dead, .dead, (AG.o ag930 1 (List.map eS v929))]⟩ (blkQ (X21 n) 4 [1, 2, 4, 5, 7, 8, 9, 10, 15, 16, 17] 7 (seqQ (X21 n) (cR (cR (cR (cR (cL (cL (cR (cL (cL (cR (cR (cL (cL (cR (cR (cL (cL (cR (cL (cR (cR C21))))))))))))))))))))) (blkQ (X21 n) 3 [1, 2, 4, 5, 7, 8, 15, 16, 17] 6 (seqQ (X21 n) (cR (cR (cL (cL (cR (cR (cL (cL (cR (cR (cL (cL (cR (cL (cR (cR C21)))))))))))))))) (lpQ (X21 n) [1, 2, 4, 5, 7, 8, 15, 16, 17] 4 (cL (cL (cR (cR (cL (cL (cR (cR (cL (cL (cR (cL (cR (cR C21)))))))))))))) nx934 (blkQ (X21 n) 2 [1, 2, 4, 5, 15, 16, 17] 4 (blkQ (X21 n) 1 [1, 2, 4, 5, 15, 16, 17] 3 (seqQ (X21 n) (cR (cR (cR (cL (cL (cR (cL (cR (cR C21))))))))) (lpQ (X21 n) [1, 2, 4, 5, 15, 16, 17] 1 (cL (cL (cR (cL (cR (cR C21)))))) nx700 (blkQ (X21 n) 0 [4, 5] 1 (seqQ (X21 n) (cR (cR (cR C21))) (fnQ (X21 n).E.T (resOf Proofs.Tryd.prog 21) ((eL eS) o))))))))))))) := by
  intro kx963
  induction kx963 with
  | zero => intro v960 v961  ox962 h; exact (iter_zero h).elim
  | succ kx963 ihx965 =>
    intro v960 v961  ox962 h nx964 hnx968 hrx966 hxx967
    obtain ⟨nx964, rfl⟩ : ∃ q, nx964 = q + 1 := ⟨nx964 - 1, by omega⟩
    obtain ⟨sx969, h, hsx970⟩ := iter_some h
    have h : f21_B4 m a1 v947 v960 v961 = some sx969 := h
    unfold f21_B4 at h
    refine Lp.succ ?_
    refine Wp.seq' (by kernel_rfl) ?_
    refine Wp.region (by kernel_rfl) ?_
    refine Ops.seg' 1 1 (by kernel_rfl) ?_
    refine Ops.done (by kernel_rfl) ?_
    refine seqQ.n ?_
    refine Wp.seq' (by kernel_rfl) ?_
    refine Wp.cnd h [1, 2, 4, 5, 7, 8, 9, 10, 15, 16, 17, 38, 39, 40] 8 (by kernel_rfl) (fun h => ?_) (fun h => ?_)
    · refine Wp.skip (by kernel_rfl) ?_
      refine sqQ.n ⟨q1 ((.v (.str a1)) :: (.ptr 0 0) :: q1 ((.v (.sl .nil (List.map eS []))) :: (AG.d ag930 8 (List.map eS v929)) :: q1 ((.ptr 3 0) :: (dI v931) :: (.v (.str v945)) :: (dB v960) :: q4 ((dP e67 a0.fCells) :: (dI ((a0.fCells.length : Int))) :: (dI v697) :: q20 ((dP e41 v947) :: (dI ((v947.length : Int))) :: (dI v961) :: q40 (q10 [])))))), [(.cells [(.v (.str a0.fName)), (dP e67 a0.fCells)]), .dead, .dead, (.cells [(dP eS v707.fTags), (.v (.str v707.fCut)), (.v (.str v707.fAdd))]), .dead, .dead, .dead, .dead, (AG.o ag930 1 (List.map eS v929))]⟩ (by cases ag930 <;> kernel_rfl) ?_
      refine seqQ.n ?_
      refine Wp.seq' (by kernel_rfl) ?_
      have J21j972 : ∀ (v971 : Bool) , f21_j2 m v961 v971 = some sx969 → (seqQ (X21 n) (cR (cR (cR (cL (cL (cR (cL (cR (cR (cR (cL (cL (cR (cL (cL (cR (cR (cL (cL (cR (cR (cL (cL (cR (cL (cR (cR C21))))))))))))))))))))))))))) (lpQ (X21 n) [1, 2, 4, 5, 7, 8, 9, 10, 15, 16, 17, 38, 39, 40] 7 (cL (cL (cR (cL (cR (cR (cR (cL (cL (cR (cL (cL (cR (cR (cL (cL (cR (cR (cL (cL (cR (cL (cR (cR C21)))))))))))))))))))))))) nx964 (blkQ (X21 n) 4 [1, 2, 4, 5, 7, 8, 9, 10, 15, 16, 17] 7 (seqQ (X21 n) (cR (cR (cR (cR (cL (cL (cR (cL (cL (cR (cR (cL (cL (cR (cR (cL (cL (cR (cL (cR (cR C21))))))))))))))))))))) (blkQ (X21 n) 3 [1, 2, 4, 5, 7, 8, 15, 16, 17] 6 (seqQ (X21 n) (cR (cR (cL (cL (cR (cR (cL (cL (cR (cR (cL (cL (cR (cL (cR (cR C21)))))))))))))))) (lpQ (X21 n) [1, 2, 4, 5, 7, 8, 15, 16, 17] 4 (cL (cL (cR (cR (cL (cL (cR (cR (cL (cL (cR (cL (cR (cR C21)))))))))))))) nx934 (blkQ (X21 n) 2 [1, 2, 4, 5, 15, 16, 17] 4 (blkQ (X21 n) 1 [1, 2, 4, 5, 15, 16, 17] 3 (seqQ (X21 n) (cR (cR (cR (cL (cL (cR (cL (cR (cR C21))))))))) (lpQ (X21 n) [1, 2, 4, 5, 15, 16, 17] 1 (cL (cL (cR (cL (cR (cR C21)))))) nx700 (blkQ (X21 n) 0 [4, 5] 1 (seqQ (X21 n) (cR (cR (cR C21))) (fnQ (X21 n).E.T (resOf Proofs.Tryd.prog 21) ((eL eS) o))))))))))))))) .normal ⟨q1 ((.v (.str a1)) :: (.ptr 0 0) :: q1 ((.v (.sl .nil (List.map eS []))) :: (AG.d ag930 9 (List.map eS v929)) :: q1 ((.ptr 3 0) :: (dI v931) :: (.v (.str v945)) :: (dB v971) :: q4 ((dP e67 a0.fCells) :: (dI ((a0.fCells.length : Int))) :: (dI v697) :: q20 ((dP e41 v947) :: (dI ((v947.length : Int))) :: (dI v961) :: q40 (q10 [])))))), [(.cells [(.v (.str a0.fName)), (dP e67 a0.fCells)]), .dead, .dead, (.cells [(dP eS v707.fTags), (.v (.str v707.fCut)), (.v (.str v707.fAdd))]), .dead, .dead, .dead, .dead, .dead, (AG.o ag930 1 (List.map eS v929))]⟩ := by
        intro v971  h
        unfold f21_j2 at h
        refine seqQ.n ?_
        refine Wp.region (by kernel_rfl) ?_
        refine Ops.seg' 2 2 (by kernel_rfl) ?_
        refine Ops.done (by kernel_rfl) ?_
        refine lpQ.n ⟨q1 ((.v (.str a1)) :: (.ptr 0 0) :: q1 ((.v (.sl .nil (List.map eS []))) :: (AG.d ag930 7 (List.map eS v929)) :: q1 ((.ptr 3 0) :: (dI v931) :: (.v (.str v945)) :: (dB v971) :: q4 ((dP e67 a0.fCells) :: (dI ((a0.fCells.length : Int))) :: (dI v697) :: q20 ((dP e41 v947) :: (dI ((v947.length : Int))) :: (dI (w64 (v961 + 1))) :: q40 (q10 [])))))), [(.cells [(.v (.str a0.fName)), (dP e67 a0.fCells)]), .dead, .dead, (.cells [(dP eS v707.fTags), (.v (.str v707.fCut)), (.v (.str v707.fAdd))]), .dead, .dead, .dead, (AG.o ag930 1 (List.map eS v929))]⟩ (by cases ag930 <;> kernel_rfl) ?_
        cases h
        exact ihx965 v971 (w64 (v961 + 1))  _ hsx970 _ (by omega) hrx966 hxx967
      refine Wp.block' 5 [1, 2, 4, 5, 7, 8, 9, 10, 15, 16, 17, 38, 39, 40] 9 (by kernel_rfl) ?_
      refine Wp.seq' (by kernel_rfl) ?_
      refine Wp.region (by kernel_rfl) ?_
      obtain ⟨v973, ev973, h⟩ := bnd_some h
      refine Ops.one' 1 (fun h0 e0 => (ix_r (T := T) h0 26 42 2 .plain e41 v947 v961 v973 ev973 (by kernel_rfl) (by kernel_rfl) (fun _ => rfl))) (by kernel_rfl) (by kernel_rfl) ?_
      refine Ops.seg' 3 4 (by kernel_rfl) ?_
      refine Ops.done (by kernel_rfl) ?_
      refine seqQ.n ?_
      refine Wp.seq' (by kernel_rfl) ?_
      refine Wp.region (by kernel_rfl) ?_
      refine Ops.seg' 4 4 (by kernel_rfl) ?_
      refine Ops.done (by kernel_rfl) ?_
      refine seqQ.n ?_
      have J21j975 : ∀ (v974 : Bool) , f21_j3 m v961 v974 = some sx969 → (blkQ (X21 n) 5 [1, 2, 4, 5, 7, 8, 9, 10, 15, 16, 17, 38, 39, 40] 9 (seqQ (X21 n) (cR (cR (cR (cL (cL (cR (cL (cR (cR (cR (cL (cL (cR (cL (cL (cR (cR (cL (cL (cR (cR (cL (cL (cR (cL (cR (cR C21))))))))))))))))))))))))))) (lpQ (X21 n) [1, 2, 4, 5, 7, 8, 9, 10, 15, 16, 17, 38, 39, 40] 7 (cL (cL (cR (cL (cR (cR (cR (cL (cL (cR (cL (cL (cR (cR (cL (cL (cR (cR (cL (cL (cR (cL (cR (cR C21)))))))))))))))))))))))) nx964 (blkQ (X21 n) 4 [1, 2, 4, 5, 7, 8, 9, 10, 15, 16, 17] 7 (seqQ (X21 n) (cR (cR (cR (cR (cL (cL (cR (cL (cL (cR (cR (cL (cL (cR (cR (cL (cL (cR (cL (cR (cR C21))))))))))))))))))))) (blkQ (X21 n) 3 [1, 2, 4, 5, 7, 8, 15, 16, 17] 6 (seqQ (X21 n) (cR (cR (cL (cL (cR (cR (cL (cL (cR (cR (cL (cL (cR (cL (cR (cR C21)))))))))))))))) (lpQ (X21 n) [1, 2, 4, 5, 7, 8, 15, 16, 17] 4 (cL (cL (cR (cR (cL (cL (cR (cR (cL (cL (cR (cL (cR (cR C21)))))))))))))) nx934 (blkQ (X21 n) 2 [1, 2, 4, 5, 15, 16, 17] 4 (blkQ (X21 n) 1 [1, 2, 4, 5, 15, 16, 17] 3 (seqQ (X21 n) (cR (cR (cR (cL (cL (cR (cL (cR (cR C21))))))))) (lpQ (X21 n) [1, 2, 4, 5, 15, 16, 17] 1 (cL (cL (cR (cL (cR (cR C21)))))) nx700 (blkQ (X21 n) 0 [4, 5] 1 (seqQ (X21 n) (cR (cR (cR C21))) (fnQ (X21 n).E.T (resOf Proofs.Tryd.prog 21) ((eL eS) o)))))))))))))))) .normal ⟨q1 ((.v (.str a1)) :: (.ptr 0 0) :: q1 ((.v (.sl .nil (List.map eS []))) :: (AG.d ag930 10 (List.map eS v929)) :: q1 ((.ptr 3 0) :: (dI v931) :: (.v (.str v945)) :: (dB v974) :: q4 ((dP e67 a0.fCells) :: (dI ((a0.fCells.length : Int))) :: (dI v697) :: q20 ((dP e41 v947) :: (dI ((v947.length : Int))) :: (dI v961) :: q40 (q10 [])))))), [(.cells [(.v (.str a0.fName)), (dP e67 a0.fCells)]), .dead, .dead, (.cells [(dP eS v707.fTags), (.v (.str v707.fCut)), (.v (.str v707.fAdd))]), .dead, .dead, .dead, .dead, .dead, (.cells [(dP eS v973.fTags), (.v (.str v973.fForm))]), (AG.o ag930 1 (List.map eS v929))]⟩ := by
        intro v974  h
        unfold f21_j3 at h
        refine blkQ.n ⟨q1 ((.v (.str a1)) :: (.ptr 0 0) :: q1 ((.v (.sl .nil (List.map eS []))) :: (AG.d ag930 9 (List.map eS v929)) :: q1 ((.ptr 3 0) :: (dI v931) :: (.v (.str v945)) :: (dB v974) :: q4 ((dP e67 a0.fCells) :: (dI ((a0.fCells.length : Int))) :: (dI v697) :: q20 ((dP e41 v947) :: (dI ((v947.length : Int))) :: (dI v961) :: q40 (q10 [])))))), [(.cells [(.v (.str a0.fName)), (dP e67 a0.fCells)]), .dead, .dead, (.cells [(dP eS v707.fTags), (.v (.str v707.fCut)), (.v (.str v707.fAdd))]), .dead, .dead, .dead, .dead, .dead, (AG.o ag930 1 (List.map eS v929))]⟩ (by cases ag930 <;> kernel_rfl) ?_
        exact J21j972 v974  h
      refine Wp.cnd h [1, 2, 4, 5, 7, 8, 9, 10, 15, 16, 17, 38, 39, 40] 10 (by kernel_rfl) (fun h => ?_) (fun h => ?_)
      · refine Wp.region (by kernel_rfl) ?_
        refine Ops.seg' 1 1 (by kernel_rfl) ?_
        refine Ops.done (by kernel_rfl) ?_
        refine sqQ.n ⟨q1 ((.v (.str a1)) :: (.ptr 0 0) :: q1 ((.v (.sl .nil (List.map eS []))) :: (AG.d ag930 10 (List.map eS v929)) :: q1 ((.ptr 3 0) :: (dI v931) :: (.v (.str v945)) :: (dB true) :: q4 ((dP e67 a0.fCells) :: (dI ((a0.fCells.length : Int))) :: (dI v697) :: q20 ((dP e41 v947) :: (dI ((v947.length : Int))) :: (dI v961) :: q40 (q10 [])))))), [(.cells [(.v (.str a0.fName)), (dP e67 a0.fCells)]), .dead, .dead, (.cells [(dP eS v707.fTags), (.v (.str v707.fCut)), (.v (.str v707.fAdd))]), .dead, .dead, .dead, .dead, .dead, (.cells [(dP eS v973.fTags), (.v (.str v973.fForm))]), (AG.o ag930 1 (List.map eS v929))]⟩ (by cases ag930 <;> kernel_rfl) ?_
        exact J21j975 true  h
      · refine Wp.skip (by kernel_rfl) ?_
        refine sqQ.n ⟨q1 ((.v (.str a1)) :: (.ptr 0 0) :: q1 ((.v (.sl .nil (List.map eS []))) :: (AG.d ag930 10 (List.map eS v929)) :: q1 ((.ptr 3 0) :: (dI v931) :: (.v (.str v945)) :: (dB v960) :: q4 ((dP e67 a0.fCells) :: (dI ((a0.fCells.length : Int))) :: (dI v697) :: q20 ((dP e41 v947) :: (dI ((v947.length : Int))) :: (dI v961) :: q40 (q10 [])))))), [(.cells [(.v (.str a0.fName)), (dP e67 a0.fCells)]), .dead, .dead, (.cells [(dP eS v707.fTags), (.v (.str v707.fCut)), (.v (.str v707.fAdd))]), .dead, .dead, .dead, .dead, .dead, (.cells [(dP eS v973.fTags), (.v (.str v973.fForm))]), (AG.o ag930 1 (List.map eS v929))]⟩ (by cases ag930 <;> kernel_rfl) ?_
        exact J21j975 v960  h
    · refine Wp.exit (id := 4) (by kernel_rfl) ?_
      refine sqQ.x ?_
      refine seqQ.x ?_
      cases h
      refine lpQ.x ?_
      refine blkQ.x ⟨q1 ((.v (.str a1)) :: (.ptr 0 0) :: q1 ((.v (.sl .nil (List.map eS []))) :: (AG.d ag930 7 (List.map eS v929)) :: q1 ((.ptr 3 0) :: (dI v931) :: (.v (.str v945)) :: (dB v960) :: q4 ((dP e67 a0.fCells) :: (dI ((a0.fCells.length : Int))) :: (dI v697) :: q40 (q33 []))))), [(.cells [(.v (.str a0.fName)), (dP e67 a0.fCells)]), .dead, .dead, (.cells [(dP eS v707.fTags), (.v (.str v707.fCut)), (.v (.str v707.fAdd))]), .dead, .dead, .dead, (AG.o ag930 1 (List.map eS v929))]⟩ (by cases ag930 <;> kernel_rfl) ?_
      exact hxx967 (v960, v961)  hsx970
theorem f21_hLx1050 (m : Nat) (a0 : S23) (a1 : ByteArray) (o : (List ByteArray)) (n : Nat) (hn : m + 7 ≤ n + 1) (v707 : S67) (nx700 : Nat) (v697 : Int) : ∀ (kx933 : Nat) (v929 : (List ByteArray)) (v931 : Int) (ag930 : AG) (ox932 : (List ByteArray) ⊕ ((List ByteArray) × Int)), iter (fun (y : (List ByteArray) × Int) => f21_B9 m a0 a1 v707 y.1 y.2) kx933 (v929, v931) = some ox932 → ∀ nx934, kx933 ≤ nx934 → (∀ r, ox932 = .inl r → ∀ σ, RetOk (X21 n) (resOf Proofs.Tryd.prog 21) ((eL eS) r) σ → (blkQ (X21 n) 1 [1, 2, 4, 5, 15, 16, 17] 3 (seqQ (X21 n) (cR (cR (cR (cL (cL (cR (cL (cR (cR C21))))))))) (lpQ (X21 n) [1, 2, 4, 5, 15, 16, 17] 1 (cL (cL (cR (cL (cR (cR C21)))))) nx700 (blkQ (X21 n) 0 [4, 5] 1 (seqQ (X21 n) (cR (cR (cR C21))) (fnQ (X21 n).E.T (resOf Proofs.Tryd.prog 21) ((eL eS) o))))))) .ret σ) → (∀ (y : (List ByteArray) × Int) (ag930 : AG), ox932 = .inr y → (blkQ (X21 n) 1 [1, 2, 4, 5, 15, 16, 17] 3 (seqQ (X21 n) (cR (cR (cR (cL (cL (cR (cL (cR (cR C21))))))))) (lpQ (X21 n) [1, 2, 4, 5, 15, 16, 17] 1 (cL (cL (cR (cL (cR (cR C21)))))) nx700 (blkQ (X21 n) 0 [4, 5] 1 (seqQ (X21 n) (cR (cR (cR C21))) (fnQ (X21 n).E.T (resOf Proofs.Tryd.prog 21) ((eL eS) o))))))) .normal ⟨q1 ((.v (.str a1)) :: (.ptr 0 0) :: q1 ((.v (.sl .nil (List.map eS []))) :: (AG.d ag930 4 (List.map eS y.1)) :: q9 ((dP e67 a0.fCells) :: (dI ((a0.fCells.length : Int))) :: (dI v697) :: q40 (q33 [])))), [(.cells [(.v (.str a0.fName)), (dP e67 a0.fCells)]), .dead, .dead, (.cells [(dP eS v707.fTags), (.v (.str v707.fCut)), (.v (.str v707.fAdd))]), (AG.o ag930 1 (List.map eS y.1))]⟩) → Lp (X21 n) [1, 2, 4, 5, 7, 8, 15, 16, 17] 4 (cL (cL (cR (cR (cL (cL (cR (cR (cL (cL (cR (cL (cR (cR C21)))))))))))))) nx934 ⟨q1 ((.v (.str a1)) :: (.ptr 0 0) :: q1 ((.v (.sl .nil (List.map eS []))) :: (AG.d ag930 4 (List.map eS v929)) :: q1 ((.ptr 3 0) :: (dI v931) :: q6 ((dP e67 a0.fCells) :: (dI ((a0.fCells.length : Int))) :: (dI v697) :: q40 (q33 []))))), [(.cells [(.v (.str a0.fName)), (dP e67 a0.fCells)]), .dead, .dead, (.cells [(dP eS v707.fTags), (.v (.str v707.fCut)), (.v (.str v707.fAdd))]), (AG.o ag930 1 (List.map eS v929))]⟩ (blkQ (X21 n) 2 [1, 2, 4, 5, 15, 16, 17] 4 (blkQ (X21 n) 1 [1, 2, 4, 5, 15, 16, 17] 3 (seqQ (X21 n) (cR (cR (cR (cL (cL (cR (cL (cR (cR C21))))))))) (lpQ (X21 n) [1, 2, 4, 5, 15, 16, 17] 1 (cL (cL (cR (cL (cR (cR C21)))))) nx700 (blkQ (X21 n) 0 [4, 5] 1 (seqQ (X21 n) (cR (cR (cR C21))) (fnQ (X21 n).E.T (resOf Proofs.Tryd.prog 21) ((eL eS) o)))))))) := by
  intro kx933
  induction kx933 with
  | zero => intro v929 v931 ag930 ox932 h; exact (iter_zero h).elim
  | succ kx933 ihx935 =>
    intro v929 v931 ag930 ox932 h nx934 hnx938 hrx936 hxx937
    obtain ⟨nx934, rfl⟩ : ∃ q, nx934 = q + 1 := ⟨nx934 - 1, by omega⟩
    obtain ⟨sx939, h, hsx940⟩ := iter_some h
    have h : f21_B9 m a0 a1 v707 v929 v931 = some sx939 := h
    unfold f21_B9 at h
    refine Lp.succ ?_
    refine Wp.seq' (by kernel_rfl) ?_
    refine Wp.seq' (by kernel_rfl) ?_
    refine Wp.region (by kernel_rfl) ?_
    refine Ops.seg' 4 4 (by kernel_rfl) ?_
    refine Ops.done (by kernel_rfl) ?_
    refine seqQ.n ?_
    refine Wp.cnd h [1, 2, 4, 5, 7, 8, 15, 16, 17] 5 (by kernel_rfl) (fun h => ?_) (fun h => ?_)
    · refine Wp.skip (by kernel_rfl) ?_
      refine sqQ.n ⟨q1 ((.v (.str a1)) :: (.ptr 0 0) :: q1 ((.v (.sl .nil (List.map eS []))) :: (AG.d ag930 5 (List.map eS v929)) :: q1 ((.ptr 3 0) :: (dI v931) :: q6 ((dP e67 a0.fCells) :: (dI ((a0.fCells.length : Int))) :: (dI v697) :: q40 (q33 []))))), [(.cells [(.v (.str a0.fName)), (dP e67 a0.fCells)]), .dead, .dead, (.cells [(dP eS v707.fTags), (.v (.str v707.fCut)), (.v (.str v707.fAdd))]), .dead, (AG.o ag930 1 (List.map eS v929))]⟩ (by cases ag930 <;> kernel_rfl) ?_
      refine seqQ.n ?_
      refine Wp.seq' (by kernel_rfl) ?_
      have J21j943 : ∀ (v941 : (List ByteArray)) (ag942 : AG), f21_j1 m v931 v941 = some sx939 → (seqQ (X21 n) (cR (cR (cL (cL (cR (cR (cL (cL (cR (cR (cL (cL (cR (cL (cR (cR C21)))))))))))))))) (lpQ (X21 n) [1, 2, 4, 5, 7, 8, 15, 16, 17] 4 (cL (cL (cR (cR (cL (cL (cR (cR (cL (cL (cR (cL (cR (cR C21)))))))))))))) nx934 (blkQ (X21 n) 2 [1, 2, 4, 5, 15, 16, 17] 4 (blkQ (X21 n) 1 [1, 2, 4, 5, 15, 16, 17] 3 (seqQ (X21 n) (cR (cR (cR (cL (cL (cR (cL (cR (cR C21))))))))) (lpQ (X21 n) [1, 2, 4, 5, 15, 16, 17] 1 (cL (cL (cR (cL (cR (cR C21)))))) nx700 (blkQ (X21 n) 0 [4, 5] 1 (seqQ (X21 n) (cR (cR (cR C21))) (fnQ (X21 n).E.T (resOf Proofs.Tryd.prog 21) ((eL eS) o)))))))))) .normal ⟨q1 ((.v (.str a1)) :: (.ptr 0 0) :: q1 ((.v (.sl .nil (List.map eS []))) :: (AG.d ag942 6 (List.map eS v941)) :: q1 ((.ptr 3 0) :: (dI v931) :: q6 ((dP e67 a0.fCells) :: (dI ((a0.fCells.length : Int))) :: (dI v697) :: q40 (q33 []))))), [(.cells [(.v (.str a0.fName)), (dP e67 a0.fCells)]), .dead, .dead, (.cells [(dP eS v707.fTags), (.v (.str v707.fCut)), (.v (.str v707.fAdd))]), .dead, .dead, (AG.o ag942 1 (List.map eS v941))]⟩ := by
        intro v941 ag942 h
        unfold f21_j1 at h
        refine seqQ.n ?_
        refine Wp.region (by kernel_rfl) ?_
        refine Ops.seg' 3 3 (by kernel_rfl) ?_
        refine Ops.done (by kernel_rfl) ?_
        refine lpQ.n ⟨q1 ((.v (.str a1)) :: (.ptr 0 0) :: q1 ((.v (.sl .nil (List.map eS []))) :: (AG.d ag942 4 (List.map eS v941)) :: q1 ((.ptr 3 0) :: (dI (w64 (v931 + 1))) :: q6 ((dP e67 a0.fCells) :: (dI ((a0.fCells.length : Int))) :: (dI v697) :: q40 (q33 []))))), [(.cells [(.v (.str a0.fName)), (dP e67 a0.fCells)]), .dead, .dead, (.cells [(dP eS v707.fTags), (.v (.str v707.fCut)), (.v (.str v707.fAdd))]), (AG.o ag942 1 (List.map eS v941))]⟩ (by cases ag942 <;> kernel_rfl) ?_
        cases h
        exact ihx935 v941 (w64 (v931 + 1)) _ _ hsx940 _ (by omega) hrx936 hxx937
      refine Wp.block' 3 [1, 2, 4, 5, 7, 8, 15, 16, 17] 6 (by kernel_rfl) ?_
      refine Wp.seq' (by kernel_rfl) ?_
      refine Wp.region (by kernel_rfl) ?_
      refine Ops.seg' 2 2 (by kernel_rfl) ?_
      obtain ⟨v944, ev944, h⟩ := bnd_some h
      refine Ops.one' 3 (fun h0 e0 => (str_sub (T := T) h0 9 a1 v944 none (some v931) ev944 (by kernel_rfl))) (by kernel_rfl) (by kernel_rfl) ?_
      refine Ops.seg' 2 5 (by kernel_rfl) ?_
      obtain ⟨v945, ev945, h⟩ := bnd_some h
      refine Ops.one' 6 (fun h0 e0 => (str_cat (T := T) h0 9 v944 v707.fCut v945 ev945)) (by kernel_rfl) (by kernel_rfl) ?_
      refine Ops.seg' 1 7 (by kernel_rfl) ?_
      refine Ops.done (by kernel_rfl) ?_
      refine seqQ.n ?_
      refine Wp.seq' (by kernel_rfl) ?_
      refine Wp.seq' (by kernel_rfl) ?_
      refine Wp.region (by kernel_rfl) ?_
      refine Ops.seg' 1 1 (by kernel_rfl) ?_
      obtain ⟨v946, ev946, h⟩ := bnd_some h
      refine Ops.one' 2 (fun h0 e0 => (call_ok (E' := E) (h := h0) (by kernel_rfl) (Args.v (.str v945) (eS v945) (by kernel_rfl) Args.nil) (ok16 m v945 v946 ev946 n (by omega)))) (by kernel_rfl) (by kernel_rfl) ?_
      refine Ops.seg' 1 3 (by kernel_rfl) ?_
      refine Ops.done (by kernel_rfl) ?_
      refine seqQ.n ?_
      refine Wp.cnd h [1, 2, 4, 5, 7, 8, 9, 15, 16, 17] 6 (by kernel_rfl) (fun h => ?_) (fun h => ?_)
      · refine Wp.exit (id := 3) (by kernel_rfl) ?_
        refine sqQ.x ?_
        refine seqQ.x ?_
        refine blkQ.x ⟨q1 ((.v (.str a1)) :: (.ptr 0 0) :: q1 ((.v (.sl .nil (List.map eS []))) :: (AG.d ag930 6 (List.map eS v929)) :: q1 ((.ptr 3 0) :: (dI v931) :: q6 ((dP e67 a0.fCells) :: (dI ((a0.fCells.length : Int))) :: (dI v697) :: q40 (q33 []))))), [(.cells [(.v (.str a0.fName)), (dP e67 a0.fCells)]), .dead, .dead, (.cells [(dP eS v707.fTags), (.v (.str v707.fCut)), (.v (.str v707.fAdd))]), .dead, .dead, (AG.o ag930 1 (List.map eS v929))]⟩ (by cases ag930 <;> kernel_rfl) ?_
        exact J21j943 v929 _ h
      · refine Wp.skip (by kernel_rfl) ?_
        refine sqQ.n ⟨q1 ((.v (.str a1)) :: (.ptr 0 0) :: q1 ((.v (.sl .nil (List.map eS []))) :: (AG.d ag930 6 (List.map eS v929)) :: q1 ((.ptr 3 0) :: (dI v931) :: (.v (.str v945)) :: q5 ((dP e67 a0.fCells) :: (dI ((a0.fCells.length : Int))) :: (dI v697) :: q40 (q33 []))))), [(.cells [(.v (.str a0.fName)), (dP e67 a0.fCells)]), .dead, .dead, (.cells [(dP eS v707.fTags), (.v (.str v707.fCut)), (.v (.str v707.fAdd))]), .dead, .dead, (AG.o ag930 1 (List.map eS v929))]⟩ (by cases ag930 <;> kernel_rfl) ?_
        refine seqQ.n ?_
        refine Wp.seq' (by kernel_rfl) ?_
        refine Wp.region (by kernel_rfl) ?_
        refine Ops.seg' 1 1 (by kernel_rfl) ?_
        refine Ops.done (by kernel_rfl) ?_
        refine seqQ.n ?_
        refine Wp.seq' (by kernel_rfl) ?_
        refine Wp.seq' (by kernel_rfl) ?_
        refine Wp.region (by kernel_rfl) ?_
        refine Ops.seg' 2 2 (by kernel_rfl) ?_
        obtain ⟨v947, ev947, h⟩ := bnd_some h
        refine Ops.one' 3 (fun h0 e0 => (call_ok (E' := E) (h := h0) (by kernel_rfl) (Args.v (.agg [(.str a0.fName), (vP e67 a0.fCells)]) (e23 a0) (by kernel_rfl) (Args.v (.str v945) (eS v945) (by kernel_rfl) Args.nil)) (ok18 m a0 v945 v947 ev947 n (by omega)))) (by kernel_rfl) (by kernel_rfl) ?_
        refine Ops.one' 4 (fun h0 e0 => (len_r (T := T) h0 26 42 .plain e41 v947 (by kernel_rfl))) (by kernel_rfl) (by kernel_rfl) ?_
        refine Ops.seg' 1 5 (by kernel_rfl) ?_
        refine Ops.done (by kernel_rfl) ?_
        refine seqQ.n ?_
        refine Wp.block' 4 [1, 2, 4, 5, 7, 8, 9, 10, 15, 16, 17] 7 (by kernel_rfl) ?_
        have hLx976 := f21_hLx976 m a0 a1 o n hn v947 nx934 nx700 ag930 v929 v931 v945 v697 v707
        refine Wp.loop' [1, 2, 4, 5, 7, 8, 9, 10, 15, 16, 17, 38, 39, 40] 7 (by kernel_rfl) ⟨q1 ((.v (.str a1)) :: (.ptr 0 0) :: q1 ((.v (.sl .nil (List.map eS []))) :: (AG.d ag930 7 (List.map eS v929)) :: q1 ((.ptr 3 0) :: (dI v931) :: (.v (.str v945)) :: (dB false) :: q4 ((dP e67 a0.fCells) :: (dI ((a0.fCells.length : Int))) :: (dI v697) :: q20 ((dP e41 v947) :: (dI ((v947.length : Int))) :: (dI 0) :: q40 (q10 [])))))), [(.cells [(.v (.str a0.fName)), (dP e67 a0.fCells)]), .dead, .dead, (.cells [(dP eS v707.fTags), (.v (.str v707.fCut)), (.v (.str v707.fAdd))]), .dead, .dead, .dead, (AG.o ag930 1 (List.map eS v929))]⟩ (by cases ag930 <;> kernel_rfl) ?_
        rcases brk_some h with ⟨r978, er978, h⟩ | ⟨y977, ey977, h⟩
        · refine hLx976 _ false 0  _ er978 n (by omega) (fun r er σ hσ => ?_) (fun y  ey => by cases ey)
          cases er
          refine seqQ.r ?_
          refine blkQ.r ?_
          refine seqQ.r ?_
          refine lpQ.r ?_
          cases h
          refine blkQ.r ?_
          exact hrx936 _ hsx940 _ (RetOk.forget [1, 2, 4, 5, 7, 8, 15, 16, 17] (by kernel_rfl) hσ)
        · refine hLx976 _ false 0  _ ey977 n (by omega) (fun r er => by cases er) (fun y  ey => ?_)
          cases ey
          refine seqQ.n ?_
          refine Wp.seq' (by kernel_rfl) ?_
          refine Wp.seq' (by kernel_rfl) ?_
          refine Wp.region (by kernel_rfl) ?_
          refine Ops.seg' 2 2 (by kernel_rfl) ?_
          refine Ops.done (by kernel_rfl) ?_
          refine seqQ.n ?_
          refine Wp.cnd h [1, 2, 4, 5, 7, 8, 9, 15, 16, 17] 8 (by kernel_rfl) (fun h => ?_) (fun h => ?_)
          · refine Wp.exit (id := 3) (by kernel_rfl) ?_
            refine sqQ.x ?_
            refine seqQ.x ?_
            refine blkQ.x ⟨q1 ((.v (.str a1)) :: (.ptr 0 0) :: q1 ((.v (.sl .nil (List.map eS []))) :: (AG.d ag930 6 (List.map eS v929)) :: q1 ((.ptr 3 0) :: (dI v931) :: q6 ((dP e67 a0.fCells) :: (dI ((a0.fCells.length : Int))) :: (dI v697) :: q40 (q33 []))))), [(.cells [(.v (.str a0.fName)), (dP e67 a0.fCells)]), .dead, .dead, (.cells [(dP eS v707.fTags), (.v (.str v707.fCut)), (.v (.str v707.fAdd))]), .dead, .dead, (AG.o ag930 1 (List.map eS v929))]⟩ (by cases ag930 <;> kernel_rfl) ?_
            exact J21j943 v929 _ h
          · refine Wp.skip (by kernel_rfl) ?_
            refine sqQ.n ⟨q1 ((.v (.str a1)) :: (.ptr 0 0) :: q1 ((.v (.sl .nil (List.map eS []))) :: (AG.d ag930 8 (List.map eS v929)) :: q1 ((.ptr 3 0) :: (dI v931) :: (.v (.str v945)) :: q5 ((dP e67 a0.fCells) :: (dI ((a0.fCells.length : Int))) :: (dI v697) :: q40 (q33 []))))), [(.cells [(.v (.str a0.fName)), (dP e67 a0.fCells)]), .dead, .dead, (.cells [(dP eS v707.fTags), (.v (.str v707.fCut)), (.v (.str v707.fAdd))]), .dead, .dead, .dead, .dead, (AG.o ag930 1 (List.map eS v929))]⟩ (by cases ag930 <;> kernel_rfl) ?_
            refine seqQ.n ?_
            refine Wp.seq' (by kernel_rfl) ?_
            refine Wp.region (by kernel_rfl) ?_
            refine Ops.seg' 1 1 (by kernel_rfl) ?_
            refine Ops.done (by kernel_rfl) ?_
            refine seqQ.n ?_
            refine Wp.seq' (by kernel_rfl) ?_
            refine Wp.block' 6 [1, 2, 4, 5, 7, 8, 9, 13, 15, 16, 17] 9 (by kernel_rfl) ?_
            have hLx1026 := f21_hLx1026 m a0 a1 o n hn v929 v945 nx934 nx700 ag930 v931 v697 v707
            refine Wp.loop' [1, 2, 4, 5, 7, 8, 9, 13, 15, 16, 17] 9 (by kernel_rfl) ⟨q1 ((.v (.str a1)) :: (.ptr 0 0) :: q1 ((.v (.sl .nil (List.map eS []))) :: (AG.d ag930 9 (List.map eS v929)) :: q1 ((.ptr 3 0) :: (dI v931) :: (.v (.str v945)) :: q3 ((dI 0) :: q1 ((dP e67 a0.fCells) :: (dI ((a0.fCells.length : Int))) :: (dI v697) :: q40 (q33 [])))))), [(.cells [(.v (.str a0.fName)), (dP e67 a0.fCells)]), .dead, .dead, (.cells [(dP eS v707.fTags), (.v (.str v707.fCut)), (.v (.str v707.fAdd))]), .dead, .dead, .dead, .dead, .dead, (AG.o ag930 1 (List.map eS v929))]⟩ (by cases ag930 <;> kernel_rfl) ?_
            rcases brk_some h with ⟨r1028, er1028, h⟩ | ⟨y1027, ey1027, h⟩
            · refine hLx1026 _ 0  _ er1028 n (by omega) (fun r er σ hσ => ?_) (fun y  ey => by cases ey)
              cases er
              refine seqQ.r ?_
              refine blkQ.r ?_
              refine seqQ.r ?_
              refine lpQ.r ?_
              cases h
              refine blkQ.r ?_
              exact hrx936 _ hsx940 _ (RetOk.forget [1, 2, 4, 5, 7, 8, 15, 16, 17] (by kernel_rfl) hσ)
            · refine hLx1026 _ 0  _ ey1027 n (by omega) (fun r er => by cases er) (fun y  ey => ?_)
              cases ey
              refine seqQ.n ?_
              refine Wp.seq' (by kernel_rfl) ?_
              refine Wp.region (by kernel_rfl) ?_
              refine Ops.seg' 2 2 (by kernel_rfl) ?_
              refine Ops.one' 3 (fun h0 e0 => (len_g (T := T) h0 36 9 9 ag930 eS v929 (by kernel_rfl))) (by kernel_rfl) (by kernel_rfl) ?_
              refine Ops.seg' 2 5 (by kernel_rfl) ?_
              have J21j1039 : ∀ (d1031 d1032 d1033 d1034 d1035 d1036 : D) (v1037 : Bool) (v1038 : Bool), f21_r8 m v929 v931 v945 y1027 v1038 = some sx939 → Ops (X21 n) (opl (cL (cR (cR (cR (cR (cR (cR (cR (cL (cL (cR (cL (cL (cR (cR (cL (cL (cR (cR (cL (cL (cR (cL (cR (cR C21)))))))))))))))))))))))))) 12 ⟨q1 ((.v (.str a1)) :: (.ptr 0 0) :: q1 ((.v (.sl .nil (List.map eS []))) :: (AG.d ag930 9 (List.map eS v929)) :: q1 ((.ptr 3 0) :: (dI v931) :: (.v (.str v945)) :: q3 ((dI y1027) :: q1 ((dP e67 a0.fCells) :: (dI ((a0.fCells.length : Int))) :: (dI v697) :: q40 (q7 ((dI y1027) :: (AG.d ag930 9 (List.map eS v929)) :: (dI ((v929.length : Int))) :: (dB v1037) :: (dB v1037) :: d1031 :: d1032 :: d1033 :: d1034 :: d1035 :: d1036 :: (dB v1038) :: q14 []))))))), [(.cells [(.v (.str a0.fName)), (dP e67 a0.fCells)]), .dead, .dead, (.cells [(dP eS v707.fTags), (.v (.str v707.fCut)), (.v (.str v707.fAdd))]), .dead, .dead, .dead, .dead, .dead, (AG.o ag930 1 (List.map eS v929))]⟩ ((seqQ (X21 n) (cR (cR (cR (cR (cR (cR (cR (cR (cL (cL (cR (cL (cL (cR (cR (cL (cL (cR (cR (cL (cL (cR (cL (cR (cR C21))))))))))))))))))))))))) (blkQ (X21 n) 3 [1, 2, 4, 5, 7, 8, 15, 16, 17] 6 (seqQ (X21 n) (cR (cR (cL (cL (cR (cR (cL (cL (cR (cR (cL (cL (cR (cL (cR (cR C21)))))))))))))))) (lpQ (X21 n) [1, 2, 4, 5, 7, 8, 15, 16, 17] 4 (cL (cL (cR (cR (cL (cL (cR (cR (cL (cL (cR (cL (cR (cR C21)))))))))))))) nx934 (blkQ (X21 n) 2 [1, 2, 4, 5, 15, 16, 17] 4 (blkQ (X21 n) 1 [1, 2, 4, 5, 15, 16, 17] 3 (seqQ (X21 n) (cR (cR (cR (cL (cL (cR (cL (cR (cR C21))))))))) (lpQ (X21 n) [1, 2, 4, 5, 15, 16, 17] 1 (cL (cL (cR (cL (cR (cR C21)))))) nx700 (blkQ (X21 n) 0 [4, 5] 1 (seqQ (X21 n) (cR (cR (cR C21))) (fnQ (X21 n).E.T (resOf Proofs.Tryd.prog 21) ((eL eS) o)))))))))))) .normal) := by
                intro d1031 d1032 d1033 d1034 d1035 d1036 v1037 v1038 h
                unfold f21_r8 at h
                refine Ops.done (by kernel_rfl) ?_
                refine seqQ.n ?_
                have J21j1043 : ∀ (v1040 : (List ByteArray)) (ag1041 : AG) (oo1042 : OO), f21_j7 m v931 v1040 = some sx939 → (blkQ (X21 n) 3 [1, 2, 4, 5, 7, 8, 15, 16, 17] 6 (seqQ (X21 n) (cR (cR (cL (cL (cR (cR (cL (cL (cR (cR (cL (cL (cR (cL (cR (cR C21)))))))))))))))) (lpQ (X21 n) [1, 2, 4, 5, 7, 8, 15, 16, 17] 4 (cL (cL (cR (cR (cL (cL (cR (cR (cL (cL (cR (cL (cR (cR C21)))))))))))))) nx934 (blkQ (X21 n) 2 [1, 2, 4, 5, 15, 16, 17] 4 (blkQ (X21 n) 1 [1, 2, 4, 5, 15, 16, 17] 3 (seqQ (X21 n) (cR (cR (cR (cL (cL (cR (cL (cR (cR C21))))))))) (lpQ (X21 n) [1, 2, 4, 5, 15, 16, 17] 1 (cL (cL (cR (cL (cR (cR C21)))))) nx700 (blkQ (X21 n) 0 [4, 5] 1 (seqQ (X21 n) (cR (cR (cR C21))) (fnQ (X21 n).E.T (resOf Proofs.Tryd.prog 21) ((eL eS) o))))))))))) .normal ⟨q1 ((.v (.str a1)) :: (.ptr 0 0) :: q1 ((.v (.sl .nil (List.map eS []))) :: (AG.d ag1041 10 (List.map eS v1040)) :: q1 ((.ptr 3 0) :: (dI v931) :: q6 ((dP e67 a0.fCells) :: (dI ((a0.fCells.length : Int))) :: (dI v697) :: q40 (q33 []))))), [(.cells [(.v (.str a0.fName)), (dP e67 a0.fCells)]), .dead, .dead, (.cells [(dP eS v707.fTags), (.v (.str v707.fCut)), (.v (.str v707.fAdd))]), .dead, .dead, .dead, .dead, .dead, (OO.o oo1042), (AG.o ag1041 1 (List.map eS v1040))]⟩ := by
                  intro v1040 ag1041 oo1042 h
                  unfold f21_j7 at h
                  refine blkQ.n ⟨q1 ((.v (.str a1)) :: (.ptr 0 0) :: q1 ((.v (.sl .nil (List.map eS []))) :: (AG.d ag1041 6 (List.map eS v1040)) :: q1 ((.ptr 3 0) :: (dI v931) :: q6 ((dP e67 a0.fCells) :: (dI ((a0.fCells.length : Int))) :: (dI v697) :: q40 (q33 []))))), [(.cells [(.v (.str a0.fName)), (dP e67 a0.fCells)]), .dead, .dead, (.cells [(dP eS v707.fTags), (.v (.str v707.fCut)), (.v (.str v707.fAdd))]), .dead, .dead, (AG.o ag1041 1 (List.map eS v1040))]⟩ (by cases ag1041 <;> kernel_rfl) ?_
                  exact J21j943 v1040 _ h
                refine Wp.cnd h [1, 2, 4, 5, 7, 8, 15, 16, 17] 10 (by kernel_rfl) (fun h => ?_) (fun h => ?_)
                · refine Wp.region (by kernel_rfl) ?_
                  refine Ops.seg' 3 3 (by kernel_rfl) ?_
                  obtain ⟨v1044, ev1044, h⟩ := bnd_some h
                  refine Ops.one' 4 (fun h0 e0 => (sub_x (T := T) h0 36 9 1 (AG.d ag930 9 (List.map eS v929)) eS v929 v1044 none (some y1027) (AG.hd _ _ _) ev1044 (by kernel_rfl) (by kernel_rfl) (fun _ => rfl))) (by kernel_rfl) (by kernel_rfl) ?_
                  obtain ⟨v1045, ev1045, h⟩ := bnd_some h
                  refine Ops.one' 5 (fun h0 e0 => (app_n (T := T) (g := .nonfull) h0 36 9 1 ti9 (sfl (dfl (AG.d ag930 9 (List.map eS v929))) v929.length (some y1027)) eS v1044 v1045 ev1045 (by kernel_rfl) (by kernel_rfl) (by kernel_rfl) (by kernel_rfl) (fun _ => rfl))) (by kernel_rfl) (by kernel_rfl) ?_
                  refine Ops.seg' 2 7 (by kernel_rfl) ?_
                  obtain ⟨v1046, ev1046, h⟩ := bnd_some h
                  refine Ops.one' 8 (fun h0 e0 => (app_r (T := T) (g := .nonfull) h0 36 9 10 1 ti9 .nonfull eS v1045 [v945] v1046 ev1046 (by kernel_rfl) (by kernel_rfl) (by kernel_rfl) (by kernel_rfl) (fun _ => rfl) (hq_of e0 (by kernel_rfl)))) (by kernel_rfl) (by kernel_rfl) ?_
                  refine Ops.seg' 2 10 (by kernel_rfl) ?_
                  obtain ⟨v1047, ev1047, h⟩ := bnd_some h
                  refine Ops.one' 11 (fun h0 e0 => (sub_x (T := T) h0 36 9 1 (AG.d ag930 9 (List.map eS v929)) eS v929 v1047 (some y1027) none (AG.hd _ _ _) ev1047 (by kernel_rfl) (by kernel_rfl) (fun _ => rfl))) (by kernel_rfl) (by kernel_rfl) ?_
                  obtain ⟨v1048, ev1048, h⟩ := bnd_some h
                  refine Ops.one' 12 (fun h0 e0 => (app_r (T := T) (g := .nonfull) h0 36 9 11 1 ti9 (sfl (dfl (AG.d ag930 9 (List.map eS v929))) v929.length none) eS v1046 v1047 v1048 ev1048 (by kernel_rfl) (by kernel_rfl) (by kernel_rfl) (by kernel_rfl) (fun _ => rfl) (hq_of e0 (by kernel_rfl)))) (by kernel_rfl) (by kernel_rfl) ?_
                  refine Ops.seg' 1 13 (by kernel_rfl) ?_
                  refine Ops.done (by kernel_rfl) ?_
                  refine sqQ.n ⟨q1 ((.v (.str a1)) :: (.ptr 0 0) :: q1 ((.v (.sl .nil (List.map eS []))) :: (AG.d ((AG.of .nonfull (List.map eS v1048))) 10 (List.map eS v1048)) :: q1 ((.ptr 3 0) :: (dI v931) :: q6 ((dP e67 a0.fCells) :: (dI ((a0.fCells.length : Int))) :: (dI v697) :: q40 (q33 []))))), [(.cells [(.v (.str a0.fName)), (dP e67 a0.fCells)]), .dead, .dead, (.cells [(dP eS v707.fTags), (.v (.str v707.fCut)), (.v (.str v707.fAdd))]), .dead, .dead, .dead, .dead, .dead, (OO.o ((OO.ofg ag930 1 (List.map eS v929)))), (AG.o ((AG.of .nonfull (List.map eS v1048))) 1 (List.map eS v1048))]⟩ (by generalize v1048 = z0; cases ag930 <;> cases z0 <;> kernel_rfl) ?_
                  exact J21j1043 v1048 _ _ h
                · refine Wp.skip (by kernel_rfl) ?_
                  refine sqQ.n ⟨q1 ((.v (.str a1)) :: (.ptr 0 0) :: q1 ((.v (.sl .nil (List.map eS []))) :: (AG.d ag930 10 (List.map eS v929)) :: q1 ((.ptr 3 0) :: (dI v931) :: q6 ((dP e67 a0.fCells) :: (dI ((a0.fCells.length : Int))) :: (dI v697) :: q40 (q33 []))))), [(.cells [(.v (.str a0.fName)), (dP e67 a0.fCells)]), .dead, .dead, (.cells [(dP eS v707.fTags), (.v (.str v707.fCut)), (.v (.str v707.fAdd))]), .dead, .dead, .dead, .dead, .dead, (OO.o none), (AG.o ag930 1 (List.map eS v929))]⟩ (by cases ag930 <;> kernel_rfl) ?_
                  exact J21j1043 v929 _ _ h
              obtain ⟨v1038, ev1038, h⟩ := bnd_some h
              have G21g1030 : ∀ v1029 : Bool, (cnd v1029 (some true) (bnd (idx v929 y1027) fun v1049 => some (!(v1049.toList == v945.toList)))) = some v1038 → Ops (X21 n) (opl (cL (cR (cR (cR (cR (cR (cR (cR (cL (cL (cR (cL (cL (cR (cR (cL (cL (cR (cR (cL (cL (cR (cL (cR (cR C21)))))))))))))))))))))))))) 5 ⟨q1 ((.v (.str a1)) :: (.ptr 0 0) :: q1 ((.v (.sl .nil (List.map eS []))) :: (AG.d ag930 9 (List.map eS v929)) :: q1 ((.ptr 3 0) :: (dI v931) :: (.v (.str v945)) :: q3 ((dI y1027) :: q1 ((dP e67 a0.fCells) :: (dI ((a0.fCells.length : Int))) :: (dI v697) :: q40 (q7 ((dI y1027) :: (AG.d ag930 9 (List.map eS v929)) :: (dI ((v929.length : Int))) :: (dB v1029) :: (dB v1029) :: q21 []))))))), [(.cells [(.v (.str a0.fName)), (dP e67 a0.fCells)]), .dead, .dead, (.cells [(dP eS v707.fTags), (.v (.str v707.fCut)), (.v (.str v707.fAdd))]), .dead, .dead, .dead, .dead, .dead, (AG.o ag930 1 (List.map eS v929))]⟩ ((seqQ (X21 n) (cR (cR (cR (cR (cR (cR (cR (cR (cL (cL (cR (cL (cL (cR (cR (cL (cL (cR (cR (cL (cL (cR (cL (cR (cR C21))))))))))))))))))))))))) (blkQ (X21 n) 3 [1, 2, 4, 5, 7, 8, 15, 16, 17] 6 (seqQ (X21 n) (cR (cR (cL (cL (cR (cR (cL (cL (cR (cR (cL (cL (cR (cL (cR (cR C21)))))))))))))))) (lpQ (X21 n) [1, 2, 4, 5, 7, 8, 15, 16, 17] 4 (cL (cL (cR (cR (cL (cL (cR (cR (cL (cL (cR (cL (cR (cR C21)))))))))))))) nx934 (blkQ (X21 n) 2 [1, 2, 4, 5, 15, 16, 17] 4 (blkQ (X21 n) 1 [1, 2, 4, 5, 15, 16, 17] 3 (seqQ (X21 n) (cR (cR (cR (cL (cL (cR (cL (cR (cR C21))))))))) (lpQ (X21 n) [1, 2, 4, 5, 15, 16, 17] 1 (cL (cL (cR (cL (cR (cR C21)))))) nx700 (blkQ (X21 n) 0 [4, 5] 1 (seqQ (X21 n) (cR (cR (cR C21))) (fnQ (X21 n).E.T (resOf Proofs.Tryd.prog 21) ((eL eS) o)))))))))))) .normal) := by
                intro v1029 ev1038
                cases v1029
                · have ev1038 := cnd_f ev1038
                  refine Ops.seg' 2 7 (by kernel_rfl) ?_
                  obtain ⟨v1049, ev1049, ev1038⟩ := bnd_some ev1038
                  refine Ops.one' 8 (fun h0 e0 => (ix_g (T := T) h0 36 9 1 9 ag930 eS v929 y1027 v1049 ev1049 (by kernel_rfl) (by kernel_rfl) (fun _ => rfl))) (by kernel_rfl) (by kernel_rfl) ?_
                  refine Ops.seg' 4 12 (by kernel_rfl) ?_
                  refine Ops.st ⟨q1 ((.v (.str a1)) :: (.ptr 0 0) :: q1 ((.v (.sl .nil (List.map eS []))) :: (AG.d ag930 9 (List.map eS v929)) :: q1 ((.ptr 3 0) :: (dI v931) :: (.v (.str v945)) :: q3 ((dI y1027) :: q1 ((dP e67 a0.fCells) :: (dI ((a0.fCells.length : Int))) :: (dI v697) :: q40 (q7 ((dI y1027) :: (AG.d ag930 9 (List.map eS v929)) :: (dI ((v929.length : Int))) :: (dB false) :: (dB false) :: (AG.d ag930 9 (List.map eS v929)) :: (dI y1027) :: (.vptr [(.str v1049)]) :: (.v (.str v1049)) :: (.v (.str v945)) :: (dB (!(v1049.toList == v945.toList))) :: (dB (!(v1049.toList == v945.toList))) :: q14 []))))))), [(.cells [(.v (.str a0.fName)), (dP e67 a0.fCells)]), .dead, .dead, (.cells [(dP eS v707.fTags), (.v (.str v707.fCut)), (.v (.str v707.fAdd))]), .dead, .dead, .dead, .dead, .dead, (AG.o ag930 1 (List.map eS v929))]⟩ (by kernel_rfl) ?_
                  exact J21j1039 _ _ _ _ _ _ _ _ (some_sub (fun v1038 => f21_r8 m v929 v931 v945 y1027 v1038 = some sx939) ev1038 h)
                · have ev1038 := cnd_t ev1038
                  refine Ops.seg' 7 12 (by kernel_rfl) ?_
                  refine Ops.st ⟨q1 ((.v (.str a1)) :: (.ptr 0 0) :: q1 ((.v (.sl .nil (List.map eS []))) :: (AG.d ag930 9 (List.map eS v929)) :: q1 ((.ptr 3 0) :: (dI v931) :: (.v (.str v945)) :: q3 ((dI y1027) :: q1 ((dP e67 a0.fCells) :: (dI ((a0.fCells.length : Int))) :: (dI v697) :: q40 (q7 ((dI y1027) :: (AG.d ag930 9 (List.map eS v929)) :: (dI ((v929.length : Int))) :: (dB true) :: (dB true) :: u6 ((dB true) :: q14 [])))))))), [(.cells [(.v (.str a0.fName)), (dP e67 a0.fCells)]), .dead, .dead, (.cells [(dP eS v707.fTags), (.v (.str v707.fCut)), (.v (.str v707.fAdd))]), .dead, .dead, .dead, .dead, .dead, (AG.o ag930 1 (List.map eS v929))]⟩ (by kernel_rfl) ?_
                  exact J21j1039 _ _ _ _ _ _ _ _ (some_sub (fun v1038 => f21_r8 m v929 v931 v945 y1027 v1038 = some sx939) ev1038 h)
              exact Ops.st ⟨q1 ((.v (.str a1)) :: (.ptr 0 0) :: q1 ((.v (.sl .nil (List.map eS []))) :: (AG.d ag930 9 (List.map eS v929)) :: q1 ((.ptr 3 0) :: (dI v931) :: (.v (.str v945)) :: q3 ((dI y1027) :: q1 ((dP e67 a0.fCells) :: (dI ((a0.fCells.length : Int))) :: (dI v697) :: q40 (q7 ((dI y1027) :: (AG.d ag930 9 (List.map eS v929)) :: (dI ((v929.length : Int))) :: (dB ((y1027 == ((v929.length : Int))))) :: (dB ((y1027 == ((v929.length : Int))))) :: q21 []))))))), [(.cells [(.v (.str a0.fName)), (dP e67 a0.fCells)]), .dead, .dead, (.cells [(dP eS v707.fTags), (.v (.str v707.fCut)), (.v (.str v707.fAdd))]), .dead, .dead, .dead, .dead, .dead, (AG.o ag930 1 (List.map eS v929))]⟩ (by kernel_rfl) (G21g1030 (y1027 == ((v929.length : Int))) ev1038)
    · refine Wp.exit (id := 2) (by kernel_rfl) ?_
      refine sqQ.x ?_
      refine seqQ.x ?_
      cases h
      refine lpQ.x ?_
      refine blkQ.x ⟨q1 ((.v (.str a1)) :: (.ptr 0 0) :: q1 ((.v (.sl .nil (List.map eS []))) :: (AG.d ag930 4 (List.map eS v929)) :: q9 ((dP e67 a0.fCells) :: (dI ((a0.fCells.length : Int))) :: (dI v697) :: q40 (q33 [])))), [(.cells [(.v (.str a0.fName)), (dP e67 a0.fCells)]), .dead, .dead, (.cells [(dP eS v707.fTags), (.v (.str v707.fCut)), (.v (.str v707.fAdd))]), (AG.o ag930 1 (List.map eS v929))]⟩ (by cases ag930 <;> kernel_rfl) ?_
      exact hxx937 (v929, v931) _ hsx940
theorem ok21 (m : Nat) (a0 : S23) (a1 : ByteArray) (o : (List ByteArray)) (h : f21 m a0 a1 = some o) (n : Nat) (hn : m + 7 ≤ n) : Fn Proofs.Tryd.prog E n 21 [.v (e23 a0), .v (eS a1)] ((eL eS) o) := by
  obtain ⟨n, rfl⟩ : ∃ q, n = q + 1 := ⟨n - 1, by omega⟩
  unfold f21 at h
  refine Fn.of (by kernel_rfl) (by kernel_rfl) (by kernel_rfl) ⟨(.v (.agg [(.str a0.fName), (vP e67 a0.fCells)])) :: (.v (.str a1)) :: u40 (u40 (u9 [])), []⟩ (by kernel_rfl) ?_
  refine Wp.seq' (by kernel_rfl) ?_
  refine Wp.region (by kernel_rfl) ?_
  refine Ops.seg' 2 2 (by kernel_rfl) ?_
  refine Ops.done (by kernel_rfl) ?_
  refine seqQ.n ?_
  refine Wp.seq' (by kernel_rfl) ?_
  refine Wp.region (by kernel_rfl) ?_
  refine Ops.seg' 1 1 (by kernel_rfl) ?_
  refine Ops.done (by kernel_rfl) ?_
  refine seqQ.n ?_
  refine Wp.seq' (by kernel_rfl) ?_
  refine Wp.seq' (by kernel_rfl) ?_
  refine Wp.region (by kernel_rfl) ?_
  refine Ops.seg' 2 2 (by kernel_rfl) ?_
  refine Ops.one' 3 (fun h0 e0 => (len_r (T := T) h0 22 68 .plain e67 a0.fCells (by kernel_rfl))) (by kernel_rfl) (by kernel_rfl) ?_
  refine Ops.seg' 1 4 (by kernel_rfl) ?_
  refine Ops.done (by kernel_rfl) ?_
  refine seqQ.n ?_
  refine Wp.block' 0 [4, 5] 1 (by kernel_rfl) ?_
  have hLx1053 : ∀ (kx699 : Nat) (v695 : (List ByteArray)) (v697 : Int) (ag696 : AG) (ox698 : (List ByteArray) ⊕ ((List ByteArray) × Int)), iter (fun (y : (List ByteArray) × Int) => f21_B10 m a0 a1 y.1 y.2) kx699 (v695, v697) = some ox698 → ∀ nx700, kx699 ≤ nx700 → (∀ r, ox698 = .inl r → ∀ σ, RetOk (X21 n) (resOf Proofs.Tryd.prog 21) ((eL eS) r) σ → (seqQ (X21 n) (cR (cR (cR C21))) (fnQ (X21 n).E.T (resOf Proofs.Tryd.prog 21) ((eL eS) o))) .ret σ) → (∀ (y : (List ByteArray) × Int) (ag696 : AG), ox698 = .inr y → (seqQ (X21 n) (cR (cR (cR C21))) (fnQ (X21 n).E.T (resOf Proofs.Tryd.prog 21) ((eL eS) o))) .normal ⟨q4 ((.v (.sl .nil (List.map eS []))) :: (AG.d ag696 1 (List.map eS y.1)) :: q40 (q40 (q5 []))), [(.cells [(.v (.str a0.fName)), (dP e67 a0.fCells)]), (AG.o ag696 1 (List.map eS y.1))]⟩) → Lp (X21 n) [1, 2, 4, 5, 15, 16, 17] 1 (cL (cL (cR (cL (cR (cR C21)))))) nx700 ⟨q1 ((.v (.str a1)) :: (.ptr 0 0) :: q1 ((.v (.sl .nil (List.map eS []))) :: (AG.d ag696 1 (List.map eS v695)) :: q9 ((dP e67 a0.fCells) :: (dI ((a0.fCells.length : Int))) :: (dI v697) :: q40 (q33 [])))), [(.cells [(.v (.str a0.fName)), (dP e67 a0.fCells)]), (AG.o ag696 1 (List.map eS v695))]⟩ (blkQ (X21 n) 0 [4, 5] 1 (seqQ (X21 n) (cR (cR (cR C21))) (fnQ (X21 n).E.T (resOf Proofs.Tryd.prog 21) ((eL eS) o)))) := by
    intro kx699
    induction kx699 with
    | zero => intro v695 v697 ag696 ox698 h; exact (iter_zero h).elim
    | succ kx699 ihx701 =>
      intro v695 v697 ag696 ox698 h nx700 hnx704 hrx702 hxx703
      obtain ⟨nx700, rfl⟩ : ∃ q, nx700 = q + 1 := ⟨nx700 - 1, by omega⟩
      obtain ⟨sx705, h, hsx706⟩ := iter_some h
      have h : f21_B10 m a0 a1 v695 v697 = some sx705 := h
      unfold f21_B10 at h
      refine Lp.succ ?_
      refine Wp.seq' (by kernel_rfl) ?_
      refine Wp.region (by kernel_rfl) ?_
      refine Ops.seg' 1 1 (by kernel_rfl) ?_
      refine Ops.done (by kernel_rfl) ?_
      refine seqQ.n ?_
      refine Wp.seq' (by kernel_rfl) ?_
      refine Wp.cnd h [1, 2, 4, 5, 15, 16, 17] 2 (by kernel_rfl) (fun h => ?_) (fun h => ?_)
      · refine Wp.skip (by kernel_rfl) ?_
        refine sqQ.n ⟨q1 ((.v (.str a1)) :: (.ptr 0 0) :: q1 ((.v (.sl .nil (List.map eS []))) :: (AG.d ag696 2 (List.map eS v695)) :: q9 ((dP e67 a0.fCells) :: (dI ((a0.fCells.length : Int))) :: (dI v697) :: q40 (q33 [])))), [(.cells [(.v (.str a0.fName)), (dP e67 a0.fCells)]), .dead, (AG.o ag696 1 (List.map eS v695))]⟩ (by cases ag696 <;> kernel_rfl) ?_
        refine seqQ.n ?_
        refine Wp.seq' (by kernel_rfl) ?_
        refine Wp.block' 1 [1, 2, 4, 5, 15, 16, 17] 3 (by kernel_rfl) ?_
        refine Wp.seq' (by kernel_rfl) ?_
        refine Wp.region (by kernel_rfl) ?_
        obtain ⟨v707, ev707, h⟩ := bnd_some h
        refine Ops.one' 1 (fun h0 e0 => (ix_r (T := T) h0 22 68 3 .plain e67 a0.fCells v697 v707 ev707 (by kernel_rfl) (by kernel_rfl) (fun _ => rfl))) (by kernel_rfl) (by kernel_rfl) ?_
        refine Ops.seg' 3 4 (by kernel_rfl) ?_
        refine Ops.done (by kernel_rfl) ?_
        refine seqQ.n ?_
        refine Wp.seq' (by kernel_rfl) ?_
        refine Wp.region (by kernel_rfl) ?_
        refine Ops.seg' 1 1 (by kernel_rfl) ?_
        refine Ops.done (by kernel_rfl) ?_
        refine seqQ.n ?_
        refine Wp.block' 2 [1, 2, 4, 5, 15, 16, 17] 4 (by kernel_rfl) ?_
        have hLx1050 := f21_hLx1050 m a0 a1 o n hn v707 nx700 v697
        refine Wp.loop' [1, 2, 4, 5, 7, 8, 15, 16, 17] 4 (by kernel_rfl) ⟨q1 ((.v (.str a1)) :: (.ptr 0 0) :: q1 ((.v (.sl .nil (List.map eS []))) :: (AG.d ag696 4 (List.map eS v695)) :: q1 ((.ptr 3 0) :: (dI 0) :: q6 ((dP e67 a0.fCells) :: (dI ((a0.fCells.length : Int))) :: (dI v697) :: q40 (q33 []))))), [(.cells [(.v (.str a0.fName)), (dP e67 a0.fCells)]), .dead, .dead, (.cells [(dP eS v707.fTags), (.v (.str v707.fCut)), (.v (.str v707.fAdd))]), (AG.o ag696 1 (List.map eS v695))]⟩ (by cases ag696 <;> kernel_rfl) ?_
        rcases brk_some h with ⟨r1052, er1052, h⟩ | ⟨y1051, ey1051, h⟩
        · refine hLx1050 _ v695 0 _ _ er1052 n (by omega) (fun r er σ hσ => ?_) (fun y ag930 ey => by cases ey)
          cases er
          refine blkQ.r ?_
          refine seqQ.r ?_
          refine lpQ.r ?_
          cases h
          refine blkQ.r ?_
          exact hrx702 _ hsx706 _ (RetOk.forget [1, 2, 4, 5, 15, 16, 17] (by kernel_rfl) hσ)
        · refine hLx1050 _ v695 0 _ _ ey1051 n (by omega) (fun r er => by cases er) (fun y ag930 ey => ?_)
          cases ey
          refine blkQ.n ⟨q1 ((.v (.str a1)) :: (.ptr 0 0) :: q1 ((.v (.sl .nil (List.map eS []))) :: (AG.d ag930 3 (List.map eS y1051.1)) :: q9 ((dP e67 a0.fCells) :: (dI ((a0.fCells.length : Int))) :: (dI v697) :: q40 (q33 [])))), [(.cells [(.v (.str a0.fName)), (dP e67 a0.fCells)]), .dead, .dead, (AG.o ag930 1 (List.map eS y1051.1))]⟩ (by cases ag930 <;> kernel_rfl) ?_
          refine seqQ.n ?_
          refine Wp.region (by kernel_rfl) ?_
          refine Ops.seg' 2 2 (by kernel_rfl) ?_
          refine Ops.done (by kernel_rfl) ?_
          refine lpQ.n ⟨q1 ((.v (.str a1)) :: (.ptr 0 0) :: q1 ((.v (.sl .nil (List.map eS []))) :: (AG.d ag930 1 (List.map eS y1051.1)) :: q9 ((dP e67 a0.fCells) :: (dI ((a0.fCells.length : Int))) :: (dI (w64 (v697 + 1))) :: q40 (q33 [])))), [(.cells [(.v (.str a0.fName)), (dP e67 a0.fCells)]), (AG.o ag930 1 (List.map eS y1051.1))]⟩ (by cases ag930 <;> kernel_rfl) ?_
          cases h
          exact ihx701 y1051.1 (w64 (v697 + 1)) _ _ hsx706 _ (by omega) hrx702 hxx703
      · refine Wp.exit (id := 0) (by kernel_rfl) ?_
        refine sqQ.x ?_
        refine seqQ.x ?_
        cases h
        refine lpQ.x ?_
        refine blkQ.x ⟨q4 ((.v (.sl .nil (List.map eS []))) :: (AG.d ag696 1 (List.map eS v695)) :: q40 (q40 (q5 []))), [(.cells [(.v (.str a0.fName)), (dP e67 a0.fCells)]), (AG.o ag696 1 (List.map eS v695))]⟩ (by cases ag696 <;> kernel_rfl) ?_
        exact hxx703 (v695, v697) _ hsx706
  refine Wp.loop' [1, 2, 4, 5, 15, 16, 17] 1 (by kernel_rfl) ⟨q1 ((.v (.str a1)) :: (.ptr 0 0) :: q1 ((.v (.sl .nil (List.map eS []))) :: (AG.d ((AG.of .nil (List.map eS []))) 1 (List.map eS [])) :: q9 ((dP e67 a0.fCells) :: (dI ((a0.fCells.length : Int))) :: (dI 0) :: q40 (q33 [])))), [(.cells [(.v (.str a0.fName)), (dP e67 a0.fCells)]), (AG.o ((AG.of .nil (List.map eS []))) 1 (List.map eS []))]⟩ (by kernel_rfl) ?_
  rcases brk_some h with ⟨r1055, er1055, h⟩ | ⟨y1054, ey1054, h⟩
  · refine hLx1053 _ [] 0 _ _ er1055 n (by omega) (fun r er σ hσ => ?_) (fun y ag696 ey => by cases ey)
    cases er
    refine seqQ.r ?_
    exact fnQ.r' (X21 n) (fun z => ((eL eS) z)) h hσ
  · refine hLx1053 _ [] 0 _ _ ey1054 n (by omega) (fun r er => by cases er) (fun y ag696 ey => ?_)
    cases ey
    refine seqQ.n ?_
    refine Wp.seq' (by kernel_rfl) ?_
    refine Wp.region (by kernel_rfl) ?_
    refine Ops.seg' 2 2 (by kernel_rfl) ?_
    refine Ops.done (by kernel_rfl) ?_
    refine seqQ.n ?_
    refine Wp.ret (by kernel_rfl) ?_
    exact fnQ.r' (X21 n) (fun z => ((eL eS) z)) h (RetOk.mk' (AG.d ag696 1 (List.map eS y1054.1)) (by kernel_rfl) (AG.frz _ _ _ _ _))

/-! ### 71 glosswright/glosswrightref6.CompareTexts -/
def f71_r1 (m : Nat) (a0 : (List ByteArray)) (a1 : (List ByteArray)) (v28 : Int) (v45 : Bool) : Option (Stp Int (Int)) :=
  cnd v45
  (bnd (idx a0 v28) fun v47 =>
  bnd (idx a1 v28) fun v48 =>
  cnd (Op.bytesLess v47.toList v48.toList)
  (some (.ret ((-1))))
  (bnd (idx a0 v28) fun v49 =>
  bnd (idx a1 v28) fun v50 =>
  cnd (!(Op.bytesLess v49.toList v50.toList || v49.toList == v50.toList))
  (some (.ret 1))
  (some (.nxt (w64 (v28 + 1))))))
  (some (.brk v28))
def f71_B2 (m : Nat) (a0 : (List ByteArray)) (a1 : (List ByteArray)) (v28 : Int) : Option (Stp Int (Int)) :=
  f71_r1 m a0 a1 v28 (((decide (v28 < (a0.length : Int))) && (decide (v28 < (a1.length : Int)))))
def f71 (m : Nat) (a0 : (List ByteArray)) (a1 : (List ByteArray)) : Option Int :=
  brk (iter (fun (y : Int) => f71_B2 m a0 a1 y) m 0) some fun y52 =>
  some (w64 ((a0.length : Int) - (a1.length : Int)))
noncomputable abbrev X71 (n : Nat) : Cx := cxOf Proofs.Tryd.prog E 71 n
noncomputable def C71 : Code := bodyOf Proofs.Tryd.prog 71
theorem ok71 (m : Nat) (a0 : (List ByteArray)) (a1 : (List ByteArray)) (o : Int) (h : f71 m a0 a1 = some o) (n : Nat) (hn : m + 1 ≤ n) : Fn Proofs.Tryd.prog E n 71 [.v ((eL eS) a0), .v ((eL eS) a1)] (eI o) := by
  obtain ⟨n, rfl⟩ : ∃ q, n = q + 1 := ⟨n - 1, by omega⟩
  unfold f71 at h
  refine Fn.of (by kernel_rfl) (by kernel_rfl) (by kernel_rfl) ⟨(dP eS a0) :: (dP eS a1) :: u39 [], []⟩ (by kernel_rfl) ?_
  refine Wp.seq' (by kernel_rfl) ?_
  refine Wp.region (by kernel_rfl) ?_
  refine Ops.seg' 1 1 (by kernel_rfl) ?_
  refine Ops.done (by kernel_rfl) ?_
  refine seqQ.n ?_
  refine Wp.seq' (by kernel_rfl) ?_
  refine Wp.seq' (by kernel_rfl) ?_
  refine Wp.region (by kernel_rfl) ?_
  refine Ops.seg' 1 1 (by kernel_rfl) ?_
  refine Ops.done (by kernel_rfl) ?_
  refine seqQ.n ?_
  refine Wp.block' 0 [0, 1, 4] 0 (by kernel_rfl) ?_
  have hLx51 : ∀ (kx30 : Nat) (v28 : Int)  (ox29 : Int ⊕ (Int)), iter (fun (y : Int) => f71_B2 m a0 a1 y) kx30 v28 = some ox29 → ∀ nx31, kx30 ≤ nx31 → (∀ r, ox29 = .inl r → ∀ σ, RetOk (X71 n) (resOf Proofs.Tryd.prog 71) (eI r) σ → (seqQ (X71 n) (cR (cR C71)) (fnQ (X71 n).E.T (resOf Proofs.Tryd.prog 71) (eI o))) .ret σ) → (∀ (y : Int) , ox29 = .inr y → (seqQ (X71 n) (cR (cR C71)) (fnQ (X71 n).E.T (resOf Proofs.Tryd.prog 71) (eI o))) .normal ⟨(dP eS a0) :: (dP eS a1) :: q2 ((dI 0) :: (dI y) :: q35 []), []⟩) → Lp (X71 n) [0, 1, 4, 5] 0 (cL (cL (cR (cL (cR C71))))) nx31 ⟨(dP eS a0) :: (dP eS a1) :: q2 ((dI 0) :: (dI v28) :: q35 []), []⟩ (blkQ (X71 n) 0 [0, 1, 4] 0 (seqQ (X71 n) (cR (cR C71)) (fnQ (X71 n).E.T (resOf Proofs.Tryd.prog 71) (eI o)))) := by
    intro kx30
    induction kx30 with
    | zero => intro v28  ox29 h; exact (iter_zero h).elim
    | succ kx30 ihx32 =>
      intro v28  ox29 h nx31 hnx35 hrx33 hxx34
      obtain ⟨nx31, rfl⟩ : ∃ q, nx31 = q + 1 := ⟨nx31 - 1, by omega⟩
      obtain ⟨sx36, h, hsx37⟩ := iter_some h
      have h : f71_B2 m a0 a1 v28 = some sx36 := h
      unfold f71_B2 at h
      refine Lp.succ ?_
      refine Wp.seq' (by kernel_rfl) ?_
      refine Wp.seq' (by kernel_rfl) ?_
      refine Wp.region (by kernel_rfl) ?_
      refine Ops.seg' 2 2 (by kernel_rfl) ?_
      refine Ops.one' 3 (fun h0 e0 => (len_r (T := T) h0 36 9 .plain eS a0 (by kernel_rfl))) (by kernel_rfl) (by kernel_rfl) ?_
      refine Ops.seg' 2 5 (by kernel_rfl) ?_
      have J71j46 : ∀ (d40 d41 d42 d43 : D) (v44 : Bool) (v45 : Bool), f71_r1 m a0 a1 v28 v45 = some sx36 → Ops (X71 n) (opl (cL (cL (cL (cL (cR (cL (cR C71)))))))) 10 ⟨(dP eS a0) :: (dP eS a1) :: q2 ((dI 0) :: (dI v28) :: (dI v28) :: (dP eS a0) :: (dI ((a0.length : Int))) :: (dB v44) :: (dB v44) :: d40 :: d41 :: d42 :: d43 :: (dB v45) :: q25 []), []⟩ ((seqQ (X71 n) (cR (cL (cL (cL (cR (cL (cR C71))))))) (seqQ (X71 n) (cR (cL (cL (cR (cL (cR C71)))))) (lpQ (X71 n) [0, 1, 4, 5] 0 (cL (cL (cR (cL (cR C71))))) nx31 (blkQ (X71 n) 0 [0, 1, 4] 0 (seqQ (X71 n) (cR (cR C71)) (fnQ (X71 n).E.T (resOf Proofs.Tryd.prog 71) (eI o))))))) .normal) := by
        intro d40 d41 d42 d43 v44 v45 h
        unfold f71_r1 at h
        refine Ops.done (by kernel_rfl) ?_
        refine seqQ.n ?_
        refine Wp.cnd h [0, 1, 4, 5] 0 (by kernel_rfl) (fun h => ?_) (fun h => ?_)
        · refine Wp.skip (by kernel_rfl) ?_
          refine sqQ.n' ?_
          refine seqQ.n ?_
          refine Wp.seq' (by kernel_rfl) ?_
          refine Wp.block' 1 [0, 1, 4, 5] 0 (by kernel_rfl) ?_
          refine Wp.seq' (by kernel_rfl) ?_
          refine Wp.seq' (by kernel_rfl) ?_
          refine Wp.region (by kernel_rfl) ?_
          refine Ops.seg' 2 2 (by kernel_rfl) ?_
          obtain ⟨v47, ev47, h⟩ := bnd_some h
          refine Ops.one' 3 (fun h0 e0 => (ix_r (T := T) h0 36 9 1 .plain eS a0 v28 v47 ev47 (by kernel_rfl) (by kernel_rfl) (fun _ => rfl))) (by kernel_rfl) (by kernel_rfl) ?_
          refine Ops.seg' 3 6 (by kernel_rfl) ?_
          obtain ⟨v48, ev48, h⟩ := bnd_some h
          refine Ops.one' 7 (fun h0 e0 => (ix_r (T := T) h0 36 9 1 .plain eS a1 v28 v48 ev48 (by kernel_rfl) (by kernel_rfl) (fun _ => rfl))) (by kernel_rfl) (by kernel_rfl) ?_
          refine Ops.seg' 2 9 (by kernel_rfl) ?_
          refine Ops.done (by kernel_rfl) ?_
          refine seqQ.n ?_
          refine Wp.cnd h [0, 1, 4, 5] 0 (by kernel_rfl) (fun h => ?_) (fun h => ?_)
          · refine Wp.seq' (by kernel_rfl) ?_
            refine Wp.region (by kernel_rfl) ?_
            refine Ops.seg' 1 1 (by kernel_rfl) ?_
            refine Ops.done (by kernel_rfl) ?_
            refine seqQ.n ?_
            refine Wp.ret (by kernel_rfl) ?_
            refine sqQ.r ?_
            refine seqQ.r ?_
            refine blkQ.r ?_
            refine seqQ.r ?_
            cases h
            refine lpQ.r ?_
            refine blkQ.r ?_
            exact hrx33 _ hsx37 _ (RetOk.forget [0, 1, 4, 5] (by kernel_rfl) (RetOk.mk' (dI ((-1))) (by kernel_rfl) (by kernel_rfl)))
          · refine Wp.skip (by kernel_rfl) ?_
            refine sqQ.n' ?_
            refine seqQ.n ?_
            refine Wp.seq' (by kernel_rfl) ?_
            refine Wp.region (by kernel_rfl) ?_
            refine Ops.seg' 2 2 (by kernel_rfl) ?_
            obtain ⟨v49, ev49, h⟩ := bnd_some h
            refine Ops.one' 3 (fun h0 e0 => (ix_r (T := T) h0 36 9 1 .plain eS a0 v28 v49 ev49 (by kernel_rfl) (by kernel_rfl) (fun _ => rfl))) (by kernel_rfl) (by kernel_rfl) ?_
            refine Ops.seg' 3 6 (by kernel_rfl) ?_
            obtain ⟨v50, ev50, h⟩ := bnd_some h
            refine Ops.one' 7 (fun h0 e0 => (ix_r (T := T) h0 36 9 1 .plain eS a1 v28 v50 ev50 (by kernel_rfl) (by kernel_rfl) (fun _ => rfl))) (by kernel_rfl) (by kernel_rfl) ?_
            refine Ops.seg' 2 9 (by kernel_rfl) ?_
            refine Ops.done (by kernel_rfl) ?_
            refine seqQ.n ?_
            refine Wp.cnd h [0, 1, 4, 5] 0 (by kernel_rfl) (fun h => ?_) (fun h => ?_)
            · refine Wp.seq' (by kernel_rfl) ?_
              refine Wp.region (by kernel_rfl) ?_
              refine Ops.seg' 1 1 (by kernel_rfl) ?_
              refine Ops.done (by kernel_rfl) ?_
              refine seqQ.n ?_
              refine Wp.ret (by kernel_rfl) ?_
              refine sqQ.r ?_
              refine blkQ.r ?_
              refine seqQ.r ?_
              cases h
              refine lpQ.r ?_
              refine blkQ.r ?_
              exact hrx33 _ hsx37 _ (RetOk.forget [0, 1, 4, 5] (by kernel_rfl) (RetOk.mk' (dI 1) (by kernel_rfl) (by kernel_rfl)))
            · refine Wp.skip (by kernel_rfl) ?_
              refine sqQ.n' ?_
              refine blkQ.n' ?_
              refine seqQ.n ?_
              refine Wp.region (by kernel_rfl) ?_
              refine Ops.seg' 3 3 (by kernel_rfl) ?_
              refine Ops.done (by kernel_rfl) ?_
              refine lpQ.n ⟨(dP eS a0) :: (dP eS a1) :: q2 ((dI 0) :: (dI (w64 (v28 + 1))) :: q35 []), []⟩ (by kernel_rfl) ?_
              cases h
              exact ihx32 (w64 (v28 + 1))  _ hsx37 _ (by omega) hrx33 hxx34
        · refine Wp.exit (id := 0) (by kernel_rfl) ?_
          refine sqQ.x ?_
          refine seqQ.x ?_
          cases h
          refine lpQ.x ?_
          refine blkQ.x ⟨(dP eS a0) :: (dP eS a1) :: q2 ((dI 0) :: (dI v28) :: q35 []), []⟩ (by kernel_rfl) ?_
          exact hxx34 v28  hsx37
      have G71g39 : ∀ v38 : Bool, f71_r1 m a0 a1 v28 ((v38 && (decide (v28 < (a1.length : Int))))) = some sx36 → Ops (X71 n) (opl (cL (cL (cL (cL (cR (cL (cR C71)))))))) 5 ⟨(dP eS a0) :: (dP eS a1) :: q2 ((dI 0) :: (dI v28) :: (dI v28) :: (dP eS a0) :: (dI ((a0.length : Int))) :: (dB v38) :: (dB v38) :: q30 []), []⟩ ((seqQ (X71 n) (cR (cL (cL (cL (cR (cL (cR C71))))))) (seqQ (X71 n) (cR (cL (cL (cR (cL (cR C71)))))) (lpQ (X71 n) [0, 1, 4, 5] 0 (cL (cL (cR (cL (cR C71))))) nx31 (blkQ (X71 n) 0 [0, 1, 4] 0 (seqQ (X71 n) (cR (cR C71)) (fnQ (X71 n).E.T (resOf Proofs.Tryd.prog 71) (eI o))))))) .normal) := by
        intro v38 h
        cases v38
        · refine Ops.seg' 5 10 (by kernel_rfl) ?_
          refine Ops.st ⟨(dP eS a0) :: (dP eS a1) :: q2 ((dI 0) :: (dI v28) :: (dI v28) :: (dP eS a0) :: (dI ((a0.length : Int))) :: (dB false) :: (dB false) :: u4 ((dB false) :: q25 [])), []⟩ (by kernel_rfl) ?_
          exact J71j46 _ _ _ _ _ _ h
        · refine Ops.seg' 2 7 (by kernel_rfl) ?_
          refine Ops.one' 8 (fun h0 e0 => (len_r (T := T) h0 36 9 .plain eS a1 (by kernel_rfl))) (by kernel_rfl) (by kernel_rfl) ?_
          refine Ops.seg' 2 10 (by kernel_rfl) ?_
          refine Ops.st ⟨(dP eS a0) :: (dP eS a1) :: q2 ((dI 0) :: (dI v28) :: (dI v28) :: (dP eS a0) :: (dI ((a0.length : Int))) :: (dB true) :: (dB true) :: (dI v28) :: (dP eS a1) :: (dI ((a1.length : Int))) :: (dB (decide (v28 < (a1.length : Int)))) :: (dB (decide (v28 < (a1.length : Int)))) :: q25 []), []⟩ (by kernel_rfl) ?_
          exact J71j46 _ _ _ _ _ _ h
      exact Ops.st ⟨(dP eS a0) :: (dP eS a1) :: q2 ((dI 0) :: (dI v28) :: (dI v28) :: (dP eS a0) :: (dI ((a0.length : Int))) :: (dB ((decide (v28 < (a0.length : Int))))) :: (dB ((decide (v28 < (a0.length : Int))))) :: q30 []), []⟩ (by kernel_rfl) (G71g39 (decide (v28 < (a0.length : Int))) h)
  refine Wp.loop' [0, 1, 4, 5] 0 (by kernel_rfl) ⟨(dP eS a0) :: (dP eS a1) :: q2 ((dI 0) :: (dI 0) :: q35 []), []⟩ (by kernel_rfl) ?_
  rcases brk_some h with ⟨r53, er53, h⟩ | ⟨y52, ey52, h⟩
  · refine hLx51 _ 0  _ er53 n (by omega) (fun r er σ hσ => ?_) (fun y  ey => by cases ey)
    cases er
    refine seqQ.r ?_
    exact fnQ.r' (X71 n) (fun z => (eI z)) h hσ
  · refine hLx51 _ 0  _ ey52 n (by omega) (fun r er => by cases er) (fun y  ey => ?_)
    cases ey
    refine seqQ.n ?_
    refine Wp.seq' (by kernel_rfl) ?_
    refine Wp.region (by kernel_rfl) ?_
    refine Ops.seg' 1 1 (by kernel_rfl) ?_
    refine Ops.one' 2 (fun h0 e0 => (len_r (T := T) h0 36 9 .plain eS a0 (by kernel_rfl))) (by kernel_rfl) (by kernel_rfl) ?_
    refine Ops.seg' 1 3 (by kernel_rfl) ?_
    refine Ops.one' 4 (fun h0 e0 => (len_r (T := T) h0 36 9 .plain eS a1 (by kernel_rfl))) (by kernel_rfl) (by kernel_rfl) ?_
    refine Ops.seg' 2 6 (by kernel_rfl) ?_
    refine Ops.done (by kernel_rfl) ?_
    refine seqQ.n ?_
    refine Wp.ret (by kernel_rfl) ?_
    exact fnQ.r' (X71 n) (fun z => (eI z)) h (RetOk.mk' (dI (w64 ((a0.length : Int) - (a1.length : Int)))) (by kernel_rfl) (by kernel_rfl))

/-! ### 50 glosswright/glosswrightref6.Stands -/
def f50_r1 (m : Nat) (v28 : Int) (v48 : Bool) : Option (Stp Bool (Int)) :=
  cnd v48
  (some (.ret true))
  (some (.nxt (w64 (v28 + 1))))
def f50_B2 (m : Nat) (a0 : (List S41)) (a1 : S41) (v28 : Int) : Option (Stp Bool (Int)) :=
  cnd (decide (v28 < (a0.length : Int)))
  (bnd (idx a0 v28) fun v38 =>
  bnd (cnd ((v38.fForm.toList == a1.fForm.toList))
  (bnd (f71 m v38.fTags a1.fTags) fun v50 =>
  some (v50 == 0))
  (some false)) fun v48 =>
  f50_r1 m v28 v48)
  (some (.brk v28))
def f50 (m : Nat) (a0 : (List S41)) (a1 : S41) : Option Bool :=
  brk (iter (fun (y : Int) => f50_B2 m a0 a1 y) m 0) some fun y52 =>
  some false
noncomputable abbrev X50 (n : Nat) : Cx := cxOf Proofs.Tryd.prog E 50 n
noncomputable def C50 : Code := bodyOf Proofs.Tryd.prog 50
theorem ok50 (m : Nat) (a0 : (List S41)) (a1 : S41) (o : Bool) (h : f50 m a0 a1 = some o) (n : Nat) (hn : m + 2 ≤ n) : Fn Proofs.Tryd.prog E n 50 [.v ((eL e41) a0), .v (e41 a1)] (eB o) := by
  obtain ⟨n, rfl⟩ : ∃ q, n = q + 1 := ⟨n - 1, by omega⟩
  unfold f50 at h
  refine Fn.of (by kernel_rfl) (by kernel_rfl) (by kernel_rfl) ⟨(dP e41 a0) :: (.v (.agg [(vP eS a1.fTags), (.str a1.fForm)])) :: u25 [], []⟩ (by kernel_rfl) ?_
  refine Wp.seq' (by kernel_rfl) ?_
  refine Wp.region (by kernel_rfl) ?_
  refine Ops.seg' 2 2 (by kernel_rfl) ?_
  refine Ops.done (by kernel_rfl) ?_
  refine seqQ.n ?_
  refine Wp.seq' (by kernel_rfl) ?_
  refine Wp.seq' (by kernel_rfl) ?_
  refine Wp.region (by kernel_rfl) ?_
  refine Ops.seg' 1 1 (by kernel_rfl) ?_
  refine Ops.one' 2 (fun h0 e0 => (len_r (T := T) h0 26 42 .plain e41 a0 (by kernel_rfl))) (by kernel_rfl) (by kernel_rfl) ?_
  refine Ops.seg' 1 3 (by kernel_rfl) ?_
  refine Ops.done (by kernel_rfl) ?_
  refine seqQ.n ?_
  refine Wp.block' 0 [4] 1 (by kernel_rfl) ?_
  have hLx51 : ∀ (kx30 : Nat) (v28 : Int)  (ox29 : Bool ⊕ (Int)), iter (fun (y : Int) => f50_B2 m a0 a1 y) kx30 v28 = some ox29 → ∀ nx31, kx30 ≤ nx31 → (∀ r, ox29 = .inl r → ∀ σ, RetOk (X50 n) (resOf Proofs.Tryd.prog 50) (eB r) σ → (seqQ (X50 n) (cR (cR C50)) (fnQ (X50 n).E.T (resOf Proofs.Tryd.prog 50) (eB o))) .ret σ) → (∀ (y : Int) , ox29 = .inr y → (seqQ (X50 n) (cR (cR C50)) (fnQ (X50 n).E.T (resOf Proofs.Tryd.prog 50) (eB o))) .normal ⟨q3 ((.ptr 0 0) :: (dB false) :: q2 ((dP e41 a0) :: (dI ((a0.length : Int))) :: (dI y) :: q17 [])), [(.cells [(dP eS a1.fTags), (.v (.str a1.fForm))])]⟩) → Lp (X50 n) [3, 4, 7, 8, 9] 1 (cL (cL (cR (cL (cR C50))))) nx31 ⟨q3 ((.ptr 0 0) :: (dB false) :: q2 ((dP e41 a0) :: (dI ((a0.length : Int))) :: (dI v28) :: q17 [])), [(.cells [(dP eS a1.fTags), (.v (.str a1.fForm))])]⟩ (blkQ (X50 n) 0 [4] 1 (seqQ (X50 n) (cR (cR C50)) (fnQ (X50 n).E.T (resOf Proofs.Tryd.prog 50) (eB o)))) := by
    intro kx30
    induction kx30 with
    | zero => intro v28  ox29 h; exact (iter_zero h).elim
    | succ kx30 ihx32 =>
      intro v28  ox29 h nx31 hnx35 hrx33 hxx34
      obtain ⟨nx31, rfl⟩ : ∃ q, nx31 = q + 1 := ⟨nx31 - 1, by omega⟩
      obtain ⟨sx36, h, hsx37⟩ := iter_some h
      have h : f50_B2 m a0 a1 v28 = some sx36 := h
      unfold f50_B2 at h
      refine Lp.succ ?_
      refine Wp.seq' (by kernel_rfl) ?_
      refine Wp.region (by kernel_rfl) ?_
      refine Ops.seg' 1 1 (by kernel_rfl) ?_
      refine Ops.done (by kernel_rfl) ?_
      refine seqQ.n ?_
      refine Wp.seq' (by kernel_rfl) ?_
      refine Wp.cnd h [3, 4, 7, 8, 9] 1 (by kernel_rfl) (fun h => ?_) (fun h => ?_)
      · refine Wp.skip (by kernel_rfl) ?_
        refine sqQ.n' ?_
        refine seqQ.n ?_
        refine Wp.seq' (by kernel_rfl) ?_
        refine Wp.block' 1 [3, 4, 7, 8, 9] 1 (by kernel_rfl) ?_
        refine Wp.seq' (by kernel_rfl) ?_
        refine Wp.region (by kernel_rfl) ?_
        obtain ⟨v38, ev38, h⟩ := bnd_some h
        refine Ops.one' 1 (fun h0 e0 => (ix_r (T := T) h0 26 42 2 .plain e41 a0 v28 v38 ev38 (by kernel_rfl) (by kernel_rfl) (fun _ => rfl))) (by kernel_rfl) (by kernel_rfl) ?_
        refine Ops.seg' 3 4 (by kernel_rfl) ?_
        refine Ops.done (by kernel_rfl) ?_
        refine seqQ.n ?_
        refine Wp.seq' (by kernel_rfl) ?_
        refine Wp.region (by kernel_rfl) ?_
        refine Ops.seg' 6 6 (by kernel_rfl) ?_
        have J50j49 : ∀ (d41 d42 d43 d44 d45 d46 : D) (v47 : Bool) (v48 : Bool), f50_r1 m v28 v48 = some sx36 → Ops (X50 n) (opl (cL (cR (cL (cL (cR (cR (cL (cL (cR (cL (cR C50)))))))))))) 13 ⟨q3 ((.ptr 0 0) :: (dB false) :: q1 ((.ptr 1 0) :: (dP e41 a0) :: (dI ((a0.length : Int))) :: (dI v28) :: (dB (decide (v28 < (a0.length : Int)))) :: (.vptr [(vP eS v38.fTags), (.str v38.fForm)]) :: (.v (.agg [(vP eS v38.fTags), (.str v38.fForm)])) :: (.ptr 1 1) :: (.v (.str v38.fForm)) :: (.ptr 0 1) :: (.v (.str a1.fForm)) :: (dB v47) :: (dB v47) :: d41 :: d42 :: d43 :: d44 :: d45 :: d46 :: (dB v48) :: q1 [])), [(.cells [(dP eS a1.fTags), (.v (.str a1.fForm))]), (.cells [(dP eS v38.fTags), (.v (.str v38.fForm))])]⟩ ((seqQ (X50 n) (cR (cR (cL (cL (cR (cR (cL (cL (cR (cL (cR C50))))))))))) (blkQ (X50 n) 1 [3, 4, 7, 8, 9] 1 (seqQ (X50 n) (cR (cR (cR (cL (cL (cR (cL (cR C50)))))))) (lpQ (X50 n) [3, 4, 7, 8, 9] 1 (cL (cL (cR (cL (cR C50))))) nx31 (blkQ (X50 n) 0 [4] 1 (seqQ (X50 n) (cR (cR C50)) (fnQ (X50 n).E.T (resOf Proofs.Tryd.prog 50) (eB o)))))))) .normal) := by
          intro d41 d42 d43 d44 d45 d46 v47 v48 h
          unfold f50_r1 at h
          refine Ops.done (by kernel_rfl) ?_
          refine seqQ.n ?_
          refine Wp.cnd h [3, 4, 7, 8, 9] 2 (by kernel_rfl) (fun h => ?_) (fun h => ?_)
          · refine Wp.seq' (by kernel_rfl) ?_
            refine Wp.region (by kernel_rfl) ?_
            refine Ops.seg' 1 1 (by kernel_rfl) ?_
            refine Ops.done (by kernel_rfl) ?_
            refine seqQ.n ?_
            refine Wp.ret (by kernel_rfl) ?_
            refine sqQ.r ?_
            refine blkQ.r ?_
            refine seqQ.r ?_
            cases h
            refine lpQ.r ?_
            refine blkQ.r ?_
            exact hrx33 _ hsx37 _ (RetOk.forget [3, 4, 7, 8, 9] (by kernel_rfl) (RetOk.mk' (dB true) (by kernel_rfl) (by kernel_rfl)))
          · refine Wp.skip (by kernel_rfl) ?_
            refine sqQ.n' ?_
            refine blkQ.n' ?_
            refine seqQ.n ?_
            refine Wp.region (by kernel_rfl) ?_
            refine Ops.seg' 2 2 (by kernel_rfl) ?_
            refine Ops.done (by kernel_rfl) ?_
            refine lpQ.n ⟨q3 ((.ptr 0 0) :: (dB false) :: q2 ((dP e41 a0) :: (dI ((a0.length : Int))) :: (dI (w64 (v28 + 1))) :: q17 [])), [(.cells [(dP eS a1.fTags), (.v (.str a1.fForm))])]⟩ (by kernel_rfl) ?_
            cases h
            exact ihx32 (w64 (v28 + 1))  _ hsx37 _ (by omega) hrx33 hxx34
        obtain ⟨v48, ev48, h⟩ := bnd_some h
        have G50g40 : ∀ v39 : Bool, (cnd v39 (bnd (f71 m v38.fTags a1.fTags) fun v50 => some (v50 == 0)) (some false)) = some v48 → Ops (X50 n) (opl (cL (cR (cL (cL (cR (cR (cL (cL (cR (cL (cR C50)))))))))))) 6 ⟨q3 ((.ptr 0 0) :: (dB false) :: q1 ((.ptr 1 0) :: (dP e41 a0) :: (dI ((a0.length : Int))) :: (dI v28) :: (dB (decide (v28 < (a0.length : Int)))) :: (.vptr [(vP eS v38.fTags), (.str v38.fForm)]) :: (.v (.agg [(vP eS v38.fTags), (.str v38.fForm)])) :: (.ptr 1 1) :: (.v (.str v38.fForm)) :: (.ptr 0 1) :: (.v (.str a1.fForm)) :: (dB v39) :: (dB v39) :: q8 [])), [(.cells [(dP eS a1.fTags), (.v (.str a1.fForm))]), (.cells [(dP eS v38.fTags), (.v (.str v38.fForm))])]⟩ ((seqQ (X50 n) (cR (cR (cL (cL (cR (cR (cL (cL (cR (cL (cR C50))))))))))) (blkQ (X50 n) 1 [3, 4, 7, 8, 9] 1 (seqQ (X50 n) (cR (cR (cR (cL (cL (cR (cL (cR C50)))))))) (lpQ (X50 n) [3, 4, 7, 8, 9] 1 (cL (cL (cR (cL (cR C50))))) nx31 (blkQ (X50 n) 0 [4] 1 (seqQ (X50 n) (cR (cR C50)) (fnQ (X50 n).E.T (resOf Proofs.Tryd.prog 50) (eB o)))))))) .normal) := by
          intro v39 ev48
          cases v39
          · have ev48 := cnd_f ev48
            refine Ops.seg' 7 13 (by kernel_rfl) ?_
            refine Ops.st ⟨q3 ((.ptr 0 0) :: (dB false) :: q1 ((.ptr 1 0) :: (dP e41 a0) :: (dI ((a0.length : Int))) :: (dI v28) :: (dB (decide (v28 < (a0.length : Int)))) :: (.vptr [(vP eS v38.fTags), (.str v38.fForm)]) :: (.v (.agg [(vP eS v38.fTags), (.str v38.fForm)])) :: (.ptr 1 1) :: (.v (.str v38.fForm)) :: (.ptr 0 1) :: (.v (.str a1.fForm)) :: (dB false) :: (dB false) :: u6 ((dB false) :: q1 []))), [(.cells [(dP eS a1.fTags), (.v (.str a1.fForm))]), (.cells [(dP eS v38.fTags), (.v (.str v38.fForm))])]⟩ (by kernel_rfl) ?_
            exact J50j49 _ _ _ _ _ _ _ _ (some_sub (fun v48 => f50_r1 m v28 v48 = some sx36) ev48 h)
          · have ev48 := cnd_t ev48
            refine Ops.seg' 4 10 (by kernel_rfl) ?_
            obtain ⟨v50, ev50, ev48⟩ := bnd_some ev48
            refine Ops.one' 11 (fun h0 e0 => (call_ok (E' := E) (h := h0) (by kernel_rfl) (Args.v (vP eS v38.fTags) ((eL eS) v38.fTags) (by kernel_rfl) (Args.v (vP eS a1.fTags) ((eL eS) a1.fTags) (by kernel_rfl) Args.nil)) (ok71 m v38.fTags a1.fTags v50 ev50 n (by omega)))) (by kernel_rfl) (by kernel_rfl) ?_
            refine Ops.seg' 2 13 (by kernel_rfl) ?_
            refine Ops.st ⟨q3 ((.ptr 0 0) :: (dB false) :: q1 ((.ptr 1 0) :: (dP e41 a0) :: (dI ((a0.length : Int))) :: (dI v28) :: (dB (decide (v28 < (a0.length : Int)))) :: (.vptr [(vP eS v38.fTags), (.str v38.fForm)]) :: (.v (.agg [(vP eS v38.fTags), (.str v38.fForm)])) :: (.ptr 1 1) :: (.v (.str v38.fForm)) :: (.ptr 0 1) :: (.v (.str a1.fForm)) :: (dB true) :: (dB true) :: (.ptr 1 0) :: (dP eS v38.fTags) :: (.ptr 0 0) :: (dP eS a1.fTags) :: (dI v50) :: (dB (v50 == 0)) :: (dB (v50 == 0)) :: q1 [])), [(.cells [(dP eS a1.fTags), (.v (.str a1.fForm))]), (.cells [(dP eS v38.fTags), (.v (.str v38.fForm))])]⟩ (by kernel_rfl) ?_
            exact J50j49 _ _ _ _ _ _ _ _ (some_sub (fun v48 => f50_r1 m v28 v48 = some sx36) ev48 h)
        exact Ops.st ⟨q3 ((.ptr 0 0) :: (dB false) :: q1 ((.ptr 1 0) :: (dP e41 a0) :: (dI ((a0.length : Int))) :: (dI v28) :: (dB (decide (v28 < (a0.length : Int)))) :: (.vptr [(vP eS v38.fTags), (.str v38.fForm)]) :: (.v (.agg [(vP eS v38.fTags), (.str v38.fForm)])) :: (.ptr 1 1) :: (.v (.str v38.fForm)) :: (.ptr 0 1) :: (.v (.str a1.fForm)) :: (dB (((v38.fForm.toList == a1.fForm.toList)))) :: (dB (((v38.fForm.toList == a1.fForm.toList)))) :: q8 [])), [(.cells [(dP eS a1.fTags), (.v (.str a1.fForm))]), (.cells [(dP eS v38.fTags), (.v (.str v38.fForm))])]⟩ (by kernel_rfl) (G50g40 ((v38.fForm.toList == a1.fForm.toList)) ev48)
      · refine Wp.exit (id := 0) (by kernel_rfl) ?_
        refine sqQ.x ?_
        refine seqQ.x ?_
        cases h
        refine lpQ.x ?_
        refine blkQ.x ⟨q3 ((.ptr 0 0) :: (dB false) :: q2 ((dP e41 a0) :: (dI ((a0.length : Int))) :: (dI v28) :: q17 [])), [(.cells [(dP eS a1.fTags), (.v (.str a1.fForm))])]⟩ (by kernel_rfl) ?_
        exact hxx34 v28  hsx37
  refine Wp.loop' [3, 4, 7, 8, 9] 1 (by kernel_rfl) ⟨q3 ((.ptr 0 0) :: (dB false) :: q2 ((dP e41 a0) :: (dI ((a0.length : Int))) :: (dI 0) :: q17 [])), [(.cells [(dP eS a1.fTags), (.v (.str a1.fForm))])]⟩ (by kernel_rfl) ?_
  rcases brk_some h with ⟨r53, er53, h⟩ | ⟨y52, ey52, h⟩
  · refine hLx51 _ 0  _ er53 n (by omega) (fun r er σ hσ => ?_) (fun y  ey => by cases ey)
    cases er
    refine seqQ.r ?_
    exact fnQ.r' (X50 n) (fun z => (eB z)) h hσ
  · refine hLx51 _ 0  _ ey52 n (by omega) (fun r er => by cases er) (fun y  ey => ?_)
    cases ey
    refine seqQ.n ?_
    refine Wp.seq' (by kernel_rfl) ?_
    refine Wp.region (by kernel_rfl) ?_
    refine Ops.seg' 1 1 (by kernel_rfl) ?_
    refine Ops.done (by kernel_rfl) ?_
    refine seqQ.n ?_
    refine Wp.ret (by kernel_rfl) ?_
    exact fnQ.r' (X50 n) (fun z => (eB z)) h (RetOk.mk' (dB false) (by kernel_rfl) (by kernel_rfl))

end Go.Abs
