import Derived.Test.YtgieobehohljnaaDoorGR
namespace Go.Abs
set_option linter.unusedVariables false
set_option maxRecDepth 100000

/-! ### 14 glosswright/glosswrightequal.Guesses -/
def f14_B1 (m : Nat) (a0 : (List S44)) (a1 : (List S44)) (v6 : Int) : Option (Stp Bool (Int)) :=
  cnd (decide (v6 < (a0.length : Int)))
  (bnd (idx a0 v6) fun v16 =>
  bnd (idx a1 v6) fun v17 =>
  cnd (!((v16.fTag.toList == v17.fTag.toList) && ((v16.fLength == v17.fLength) && ((v16.fCount == v17.fCount) && true))))
  (some (.ret false))
  (some (.nxt (w64 (v6 + 1)))))
  (some (.brk v6))
def f14 (m : Nat) (a0 : (List S44)) (a1 : (List S44)) : Option Bool :=
  cnd (((a0.length : Int)) != ((a1.length : Int)))
  (some false)
  (brk (iter (fun (y : Int) => f14_B1 m a0 a1 y) m 0) some fun y19 =>
  some true)
noncomputable abbrev X14 (n : Nat) : Cx := cxOf Proofs.Tryd.prog EG 14 n
noncomputable def C14 : Code := bodyOf Proofs.Tryd.prog 14
theorem ok14 (m : Nat) (a0 : (List S44)) (a1 : (List S44)) (o : Bool) (h : f14 m a0 a1 = some o) (n : Nat) (hn : m + 1 ≤ n) : Fn Proofs.Tryd.prog EG n 14 [.v ((eL e44) a0), .v ((eL e44) a1)] (eB o) := by
  obtain ⟨n, rfl⟩ : ∃ q, n = q + 1 := ⟨n - 1, by omega⟩
  unfold f14 at h
  refine Fn.of (by kernel_rfl) (by kernel_rfl) (by kernel_rfl) ⟨(dP e44 a0) :: (dP e44 a1) :: u24 [], []⟩ (by kernel_rfl) ?_
  refine Wp.seq' (by kernel_rfl) ?_
  refine Wp.region (by kernel_rfl) ?_
  refine Ops.seg' 1 1 (by kernel_rfl) ?_
  refine Ops.done (by kernel_rfl) ?_
  refine seqQ.n ?_
  refine Wp.seq' (by kernel_rfl) ?_
  refine Wp.seq' (by kernel_rfl) ?_
  refine Wp.region (by kernel_rfl) ?_
  refine Ops.seg' 1 1 (by kernel_rfl) ?_
  refine Ops.one' 2 (fun h0 e0 => (len_r (T := T) h0 32 45 .plain e44 a0 (by kernel_rfl))) (by kernel_rfl) (by kernel_rfl) ?_
  refine Ops.seg' 1 3 (by kernel_rfl) ?_
  refine Ops.one' 4 (fun h0 e0 => (len_r (T := T) h0 32 45 .plain e44 a1 (by kernel_rfl))) (by kernel_rfl) (by kernel_rfl) ?_
  refine Ops.seg' 1 5 (by kernel_rfl) ?_
  refine Ops.done (by kernel_rfl) ?_
  refine seqQ.n ?_
  refine Wp.cnd h [0, 1, 4] 0 (by kernel_rfl) (fun h => ?_) (fun h => ?_)
  · refine Wp.seq' (by kernel_rfl) ?_
    refine Wp.region (by kernel_rfl) ?_
    refine Ops.seg' 1 1 (by kernel_rfl) ?_
    refine Ops.done (by kernel_rfl) ?_
    refine seqQ.n ?_
    refine Wp.ret (by kernel_rfl) ?_
    refine sqQ.r ?_
    refine seqQ.r ?_
    exact fnQ.r' (X14 n) (fun z => (eB z)) h (RetOk.mk' (dB false) (by kernel_rfl) (by kernel_rfl))
  · refine Wp.skip (by kernel_rfl) ?_
    refine sqQ.n' ?_
    refine seqQ.n ?_
    refine Wp.seq' (by kernel_rfl) ?_
    refine Wp.seq' (by kernel_rfl) ?_
    refine Wp.region (by kernel_rfl) ?_
    refine Ops.seg' 1 1 (by kernel_rfl) ?_
    refine Ops.one' 2 (fun h0 e0 => (len_r (T := T) h0 32 45 .plain e44 a0 (by kernel_rfl))) (by kernel_rfl) (by kernel_rfl) ?_
    refine Ops.seg' 1 3 (by kernel_rfl) ?_
    refine Ops.done (by kernel_rfl) ?_
    refine seqQ.n ?_
    refine Wp.block' 0 [4] 0 (by kernel_rfl) ?_
    have hLx18 : ∀ (kx8 : Nat) (v6 : Int)  (ox7 : Bool ⊕ (Int)), iter (fun (y : Int) => f14_B1 m a0 a1 y) kx8 v6 = some ox7 → ∀ nx9, kx8 ≤ nx9 → (∀ r, ox7 = .inl r → ∀ σ, RetOk (X14 n) (resOf Proofs.Tryd.prog 14) (eB r) σ → (seqQ (X14 n) (cR (cR (cR C14))) (fnQ (X14 n).E.T (resOf Proofs.Tryd.prog 14) (eB o))) .ret σ) → (∀ (y : Int) , ox7 = .inr y → (seqQ (X14 n) (cR (cR (cR C14))) (fnQ (X14 n).E.T (resOf Proofs.Tryd.prog 14) (eB o))) .normal ⟨(dP e44 a0) :: (dP e44 a1) :: q2 ((dB false) :: q7 ((dI ((a0.length : Int))) :: (dI y) :: q12 [])), []⟩) → Lp (X14 n) [0, 1, 4, 12, 13] 0 (cL (cL (cR (cL (cR (cR C14)))))) nx9 ⟨(dP e44 a0) :: (dP e44 a1) :: q2 ((dB false) :: q7 ((dI ((a0.length : Int))) :: (dI v6) :: q12 [])), []⟩ (blkQ (X14 n) 0 [4] 0 (seqQ (X14 n) (cR (cR (cR C14))) (fnQ (X14 n).E.T (resOf Proofs.Tryd.prog 14) (eB o)))) := by
      intro kx8
      induction kx8 with
      | zero => intro v6  ox7 h; exact (iter_zero h).elim
      | succ kx8 ihx10 =>
        intro v6  ox7 h nx9 hnx13 hrx11 hxx12
        obtain ⟨nx9, rfl⟩ : ∃ q, nx9 = q + 1 := ⟨nx9 - 1, by omega⟩
        obtain ⟨sx14, h, hsx15⟩ := iter_some h
        have h : f14_B1 m a0 a1 v6 = some sx14 := h
        unfold f14_B1 at h
        refine Lp.succ ?_
        refine Wp.seq' (by kernel_rfl) ?_
        refine Wp.region (by kernel_rfl) ?_
        refine Ops.seg' 1 1 (by kernel_rfl) ?_
        refine Ops.done (by kernel_rfl) ?_
        refine seqQ.n ?_
        refine Wp.seq' (by kernel_rfl) ?_
        refine Wp.cnd h [0, 1, 4, 12, 13] 0 (by kernel_rfl) (fun h => ?_) (fun h => ?_)
        · refine Wp.skip (by kernel_rfl) ?_
          refine sqQ.n' ?_
          refine seqQ.n ?_
          refine Wp.seq' (by kernel_rfl) ?_
          refine Wp.block' 1 [0, 1, 4, 12, 13] 0 (by kernel_rfl) ?_
          refine Wp.seq' (by kernel_rfl) ?_
          refine Wp.region (by kernel_rfl) ?_
          refine Ops.seg' 2 2 (by kernel_rfl) ?_
          refine Ops.done (by kernel_rfl) ?_
          refine seqQ.n ?_
          refine Wp.seq' (by kernel_rfl) ?_
          refine Wp.region (by kernel_rfl) ?_
          refine Ops.seg' 2 2 (by kernel_rfl) ?_
          obtain ⟨v16, ev16, h⟩ := bnd_some h
          refine Ops.one' 3 (fun h0 e0 => (ix_r (T := T) h0 32 45 3 .plain e44 a0 v6 v16 ev16 (by kernel_rfl) (by kernel_rfl) (fun _ => rfl))) (by kernel_rfl) (by kernel_rfl) ?_
          refine Ops.seg' 3 6 (by kernel_rfl) ?_
          obtain ⟨v17, ev17, h⟩ := bnd_some h
          refine Ops.one' 7 (fun h0 e0 => (ix_r (T := T) h0 32 45 3 .plain e44 a1 v6 v17 ev17 (by kernel_rfl) (by kernel_rfl) (fun _ => rfl))) (by kernel_rfl) (by kernel_rfl) ?_
          refine Ops.seg' 2 9 (by kernel_rfl) ?_
          refine Ops.done (by kernel_rfl) ?_
          refine seqQ.n ?_
          refine Wp.cnd h [0, 1, 4, 12, 13] 0 (by kernel_rfl) (fun h => ?_) (fun h => ?_)
          · refine Wp.seq' (by kernel_rfl) ?_
            refine Wp.region (by kernel_rfl) ?_
            refine Ops.seg' 1 1 (by kernel_rfl) ?_
            refine Ops.done (by kernel_rfl) ?_
            refine seqQ.n ?_
            refine Wp.ret (by kernel_rfl) ?_
            refine sqQ.r ?_
            refine blkQ.r ?_
            refine seqQ.r ?_
            cases h
            refine lpQ.r ?_
            refine blkQ.r ?_
            exact hrx11 _ hsx15 _ (RetOk.forget [0, 1, 4, 12, 13] (by kernel_rfl) (RetOk.mk' (dB false) (by kernel_rfl) (by kernel_rfl)))
          · refine Wp.skip (by kernel_rfl) ?_
            refine sqQ.n' ?_
            refine blkQ.n' ?_
            refine seqQ.n ?_
            refine Wp.region (by kernel_rfl) ?_
            refine Ops.seg' 2 2 (by kernel_rfl) ?_
            refine Ops.done (by kernel_rfl) ?_
            refine lpQ.n ⟨(dP e44 a0) :: (dP e44 a1) :: q2 ((dB false) :: q7 ((dI ((a0.length : Int))) :: (dI (w64 (v6 + 1))) :: q12 [])), []⟩ (by kernel_rfl) ?_
            cases h
            exact ihx10 (w64 (v6 + 1))  _ hsx15 _ (by omega) hrx11 hxx12
        · refine Wp.exit (id := 0) (by kernel_rfl) ?_
          refine sqQ.x ?_
          refine seqQ.x ?_
          cases h
          refine lpQ.x ?_
          refine blkQ.x ⟨(dP e44 a0) :: (dP e44 a1) :: q2 ((dB false) :: q7 ((dI ((a0.length : Int))) :: (dI v6) :: q12 [])), []⟩ (by kernel_rfl) ?_
          exact hxx12 v6  hsx15
    refine Wp.loop' [0, 1, 4, 12, 13] 0 (by kernel_rfl) ⟨(dP e44 a0) :: (dP e44 a1) :: q2 ((dB false) :: q7 ((dI ((a0.length : Int))) :: (dI 0) :: q12 [])), []⟩ (by kernel_rfl) ?_
    rcases brk_some h with ⟨r20, er20, h⟩ | ⟨y19, ey19, h⟩
    · refine hLx18 _ 0  _ er20 n (by omega) (fun r er σ hσ => ?_) (fun y  ey => by cases ey)
      cases er
      refine seqQ.r ?_
      exact fnQ.r' (X14 n) (fun z => (eB z)) h hσ
    · refine hLx18 _ 0  _ ey19 n (by omega) (fun r er => by cases er) (fun y  ey => ?_)
      cases ey
      refine seqQ.n ?_
      refine Wp.seq' (by kernel_rfl) ?_
      refine Wp.region (by kernel_rfl) ?_
      refine Ops.seg' 1 1 (by kernel_rfl) ?_
      refine Ops.done (by kernel_rfl) ?_
      refine seqQ.n ?_
      refine Wp.ret (by kernel_rfl) ?_
      exact fnQ.r' (X14 n) (fun z => (eB z)) h (RetOk.mk' (dB true) (by kernel_rfl) (by kernel_rfl))

/-! ### 9 glosswright/glosswrightlaw6.guessed -/
def f9_r1 (m : Nat) (v19 : Bool) : Option Bool :=
  some v19
def f9_r2 (m : Nat) (v2 : ((List S44) × S27)) (v9 : Bool) : Option Bool :=
  bnd (cnd v9
  (bnd (f14 m v2.1 ([(⟨(⟨#[112, 108]⟩ : ByteArray), 1, 1⟩ : S44), (⟨(⟨#[115, 103]⟩ : ByteArray), 0, 1⟩ : S44)])) fun v21 =>
  some v21)
  (some false)) fun v19 =>
  f9_r1 m v19
def f9 (m : Nat)  : Option Bool :=
  bnd (f10 m ([(⟨(⟨#[99, 97, 116, 115]⟩ : ByteArray), (⟨#[112, 108]⟩ : ByteArray)⟩ : S39), (⟨(⟨#[99, 97, 116]⟩ : ByteArray), (⟨#[115, 103]⟩ : ByteArray)⟩ : S39)])) fun v1 =>
  bnd (f12 m v1.1 ((⟨#[100, 111, 103, 115]⟩ : ByteArray))) fun v2 =>
  f9_r2 m v2 (((((v1.2.fCode == 0) && ((v1.2.fIndex == 0) && true))) && (((v2.2.fCode == 0) && ((v2.2.fIndex == 0) && true)))))
noncomputable abbrev X9 (n : Nat) : Cx := cxOf Proofs.Tryd.prog EG 9 n
noncomputable def C9 : Code := bodyOf Proofs.Tryd.prog 9
theorem ok9 (m : Nat)  (o : Bool) (h : f9 m  = some o) (n : Nat) (hn : m + 2 ≤ n) : Fn Proofs.Tryd.prog EG n 9 [] (eB o) := by
  obtain ⟨n, rfl⟩ : ∃ q, n = q + 1 := ⟨n - 1, by omega⟩
  unfold f9 at h
  refine Fn.of (by kernel_rfl) (by kernel_rfl) (by kernel_rfl) ⟨u32 [], []⟩ (by kernel_rfl) ?_
  refine Wp.seq' (by kernel_rfl) ?_
  refine Wp.region (by kernel_rfl) ?_
  refine Ops.seg' 1 1 (by kernel_rfl) ?_
  refine Ops.done (by kernel_rfl) ?_
  refine seqQ.n ?_
  refine Wp.seq' (by kernel_rfl) ?_
  refine Wp.region (by kernel_rfl) ?_
  refine Ops.seg' 3 3 (by kernel_rfl) ?_
  obtain ⟨v1, ev1, h⟩ := bnd_some h
  refine Ops.one' 4 (fun h0 e0 => (call_ok (E' := EG) (h := h0) (by kernel_rfl) (Args.v (.sl .nonfull (List.map e39 ([(⟨(⟨#[99, 97, 116, 115]⟩ : ByteArray), (⟨#[112, 108]⟩ : ByteArray)⟩ : S39), (⟨(⟨#[99, 97, 116]⟩ : ByteArray), (⟨#[115, 103]⟩ : ByteArray)⟩ : S39)]))) ((eL e39) ([(⟨(⟨#[99, 97, 116, 115]⟩ : ByteArray), (⟨#[112, 108]⟩ : ByteArray)⟩ : S39), (⟨(⟨#[99, 97, 116]⟩ : ByteArray), (⟨#[115, 103]⟩ : ByteArray)⟩ : S39)])) (by kernel_rfl) Args.nil) (ok10 m ([(⟨(⟨#[99, 97, 116, 115]⟩ : ByteArray), (⟨#[112, 108]⟩ : ByteArray)⟩ : S39), (⟨(⟨#[99, 97, 116]⟩ : ByteArray), (⟨#[115, 103]⟩ : ByteArray)⟩ : S39)]) v1 ev1 n (by omega)))) (by kernel_rfl) (by kernel_rfl) ?_
  refine Ops.seg' 5 9 (by kernel_rfl) ?_
  refine Ops.one' 10 (fun h0 e0 => (stc (i := ti26) (h := h0) (r := 0) (off := 0) (cs := [(.v (eGz none))]) (cs' := [(.v (eGz v1.1.fRoot))]) (x := (.v (.agg [(eGz v1.1.fRoot)]))) (hq_of (g := [(.cells [(.v (eGz none))]), (.cells [(dI 0), (dI 0)])]) (e0.trans (by kernel_rfl)) rfl) (solid_e25 v1.1.fRoot) (by rfl))) (by kernel_rfl) (by kernel_rfl) ?_
  refine Ops.seg' 1 11 (by kernel_rfl) ?_
  refine Ops.done (by kernel_rfl) ?_
  refine seqQ.n ?_
  refine Wp.seq' (by kernel_rfl) ?_
  refine Wp.region (by kernel_rfl) ?_
  refine Ops.seg' 1 1 (by kernel_rfl) ?_
  obtain ⟨v2, ev2, h⟩ := bnd_some h
  refine Ops.one' 2 (fun h0 e0 => (call_ok (E' := EG) (h := h0) (by kernel_rfl) (Args.v (.agg [(eGz v1.1.fRoot)]) (e25 v1.1) (plain_e25 _) (Args.v (.str ((⟨#[100, 111, 103, 115]⟩ : ByteArray))) (eS ((⟨#[100, 111, 103, 115]⟩ : ByteArray))) (by kernel_rfl) Args.nil)) (ok12 m v1.1 ((⟨#[100, 111, 103, 115]⟩ : ByteArray)) v2 ev2 n (by omega)))) (by kernel_rfl) (by kernel_rfl) ?_
  refine Ops.seg' 6 8 (by kernel_rfl) ?_
  refine Ops.done (by kernel_rfl) ?_
  refine seqQ.n ?_
  refine Wp.seq' (by kernel_rfl) ?_
  refine Wp.region (by kernel_rfl) ?_
  refine Ops.seg' 4 4 (by kernel_rfl) ?_
  have J9j10 : ∀ (d5 d6 d7 : D) (v8 : Bool) (v9 : Bool), f9_r2 m v2 v9 = some o → Ops (X9 n) (opl (cL (cR (cR (cR C9))))) 8 ⟨(dB false) :: (.ptr 0 0) :: (.ptr 1 0) :: (dP e44 v2.1) :: (.ptr 2 0) :: (.v (.tuple [(.agg [(eGz v1.1.fRoot)]), (.agg [(vI v1.2.fCode), (vI v1.2.fIndex)])])) :: (.v (.agg [(.str ((⟨#[99, 97, 116, 115]⟩ : ByteArray))), (.str ((⟨#[112, 108]⟩ : ByteArray)))])) :: (.v (.agg [(.str ((⟨#[99, 97, 116]⟩ : ByteArray))), (.str ((⟨#[115, 103]⟩ : ByteArray)))])) :: (.v (.sl .nonfull (List.map e39 ([(⟨(⟨#[99, 97, 116, 115]⟩ : ByteArray), (⟨#[112, 108]⟩ : ByteArray)⟩ : S39), (⟨(⟨#[99, 97, 116]⟩ : ByteArray), (⟨#[115, 103]⟩ : ByteArray)⟩ : S39)])))) :: (.v (.tuple [(.agg [(eGz v1.1.fRoot)]), (.agg [(vI v1.2.fCode), (vI v1.2.fIndex)])])) :: (.v (.agg [(eGz v1.1.fRoot)])) :: (.v (.agg [(vI v1.2.fCode), (vI v1.2.fIndex)])) :: (.v (.tuple [(vP e44 v2.1), (.agg [(vI v2.2.fCode), (vI v2.2.fIndex)])])) :: (.v (.agg [(eGz v1.1.fRoot)])) :: (.v (.tuple [(vP e44 v2.1), (.agg [(vI v2.2.fCode), (vI v2.2.fIndex)])])) :: (dP e44 v2.1) :: (.v (.agg [(vI v2.2.fCode), (vI v2.2.fIndex)])) :: (.v (.agg [(vI v1.2.fCode), (vI v1.2.fIndex)])) :: (.v (.agg [(vI 0), (vI 0)])) :: (dB v8) :: (dB v8) :: d5 :: d6 :: d7 :: (dB v9) :: u7 [], [(.cells [(.v (eGz v1.1.fRoot))]), (.cells [(dI v1.2.fCode), (dI v1.2.fIndex)]), (.cells [(dI v2.2.fCode), (dI v2.2.fIndex)])]⟩ ((seqQ (X9 n) (cR (cR (cR (cR C9)))) (fnQ (X9 n).E.T (resOf Proofs.Tryd.prog 9) (eB o))) .normal) := by
    intro d5 d6 d7 v8 v9 h
    unfold f9_r2 at h
    refine Ops.seg' 1 9 (by kernel_rfl) ?_
    have J9j20 : ∀ (d13 d14 d15 d16 d17 : D) (v18 : Bool) (v19 : Bool), f9_r1 m v19 = some o → Ops (X9 n) (opl (cL (cR (cR (cR C9))))) 15 ⟨(dB false) :: (.ptr 0 0) :: (.ptr 1 0) :: (dP e44 v2.1) :: (.ptr 2 0) :: (.v (.tuple [(.agg [(eGz v1.1.fRoot)]), (.agg [(vI v1.2.fCode), (vI v1.2.fIndex)])])) :: (.v (.agg [(.str ((⟨#[99, 97, 116, 115]⟩ : ByteArray))), (.str ((⟨#[112, 108]⟩ : ByteArray)))])) :: (.v (.agg [(.str ((⟨#[99, 97, 116]⟩ : ByteArray))), (.str ((⟨#[115, 103]⟩ : ByteArray)))])) :: (.v (.sl .nonfull (List.map e39 ([(⟨(⟨#[99, 97, 116, 115]⟩ : ByteArray), (⟨#[112, 108]⟩ : ByteArray)⟩ : S39), (⟨(⟨#[99, 97, 116]⟩ : ByteArray), (⟨#[115, 103]⟩ : ByteArray)⟩ : S39)])))) :: (.v (.tuple [(.agg [(eGz v1.1.fRoot)]), (.agg [(vI v1.2.fCode), (vI v1.2.fIndex)])])) :: (.v (.agg [(eGz v1.1.fRoot)])) :: (.v (.agg [(vI v1.2.fCode), (vI v1.2.fIndex)])) :: (.v (.tuple [(vP e44 v2.1), (.agg [(vI v2.2.fCode), (vI v2.2.fIndex)])])) :: (.v (.agg [(eGz v1.1.fRoot)])) :: (.v (.tuple [(vP e44 v2.1), (.agg [(vI v2.2.fCode), (vI v2.2.fIndex)])])) :: (dP e44 v2.1) :: (.v (.agg [(vI v2.2.fCode), (vI v2.2.fIndex)])) :: (.v (.agg [(vI v1.2.fCode), (vI v1.2.fIndex)])) :: (.v (.agg [(vI 0), (vI 0)])) :: (dB v8) :: (dB v8) :: d5 :: d6 :: d7 :: (dB v18) :: (dB v18) :: d13 :: d14 :: d15 :: d16 :: d17 :: (dB v19) :: [], [(.cells [(.v (eGz v1.1.fRoot))]), (.cells [(dI v1.2.fCode), (dI v1.2.fIndex)]), (.cells [(dI v2.2.fCode), (dI v2.2.fIndex)])]⟩ ((seqQ (X9 n) (cR (cR (cR (cR C9)))) (fnQ (X9 n).E.T (resOf Proofs.Tryd.prog 9) (eB o))) .normal) := by
      intro d13 d14 d15 d16 d17 v18 v19 h
      unfold f9_r1 at h
      refine Ops.seg' 1 16 (by kernel_rfl) ?_
      refine Ops.done (by kernel_rfl) ?_
      refine seqQ.n ?_
      refine Wp.ret (by kernel_rfl) ?_
      exact fnQ.r' (X9 n) (fun z => (eB z)) h (RetOk.mk' (dB v19) (by kernel_rfl) (by kernel_rfl))
    obtain ⟨v19, ev19, h⟩ := bnd_some h
    have G9g12 : ∀ v11 : Bool, (cnd v11 (bnd (f14 m v2.1 ([(⟨(⟨#[112, 108]⟩ : ByteArray), 1, 1⟩ : S44), (⟨(⟨#[115, 103]⟩ : ByteArray), 0, 1⟩ : S44)])) fun v21 => some v21) (some false)) = some v19 → Ops (X9 n) (opl (cL (cR (cR (cR C9))))) 9 ⟨(dB false) :: (.ptr 0 0) :: (.ptr 1 0) :: (dP e44 v2.1) :: (.ptr 2 0) :: (.v (.tuple [(.agg [(eGz v1.1.fRoot)]), (.agg [(vI v1.2.fCode), (vI v1.2.fIndex)])])) :: (.v (.agg [(.str ((⟨#[99, 97, 116, 115]⟩ : ByteArray))), (.str ((⟨#[112, 108]⟩ : ByteArray)))])) :: (.v (.agg [(.str ((⟨#[99, 97, 116]⟩ : ByteArray))), (.str ((⟨#[115, 103]⟩ : ByteArray)))])) :: (.v (.sl .nonfull (List.map e39 ([(⟨(⟨#[99, 97, 116, 115]⟩ : ByteArray), (⟨#[112, 108]⟩ : ByteArray)⟩ : S39), (⟨(⟨#[99, 97, 116]⟩ : ByteArray), (⟨#[115, 103]⟩ : ByteArray)⟩ : S39)])))) :: (.v (.tuple [(.agg [(eGz v1.1.fRoot)]), (.agg [(vI v1.2.fCode), (vI v1.2.fIndex)])])) :: (.v (.agg [(eGz v1.1.fRoot)])) :: (.v (.agg [(vI v1.2.fCode), (vI v1.2.fIndex)])) :: (.v (.tuple [(vP e44 v2.1), (.agg [(vI v2.2.fCode), (vI v2.2.fIndex)])])) :: (.v (.agg [(eGz v1.1.fRoot)])) :: (.v (.tuple [(vP e44 v2.1), (.agg [(vI v2.2.fCode), (vI v2.2.fIndex)])])) :: (dP e44 v2.1) :: (.v (.agg [(vI v2.2.fCode), (vI v2.2.fIndex)])) :: (.v (.agg [(vI v1.2.fCode), (vI v1.2.fIndex)])) :: (.v (.agg [(vI 0), (vI 0)])) :: (dB v8) :: (dB v8) :: d5 :: d6 :: d7 :: (dB v11) :: (dB v11) :: u6 [], [(.cells [(.v (eGz v1.1.fRoot))]), (.cells [(dI v1.2.fCode), (dI v1.2.fIndex)]), (.cells [(dI v2.2.fCode), (dI v2.2.fIndex)])]⟩ ((seqQ (X9 n) (cR (cR (cR (cR C9)))) (fnQ (X9 n).E.T (resOf Proofs.Tryd.prog 9) (eB o))) .normal) := by
      intro v11 ev19
      cases v11
      · have ev19 := cnd_f ev19
        refine Ops.seg' 6 15 (by kernel_rfl) ?_
        refine Ops.st ⟨(dB false) :: (.ptr 0 0) :: (.ptr 1 0) :: (dP e44 v2.1) :: (.ptr 2 0) :: (.v (.tuple [(.agg [(eGz v1.1.fRoot)]), (.agg [(vI v1.2.fCode), (vI v1.2.fIndex)])])) :: (.v (.agg [(.str ((⟨#[99, 97, 116, 115]⟩ : ByteArray))), (.str ((⟨#[112, 108]⟩ : ByteArray)))])) :: (.v (.agg [(.str ((⟨#[99, 97, 116]⟩ : ByteArray))), (.str ((⟨#[115, 103]⟩ : ByteArray)))])) :: (.v (.sl .nonfull (List.map e39 ([(⟨(⟨#[99, 97, 116, 115]⟩ : ByteArray), (⟨#[112, 108]⟩ : ByteArray)⟩ : S39), (⟨(⟨#[99, 97, 116]⟩ : ByteArray), (⟨#[115, 103]⟩ : ByteArray)⟩ : S39)])))) :: (.v (.tuple [(.agg [(eGz v1.1.fRoot)]), (.agg [(vI v1.2.fCode), (vI v1.2.fIndex)])])) :: (.v (.agg [(eGz v1.1.fRoot)])) :: (.v (.agg [(vI v1.2.fCode), (vI v1.2.fIndex)])) :: (.v (.tuple [(vP e44 v2.1), (.agg [(vI v2.2.fCode), (vI v2.2.fIndex)])])) :: (.v (.agg [(eGz v1.1.fRoot)])) :: (.v (.tuple [(vP e44 v2.1), (.agg [(vI v2.2.fCode), (vI v2.2.fIndex)])])) :: (dP e44 v2.1) :: (.v (.agg [(vI v2.2.fCode), (vI v2.2.fIndex)])) :: (.v (.agg [(vI v1.2.fCode), (vI v1.2.fIndex)])) :: (.v (.agg [(vI 0), (vI 0)])) :: (dB v8) :: (dB v8) :: d5 :: d6 :: d7 :: (dB false) :: (dB false) :: u5 ((dB false) :: []), [(.cells [(.v (eGz v1.1.fRoot))]), (.cells [(dI v1.2.fCode), (dI v1.2.fIndex)]), (.cells [(dI v2.2.fCode), (dI v2.2.fIndex)])]⟩ (by kernel_rfl) ?_
        exact J9j20 _ _ _ _ _ _ _ (some_sub (fun v19 => f9_r1 m v19 = some o) ev19 h)
      · have ev19 := cnd_t ev19
        refine Ops.seg' 4 13 (by kernel_rfl) ?_
        obtain ⟨v21, ev21, ev19⟩ := bnd_some ev19
        refine Ops.one' 14 (fun h0 e0 => (call_ok (E' := EG) (h := h0) (by kernel_rfl) (Args.v (vP e44 v2.1) ((eL e44) v2.1) (by kernel_rfl) (Args.v (.sl .nonfull (List.map e44 ([(⟨(⟨#[112, 108]⟩ : ByteArray), 1, 1⟩ : S44), (⟨(⟨#[115, 103]⟩ : ByteArray), 0, 1⟩ : S44)]))) ((eL e44) ([(⟨(⟨#[112, 108]⟩ : ByteArray), 1, 1⟩ : S44), (⟨(⟨#[115, 103]⟩ : ByteArray), 0, 1⟩ : S44)])) (by kernel_rfl) Args.nil)) (ok14 m v2.1 ([(⟨(⟨#[112, 108]⟩ : ByteArray), 1, 1⟩ : S44), (⟨(⟨#[115, 103]⟩ : ByteArray), 0, 1⟩ : S44)]) v21 ev21 n (by omega)))) (by kernel_rfl) (by kernel_rfl) ?_
        refine Ops.seg' 1 15 (by kernel_rfl) ?_
        refine Ops.st ⟨(dB false) :: (.ptr 0 0) :: (.ptr 1 0) :: (dP e44 v2.1) :: (.ptr 2 0) :: (.v (.tuple [(.agg [(eGz v1.1.fRoot)]), (.agg [(vI v1.2.fCode), (vI v1.2.fIndex)])])) :: (.v (.agg [(.str ((⟨#[99, 97, 116, 115]⟩ : ByteArray))), (.str ((⟨#[112, 108]⟩ : ByteArray)))])) :: (.v (.agg [(.str ((⟨#[99, 97, 116]⟩ : ByteArray))), (.str ((⟨#[115, 103]⟩ : ByteArray)))])) :: (.v (.sl .nonfull (List.map e39 ([(⟨(⟨#[99, 97, 116, 115]⟩ : ByteArray), (⟨#[112, 108]⟩ : ByteArray)⟩ : S39), (⟨(⟨#[99, 97, 116]⟩ : ByteArray), (⟨#[115, 103]⟩ : ByteArray)⟩ : S39)])))) :: (.v (.tuple [(.agg [(eGz v1.1.fRoot)]), (.agg [(vI v1.2.fCode), (vI v1.2.fIndex)])])) :: (.v (.agg [(eGz v1.1.fRoot)])) :: (.v (.agg [(vI v1.2.fCode), (vI v1.2.fIndex)])) :: (.v (.tuple [(vP e44 v2.1), (.agg [(vI v2.2.fCode), (vI v2.2.fIndex)])])) :: (.v (.agg [(eGz v1.1.fRoot)])) :: (.v (.tuple [(vP e44 v2.1), (.agg [(vI v2.2.fCode), (vI v2.2.fIndex)])])) :: (dP e44 v2.1) :: (.v (.agg [(vI v2.2.fCode), (vI v2.2.fIndex)])) :: (.v (.agg [(vI v1.2.fCode), (vI v1.2.fIndex)])) :: (.v (.agg [(vI 0), (vI 0)])) :: (dB v8) :: (dB v8) :: d5 :: d6 :: d7 :: (dB true) :: (dB true) :: (dP e44 v2.1) :: (.v (.agg [(.str ((⟨#[112, 108]⟩ : ByteArray))), (vI 1), (vI 1)])) :: (.v (.agg [(.str ((⟨#[115, 103]⟩ : ByteArray))), (vI 0), (vI 1)])) :: (.v (.sl .nonfull (List.map e44 ([(⟨(⟨#[112, 108]⟩ : ByteArray), 1, 1⟩ : S44), (⟨(⟨#[115, 103]⟩ : ByteArray), 0, 1⟩ : S44)])))) :: (dB v21) :: (dB v21) :: [], [(.cells [(.v (eGz v1.1.fRoot))]), (.cells [(dI v1.2.fCode), (dI v1.2.fIndex)]), (.cells [(dI v2.2.fCode), (dI v2.2.fIndex)])]⟩ (by kernel_rfl) ?_
        exact J9j20 _ _ _ _ _ _ _ (some_sub (fun v19 => f9_r1 m v19 = some o) ev19 h)
    exact Ops.st ⟨(dB false) :: (.ptr 0 0) :: (.ptr 1 0) :: (dP e44 v2.1) :: (.ptr 2 0) :: (.v (.tuple [(.agg [(eGz v1.1.fRoot)]), (.agg [(vI v1.2.fCode), (vI v1.2.fIndex)])])) :: (.v (.agg [(.str ((⟨#[99, 97, 116, 115]⟩ : ByteArray))), (.str ((⟨#[112, 108]⟩ : ByteArray)))])) :: (.v (.agg [(.str ((⟨#[99, 97, 116]⟩ : ByteArray))), (.str ((⟨#[115, 103]⟩ : ByteArray)))])) :: (.v (.sl .nonfull (List.map e39 ([(⟨(⟨#[99, 97, 116, 115]⟩ : ByteArray), (⟨#[112, 108]⟩ : ByteArray)⟩ : S39), (⟨(⟨#[99, 97, 116]⟩ : ByteArray), (⟨#[115, 103]⟩ : ByteArray)⟩ : S39)])))) :: (.v (.tuple [(.agg [(eGz v1.1.fRoot)]), (.agg [(vI v1.2.fCode), (vI v1.2.fIndex)])])) :: (.v (.agg [(eGz v1.1.fRoot)])) :: (.v (.agg [(vI v1.2.fCode), (vI v1.2.fIndex)])) :: (.v (.tuple [(vP e44 v2.1), (.agg [(vI v2.2.fCode), (vI v2.2.fIndex)])])) :: (.v (.agg [(eGz v1.1.fRoot)])) :: (.v (.tuple [(vP e44 v2.1), (.agg [(vI v2.2.fCode), (vI v2.2.fIndex)])])) :: (dP e44 v2.1) :: (.v (.agg [(vI v2.2.fCode), (vI v2.2.fIndex)])) :: (.v (.agg [(vI v1.2.fCode), (vI v1.2.fIndex)])) :: (.v (.agg [(vI 0), (vI 0)])) :: (dB v8) :: (dB v8) :: d5 :: d6 :: d7 :: (dB v9) :: (dB v9) :: u6 [], [(.cells [(.v (eGz v1.1.fRoot))]), (.cells [(dI v1.2.fCode), (dI v1.2.fIndex)]), (.cells [(dI v2.2.fCode), (dI v2.2.fIndex)])]⟩ (by kernel_rfl) (G9g12 v9 ev19)
  have G9g4 : ∀ v3 : Bool, f9_r2 m v2 ((v3 && (((v2.2.fCode == 0) && ((v2.2.fIndex == 0) && true))))) = some o → Ops (X9 n) (opl (cL (cR (cR (cR C9))))) 4 ⟨(dB false) :: (.ptr 0 0) :: (.ptr 1 0) :: (dP e44 v2.1) :: (.ptr 2 0) :: (.v (.tuple [(.agg [(eGz v1.1.fRoot)]), (.agg [(vI v1.2.fCode), (vI v1.2.fIndex)])])) :: (.v (.agg [(.str ((⟨#[99, 97, 116, 115]⟩ : ByteArray))), (.str ((⟨#[112, 108]⟩ : ByteArray)))])) :: (.v (.agg [(.str ((⟨#[99, 97, 116]⟩ : ByteArray))), (.str ((⟨#[115, 103]⟩ : ByteArray)))])) :: (.v (.sl .nonfull (List.map e39 ([(⟨(⟨#[99, 97, 116, 115]⟩ : ByteArray), (⟨#[112, 108]⟩ : ByteArray)⟩ : S39), (⟨(⟨#[99, 97, 116]⟩ : ByteArray), (⟨#[115, 103]⟩ : ByteArray)⟩ : S39)])))) :: (.v (.tuple [(.agg [(eGz v1.1.fRoot)]), (.agg [(vI v1.2.fCode), (vI v1.2.fIndex)])])) :: (.v (.agg [(eGz v1.1.fRoot)])) :: (.v (.agg [(vI v1.2.fCode), (vI v1.2.fIndex)])) :: (.v (.tuple [(vP e44 v2.1), (.agg [(vI v2.2.fCode), (vI v2.2.fIndex)])])) :: (.v (.agg [(eGz v1.1.fRoot)])) :: (.v (.tuple [(vP e44 v2.1), (.agg [(vI v2.2.fCode), (vI v2.2.fIndex)])])) :: (dP e44 v2.1) :: (.v (.agg [(vI v2.2.fCode), (vI v2.2.fIndex)])) :: (.v (.agg [(vI v1.2.fCode), (vI v1.2.fIndex)])) :: (.v (.agg [(vI 0), (vI 0)])) :: (dB v3) :: (dB v3) :: u11 [], [(.cells [(.v (eGz v1.1.fRoot))]), (.cells [(dI v1.2.fCode), (dI v1.2.fIndex)]), (.cells [(dI v2.2.fCode), (dI v2.2.fIndex)])]⟩ ((seqQ (X9 n) (cR (cR (cR (cR C9)))) (fnQ (X9 n).E.T (resOf Proofs.Tryd.prog 9) (eB o))) .normal) := by
    intro v3 h
    cases v3
    · refine Ops.seg' 4 8 (by kernel_rfl) ?_
      refine Ops.st ⟨(dB false) :: (.ptr 0 0) :: (.ptr 1 0) :: (dP e44 v2.1) :: (.ptr 2 0) :: (.v (.tuple [(.agg [(eGz v1.1.fRoot)]), (.agg [(vI v1.2.fCode), (vI v1.2.fIndex)])])) :: (.v (.agg [(.str ((⟨#[99, 97, 116, 115]⟩ : ByteArray))), (.str ((⟨#[112, 108]⟩ : ByteArray)))])) :: (.v (.agg [(.str ((⟨#[99, 97, 116]⟩ : ByteArray))), (.str ((⟨#[115, 103]⟩ : ByteArray)))])) :: (.v (.sl .nonfull (List.map e39 ([(⟨(⟨#[99, 97, 116, 115]⟩ : ByteArray), (⟨#[112, 108]⟩ : ByteArray)⟩ : S39), (⟨(⟨#[99, 97, 116]⟩ : ByteArray), (⟨#[115, 103]⟩ : ByteArray)⟩ : S39)])))) :: (.v (.tuple [(.agg [(eGz v1.1.fRoot)]), (.agg [(vI v1.2.fCode), (vI v1.2.fIndex)])])) :: (.v (.agg [(eGz v1.1.fRoot)])) :: (.v (.agg [(vI v1.2.fCode), (vI v1.2.fIndex)])) :: (.v (.tuple [(vP e44 v2.1), (.agg [(vI v2.2.fCode), (vI v2.2.fIndex)])])) :: (.v (.agg [(eGz v1.1.fRoot)])) :: (.v (.tuple [(vP e44 v2.1), (.agg [(vI v2.2.fCode), (vI v2.2.fIndex)])])) :: (dP e44 v2.1) :: (.v (.agg [(vI v2.2.fCode), (vI v2.2.fIndex)])) :: (.v (.agg [(vI v1.2.fCode), (vI v1.2.fIndex)])) :: (.v (.agg [(vI 0), (vI 0)])) :: (dB false) :: (dB false) :: u3 ((dB false) :: u7 []), [(.cells [(.v (eGz v1.1.fRoot))]), (.cells [(dI v1.2.fCode), (dI v1.2.fIndex)]), (.cells [(dI v2.2.fCode), (dI v2.2.fIndex)])]⟩ (by kernel_rfl) ?_
      exact J9j10 _ _ _ _ _ h
    · refine Ops.seg' 4 8 (by kernel_rfl) ?_
      refine Ops.st ⟨(dB false) :: (.ptr 0 0) :: (.ptr 1 0) :: (dP e44 v2.1) :: (.ptr 2 0) :: (.v (.tuple [(.agg [(eGz v1.1.fRoot)]), (.agg [(vI v1.2.fCode), (vI v1.2.fIndex)])])) :: (.v (.agg [(.str ((⟨#[99, 97, 116, 115]⟩ : ByteArray))), (.str ((⟨#[112, 108]⟩ : ByteArray)))])) :: (.v (.agg [(.str ((⟨#[99, 97, 116]⟩ : ByteArray))), (.str ((⟨#[115, 103]⟩ : ByteArray)))])) :: (.v (.sl .nonfull (List.map e39 ([(⟨(⟨#[99, 97, 116, 115]⟩ : ByteArray), (⟨#[112, 108]⟩ : ByteArray)⟩ : S39), (⟨(⟨#[99, 97, 116]⟩ : ByteArray), (⟨#[115, 103]⟩ : ByteArray)⟩ : S39)])))) :: (.v (.tuple [(.agg [(eGz v1.1.fRoot)]), (.agg [(vI v1.2.fCode), (vI v1.2.fIndex)])])) :: (.v (.agg [(eGz v1.1.fRoot)])) :: (.v (.agg [(vI v1.2.fCode), (vI v1.2.fIndex)])) :: (.v (.tuple [(vP e44 v2.1), (.agg [(vI v2.2.fCode), (vI v2.2.fIndex)])])) :: (.v (.agg [(eGz v1.1.fRoot)])) :: (.v (.tuple [(vP e44 v2.1), (.agg [(vI v2.2.fCode), (vI v2.2.fIndex)])])) :: (dP e44 v2.1) :: (.v (.agg [(vI v2.2.fCode), (vI v2.2.fIndex)])) :: (.v (.agg [(vI v1.2.fCode), (vI v1.2.fIndex)])) :: (.v (.agg [(vI 0), (vI 0)])) :: (dB true) :: (dB true) :: (.v (.agg [(vI v2.2.fCode), (vI v2.2.fIndex)])) :: (.v (.agg [(vI 0), (vI 0)])) :: (dB (((v2.2.fCode == 0) && ((v2.2.fIndex == 0) && true)))) :: (dB (((v2.2.fCode == 0) && ((v2.2.fIndex == 0) && true)))) :: u7 [], [(.cells [(.v (eGz v1.1.fRoot))]), (.cells [(dI v1.2.fCode), (dI v1.2.fIndex)]), (.cells [(dI v2.2.fCode), (dI v2.2.fIndex)])]⟩ (by kernel_rfl) ?_
      exact J9j10 _ _ _ _ _ h
  exact Ops.st ⟨(dB false) :: (.ptr 0 0) :: (.ptr 1 0) :: (dP e44 v2.1) :: (.ptr 2 0) :: (.v (.tuple [(.agg [(eGz v1.1.fRoot)]), (.agg [(vI v1.2.fCode), (vI v1.2.fIndex)])])) :: (.v (.agg [(.str ((⟨#[99, 97, 116, 115]⟩ : ByteArray))), (.str ((⟨#[112, 108]⟩ : ByteArray)))])) :: (.v (.agg [(.str ((⟨#[99, 97, 116]⟩ : ByteArray))), (.str ((⟨#[115, 103]⟩ : ByteArray)))])) :: (.v (.sl .nonfull (List.map e39 ([(⟨(⟨#[99, 97, 116, 115]⟩ : ByteArray), (⟨#[112, 108]⟩ : ByteArray)⟩ : S39), (⟨(⟨#[99, 97, 116]⟩ : ByteArray), (⟨#[115, 103]⟩ : ByteArray)⟩ : S39)])))) :: (.v (.tuple [(.agg [(eGz v1.1.fRoot)]), (.agg [(vI v1.2.fCode), (vI v1.2.fIndex)])])) :: (.v (.agg [(eGz v1.1.fRoot)])) :: (.v (.agg [(vI v1.2.fCode), (vI v1.2.fIndex)])) :: (.v (.tuple [(vP e44 v2.1), (.agg [(vI v2.2.fCode), (vI v2.2.fIndex)])])) :: (.v (.agg [(eGz v1.1.fRoot)])) :: (.v (.tuple [(vP e44 v2.1), (.agg [(vI v2.2.fCode), (vI v2.2.fIndex)])])) :: (dP e44 v2.1) :: (.v (.agg [(vI v2.2.fCode), (vI v2.2.fIndex)])) :: (.v (.agg [(vI v1.2.fCode), (vI v1.2.fIndex)])) :: (.v (.agg [(vI 0), (vI 0)])) :: (dB ((((v1.2.fCode == 0) && ((v1.2.fIndex == 0) && true))))) :: (dB ((((v1.2.fCode == 0) && ((v1.2.fIndex == 0) && true))))) :: u11 [], [(.cells [(.v (eGz v1.1.fRoot))]), (.cells [(dI v1.2.fCode), (dI v1.2.fIndex)]), (.cells [(dI v2.2.fCode), (dI v2.2.fIndex)])]⟩ (by kernel_rfl) (G9g4 (((v1.2.fCode == 0) && ((v1.2.fIndex == 0) && true))) h)

/-! ### 30 glosswright/glosswrightref5.fault -/
def f30 (m : Nat) (a0 : Int) (a1 : Int) : Option S27 :=
  some ((⟨a0, a1⟩ : S27))
noncomputable abbrev X30 (n : Nat) : Cx := cxOf Proofs.Tryd.prog EG 30 n
noncomputable def C30 : Code := bodyOf Proofs.Tryd.prog 30
theorem ok30 (m : Nat) (a0 : Int) (a1 : Int) (o : S27) (h : f30 m a0 a1 = some o) (n : Nat) (hn : m + 1 ≤ n) : Fn Proofs.Tryd.prog EG n 30 [.v (eI a0), .v (eI a1)] (e27 o) := by
  obtain ⟨n, rfl⟩ : ∃ q, n = q + 1 := ⟨n - 1, by omega⟩
  unfold f30 at h
  refine Fn.of (by kernel_rfl) (by kernel_rfl) (by kernel_rfl) ⟨(dI a0) :: (dI a1) :: u6 [], []⟩ (by kernel_rfl) ?_
  refine Wp.seq' (by kernel_rfl) ?_
  refine Wp.region (by kernel_rfl) ?_
  refine Ops.seg' 1 1 (by kernel_rfl) ?_
  refine Ops.done (by kernel_rfl) ?_
  refine seqQ.n ?_
  refine Wp.seq' (by kernel_rfl) ?_
  refine Wp.region (by kernel_rfl) ?_
  refine Ops.seg' 4 4 (by kernel_rfl) ?_
  refine Ops.done (by kernel_rfl) ?_
  refine seqQ.n ?_
  refine Wp.ret (by kernel_rfl) ?_
  exact fnQ.r' (X30 n) (fun z => (e27 z)) h (RetOk.mk' (.v (.agg [(vI a0), (vI a1)])) (by kernel_rfl) (by kernel_rfl))

/-! ### 40 glosswright/glosswrightref5.Scalar -/
def f40_r1 (m : Nat) (v17 : Bool) : Option Bool :=
  some v17
def f40_r2 (m : Nat) (a0 : Int) (v6 : Bool) : Option Bool :=
  f40_r1 m ((v6 || (((decide (a0 > 57343)) && (decide (a0 ≤ 1114111))))))
def f40 (m : Nat) (a0 : Int) : Option Bool :=
  f40_r2 m a0 (((decide (a0 ≥ 0)) && (decide (a0 < 55296))))
noncomputable abbrev X40 (n : Nat) : Cx := cxOf Proofs.Tryd.prog EG 40 n
noncomputable def C40 : Code := bodyOf Proofs.Tryd.prog 40
theorem ok40 (m : Nat) (a0 : Int) (o : Bool) (h : f40 m a0 = some o) (n : Nat) (hn : m + 1 ≤ n) : Fn Proofs.Tryd.prog EG n 40 [.v (eI a0)] (eB o) := by
  obtain ⟨n, rfl⟩ : ∃ q, n = q + 1 := ⟨n - 1, by omega⟩
  unfold f40 at h
  refine Fn.of (by kernel_rfl) (by kernel_rfl) (by kernel_rfl) ⟨(dI a0) :: u16 [], []⟩ (by kernel_rfl) ?_
  refine Wp.seq' (by kernel_rfl) ?_
  refine Wp.region (by kernel_rfl) ?_
  refine Ops.seg' 1 1 (by kernel_rfl) ?_
  refine Ops.done (by kernel_rfl) ?_
  refine seqQ.n ?_
  refine Wp.seq' (by kernel_rfl) ?_
  refine Wp.region (by kernel_rfl) ?_
  refine Ops.seg' 3 3 (by kernel_rfl) ?_
  have J40j7 : ∀ (d3 d4 : D) (v5 : Bool) (v6 : Bool), f40_r2 m a0 v6 = some o → Ops (X40 n) (opl (cL (cR C40))) 6 ⟨(dI a0) :: u1 ((dB false) :: (dI a0) :: (dB v5) :: (dB v5) :: d3 :: d4 :: (dB v6) :: u8 []), []⟩ ((seqQ (X40 n) (cR (cR C40)) (fnQ (X40 n).E.T (resOf Proofs.Tryd.prog 40) (eB o))) .normal) := by
    intro d3 d4 v5 v6 h
    unfold f40_r2 at h
    refine Ops.seg' 1 7 (by kernel_rfl) ?_
    have J40j18 : ∀ (d10 d11 d12 d13 d14 d15 : D) (v16 : Bool) (v17 : Bool), f40_r1 m v17 = some o → Ops (X40 n) (opl (cL (cR C40))) 14 ⟨(dI a0) :: u1 ((dB false) :: (dI a0) :: (dB v5) :: (dB v5) :: d3 :: d4 :: (dB v16) :: (dB v16) :: d10 :: d11 :: d12 :: d13 :: d14 :: d15 :: (dB v17) :: []), []⟩ ((seqQ (X40 n) (cR (cR C40)) (fnQ (X40 n).E.T (resOf Proofs.Tryd.prog 40) (eB o))) .normal) := by
      intro d10 d11 d12 d13 d14 d15 v16 v17 h
      unfold f40_r1 at h
      refine Ops.seg' 1 15 (by kernel_rfl) ?_
      refine Ops.done (by kernel_rfl) ?_
      refine seqQ.n ?_
      refine Wp.ret (by kernel_rfl) ?_
      exact fnQ.r' (X40 n) (fun z => (eB z)) h (RetOk.mk' (dB v17) (by kernel_rfl) (by kernel_rfl))
    have G40g9 : ∀ v8 : Bool, f40_r1 m ((v8 || (((decide (a0 > 57343)) && (decide (a0 ≤ 1114111)))))) = some o → Ops (X40 n) (opl (cL (cR C40))) 7 ⟨(dI a0) :: u1 ((dB false) :: (dI a0) :: (dB v5) :: (dB v5) :: d3 :: d4 :: (dB v8) :: (dB v8) :: u7 []), []⟩ ((seqQ (X40 n) (cR (cR C40)) (fnQ (X40 n).E.T (resOf Proofs.Tryd.prog 40) (eB o))) .normal) := by
      intro v8 h
      cases v8
      · refine Ops.seg' 3 10 (by kernel_rfl) ?_
        have G40g20 : ∀ v19 : Bool, (f40_r1 m ((false || ((v19 && (decide (a0 ≤ 1114111))))))) = some o → Ops (X40 n) (opl (cL (cR C40))) 10 ⟨(dI a0) :: u1 ((dB false) :: (dI a0) :: (dB v5) :: (dB v5) :: d3 :: d4 :: (dB false) :: (dB false) :: (dI a0) :: (dB v19) :: (dB v19) :: u4 []), []⟩ ((seqQ (X40 n) (cR (cR C40)) (fnQ (X40 n).E.T (resOf Proofs.Tryd.prog 40) (eB o))) .normal) := by
          intro v19 h
          cases v19
          · refine Ops.seg' 4 14 (by kernel_rfl) ?_
            refine Ops.st ⟨(dI a0) :: u1 ((dB false) :: (dI a0) :: (dB v5) :: (dB v5) :: d3 :: d4 :: (dB false) :: (dB false) :: (dI a0) :: (dB false) :: (dB false) :: u2 ((dB false) :: (dB false) :: [])), []⟩ (by kernel_rfl) ?_
            exact J40j18 _ _ _ _ _ _ _ _ h
          · refine Ops.seg' 4 14 (by kernel_rfl) ?_
            refine Ops.st ⟨(dI a0) :: u1 ((dB false) :: (dI a0) :: (dB v5) :: (dB v5) :: d3 :: d4 :: (dB false) :: (dB false) :: (dI a0) :: (dB true) :: (dB true) :: (dI a0) :: (dB (decide (a0 ≤ 1114111))) :: (dB (decide (a0 ≤ 1114111))) :: (dB (decide (a0 ≤ 1114111))) :: []), []⟩ (by kernel_rfl) ?_
            exact J40j18 _ _ _ _ _ _ _ _ h
        exact Ops.st ⟨(dI a0) :: u1 ((dB false) :: (dI a0) :: (dB v5) :: (dB v5) :: d3 :: d4 :: (dB false) :: (dB false) :: (dI a0) :: (dB ((decide (a0 > 57343)))) :: (dB ((decide (a0 > 57343)))) :: u4 []), []⟩ (by kernel_rfl) (G40g20 (decide (a0 > 57343)) h)
      · refine Ops.seg' 7 14 (by kernel_rfl) ?_
        refine Ops.st ⟨(dI a0) :: u1 ((dB false) :: (dI a0) :: (dB v5) :: (dB v5) :: d3 :: d4 :: (dB true) :: (dB true) :: u6 ((dB true) :: [])), []⟩ (by kernel_rfl) ?_
        exact J40j18 _ _ _ _ _ _ _ _ h
    exact Ops.st ⟨(dI a0) :: u1 ((dB false) :: (dI a0) :: (dB v5) :: (dB v5) :: d3 :: d4 :: (dB v6) :: (dB v6) :: u7 []), []⟩ (by kernel_rfl) (G40g9 v6 h)
  have G40g2 : ∀ v1 : Bool, f40_r2 m a0 ((v1 && (decide (a0 < 55296)))) = some o → Ops (X40 n) (opl (cL (cR C40))) 3 ⟨(dI a0) :: u1 ((dB false) :: (dI a0) :: (dB v1) :: (dB v1) :: u11 []), []⟩ ((seqQ (X40 n) (cR (cR C40)) (fnQ (X40 n).E.T (resOf Proofs.Tryd.prog 40) (eB o))) .normal) := by
    intro v1 h
    cases v1
    · refine Ops.seg' 3 6 (by kernel_rfl) ?_
      refine Ops.st ⟨(dI a0) :: u1 ((dB false) :: (dI a0) :: (dB false) :: (dB false) :: u2 ((dB false) :: u8 [])), []⟩ (by kernel_rfl) ?_
      exact J40j7 _ _ _ _ h
    · refine Ops.seg' 3 6 (by kernel_rfl) ?_
      refine Ops.st ⟨(dI a0) :: u1 ((dB false) :: (dI a0) :: (dB true) :: (dB true) :: (dI a0) :: (dB (decide (a0 < 55296))) :: (dB (decide (a0 < 55296))) :: u8 []), []⟩ (by kernel_rfl) ?_
      exact J40j7 _ _ _ _ h
  exact Ops.st ⟨(dI a0) :: u1 ((dB false) :: (dI a0) :: (dB ((decide (a0 ≥ 0)))) :: (dB ((decide (a0 ≥ 0)))) :: u11 []), []⟩ (by kernel_rfl) (G40g2 (decide (a0 ≥ 0)) h)

/-! ### 32 glosswright/glosswrightref5.Width -/
def f32 (m : Nat) (a0 : Int) : Option Int :=
  cnd (decide (a0 < 128))
  (some 1)
  (cnd (decide (a0 < 2048))
  (some 2)
  (cnd (decide (a0 < 65536))
  (some 3)
  (some 4)))
noncomputable abbrev X32 (n : Nat) : Cx := cxOf Proofs.Tryd.prog EG 32 n
noncomputable def C32 : Code := bodyOf Proofs.Tryd.prog 32
theorem ok32 (m : Nat) (a0 : Int) (o : Int) (h : f32 m a0 = some o) (n : Nat) (hn : m + 1 ≤ n) : Fn Proofs.Tryd.prog EG n 32 [.v (eI a0)] (eI o) := by
  obtain ⟨n, rfl⟩ : ∃ q, n = q + 1 := ⟨n - 1, by omega⟩
  unfold f32 at h
  refine Fn.of (by kernel_rfl) (by kernel_rfl) (by kernel_rfl) ⟨(dI a0) :: u8 [], []⟩ (by kernel_rfl) ?_
  refine Wp.seq' (by kernel_rfl) ?_
  refine Wp.region (by kernel_rfl) ?_
  refine Ops.seg' 1 1 (by kernel_rfl) ?_
  refine Ops.done (by kernel_rfl) ?_
  refine seqQ.n ?_
  refine Wp.seq' (by kernel_rfl) ?_
  refine Wp.seq' (by kernel_rfl) ?_
  refine Wp.region (by kernel_rfl) ?_
  refine Ops.seg' 2 2 (by kernel_rfl) ?_
  refine Ops.done (by kernel_rfl) ?_
  refine seqQ.n ?_
  refine Wp.cnd h [0, 2] 0 (by kernel_rfl) (fun h => ?_) (fun h => ?_)
  · refine Wp.seq' (by kernel_rfl) ?_
    refine Wp.region (by kernel_rfl) ?_
    refine Ops.seg' 1 1 (by kernel_rfl) ?_
    refine Ops.done (by kernel_rfl) ?_
    refine seqQ.n ?_
    refine Wp.ret (by kernel_rfl) ?_
    refine sqQ.r ?_
    refine seqQ.r ?_
    exact fnQ.r' (X32 n) (fun z => (eI z)) h (RetOk.mk' (dI 1) (by kernel_rfl) (by kernel_rfl))
  · refine Wp.skip (by kernel_rfl) ?_
    refine sqQ.n' ?_
    refine seqQ.n ?_
    refine Wp.seq' (by kernel_rfl) ?_
    refine Wp.seq' (by kernel_rfl) ?_
    refine Wp.region (by kernel_rfl) ?_
    refine Ops.seg' 2 2 (by kernel_rfl) ?_
    refine Ops.done (by kernel_rfl) ?_
    refine seqQ.n ?_
    refine Wp.cnd h [0, 2] 0 (by kernel_rfl) (fun h => ?_) (fun h => ?_)
    · refine Wp.seq' (by kernel_rfl) ?_
      refine Wp.region (by kernel_rfl) ?_
      refine Ops.seg' 1 1 (by kernel_rfl) ?_
      refine Ops.done (by kernel_rfl) ?_
      refine seqQ.n ?_
      refine Wp.ret (by kernel_rfl) ?_
      refine sqQ.r ?_
      refine seqQ.r ?_
      exact fnQ.r' (X32 n) (fun z => (eI z)) h (RetOk.mk' (dI 2) (by kernel_rfl) (by kernel_rfl))
    · refine Wp.skip (by kernel_rfl) ?_
      refine sqQ.n' ?_
      refine seqQ.n ?_
      refine Wp.seq' (by kernel_rfl) ?_
      refine Wp.seq' (by kernel_rfl) ?_
      refine Wp.region (by kernel_rfl) ?_
      refine Ops.seg' 2 2 (by kernel_rfl) ?_
      refine Ops.done (by kernel_rfl) ?_
      refine seqQ.n ?_
      refine Wp.cnd h [2] 0 (by kernel_rfl) (fun h => ?_) (fun h => ?_)
      · refine Wp.seq' (by kernel_rfl) ?_
        refine Wp.region (by kernel_rfl) ?_
        refine Ops.seg' 1 1 (by kernel_rfl) ?_
        refine Ops.done (by kernel_rfl) ?_
        refine seqQ.n ?_
        refine Wp.ret (by kernel_rfl) ?_
        refine sqQ.r ?_
        refine seqQ.r ?_
        exact fnQ.r' (X32 n) (fun z => (eI z)) h (RetOk.mk' (dI 3) (by kernel_rfl) (by kernel_rfl))
      · refine Wp.skip (by kernel_rfl) ?_
        refine sqQ.n' ?_
        refine seqQ.n ?_
        refine Wp.seq' (by kernel_rfl) ?_
        refine Wp.region (by kernel_rfl) ?_
        refine Ops.seg' 1 1 (by kernel_rfl) ?_
        refine Ops.done (by kernel_rfl) ?_
        refine seqQ.n ?_
        refine Wp.ret (by kernel_rfl) ?_
        exact fnQ.r' (X32 n) (fun z => (eI z)) h (RetOk.mk' (dI 4) (by kernel_rfl) (by kernel_rfl))

/-! ### 31 glosswright/glosswrightref5.one -/
def f31_r1 (m : Nat) (v35 : Int) (v36 : Int) (v46 : Int) (v52 : Bool) : Option (Stp Int (Int × Int)) :=
  cnd v52
  (some (.ret ((-1))))
  (some (.nxt (w64 (w64 (w64 (v35 * 64) + w64 v46) - 128), w64 (v36 + 1))))
def f31_B2 (m : Nat) (a0 : ByteArray) (a1 : Int) (v2 : Int) (v35 : Int) (v36 : Int) : Option (Stp Int (Int × Int)) :=
  cnd (decide (v36 < v2))
  (bnd (sidx a0 (w64 (a1 + v36))) fun v46 =>
  f31_r1 m v35 v36 v46 (((decide (w64 v46 < 128)) || (decide (w64 v46 > 191)))))
  (some (.brk (v35, v36)))
def f31_r3 (m : Nat) (y55 : Int × Int) (v65 : Bool) : Option Int :=
  cnd v65
  (some ((-1)))
  (some y55.1)
def f31_j4 (m : Nat) (a0 : ByteArray) (a1 : Int) (v2 : Int) (v3 : Int) : Option Int :=
  cnd (decide (w64 (a1 + v2) > (a0.size : Int)))
  (some ((-1)))
  (brk (iter (fun (y : Int × Int) => f31_B2 m a0 a1 v2 y.1 y.2) m (v3, 1)) some fun y55 =>
  bnd (f40 m y55.1) fun v57 =>
  bnd (cnd (!v57)
  (some true)
  (bnd (f32 m y55.1) fun v67 =>
  some (v67 != v2))) fun v65 =>
  f31_r3 m y55 v65)
def f31_j5 (m : Nat) (a0 : ByteArray) (a1 : Int) (v68 : Int) (v69 : Int) : Option Int :=
  f31_j4 m a0 a1 v68 v69
def f31_j6 (m : Nat) (a0 : ByteArray) (a1 : Int) (v79 : Int) (v80 : Int) : Option Int :=
  f31_j5 m a0 a1 v79 v80
def f31 (m : Nat) (a0 : ByteArray) (a1 : Int) : Option Int :=
  bnd (sidx a0 a1) fun v1 =>
  cnd (decide (w64 v1 ≥ 240))
  (f31_j4 m a0 a1 4 (w64 (w64 v1 - 240)))
  (cnd (decide (w64 v1 ≥ 224))
  (f31_j5 m a0 a1 3 (w64 (w64 v1 - 224)))
  (cnd (decide (w64 v1 ≥ 192))
  (f31_j6 m a0 a1 2 (w64 (w64 v1 - 192)))
  (cnd (decide (w64 v1 ≥ 128))
  (some ((-1)))
  (f31_j6 m a0 a1 1 (w64 v1)))))
noncomputable abbrev X31 (n : Nat) : Cx := cxOf Proofs.Tryd.prog EG 31 n
noncomputable def C31 : Code := bodyOf Proofs.Tryd.prog 31
theorem ok31 (m : Nat) (a0 : ByteArray) (a1 : Int) (o : Int) (h : f31 m a0 a1 = some o) (n : Nat) (hn : m + 2 ≤ n) : Fn Proofs.Tryd.prog EG n 31 [.v (eS a0), .v (eI a1)] (eI o) := by
  obtain ⟨n, rfl⟩ : ∃ q, n = q + 1 := ⟨n - 1, by omega⟩
  unfold f31 at h
  refine Fn.of (by kernel_rfl) (by kernel_rfl) (by kernel_rfl) ⟨(.v (.str a0)) :: (dI a1) :: u40 (u25 []), []⟩ (by kernel_rfl) ?_
  refine Wp.seq' (by kernel_rfl) ?_
  refine Wp.region (by kernel_rfl) ?_
  refine Ops.seg' 1 1 (by kernel_rfl) ?_
  refine Ops.done (by kernel_rfl) ?_
  refine seqQ.n ?_
  refine Wp.seq' (by kernel_rfl) ?_
  refine Wp.region (by kernel_rfl) ?_
  refine Ops.seg' 2 2 (by kernel_rfl) ?_
  obtain ⟨v1, ev1, h⟩ := bnd_some h
  refine Ops.one' 3 (fun h0 e0 => (str_ix (T := T) h0 9 a0 a1 v1 ev1 (by kernel_rfl))) (by kernel_rfl) (by kernel_rfl) ?_
  refine Ops.seg' 2 5 (by kernel_rfl) ?_
  refine Ops.done (by kernel_rfl) ?_
  refine seqQ.n ?_
  refine Wp.seq' (by kernel_rfl) ?_
  refine Wp.region (by kernel_rfl) ?_
  refine Ops.seg' 1 1 (by kernel_rfl) ?_
  refine Ops.done (by kernel_rfl) ?_
  refine seqQ.n ?_
  refine Wp.seq' (by kernel_rfl) ?_
  refine Wp.region (by kernel_rfl) ?_
  refine Ops.seg' 2 2 (by kernel_rfl) ?_
  refine Ops.done (by kernel_rfl) ?_
  refine seqQ.n ?_
  refine Wp.seq' (by kernel_rfl) ?_
  refine Wp.seq' (by kernel_rfl) ?_
  refine Wp.region (by kernel_rfl) ?_
  refine Ops.seg' 2 2 (by kernel_rfl) ?_
  refine Ops.done (by kernel_rfl) ?_
  refine seqQ.n ?_
  have J31j16 : ∀ (v2 : Int) (v3 : Int) (d4 : D) (d5 : D) (d6 : D) (d7 : D) (d8 : D) (d9 : D) (d10 : D) (d11 : D) (d12 : D) (d13 : D) (d14 : D) (d15 : D), f31_j4 m a0 a1 v2 v3 = some o → (seqQ (X31 n) (cR (cR (cR (cR (cR C31))))) (fnQ (X31 n).E.T (resOf Proofs.Tryd.prog 31) (eI o))) .normal ⟨(.v (.str a0)) :: (dI a1) :: u2 ((dI 0) :: (dI (w64 v1)) :: (dI v2) :: (dI v3) :: u2 ((.v (.str a0)) :: (dI a1) :: (.v (.int .u8 v1)) :: (dI (w64 v1)) :: (dI (w64 v1)) :: (dI (w64 v1)) :: (dB (decide (w64 v1 ≥ 240))) :: d4 :: d5 :: d6 :: d7 :: d8 :: d9 :: d10 :: d11 :: d12 :: d13 :: d14 :: d15 :: u38 [])), []⟩ := by
    intro v2 v3 d4 d5 d6 d7 d8 d9 d10 d11 d12 d13 d14 d15 h
    unfold f31_j4 at h
    refine seqQ.n ?_
    refine Wp.seq' (by kernel_rfl) ?_
    refine Wp.seq' (by kernel_rfl) ?_
    refine Wp.region (by kernel_rfl) ?_
    refine Ops.seg' 6 6 (by kernel_rfl) ?_
    refine Ops.done (by kernel_rfl) ?_
    refine seqQ.n ?_
    refine Wp.cnd h [0, 1, 4, 6, 7] 0 (by kernel_rfl) (fun h => ?_) (fun h => ?_)
    · refine Wp.seq' (by kernel_rfl) ?_
      refine Wp.region (by kernel_rfl) ?_
      refine Ops.seg' 1 1 (by kernel_rfl) ?_
      refine Ops.done (by kernel_rfl) ?_
      refine seqQ.n ?_
      refine Wp.ret (by kernel_rfl) ?_
      refine sqQ.r ?_
      refine seqQ.r ?_
      exact fnQ.r' (X31 n) (fun z => (eI z)) h (RetOk.mk' (dI ((-1))) (by kernel_rfl) (by kernel_rfl))
    · refine Wp.skip (by kernel_rfl) ?_
      refine sqQ.n' ?_
      refine seqQ.n ?_
      refine Wp.seq' (by kernel_rfl) ?_
      refine Wp.seq' (by kernel_rfl) ?_
      refine Wp.region (by kernel_rfl) ?_
      refine Ops.seg' 1 1 (by kernel_rfl) ?_
      refine Ops.done (by kernel_rfl) ?_
      refine seqQ.n ?_
      refine Wp.block' 0 [4, 6, 7] 0 (by kernel_rfl) ?_
      have hLx54 : ∀ (kx38 : Nat) (v35 : Int) (v36 : Int)  (ox37 : Int ⊕ (Int × Int)), iter (fun (y : Int × Int) => f31_B2 m a0 a1 v2 y.1 y.2) kx38 (v35, v36) = some ox37 → ∀ nx39, kx38 ≤ nx39 → (∀ r, ox37 = .inl r → ∀ σ, RetOk (X31 n) (resOf Proofs.Tryd.prog 31) (eI r) σ → (seqQ (X31 n) (cR (cR (cR (cR (cR (cR (cR C31))))))) (fnQ (X31 n).E.T (resOf Proofs.Tryd.prog 31) (eI o))) .ret σ) → (∀ (y : Int × Int) , ox37 = .inr y → (seqQ (X31 n) (cR (cR (cR (cR (cR (cR (cR C31))))))) (fnQ (X31 n).E.T (resOf Proofs.Tryd.prog 31) (eI o))) .normal ⟨(.v (.str a0)) :: (dI a1) :: q2 ((dI 0) :: q1 ((dI v2) :: (dI y.1) :: (dI y.2) :: q40 (q18 []))), []⟩) → Lp (X31 n) [0, 1, 4, 6, 7, 8] 0 (cL (cL (cR (cL (cR (cR (cR (cR (cR (cR C31)))))))))) nx39 ⟨(.v (.str a0)) :: (dI a1) :: q2 ((dI 0) :: q1 ((dI v2) :: (dI v35) :: (dI v36) :: q40 (q18 []))), []⟩ (blkQ (X31 n) 0 [4, 6, 7] 0 (seqQ (X31 n) (cR (cR (cR (cR (cR (cR (cR C31))))))) (fnQ (X31 n).E.T (resOf Proofs.Tryd.prog 31) (eI o)))) := by
        intro kx38
        induction kx38 with
        | zero => intro v35 v36  ox37 h; exact (iter_zero h).elim
        | succ kx38 ihx40 =>
          intro v35 v36  ox37 h nx39 hnx43 hrx41 hxx42
          obtain ⟨nx39, rfl⟩ : ∃ q, nx39 = q + 1 := ⟨nx39 - 1, by omega⟩
          obtain ⟨sx44, h, hsx45⟩ := iter_some h
          have h : f31_B2 m a0 a1 v2 v35 v36 = some sx44 := h
          unfold f31_B2 at h
          refine Lp.succ ?_
          refine Wp.seq' (by kernel_rfl) ?_
          refine Wp.seq' (by kernel_rfl) ?_
          refine Wp.region (by kernel_rfl) ?_
          refine Ops.seg' 3 3 (by kernel_rfl) ?_
          refine Ops.done (by kernel_rfl) ?_
          refine seqQ.n ?_
          refine Wp.cnd h [0, 1, 4, 6, 7, 8] 0 (by kernel_rfl) (fun h => ?_) (fun h => ?_)
          · refine Wp.skip (by kernel_rfl) ?_
            refine sqQ.n' ?_
            refine seqQ.n ?_
            refine Wp.seq' (by kernel_rfl) ?_
            refine Wp.block' 1 [0, 1, 4, 6, 7, 8] 0 (by kernel_rfl) ?_
            refine Wp.seq' (by kernel_rfl) ?_
            refine Wp.region (by kernel_rfl) ?_
            refine Ops.seg' 4 4 (by kernel_rfl) ?_
            obtain ⟨v46, ev46, h⟩ := bnd_some h
            refine Ops.one' 5 (fun h0 e0 => (str_ix (T := T) h0 9 a0 (w64 (a1 + v36)) v46 ev46 (by kernel_rfl))) (by kernel_rfl) (by kernel_rfl) ?_
            refine Ops.seg' 2 7 (by kernel_rfl) ?_
            refine Ops.done (by kernel_rfl) ?_
            refine seqQ.n ?_
            refine Wp.seq' (by kernel_rfl) ?_
            refine Wp.seq' (by kernel_rfl) ?_
            refine Wp.region (by kernel_rfl) ?_
            refine Ops.seg' 3 3 (by kernel_rfl) ?_
            have J31j53 : ∀ (d49 d50 : D) (v51 : Bool) (v52 : Bool), f31_r1 m v35 v36 v46 v52 = some sx44 → Ops (X31 n) (opl (cL (cL (cR (cL (cL (cR (cL (cL (cR (cL (cR (cR (cR (cR (cR (cR C31))))))))))))))))) 6 ⟨(.v (.str a0)) :: (dI a1) :: q2 ((dI 0) :: q1 ((dI v2) :: (dI v35) :: (dI v36) :: (dI (w64 v46)) :: q25 ((dI v36) :: (dI v2) :: (dB (decide (v36 < v2))) :: q2 ((.v (.str a0)) :: (dI a1) :: (dI v36) :: (dI (w64 (a1 + v36))) :: (.v (.int .u8 v46)) :: (dI (w64 v46)) :: (dI (w64 v46)) :: (dB v51) :: (dB v51) :: d49 :: d50 :: (dB v52) :: q15 [])))), []⟩ ((seqQ (X31 n) (cR (cL (cR (cL (cL (cR (cL (cL (cR (cL (cR (cR (cR (cR (cR (cR C31)))))))))))))))) (seqQ (X31 n) (cR (cR (cL (cL (cR (cL (cL (cR (cL (cR (cR (cR (cR (cR (cR C31))))))))))))))) (blkQ (X31 n) 1 [0, 1, 4, 6, 7, 8] 0 (seqQ (X31 n) (cR (cR (cL (cL (cR (cL (cR (cR (cR (cR (cR (cR C31)))))))))))) (lpQ (X31 n) [0, 1, 4, 6, 7, 8] 0 (cL (cL (cR (cL (cR (cR (cR (cR (cR (cR C31)))))))))) nx39 (blkQ (X31 n) 0 [4, 6, 7] 0 (seqQ (X31 n) (cR (cR (cR (cR (cR (cR (cR C31))))))) (fnQ (X31 n).E.T (resOf Proofs.Tryd.prog 31) (eI o))))))))) .normal) := by
              intro d49 d50 v51 v52 h
              unfold f31_r1 at h
              refine Ops.done (by kernel_rfl) ?_
              refine seqQ.n ?_
              refine Wp.cnd h [0, 1, 4, 6, 7, 8, 9] 0 (by kernel_rfl) (fun h => ?_) (fun h => ?_)
              · refine Wp.seq' (by kernel_rfl) ?_
                refine Wp.region (by kernel_rfl) ?_
                refine Ops.seg' 1 1 (by kernel_rfl) ?_
                refine Ops.done (by kernel_rfl) ?_
                refine seqQ.n ?_
                refine Wp.ret (by kernel_rfl) ?_
                refine sqQ.r ?_
                refine seqQ.r ?_
                refine blkQ.r ?_
                refine seqQ.r ?_
                cases h
                refine lpQ.r ?_
                refine blkQ.r ?_
                exact hrx41 _ hsx45 _ (RetOk.forget [0, 1, 4, 6, 7, 8] (by kernel_rfl) (RetOk.mk' (dI ((-1))) (by kernel_rfl) (by kernel_rfl)))
              · refine Wp.skip (by kernel_rfl) ?_
                refine sqQ.n' ?_
                refine seqQ.n ?_
                refine Wp.region (by kernel_rfl) ?_
                refine Ops.seg' 6 6 (by kernel_rfl) ?_
                refine Ops.done (by kernel_rfl) ?_
                refine blkQ.n' ?_
                refine seqQ.n ?_
                refine Wp.region (by kernel_rfl) ?_
                refine Ops.seg' 3 3 (by kernel_rfl) ?_
                refine Ops.done (by kernel_rfl) ?_
                refine lpQ.n ⟨(.v (.str a0)) :: (dI a1) :: q2 ((dI 0) :: q1 ((dI v2) :: (dI (w64 (w64 (w64 (v35 * 64) + w64 v46) - 128))) :: (dI (w64 (v36 + 1))) :: q40 (q18 []))), []⟩ (by kernel_rfl) ?_
                cases h
                exact ihx40 (w64 (w64 (w64 (v35 * 64) + w64 v46) - 128)) (w64 (v36 + 1))  _ hsx45 _ (by omega) hrx41 hxx42
            have G31g48 : ∀ v47 : Bool, f31_r1 m v35 v36 v46 ((v47 || (decide (w64 v46 > 191)))) = some sx44 → Ops (X31 n) (opl (cL (cL (cR (cL (cL (cR (cL (cL (cR (cL (cR (cR (cR (cR (cR (cR C31))))))))))))))))) 3 ⟨(.v (.str a0)) :: (dI a1) :: q2 ((dI 0) :: q1 ((dI v2) :: (dI v35) :: (dI v36) :: (dI (w64 v46)) :: q25 ((dI v36) :: (dI v2) :: (dB (decide (v36 < v2))) :: q2 ((.v (.str a0)) :: (dI a1) :: (dI v36) :: (dI (w64 (a1 + v36))) :: (.v (.int .u8 v46)) :: (dI (w64 v46)) :: (dI (w64 v46)) :: (dB v47) :: (dB v47) :: q18 [])))), []⟩ ((seqQ (X31 n) (cR (cL (cR (cL (cL (cR (cL (cL (cR (cL (cR (cR (cR (cR (cR (cR C31)))))))))))))))) (seqQ (X31 n) (cR (cR (cL (cL (cR (cL (cL (cR (cL (cR (cR (cR (cR (cR (cR C31))))))))))))))) (blkQ (X31 n) 1 [0, 1, 4, 6, 7, 8] 0 (seqQ (X31 n) (cR (cR (cL (cL (cR (cL (cR (cR (cR (cR (cR (cR C31)))))))))))) (lpQ (X31 n) [0, 1, 4, 6, 7, 8] 0 (cL (cL (cR (cL (cR (cR (cR (cR (cR (cR C31)))))))))) nx39 (blkQ (X31 n) 0 [4, 6, 7] 0 (seqQ (X31 n) (cR (cR (cR (cR (cR (cR (cR C31))))))) (fnQ (X31 n).E.T (resOf Proofs.Tryd.prog 31) (eI o))))))))) .normal) := by
              intro v47 h
              cases v47
              · refine Ops.seg' 3 6 (by kernel_rfl) ?_
                refine Ops.st ⟨(.v (.str a0)) :: (dI a1) :: q2 ((dI 0) :: q1 ((dI v2) :: (dI v35) :: (dI v36) :: (dI (w64 v46)) :: q25 ((dI v36) :: (dI v2) :: (dB (decide (v36 < v2))) :: q2 ((.v (.str a0)) :: (dI a1) :: (dI v36) :: (dI (w64 (a1 + v36))) :: (.v (.int .u8 v46)) :: (dI (w64 v46)) :: (dI (w64 v46)) :: (dB false) :: (dB false) :: (dI (w64 v46)) :: (dB (decide (w64 v46 > 191))) :: (dB (decide (w64 v46 > 191))) :: q15 [])))), []⟩ (by kernel_rfl) ?_
                exact J31j53 _ _ _ _ h
              · refine Ops.seg' 3 6 (by kernel_rfl) ?_
                refine Ops.st ⟨(.v (.str a0)) :: (dI a1) :: q2 ((dI 0) :: q1 ((dI v2) :: (dI v35) :: (dI v36) :: (dI (w64 v46)) :: q25 ((dI v36) :: (dI v2) :: (dB (decide (v36 < v2))) :: q2 ((.v (.str a0)) :: (dI a1) :: (dI v36) :: (dI (w64 (a1 + v36))) :: (.v (.int .u8 v46)) :: (dI (w64 v46)) :: (dI (w64 v46)) :: (dB true) :: (dB true) :: u2 ((dB true) :: q15 []))))), []⟩ (by kernel_rfl) ?_
                exact J31j53 _ _ _ _ h
            exact Ops.st ⟨(.v (.str a0)) :: (dI a1) :: q2 ((dI 0) :: q1 ((dI v2) :: (dI v35) :: (dI v36) :: (dI (w64 v46)) :: q25 ((dI v36) :: (dI v2) :: (dB (decide (v36 < v2))) :: q2 ((.v (.str a0)) :: (dI a1) :: (dI v36) :: (dI (w64 (a1 + v36))) :: (.v (.int .u8 v46)) :: (dI (w64 v46)) :: (dI (w64 v46)) :: (dB ((decide (w64 v46 < 128)))) :: (dB ((decide (w64 v46 < 128)))) :: q18 [])))), []⟩ (by kernel_rfl) (G31g48 (decide (w64 v46 < 128)) h)
          · refine Wp.exit (id := 0) (by kernel_rfl) ?_
            refine sqQ.x ?_
            refine seqQ.x ?_
            cases h
            refine lpQ.x ?_
            refine blkQ.x ⟨(.v (.str a0)) :: (dI a1) :: q2 ((dI 0) :: q1 ((dI v2) :: (dI v35) :: (dI v36) :: q40 (q18 []))), []⟩ (by kernel_rfl) ?_
            exact hxx42 (v35, v36)  hsx45
      refine Wp.loop' [0, 1, 4, 6, 7, 8] 0 (by kernel_rfl) ⟨(.v (.str a0)) :: (dI a1) :: q2 ((dI 0) :: q1 ((dI v2) :: (dI v3) :: (dI 1) :: q40 (q18 []))), []⟩ (by kernel_rfl) ?_
      rcases brk_some h with ⟨r56, er56, h⟩ | ⟨y55, ey55, h⟩
      · refine hLx54 _ v3 1  _ er56 n (by omega) (fun r er σ hσ => ?_) (fun y  ey => by cases ey)
        cases er
        refine seqQ.r ?_
        exact fnQ.r' (X31 n) (fun z => (eI z)) h hσ
      · refine hLx54 _ v3 1  _ ey55 n (by omega) (fun r er => by cases er) (fun y  ey => ?_)
        cases ey
        refine seqQ.n ?_
        refine Wp.seq' (by kernel_rfl) ?_
        refine Wp.seq' (by kernel_rfl) ?_
        refine Wp.region (by kernel_rfl) ?_
        refine Ops.seg' 1 1 (by kernel_rfl) ?_
        obtain ⟨v57, ev57, h⟩ := bnd_some h
        refine Ops.one' 2 (fun h0 e0 => (call_ok (E' := EG) (h := h0) (by kernel_rfl) (Args.v (vI y55.1) (eI y55.1) (by kernel_rfl) Args.nil) (ok40 m y55.1 v57 ev57 n (by omega)))) (by kernel_rfl) (by kernel_rfl) ?_
        refine Ops.seg' 2 4 (by kernel_rfl) ?_
        have J31j66 : ∀ (d60 d61 d62 d63 : D) (v64 : Bool) (v65 : Bool), f31_r3 m y55 v65 = some o → Ops (X31 n) (opl (cL (cL (cR (cR (cR (cR (cR (cR (cR C31)))))))))) 9 ⟨(.v (.str a0)) :: (dI a1) :: q2 ((dI 0) :: q1 ((dI v2) :: (dI y55.1) :: (dI y55.2) :: q40 (q8 ((dI y55.1) :: (dB v57) :: (dB v64) :: (dB v64) :: d60 :: d61 :: d62 :: d63 :: (dB v65) :: q1 [])))), []⟩ ((seqQ (X31 n) (cR (cL (cR (cR (cR (cR (cR (cR (cR C31))))))))) (seqQ (X31 n) (cR (cR (cR (cR (cR (cR (cR (cR C31)))))))) (fnQ (X31 n).E.T (resOf Proofs.Tryd.prog 31) (eI o)))) .normal) := by
          intro d60 d61 d62 d63 v64 v65 h
          unfold f31_r3 at h
          refine Ops.done (by kernel_rfl) ?_
          refine seqQ.n ?_
          refine Wp.cnd h [4, 7] 0 (by kernel_rfl) (fun h => ?_) (fun h => ?_)
          · refine Wp.seq' (by kernel_rfl) ?_
            refine Wp.region (by kernel_rfl) ?_
            refine Ops.seg' 1 1 (by kernel_rfl) ?_
            refine Ops.done (by kernel_rfl) ?_
            refine seqQ.n ?_
            refine Wp.ret (by kernel_rfl) ?_
            refine sqQ.r ?_
            refine seqQ.r ?_
            exact fnQ.r' (X31 n) (fun z => (eI z)) h (RetOk.mk' (dI ((-1))) (by kernel_rfl) (by kernel_rfl))
          · refine Wp.skip (by kernel_rfl) ?_
            refine sqQ.n' ?_
            refine seqQ.n ?_
            refine Wp.seq' (by kernel_rfl) ?_
            refine Wp.region (by kernel_rfl) ?_
            refine Ops.seg' 2 2 (by kernel_rfl) ?_
            refine Ops.done (by kernel_rfl) ?_
            refine seqQ.n ?_
            refine Wp.ret (by kernel_rfl) ?_
            exact fnQ.r' (X31 n) (fun z => (eI z)) h (RetOk.mk' (dI y55.1) (by kernel_rfl) (by kernel_rfl))
        obtain ⟨v65, ev65, h⟩ := bnd_some h
        have G31g59 : ∀ v58 : Bool, (cnd v58 (some true) (bnd (f32 m y55.1) fun v67 => some (v67 != v2))) = some v65 → Ops (X31 n) (opl (cL (cL (cR (cR (cR (cR (cR (cR (cR C31)))))))))) 4 ⟨(.v (.str a0)) :: (dI a1) :: q2 ((dI 0) :: q1 ((dI v2) :: (dI y55.1) :: (dI y55.2) :: q40 (q8 ((dI y55.1) :: (dB v57) :: (dB v58) :: (dB v58) :: q6 [])))), []⟩ ((seqQ (X31 n) (cR (cL (cR (cR (cR (cR (cR (cR (cR C31))))))))) (seqQ (X31 n) (cR (cR (cR (cR (cR (cR (cR (cR C31)))))))) (fnQ (X31 n).E.T (resOf Proofs.Tryd.prog 31) (eI o)))) .normal) := by
          intro v58 ev65
          cases v58
          · have ev65 := cnd_f ev65
            refine Ops.seg' 1 5 (by kernel_rfl) ?_
            obtain ⟨v67, ev67, ev65⟩ := bnd_some ev65
            refine Ops.one' 6 (fun h0 e0 => (call_ok (E' := EG) (h := h0) (by kernel_rfl) (Args.v (vI y55.1) (eI y55.1) (by kernel_rfl) Args.nil) (ok32 m y55.1 v67 ev67 n (by omega)))) (by kernel_rfl) (by kernel_rfl) ?_
            refine Ops.seg' 3 9 (by kernel_rfl) ?_
            refine Ops.st ⟨(.v (.str a0)) :: (dI a1) :: q2 ((dI 0) :: q1 ((dI v2) :: (dI y55.1) :: (dI y55.2) :: q40 (q8 ((dI y55.1) :: (dB v57) :: (dB false) :: (dB false) :: (dI y55.1) :: (dI v67) :: (dI v2) :: (dB (v67 != v2)) :: (dB (v67 != v2)) :: q1 [])))), []⟩ (by kernel_rfl) ?_
            exact J31j66 _ _ _ _ _ _ (some_sub (fun v65 => f31_r3 m y55 v65 = some o) ev65 h)
          · have ev65 := cnd_t ev65
            refine Ops.seg' 5 9 (by kernel_rfl) ?_
            refine Ops.st ⟨(.v (.str a0)) :: (dI a1) :: q2 ((dI 0) :: q1 ((dI v2) :: (dI y55.1) :: (dI y55.2) :: q40 (q8 ((dI y55.1) :: (dB v57) :: (dB true) :: (dB true) :: u4 ((dB true) :: q1 []))))), []⟩ (by kernel_rfl) ?_
            exact J31j66 _ _ _ _ _ _ (some_sub (fun v65 => f31_r3 m y55 v65 = some o) ev65 h)
        exact Ops.st ⟨(.v (.str a0)) :: (dI a1) :: q2 ((dI 0) :: q1 ((dI v2) :: (dI y55.1) :: (dI y55.2) :: q40 (q8 ((dI y55.1) :: (dB v57) :: (dB ((!v57))) :: (dB ((!v57))) :: q6 [])))), []⟩ (by kernel_rfl) (G31g59 (!v57) ev65)
  refine Wp.cnd h [0, 1, 4, 6, 7] 0 (by kernel_rfl) (fun h => ?_) (fun h => ?_)
  · refine Wp.seq' (by kernel_rfl) ?_
    refine Wp.region (by kernel_rfl) ?_
    refine Ops.seg' 1 1 (by kernel_rfl) ?_
    refine Ops.done (by kernel_rfl) ?_
    refine seqQ.n ?_
    refine Wp.region (by kernel_rfl) ?_
    refine Ops.seg' 3 3 (by kernel_rfl) ?_
    refine Ops.done (by kernel_rfl) ?_
    refine sqQ.n ⟨(.v (.str a0)) :: (dI a1) :: u2 ((dI 0) :: (dI (w64 v1)) :: (dI 4) :: (dI (w64 (w64 v1 - 240))) :: u2 ((.v (.str a0)) :: (dI a1) :: (.v (.int .u8 v1)) :: (dI (w64 v1)) :: (dI (w64 v1)) :: (dI (w64 v1)) :: (dB (decide (w64 v1 ≥ 240))) :: (dI (w64 v1)) :: (dI (w64 (w64 v1 - 240))) :: u40 (u8 []))), []⟩ (by kernel_rfl) ?_
    exact J31j16 4 (w64 (w64 v1 - 240)) _ _ _ _ _ _ _ _ _ _ _ _ h
  · refine Wp.seq' (by kernel_rfl) ?_
    refine Wp.region (by kernel_rfl) ?_
    refine Ops.seg' 2 2 (by kernel_rfl) ?_
    refine Ops.done (by kernel_rfl) ?_
    refine seqQ.n ?_
    have J31j78 : ∀ (v68 : Int) (v69 : Int) (d70 : D) (d71 : D) (d72 : D) (d73 : D) (d74 : D) (d75 : D) (d76 : D) (d77 : D), f31_j5 m a0 a1 v68 v69 = some o → (sqQ (X31 n) [0, 1, 4, 6, 7] 0 (seqQ (X31 n) (cR (cR (cR (cR (cR C31))))) (fnQ (X31 n).E.T (resOf Proofs.Tryd.prog 31) (eI o)))) .normal ⟨(.v (.str a0)) :: (dI a1) :: u2 ((dI 0) :: (dI (w64 v1)) :: (dI v68) :: (dI v69) :: u2 ((.v (.str a0)) :: (dI a1) :: (.v (.int .u8 v1)) :: (dI (w64 v1)) :: (dI (w64 v1)) :: (dI (w64 v1)) :: (dB (decide (w64 v1 ≥ 240))) :: u2 ((dI (w64 v1)) :: (dB (decide (w64 v1 ≥ 224))) :: d70 :: d71 :: d72 :: d73 :: d74 :: d75 :: d76 :: d77 :: u38 []))), []⟩ := by
      intro v68 v69 d70 d71 d72 d73 d74 d75 d76 d77 h
      unfold f31_j5 at h
      refine sqQ.n ⟨(.v (.str a0)) :: (dI a1) :: u2 ((dI 0) :: (dI (w64 v1)) :: (dI v68) :: (dI v69) :: u2 ((.v (.str a0)) :: (dI a1) :: (.v (.int .u8 v1)) :: (dI (w64 v1)) :: (dI (w64 v1)) :: (dI (w64 v1)) :: (dB (decide (w64 v1 ≥ 240))) :: u2 ((dI (w64 v1)) :: (dB (decide (w64 v1 ≥ 224))) :: d70 :: d71 :: d72 :: d73 :: d74 :: d75 :: d76 :: d77 :: u38 []))), []⟩ (by kernel_rfl) ?_
      exact J31j16 v68 v69 _ _ _ _ _ _ _ _ _ _ _ _ h
    refine Wp.cnd h [0, 1, 4, 6, 7] 0 (by kernel_rfl) (fun h => ?_) (fun h => ?_)
    · refine Wp.seq' (by kernel_rfl) ?_
      refine Wp.region (by kernel_rfl) ?_
      refine Ops.seg' 1 1 (by kernel_rfl) ?_
      refine Ops.done (by kernel_rfl) ?_
      refine seqQ.n ?_
      refine Wp.region (by kernel_rfl) ?_
      refine Ops.seg' 3 3 (by kernel_rfl) ?_
      refine Ops.done (by kernel_rfl) ?_
      refine sqQ.n ⟨(.v (.str a0)) :: (dI a1) :: u2 ((dI 0) :: (dI (w64 v1)) :: (dI 3) :: (dI (w64 (w64 v1 - 224))) :: u2 ((.v (.str a0)) :: (dI a1) :: (.v (.int .u8 v1)) :: (dI (w64 v1)) :: (dI (w64 v1)) :: (dI (w64 v1)) :: (dB (decide (w64 v1 ≥ 240))) :: u2 ((dI (w64 v1)) :: (dB (decide (w64 v1 ≥ 224))) :: (dI (w64 v1)) :: (dI (w64 (w64 v1 - 224))) :: u40 (u4 [])))), []⟩ (by kernel_rfl) ?_
      exact J31j78 3 (w64 (w64 v1 - 224)) _ _ _ _ _ _ _ _ h
    · refine Wp.seq' (by kernel_rfl) ?_
      refine Wp.region (by kernel_rfl) ?_
      refine Ops.seg' 2 2 (by kernel_rfl) ?_
      refine Ops.done (by kernel_rfl) ?_
      refine seqQ.n ?_
      have J31j85 : ∀ (v79 : Int) (v80 : Int) (d81 : D) (d82 : D) (d83 : D) (d84 : D), f31_j6 m a0 a1 v79 v80 = some o → (sqQ (X31 n) [0, 1, 4, 6, 7] 0 (sqQ (X31 n) [0, 1, 4, 6, 7] 0 (seqQ (X31 n) (cR (cR (cR (cR (cR C31))))) (fnQ (X31 n).E.T (resOf Proofs.Tryd.prog 31) (eI o))))) .normal ⟨(.v (.str a0)) :: (dI a1) :: u2 ((dI 0) :: (dI (w64 v1)) :: (dI v79) :: (dI v80) :: u2 ((.v (.str a0)) :: (dI a1) :: (.v (.int .u8 v1)) :: (dI (w64 v1)) :: (dI (w64 v1)) :: (dI (w64 v1)) :: (dB (decide (w64 v1 ≥ 240))) :: u2 ((dI (w64 v1)) :: (dB (decide (w64 v1 ≥ 224))) :: u2 ((dI (w64 v1)) :: (dB (decide (w64 v1 ≥ 192))) :: d81 :: d82 :: d83 :: d84 :: u38 [])))), []⟩ := by
        intro v79 v80 d81 d82 d83 d84 h
        unfold f31_j6 at h
        refine sqQ.n ⟨(.v (.str a0)) :: (dI a1) :: u2 ((dI 0) :: (dI (w64 v1)) :: (dI v79) :: (dI v80) :: u2 ((.v (.str a0)) :: (dI a1) :: (.v (.int .u8 v1)) :: (dI (w64 v1)) :: (dI (w64 v1)) :: (dI (w64 v1)) :: (dB (decide (w64 v1 ≥ 240))) :: u2 ((dI (w64 v1)) :: (dB (decide (w64 v1 ≥ 224))) :: u2 ((dI (w64 v1)) :: (dB (decide (w64 v1 ≥ 192))) :: d81 :: d82 :: d83 :: d84 :: u38 [])))), []⟩ (by kernel_rfl) ?_
        exact J31j78 v79 v80 _ _ _ _ _ _ _ _ h
      refine Wp.cnd h [0, 1, 4, 6, 7] 0 (by kernel_rfl) (fun h => ?_) (fun h => ?_)
      · refine Wp.seq' (by kernel_rfl) ?_
        refine Wp.region (by kernel_rfl) ?_
        refine Ops.seg' 1 1 (by kernel_rfl) ?_
        refine Ops.done (by kernel_rfl) ?_
        refine seqQ.n ?_
        refine Wp.region (by kernel_rfl) ?_
        refine Ops.seg' 3 3 (by kernel_rfl) ?_
        refine Ops.done (by kernel_rfl) ?_
        refine sqQ.n ⟨(.v (.str a0)) :: (dI a1) :: u2 ((dI 0) :: (dI (w64 v1)) :: (dI 2) :: (dI (w64 (w64 v1 - 192))) :: u2 ((.v (.str a0)) :: (dI a1) :: (.v (.int .u8 v1)) :: (dI (w64 v1)) :: (dI (w64 v1)) :: (dI (w64 v1)) :: (dB (decide (w64 v1 ≥ 240))) :: u2 ((dI (w64 v1)) :: (dB (decide (w64 v1 ≥ 224))) :: u2 ((dI (w64 v1)) :: (dB (decide (w64 v1 ≥ 192))) :: (dI (w64 v1)) :: (dI (w64 (w64 v1 - 192))) :: u40 [])))), []⟩ (by kernel_rfl) ?_
        exact J31j85 2 (w64 (w64 v1 - 192)) _ _ _ _ h
      · refine Wp.seq' (by kernel_rfl) ?_
        refine Wp.region (by kernel_rfl) ?_
        refine Ops.seg' 2 2 (by kernel_rfl) ?_
        refine Ops.done (by kernel_rfl) ?_
        refine seqQ.n ?_
        refine Wp.cnd h [0, 1, 4, 6, 7] 0 (by kernel_rfl) (fun h => ?_) (fun h => ?_)
        · refine Wp.seq' (by kernel_rfl) ?_
          refine Wp.region (by kernel_rfl) ?_
          refine Ops.seg' 1 1 (by kernel_rfl) ?_
          refine Ops.done (by kernel_rfl) ?_
          refine seqQ.n ?_
          refine Wp.ret (by kernel_rfl) ?_
          refine sqQ.r ?_
          refine sqQ.r ?_
          refine sqQ.r ?_
          refine sqQ.r ?_
          refine seqQ.r ?_
          exact fnQ.r' (X31 n) (fun z => (eI z)) h (RetOk.mk' (dI ((-1))) (by kernel_rfl) (by kernel_rfl))
        · refine Wp.skip (by kernel_rfl) ?_
          refine sqQ.n' ?_
          refine sqQ.n ⟨(.v (.str a0)) :: (dI a1) :: u2 ((dI 0) :: (dI (w64 v1)) :: (dI 1) :: (dI (w64 v1)) :: u2 ((.v (.str a0)) :: (dI a1) :: (.v (.int .u8 v1)) :: (dI (w64 v1)) :: (dI (w64 v1)) :: (dI (w64 v1)) :: (dB (decide (w64 v1 ≥ 240))) :: u2 ((dI (w64 v1)) :: (dB (decide (w64 v1 ≥ 224))) :: u2 ((dI (w64 v1)) :: (dB (decide (w64 v1 ≥ 192))) :: u2 ((dI (w64 v1)) :: (dB (decide (w64 v1 ≥ 128))) :: u38 []))))), []⟩ (by kernel_rfl) ?_
          exact J31j85 1 (w64 v1) _ _ _ _ h

/-! ### 16 glosswright/glosswrightref5.Points -/
def f16_B1 (m : Nat) (a0 : ByteArray) (v12 : (List Int)) (v13 : Int) : Option (Stp (((List Int) × S27)) ((List Int) × Int)) :=
  cnd (decide (v13 < (a0.size : Int)))
  (bnd (f31 m a0 v13) fun v23 =>
  cnd (decide (v23 < 0))
  (bnd (f30 m 5 v13) fun v24 =>
  some (.ret (([], v24))))
  (bnd (app 8 v12 [v23]) fun v25 =>
  bnd (f32 m v23) fun v26 =>
  some (.nxt (v25, w64 (v13 + v26)))))
  (some (.brk (v12, v13)))
def f16 (m : Nat) (a0 : ByteArray) : Option ((List Int) × S27) :=
  cnd (decide ((a0.size : Int) > 4000))
  (bnd (f30 m 1 ((-1))) fun v1 =>
  some (([], v1)))
  (brk (iter (fun (y : (List Int) × Int) => f16_B1 m a0 y.1 y.2) m ([], 0)) some fun y28 =>
  some ((y28.1, (⟨0, 0⟩ : S27))))
noncomputable abbrev X16 (n : Nat) : Cx := cxOf Proofs.Tryd.prog EG 16 n
noncomputable def C16 : Code := bodyOf Proofs.Tryd.prog 16
theorem ok16 (m : Nat) (a0 : ByteArray) (o : ((List Int) × S27)) (h : f16 m a0 = some o) (n : Nat) (hn : m + 3 ≤ n) : Fn Proofs.Tryd.prog EG n 16 [.v (eS a0)] (.tuple [(eL eI) o.1, e27 o.2]) := by
  obtain ⟨n, rfl⟩ : ∃ q, n = q + 1 := ⟨n - 1, by omega⟩
  unfold f16 at h
  refine Fn.of (by kernel_rfl) (by kernel_rfl) (by kernel_rfl) ⟨(.v (.str a0)) :: u31 [], []⟩ (by kernel_rfl) ?_
  refine Wp.seq' (by kernel_rfl) ?_
  refine Wp.region (by kernel_rfl) ?_
  refine Ops.seg' 2 2 (by kernel_rfl) ?_
  refine Ops.done (by kernel_rfl) ?_
  refine seqQ.n ?_
  refine Wp.seq' (by kernel_rfl) ?_
  refine Wp.seq' (by kernel_rfl) ?_
  refine Wp.region (by kernel_rfl) ?_
  refine Ops.seg' 3 3 (by kernel_rfl) ?_
  refine Ops.done (by kernel_rfl) ?_
  refine seqQ.n ?_
  refine Wp.cnd h [0, 2, 3] 1 (by kernel_rfl) (fun h => ?_) (fun h => ?_)
  · refine Wp.seq' (by kernel_rfl) ?_
    refine Wp.region (by kernel_rfl) ?_
    obtain ⟨v1, ev1, h⟩ := bnd_some h
    refine Ops.one' 1 (fun h0 e0 => (call_ok (E' := EG) (h := h0) (by kernel_rfl) (Args.v (vI 1) (eI 1) (by kernel_rfl) (Args.v (vI ((-1))) (eI ((-1))) (by kernel_rfl) Args.nil)) (ok30 m 1 ((-1)) v1 ev1 n (by omega)))) (by kernel_rfl) (by kernel_rfl) ?_
    refine Ops.seg' 2 3 (by kernel_rfl) ?_
    refine Ops.done (by kernel_rfl) ?_
    refine seqQ.n ?_
    refine Wp.ret (by kernel_rfl) ?_
    refine sqQ.r ?_
    refine seqQ.r ?_
    exact fnQ.r' (X16 n) (fun z => (.tuple [(eL eI) z.1, e27 z.2])) h (RetOk.mk' (.v (.tuple [(.sl .nil (List.map eI [])), (.agg [(vI v1.fCode), (vI v1.fIndex)])])) (by kernel_rfl) (by kernel_rfl))
  · refine Wp.skip (by kernel_rfl) ?_
    refine sqQ.n' ?_
    refine seqQ.n ?_
    refine Wp.seq' (by kernel_rfl) ?_
    refine Wp.region (by kernel_rfl) ?_
    refine Ops.seg' 1 1 (by kernel_rfl) ?_
    refine Ops.done (by kernel_rfl) ?_
    refine seqQ.n ?_
    refine Wp.seq' (by kernel_rfl) ?_
    refine Wp.seq' (by kernel_rfl) ?_
    refine Wp.region (by kernel_rfl) ?_
    refine Ops.seg' 1 1 (by kernel_rfl) ?_
    refine Ops.done (by kernel_rfl) ?_
    refine seqQ.n ?_
    refine Wp.block' 0 [2, 3, 4] 2 (by kernel_rfl) ?_
    have hLx27 : ∀ (kx15 : Nat) (v12 : (List Int)) (v13 : Int)  (ox14 : ((List Int) × S27) ⊕ ((List Int) × Int)), iter (fun (y : (List Int) × Int) => f16_B1 m a0 y.1 y.2) kx15 (v12, v13) = some ox14 → ∀ nx16, kx15 ≤ nx16 → (∀ r, ox14 = .inl r → ∀ σ, RetOk (X16 n) (resOf Proofs.Tryd.prog 16) (.tuple [(eL eI) r.1, e27 r.2]) σ → (seqQ (X16 n) (cR (cR (cR (cR C16)))) (fnQ (X16 n).E.T (resOf Proofs.Tryd.prog 16) (.tuple [(eL eI) o.1, e27 o.2]))) .ret σ) → (∀ (y : (List Int) × Int) , ox14 = .inr y → (seqQ (X16 n) (cR (cR (cR (cR C16)))) (fnQ (X16 n).E.T (resOf Proofs.Tryd.prog 16) (.tuple [(eL eI) o.1, e27 o.2]))) .normal ⟨q2 ((.v (.sl .nil (List.map eI []))) :: (.ptr 0 0) :: (appD 2 (List.map eI y.1)) :: q27 []), [(.cells [(dI 0), (dI 0)]), .dead, (appO 1 (List.map eI y.1))]⟩) → Lp (X16 n) [0, 2, 3, 4, 5] 2 (cL (cL (cR (cL (cR (cR (cR C16))))))) nx16 ⟨(.v (.str a0)) :: q1 ((.v (.sl .nil (List.map eI []))) :: (.ptr 0 0) :: (appD 2 (List.map eI v12)) :: (dI v13) :: q26 []), [(.cells [(dI 0), (dI 0)]), .dead, (appO 1 (List.map eI v12))]⟩ (blkQ (X16 n) 0 [2, 3, 4] 2 (seqQ (X16 n) (cR (cR (cR (cR C16)))) (fnQ (X16 n).E.T (resOf Proofs.Tryd.prog 16) (.tuple [(eL eI) o.1, e27 o.2])))) := by
      intro kx15
      induction kx15 with
      | zero => intro v12 v13  ox14 h; exact (iter_zero h).elim
      | succ kx15 ihx17 =>
        intro v12 v13  ox14 h nx16 hnx20 hrx18 hxx19
        obtain ⟨nx16, rfl⟩ : ∃ q, nx16 = q + 1 := ⟨nx16 - 1, by omega⟩
        obtain ⟨sx21, h, hsx22⟩ := iter_some h
        have h : f16_B1 m a0 v12 v13 = some sx21 := h
        unfold f16_B1 at h
        refine Lp.succ ?_
        refine Wp.seq' (by kernel_rfl) ?_
        refine Wp.seq' (by kernel_rfl) ?_
        refine Wp.region (by kernel_rfl) ?_
        refine Ops.seg' 4 4 (by kernel_rfl) ?_
        refine Ops.done (by kernel_rfl) ?_
        refine seqQ.n ?_
        refine Wp.cnd h [0, 2, 3, 4, 5] 3 (by kernel_rfl) (fun h => ?_) (fun h => ?_)
        · refine Wp.skip (by kernel_rfl) ?_
          refine sqQ.n ⟨(.v (.str a0)) :: q1 ((.v (.sl .nil (List.map eI []))) :: (.ptr 0 0) :: (appD 3 (List.map eI v12)) :: (dI v13) :: q26 []), [(.cells [(dI 0), (dI 0)]), .dead, .dead, (appO 1 (List.map eI v12))]⟩ (by generalize v12 = z0; cases z0 <;> kernel_rfl) ?_
          refine seqQ.n ?_
          refine Wp.block' 1 [0, 2, 3, 4, 5] 4 (by kernel_rfl) ?_
          refine Wp.seq' (by kernel_rfl) ?_
          refine Wp.region (by kernel_rfl) ?_
          refine Ops.seg' 2 2 (by kernel_rfl) ?_
          obtain ⟨v23, ev23, h⟩ := bnd_some h
          refine Ops.one' 3 (fun h0 e0 => (call_ok (E' := EG) (h := h0) (by kernel_rfl) (Args.v (.str a0) (eS a0) (by kernel_rfl) (Args.v (vI v13) (eI v13) (by kernel_rfl) Args.nil)) (ok31 m a0 v13 v23 ev23 n (by omega)))) (by kernel_rfl) (by kernel_rfl) ?_
          refine Ops.seg' 1 4 (by kernel_rfl) ?_
          refine Ops.done (by kernel_rfl) ?_
          refine seqQ.n ?_
          refine Wp.seq' (by kernel_rfl) ?_
          refine Wp.seq' (by kernel_rfl) ?_
          refine Wp.region (by kernel_rfl) ?_
          refine Ops.seg' 2 2 (by kernel_rfl) ?_
          refine Ops.done (by kernel_rfl) ?_
          refine seqQ.n ?_
          refine Wp.cnd h [0, 2, 3, 4, 5, 6] 4 (by kernel_rfl) (fun h => ?_) (fun h => ?_)
          · refine Wp.seq' (by kernel_rfl) ?_
            refine Wp.region (by kernel_rfl) ?_
            refine Ops.seg' 1 1 (by kernel_rfl) ?_
            obtain ⟨v24, ev24, h⟩ := bnd_some h
            refine Ops.one' 2 (fun h0 e0 => (call_ok (E' := EG) (h := h0) (by kernel_rfl) (Args.v (vI 5) (eI 5) (by kernel_rfl) (Args.v (vI v13) (eI v13) (by kernel_rfl) Args.nil)) (ok30 m 5 v13 v24 ev24 n (by omega)))) (by kernel_rfl) (by kernel_rfl) ?_
            refine Ops.seg' 2 4 (by kernel_rfl) ?_
            refine Ops.done (by kernel_rfl) ?_
            refine seqQ.n ?_
            refine Wp.ret (by kernel_rfl) ?_
            refine sqQ.r ?_
            refine seqQ.r ?_
            refine blkQ.r ?_
            cases h
            refine lpQ.r ?_
            refine blkQ.r ?_
            exact hrx18 _ hsx22 _ (RetOk.forget [0, 2, 3, 4, 5] (by kernel_rfl) (RetOk.mk' (.v (.tuple [(.sl .nil (List.map eI [])), (.agg [(vI v24.fCode), (vI v24.fIndex)])])) (by kernel_rfl) (by kernel_rfl)))
          · refine Wp.skip (by kernel_rfl) ?_
            refine sqQ.n ⟨(.v (.str a0)) :: q1 ((.v (.sl .nil (List.map eI []))) :: (.ptr 0 0) :: (appD 4 (List.map eI v12)) :: (dI v13) :: (dI v23) :: q25 []), [(.cells [(dI 0), (dI 0)]), .dead, .dead, .dead, (appO 1 (List.map eI v12))]⟩ (by generalize v12 = z0; cases z0 <;> kernel_rfl) ?_
            refine seqQ.n ?_
            refine Wp.seq' (by kernel_rfl) ?_
            refine Wp.region (by kernel_rfl) ?_
            refine Ops.seg' 3 3 (by kernel_rfl) ?_
            obtain ⟨v25, ev25, h⟩ := bnd_some h
            refine Ops.one' 4 (fun h0 e0 => (app_r (T := T) (g := .nil) h0 41 3 4 1 ti3 .nonfull eI v12 [v23] v25 ev25 (by kernel_rfl) (by kernel_rfl) (by kernel_rfl) (by kernel_rfl) (fun _ => rfl) (hq_of e0 (by kernel_rfl)))) (by kernel_rfl) (by kernel_rfl) ?_
            refine Ops.seg' 1 5 (by kernel_rfl) ?_
            refine Ops.done (by kernel_rfl) ?_
            refine seqQ.n ?_
            refine Wp.region (by kernel_rfl) ?_
            refine Ops.seg' 2 2 (by kernel_rfl) ?_
            obtain ⟨v26, ev26, h⟩ := bnd_some h
            refine Ops.one' 3 (fun h0 e0 => (call_ok (E' := EG) (h := h0) (by kernel_rfl) (Args.v (vI v23) (eI v23) (by kernel_rfl) Args.nil) (ok32 m v23 v26 ev26 n (by omega)))) (by kernel_rfl) (by kernel_rfl) ?_
            refine Ops.seg' 2 5 (by kernel_rfl) ?_
            refine Ops.done (by kernel_rfl) ?_
            refine blkQ.n ⟨(.v (.str a0)) :: q1 ((.v (.sl .nil (List.map eI []))) :: (.ptr 0 0) :: (appD 4 (List.map eI v25)) :: (dI (w64 (v13 + v26))) :: q26 []), [(.cells [(dI 0), (dI 0)]), .dead, .dead, .dead, (appO 1 (List.map eI v25))]⟩ (by generalize v25 = z0; cases z0 <;> kernel_rfl) ?_
            refine lpQ.n ⟨(.v (.str a0)) :: q1 ((.v (.sl .nil (List.map eI []))) :: (.ptr 0 0) :: (appD 2 (List.map eI v25)) :: (dI (w64 (v13 + v26))) :: q26 []), [(.cells [(dI 0), (dI 0)]), .dead, (appO 1 (List.map eI v25))]⟩ (by generalize v25 = z0; cases z0 <;> kernel_rfl) ?_
            cases h
            exact ihx17 v25 (w64 (v13 + v26))  _ hsx22 _ (by omega) hrx18 hxx19
        · refine Wp.exit (id := 0) (by kernel_rfl) ?_
          refine sqQ.x ?_
          refine seqQ.x ?_
          cases h
          refine lpQ.x ?_
          refine blkQ.x ⟨q2 ((.v (.sl .nil (List.map eI []))) :: (.ptr 0 0) :: (appD 2 (List.map eI v12)) :: q27 []), [(.cells [(dI 0), (dI 0)]), .dead, (appO 1 (List.map eI v12))]⟩ (by generalize v12 = z0; cases z0 <;> kernel_rfl) ?_
          exact hxx19 (v12, v13)  hsx22
    refine Wp.loop' [0, 2, 3, 4, 5] 2 (by kernel_rfl) ⟨(.v (.str a0)) :: q1 ((.v (.sl .nil (List.map eI []))) :: (.ptr 0 0) :: (appD 2 (List.map eI [])) :: (dI 0) :: q26 []), [(.cells [(dI 0), (dI 0)]), .dead, .dead]⟩ (by kernel_rfl) ?_
    rcases brk_some h with ⟨r29, er29, h⟩ | ⟨y28, ey28, h⟩
    · refine hLx27 _ [] 0  _ er29 n (by omega) (fun r er σ hσ => ?_) (fun y  ey => by cases ey)
      cases er
      refine seqQ.r ?_
      exact fnQ.r' (X16 n) (fun z => (.tuple [(eL eI) z.1, e27 z.2])) h hσ
    · refine hLx27 _ [] 0  _ ey28 n (by omega) (fun r er => by cases er) (fun y  ey => ?_)
      cases ey
      refine seqQ.n ?_
      refine Wp.seq' (by kernel_rfl) ?_
      refine Wp.region (by kernel_rfl) ?_
      refine Ops.seg' 4 4 (by kernel_rfl) ?_
      refine Ops.done (by kernel_rfl) ?_
      refine seqQ.n ?_
      refine Wp.ret (by kernel_rfl) ?_
      exact fnQ.r' (X16 n) (fun z => (.tuple [(eL eI) z.1, e27 z.2])) h (RetOk.tup [(appD 2 (List.map eI y28.1)), (.v (.agg [(vI 0), (vI 0)]))] (by kernel_rfl) (.d (appD 2 (List.map eI y28.1)) _ (appD_frz _ _ _ _) (appF_nt _ _ _) (.v (.agg [(vI 0), (vI 0)]) _ (by kernel_rfl) (by kernel_rfl) .nil)))

/-! ### 13 glosswright/glosswrightref6.Word -/
def f13_B1 (m : Nat) (v65 : Int) (v69 : Int) : Option (Stp Bool (Int)) :=
  cnd (decide (v69 < (([0, 9, 10, 32, 40, 41, 91, 93, 44, 59]).length : Int)))
  (bnd (idx ([0, 9, 10, 32, 40, 41, 91, 93, 44, 59]) v69) fun v79 =>
  cnd (v65 == v79)
  (some (.ret false))
  (some (.nxt (w64 (v69 + 1)))))
  (some (.brk v69))
def f13_B2 (m : Nat) (v1 : ((List Int) × S27)) (v55 : Int) : Option (Stp Bool (Int)) :=
  cnd (decide (v55 < (v1.1.length : Int)))
  (bnd (idx v1.1 v55) fun v65 =>
  brk (iter (fun (y : Int) => f13_B1 m v65 y) m 0) (fun r => some (.ret r)) fun y81 =>
  cnd (decide (v65 ≥ 983040))
  (some (.ret false))
  (some (.nxt (w64 (v55 + 1)))))
  (some (.brk v55))
def f13_r3 (m : Nat) (v1 : ((List Int) × S27)) (v16 : Bool) : Option Bool :=
  cnd v16
  (some false)
  (brk (iter (fun (y : Int) => f13_B2 m v1 y) m 0) some fun y84 =>
  some true)
def f13_r4 (m : Nat) (v1 : ((List Int) × S27)) (v8 : Bool) : Option Bool :=
  f13_r3 m v1 ((v8 || (decide ((v1.1.length : Int) > 30))))
def f13 (m : Nat) (a0 : ByteArray) : Option Bool :=
  bnd (f16 m a0) fun v1 =>
  f13_r4 m v1 (((!((v1.2.fCode == 0) && ((v1.2.fIndex == 0) && true))) || (((v1.1.length : Int)) == 0)))
noncomputable abbrev X13 (n : Nat) : Cx := cxOf Proofs.Tryd.prog EG 13 n
noncomputable def C13 : Code := bodyOf Proofs.Tryd.prog 13
theorem ok13 (m : Nat) (a0 : ByteArray) (o : Bool) (h : f13 m a0 = some o) (n : Nat) (hn : m + 4 ≤ n) : Fn Proofs.Tryd.prog EG n 13 [.v (eS a0)] (eB o) := by
  obtain ⟨n, rfl⟩ : ∃ q, n = q + 1 := ⟨n - 1, by omega⟩
  unfold f13 at h
  refine Fn.of (by kernel_rfl) (by kernel_rfl) (by kernel_rfl) ⟨(.v (.str a0)) :: u40 (u5 []), []⟩ (by kernel_rfl) ?_
  refine Wp.seq' (by kernel_rfl) ?_
  refine Wp.region (by kernel_rfl) ?_
  refine Ops.seg' 1 1 (by kernel_rfl) ?_
  refine Ops.done (by kernel_rfl) ?_
  refine seqQ.n ?_
  refine Wp.seq' (by kernel_rfl) ?_
  refine Wp.region (by kernel_rfl) ?_
  refine Ops.seg' 1 1 (by kernel_rfl) ?_
  obtain ⟨v1, ev1, h⟩ := bnd_some h
  refine Ops.one' 2 (fun h0 e0 => (call_ok (E' := EG) (h := h0) (by kernel_rfl) (Args.v (.str a0) (eS a0) (by kernel_rfl) Args.nil) (ok16 m a0 v1 ev1 n (by omega)))) (by kernel_rfl) (by kernel_rfl) ?_
  refine Ops.seg' 6 8 (by kernel_rfl) ?_
  refine Ops.done (by kernel_rfl) ?_
  refine seqQ.n ?_
  refine Wp.seq' (by kernel_rfl) ?_
  refine Wp.seq' (by kernel_rfl) ?_
  refine Wp.region (by kernel_rfl) ?_
  refine Ops.seg' 4 4 (by kernel_rfl) ?_
  have J13j9 : ∀ (d4 d5 d6 : D) (v7 : Bool) (v8 : Bool), f13_r4 m v1 v8 = some o → Ops (X13 n) (opl (cL (cL (cR (cR C13))))) 8 ⟨(.v (.str a0)) :: u1 ((dB false) :: (dP eI v1.1) :: (.ptr 0 0) :: u4 ((.v (.tuple [(vP eI v1.1), (.agg [(vI v1.2.fCode), (vI v1.2.fIndex)])])) :: (.v (.str a0)) :: (.v (.tuple [(vP eI v1.1), (.agg [(vI v1.2.fCode), (vI v1.2.fIndex)])])) :: (dP eI v1.1) :: (.v (.agg [(vI v1.2.fCode), (vI v1.2.fIndex)])) :: (.v (.agg [(vI v1.2.fCode), (vI v1.2.fIndex)])) :: (.v (.agg [(vI 0), (vI 0)])) :: (dB v7) :: (dB v7) :: d4 :: d5 :: d6 :: (dB v8) :: u24 [])), [(.cells [(dI v1.2.fCode), (dI v1.2.fIndex)])]⟩ ((seqQ (X13 n) (cR (cL (cR (cR C13)))) (seqQ (X13 n) (cR (cR (cR C13))) (fnQ (X13 n).E.T (resOf Proofs.Tryd.prog 13) (eB o)))) .normal) := by
    intro d4 d5 d6 v7 v8 h
    unfold f13_r4 at h
    refine Ops.seg' 1 9 (by kernel_rfl) ?_
    have J13j17 : ∀ (d12 d13 d14 : D) (v15 : Bool) (v16 : Bool), f13_r3 m v1 v16 = some o → Ops (X13 n) (opl (cL (cL (cR (cR C13))))) 13 ⟨(.v (.str a0)) :: u1 ((dB false) :: (dP eI v1.1) :: (.ptr 0 0) :: u4 ((.v (.tuple [(vP eI v1.1), (.agg [(vI v1.2.fCode), (vI v1.2.fIndex)])])) :: (.v (.str a0)) :: (.v (.tuple [(vP eI v1.1), (.agg [(vI v1.2.fCode), (vI v1.2.fIndex)])])) :: (dP eI v1.1) :: (.v (.agg [(vI v1.2.fCode), (vI v1.2.fIndex)])) :: (.v (.agg [(vI v1.2.fCode), (vI v1.2.fIndex)])) :: (.v (.agg [(vI 0), (vI 0)])) :: (dB v7) :: (dB v7) :: d4 :: d5 :: d6 :: (dB v15) :: (dB v15) :: d12 :: d13 :: d14 :: (dB v16) :: u19 [])), [(.cells [(dI v1.2.fCode), (dI v1.2.fIndex)])]⟩ ((seqQ (X13 n) (cR (cL (cR (cR C13)))) (seqQ (X13 n) (cR (cR (cR C13))) (fnQ (X13 n).E.T (resOf Proofs.Tryd.prog 13) (eB o)))) .normal) := by
      intro d12 d13 d14 v15 v16 h
      unfold f13_r3 at h
      refine Ops.done (by kernel_rfl) ?_
      refine seqQ.n ?_
      refine Wp.cnd h [2, 3] 1 (by kernel_rfl) (fun h => ?_) (fun h => ?_)
      · refine Wp.seq' (by kernel_rfl) ?_
        refine Wp.region (by kernel_rfl) ?_
        refine Ops.seg' 1 1 (by kernel_rfl) ?_
        refine Ops.done (by kernel_rfl) ?_
        refine seqQ.n ?_
        refine Wp.ret (by kernel_rfl) ?_
        refine sqQ.r ?_
        refine seqQ.r ?_
        exact fnQ.r' (X13 n) (fun z => (eB z)) h (RetOk.mk' (dB false) (by kernel_rfl) (by kernel_rfl))
      · refine Wp.skip (by kernel_rfl) ?_
        refine sqQ.n' ?_
        refine seqQ.n ?_
        refine Wp.seq' (by kernel_rfl) ?_
        refine Wp.seq' (by kernel_rfl) ?_
        refine Wp.region (by kernel_rfl) ?_
        refine Ops.seg' 1 1 (by kernel_rfl) ?_
        refine Ops.one' 2 (fun h0 e0 => (len_r (T := T) h0 41 3 .plain eI v1.1 (by kernel_rfl))) (by kernel_rfl) (by kernel_rfl) ?_
        refine Ops.seg' 1 3 (by kernel_rfl) ?_
        refine Ops.done (by kernel_rfl) ?_
        refine seqQ.n ?_
        refine Wp.block' 0 [2] 1 (by kernel_rfl) ?_
        have hLx83 : ∀ (kx57 : Nat) (v55 : Int)  (ox56 : Bool ⊕ (Int)), iter (fun (y : Int) => f13_B2 m v1 y) kx57 v55 = some ox56 → ∀ nx58, kx57 ≤ nx58 → (∀ r, ox56 = .inl r → ∀ σ, RetOk (X13 n) (resOf Proofs.Tryd.prog 13) (eB r) σ → (seqQ (X13 n) (cR (cR (cR (cR C13)))) (fnQ (X13 n).E.T (resOf Proofs.Tryd.prog 13) (eB o))) .ret σ) → (∀ (y : Int) , ox56 = .inr y → (seqQ (X13 n) (cR (cR (cR (cR C13)))) (fnQ (X13 n).E.T (resOf Proofs.Tryd.prog 13) (eB o))) .normal ⟨q2 ((dB false) :: q24 ((dP eI v1.1) :: (dI ((v1.1.length : Int))) :: (dI y) :: q16 [])), [(.cells [(dI v1.2.fCode), (dI v1.2.fIndex)])]⟩) → Lp (X13 n) [2, 27, 28, 29] 1 (cL (cL (cR (cL (cR (cR (cR C13))))))) nx58 ⟨q2 ((dB false) :: q24 ((dP eI v1.1) :: (dI ((v1.1.length : Int))) :: (dI v55) :: q16 [])), [(.cells [(dI v1.2.fCode), (dI v1.2.fIndex)])]⟩ (blkQ (X13 n) 0 [2] 1 (seqQ (X13 n) (cR (cR (cR (cR C13)))) (fnQ (X13 n).E.T (resOf Proofs.Tryd.prog 13) (eB o)))) := by
          intro kx57
          induction kx57 with
          | zero => intro v55  ox56 h; exact (iter_zero h).elim
          | succ kx57 ihx59 =>
            intro v55  ox56 h nx58 hnx62 hrx60 hxx61
            obtain ⟨nx58, rfl⟩ : ∃ q, nx58 = q + 1 := ⟨nx58 - 1, by omega⟩
            obtain ⟨sx63, h, hsx64⟩ := iter_some h
            have h : f13_B2 m v1 v55 = some sx63 := h
            unfold f13_B2 at h
            refine Lp.succ ?_
            refine Wp.seq' (by kernel_rfl) ?_
            refine Wp.region (by kernel_rfl) ?_
            refine Ops.seg' 1 1 (by kernel_rfl) ?_
            refine Ops.done (by kernel_rfl) ?_
            refine seqQ.n ?_
            refine Wp.seq' (by kernel_rfl) ?_
            refine Wp.cnd h [2, 27, 28, 29] 1 (by kernel_rfl) (fun h => ?_) (fun h => ?_)
            · refine Wp.skip (by kernel_rfl) ?_
              refine sqQ.n' ?_
              refine seqQ.n ?_
              refine Wp.seq' (by kernel_rfl) ?_
              refine Wp.block' 1 [2, 27, 28, 29] 1 (by kernel_rfl) ?_
              refine Wp.seq' (by kernel_rfl) ?_
              refine Wp.region (by kernel_rfl) ?_
              obtain ⟨v65, ev65, h⟩ := bnd_some h
              refine Ops.one' 1 (fun h0 e0 => (ix_r (T := T) h0 41 3 1 .plain eI v1.1 v55 v65 ev65 (by kernel_rfl) (by kernel_rfl) (fun _ => rfl))) (by kernel_rfl) (by kernel_rfl) ?_
              refine Ops.seg' 2 3 (by kernel_rfl) ?_
              refine Ops.done (by kernel_rfl) ?_
              refine seqQ.n ?_
              refine Wp.seq' (by kernel_rfl) ?_
              refine Wp.seq' (by kernel_rfl) ?_
              refine Wp.region (by kernel_rfl) ?_
              refine Ops.seg' 1 1 (by kernel_rfl) ?_
              refine Ops.one' 2 (fun h0 e0 => (len_r (T := T) h0 41 3 .nonfull eI ([0, 9, 10, 32, 40, 41, 91, 93, 44, 59]) (by kernel_rfl))) (by kernel_rfl) (by kernel_rfl) ?_
              refine Ops.seg' 1 3 (by kernel_rfl) ?_
              refine Ops.done (by kernel_rfl) ?_
              refine seqQ.n ?_
              refine Wp.block' 2 [2, 6, 27, 28, 29] 1 (by kernel_rfl) ?_
              have hLx80 : ∀ (kx71 : Nat) (v69 : Int)  (ox70 : Bool ⊕ (Int)), iter (fun (y : Int) => f13_B1 m v65 y) kx71 v69 = some ox70 → ∀ nx72, kx71 ≤ nx72 → (∀ r, ox70 = .inl r → ∀ σ, RetOk (X13 n) (resOf Proofs.Tryd.prog 13) (eB r) σ → (seqQ (X13 n) (cR (cR (cL (cL (cR (cR (cL (cL (cR (cL (cR (cR (cR C13))))))))))))) (blkQ (X13 n) 1 [2, 27, 28, 29] 1 (seqQ (X13 n) (cR (cR (cR (cL (cL (cR (cL (cR (cR (cR C13)))))))))) (lpQ (X13 n) [2, 27, 28, 29] 1 (cL (cL (cR (cL (cR (cR (cR C13))))))) nx58 (blkQ (X13 n) 0 [2] 1 (seqQ (X13 n) (cR (cR (cR (cR C13)))) (fnQ (X13 n).E.T (resOf Proofs.Tryd.prog 13) (eB o)))))))) .ret σ) → (∀ (y : Int) , ox70 = .inr y → (seqQ (X13 n) (cR (cR (cL (cL (cR (cR (cL (cL (cR (cL (cR (cR (cR C13))))))))))))) (blkQ (X13 n) 1 [2, 27, 28, 29] 1 (seqQ (X13 n) (cR (cR (cR (cL (cL (cR (cL (cR (cR (cR C13)))))))))) (lpQ (X13 n) [2, 27, 28, 29] 1 (cL (cL (cR (cL (cR (cR (cR C13))))))) nx58 (blkQ (X13 n) 0 [2] 1 (seqQ (X13 n) (cR (cR (cR (cR C13)))) (fnQ (X13 n).E.T (resOf Proofs.Tryd.prog 13) (eB o)))))))) .normal ⟨q2 ((dB false) :: q3 ((dI v65) :: q20 ((dP eI v1.1) :: (dI ((v1.1.length : Int))) :: (dI v55) :: q3 ((.v (.sl .nonfull (List.map eI ([0, 9, 10, 32, 40, 41, 91, 93, 44, 59])))) :: (dI ((([0, 9, 10, 32, 40, 41, 91, 93, 44, 59]).length : Int))) :: (dI y) :: q10 [])))), [(.cells [(dI v1.2.fCode), (dI v1.2.fIndex)])]⟩) → Lp (X13 n) [2, 6, 27, 28, 29, 33, 34, 35] 1 (cL (cL (cR (cL (cR (cL (cL (cR (cR (cL (cL (cR (cL (cR (cR (cR C13)))))))))))))))) nx72 ⟨q2 ((dB false) :: q3 ((dI v65) :: q20 ((dP eI v1.1) :: (dI ((v1.1.length : Int))) :: (dI v55) :: q3 ((.v (.sl .nonfull (List.map eI ([0, 9, 10, 32, 40, 41, 91, 93, 44, 59])))) :: (dI ((([0, 9, 10, 32, 40, 41, 91, 93, 44, 59]).length : Int))) :: (dI v69) :: q10 [])))), [(.cells [(dI v1.2.fCode), (dI v1.2.fIndex)])]⟩ (blkQ (X13 n) 2 [2, 6, 27, 28, 29] 1 (seqQ (X13 n) (cR (cR (cL (cL (cR (cR (cL (cL (cR (cL (cR (cR (cR C13))))))))))))) (blkQ (X13 n) 1 [2, 27, 28, 29] 1 (seqQ (X13 n) (cR (cR (cR (cL (cL (cR (cL (cR (cR (cR C13)))))))))) (lpQ (X13 n) [2, 27, 28, 29] 1 (cL (cL (cR (cL (cR (cR (cR C13))))))) nx58 (blkQ (X13 n) 0 [2] 1 (seqQ (X13 n) (cR (cR (cR (cR C13)))) (fnQ (X13 n).E.T (resOf Proofs.Tryd.prog 13) (eB o))))))))) := by
                intro kx71
                induction kx71 with
                | zero => intro v69  ox70 h; exact (iter_zero h).elim
                | succ kx71 ihx73 =>
                  intro v69  ox70 h nx72 hnx76 hrx74 hxx75
                  obtain ⟨nx72, rfl⟩ : ∃ q, nx72 = q + 1 := ⟨nx72 - 1, by omega⟩
                  obtain ⟨sx77, h, hsx78⟩ := iter_some h
                  have h : f13_B1 m v65 v69 = some sx77 := h
                  unfold f13_B1 at h
                  refine Lp.succ ?_
                  refine Wp.seq' (by kernel_rfl) ?_
                  refine Wp.region (by kernel_rfl) ?_
                  refine Ops.seg' 1 1 (by kernel_rfl) ?_
                  refine Ops.done (by kernel_rfl) ?_
                  refine seqQ.n ?_
                  refine Wp.seq' (by kernel_rfl) ?_
                  refine Wp.cnd h [2, 6, 27, 28, 29, 33, 34, 35] 1 (by kernel_rfl) (fun h => ?_) (fun h => ?_)
                  · refine Wp.skip (by kernel_rfl) ?_
                    refine sqQ.n' ?_
                    refine seqQ.n ?_
                    refine Wp.seq' (by kernel_rfl) ?_
                    refine Wp.block' 3 [2, 6, 27, 28, 29, 33, 34, 35] 1 (by kernel_rfl) ?_
                    refine Wp.seq' (by kernel_rfl) ?_
                    refine Wp.region (by kernel_rfl) ?_
                    obtain ⟨v79, ev79, h⟩ := bnd_some h
                    refine Ops.one' 1 (fun h0 e0 => (ix_r (T := T) h0 41 3 1 .nonfull eI ([0, 9, 10, 32, 40, 41, 91, 93, 44, 59]) v69 v79 ev79 (by kernel_rfl) (by kernel_rfl) (fun _ => rfl))) (by kernel_rfl) (by kernel_rfl) ?_
                    refine Ops.seg' 2 3 (by kernel_rfl) ?_
                    refine Ops.done (by kernel_rfl) ?_
                    refine seqQ.n ?_
                    refine Wp.seq' (by kernel_rfl) ?_
                    refine Wp.region (by kernel_rfl) ?_
                    refine Ops.seg' 3 3 (by kernel_rfl) ?_
                    refine Ops.done (by kernel_rfl) ?_
                    refine seqQ.n ?_
                    refine Wp.cnd h [2, 6, 27, 28, 29, 33, 34, 35] 1 (by kernel_rfl) (fun h => ?_) (fun h => ?_)
                    · refine Wp.seq' (by kernel_rfl) ?_
                      refine Wp.region (by kernel_rfl) ?_
                      refine Ops.seg' 1 1 (by kernel_rfl) ?_
                      refine Ops.done (by kernel_rfl) ?_
                      refine seqQ.n ?_
                      refine Wp.ret (by kernel_rfl) ?_
                      refine sqQ.r ?_
                      refine blkQ.r ?_
                      refine seqQ.r ?_
                      cases h
                      refine lpQ.r ?_
                      refine blkQ.r ?_
                      exact hrx74 _ hsx78 _ (RetOk.forget [2, 6, 27, 28, 29, 33, 34, 35] (by kernel_rfl) (RetOk.mk' (dB false) (by kernel_rfl) (by kernel_rfl)))
                    · refine Wp.skip (by kernel_rfl) ?_
                      refine sqQ.n' ?_
                      refine blkQ.n' ?_
                      refine seqQ.n ?_
                      refine Wp.region (by kernel_rfl) ?_
                      refine Ops.seg' 2 2 (by kernel_rfl) ?_
                      refine Ops.done (by kernel_rfl) ?_
                      refine lpQ.n ⟨q2 ((dB false) :: q3 ((dI v65) :: q20 ((dP eI v1.1) :: (dI ((v1.1.length : Int))) :: (dI v55) :: q3 ((.v (.sl .nonfull (List.map eI ([0, 9, 10, 32, 40, 41, 91, 93, 44, 59])))) :: (dI ((([0, 9, 10, 32, 40, 41, 91, 93, 44, 59]).length : Int))) :: (dI (w64 (v69 + 1))) :: q10 [])))), [(.cells [(dI v1.2.fCode), (dI v1.2.fIndex)])]⟩ (by kernel_rfl) ?_
                      cases h
                      exact ihx73 (w64 (v69 + 1))  _ hsx78 _ (by omega) hrx74 hxx75
                  · refine Wp.exit (id := 2) (by kernel_rfl) ?_
                    refine sqQ.x ?_
                    refine seqQ.x ?_
                    cases h
                    refine lpQ.x ?_
                    refine blkQ.x ⟨q2 ((dB false) :: q3 ((dI v65) :: q20 ((dP eI v1.1) :: (dI ((v1.1.length : Int))) :: (dI v55) :: q3 ((.v (.sl .nonfull (List.map eI ([0, 9, 10, 32, 40, 41, 91, 93, 44, 59])))) :: (dI ((([0, 9, 10, 32, 40, 41, 91, 93, 44, 59]).length : Int))) :: (dI v69) :: q10 [])))), [(.cells [(dI v1.2.fCode), (dI v1.2.fIndex)])]⟩ (by kernel_rfl) ?_
                    exact hxx75 v69  hsx78
              refine Wp.loop' [2, 6, 27, 28, 29, 33, 34, 35] 1 (by kernel_rfl) ⟨q2 ((dB false) :: q3 ((dI v65) :: q20 ((dP eI v1.1) :: (dI ((v1.1.length : Int))) :: (dI v55) :: q3 ((.v (.sl .nonfull (List.map eI ([0, 9, 10, 32, 40, 41, 91, 93, 44, 59])))) :: (dI ((([0, 9, 10, 32, 40, 41, 91, 93, 44, 59]).length : Int))) :: (dI 0) :: q10 [])))), [(.cells [(dI v1.2.fCode), (dI v1.2.fIndex)])]⟩ (by kernel_rfl) ?_
              rcases brk_some h with ⟨r82, er82, h⟩ | ⟨y81, ey81, h⟩
              · refine hLx80 _ 0  _ er82 n (by omega) (fun r er σ hσ => ?_) (fun y  ey => by cases ey)
                cases er
                refine seqQ.r ?_
                refine blkQ.r ?_
                refine seqQ.r ?_
                refine lpQ.r ?_
                cases h
                refine blkQ.r ?_
                exact hrx60 _ hsx64 _ (RetOk.forget [2, 27, 28, 29] (by kernel_rfl) hσ)
              · refine hLx80 _ 0  _ ey81 n (by omega) (fun r er => by cases er) (fun y  ey => ?_)
                cases ey
                refine seqQ.n ?_
                refine Wp.seq' (by kernel_rfl) ?_
                refine Wp.region (by kernel_rfl) ?_
                refine Ops.seg' 2 2 (by kernel_rfl) ?_
                refine Ops.done (by kernel_rfl) ?_
                refine seqQ.n ?_
                refine Wp.cnd h [2, 27, 28, 29] 1 (by kernel_rfl) (fun h => ?_) (fun h => ?_)
                · refine Wp.seq' (by kernel_rfl) ?_
                  refine Wp.region (by kernel_rfl) ?_
                  refine Ops.seg' 1 1 (by kernel_rfl) ?_
                  refine Ops.done (by kernel_rfl) ?_
                  refine seqQ.n ?_
                  refine Wp.ret (by kernel_rfl) ?_
                  refine sqQ.r ?_
                  refine blkQ.r ?_
                  refine seqQ.r ?_
                  cases h
                  refine lpQ.r ?_
                  refine blkQ.r ?_
                  exact hrx60 _ hsx64 _ (RetOk.forget [2, 27, 28, 29] (by kernel_rfl) (RetOk.mk' (dB false) (by kernel_rfl) (by kernel_rfl)))
                · refine Wp.skip (by kernel_rfl) ?_
                  refine sqQ.n' ?_
                  refine blkQ.n' ?_
                  refine seqQ.n ?_
                  refine Wp.region (by kernel_rfl) ?_
                  refine Ops.seg' 2 2 (by kernel_rfl) ?_
                  refine Ops.done (by kernel_rfl) ?_
                  refine lpQ.n ⟨q2 ((dB false) :: q24 ((dP eI v1.1) :: (dI ((v1.1.length : Int))) :: (dI (w64 (v55 + 1))) :: q16 [])), [(.cells [(dI v1.2.fCode), (dI v1.2.fIndex)])]⟩ (by kernel_rfl) ?_
                  cases h
                  exact ihx59 (w64 (v55 + 1))  _ hsx64 _ (by omega) hrx60 hxx61
            · refine Wp.exit (id := 0) (by kernel_rfl) ?_
              refine sqQ.x ?_
              refine seqQ.x ?_
              cases h
              refine lpQ.x ?_
              refine blkQ.x ⟨q2 ((dB false) :: q24 ((dP eI v1.1) :: (dI ((v1.1.length : Int))) :: (dI v55) :: q16 [])), [(.cells [(dI v1.2.fCode), (dI v1.2.fIndex)])]⟩ (by kernel_rfl) ?_
              exact hxx61 v55  hsx64
        refine Wp.loop' [2, 27, 28, 29] 1 (by kernel_rfl) ⟨q2 ((dB false) :: q24 ((dP eI v1.1) :: (dI ((v1.1.length : Int))) :: (dI 0) :: q16 [])), [(.cells [(dI v1.2.fCode), (dI v1.2.fIndex)])]⟩ (by kernel_rfl) ?_
        rcases brk_some h with ⟨r85, er85, h⟩ | ⟨y84, ey84, h⟩
        · refine hLx83 _ 0  _ er85 n (by omega) (fun r er σ hσ => ?_) (fun y  ey => by cases ey)
          cases er
          refine seqQ.r ?_
          exact fnQ.r' (X13 n) (fun z => (eB z)) h hσ
        · refine hLx83 _ 0  _ ey84 n (by omega) (fun r er => by cases er) (fun y  ey => ?_)
          cases ey
          refine seqQ.n ?_
          refine Wp.seq' (by kernel_rfl) ?_
          refine Wp.region (by kernel_rfl) ?_
          refine Ops.seg' 1 1 (by kernel_rfl) ?_
          refine Ops.done (by kernel_rfl) ?_
          refine seqQ.n ?_
          refine Wp.ret (by kernel_rfl) ?_
          exact fnQ.r' (X13 n) (fun z => (eB z)) h (RetOk.mk' (dB true) (by kernel_rfl) (by kernel_rfl))
    have G13g11 : ∀ v10 : Bool, f13_r3 m v1 ((v10 || (decide ((v1.1.length : Int) > 30)))) = some o → Ops (X13 n) (opl (cL (cL (cR (cR C13))))) 9 ⟨(.v (.str a0)) :: u1 ((dB false) :: (dP eI v1.1) :: (.ptr 0 0) :: u4 ((.v (.tuple [(vP eI v1.1), (.agg [(vI v1.2.fCode), (vI v1.2.fIndex)])])) :: (.v (.str a0)) :: (.v (.tuple [(vP eI v1.1), (.agg [(vI v1.2.fCode), (vI v1.2.fIndex)])])) :: (dP eI v1.1) :: (.v (.agg [(vI v1.2.fCode), (vI v1.2.fIndex)])) :: (.v (.agg [(vI v1.2.fCode), (vI v1.2.fIndex)])) :: (.v (.agg [(vI 0), (vI 0)])) :: (dB v7) :: (dB v7) :: d4 :: d5 :: d6 :: (dB v10) :: (dB v10) :: u23 [])), [(.cells [(dI v1.2.fCode), (dI v1.2.fIndex)])]⟩ ((seqQ (X13 n) (cR (cL (cR (cR C13)))) (seqQ (X13 n) (cR (cR (cR C13))) (fnQ (X13 n).E.T (resOf Proofs.Tryd.prog 13) (eB o)))) .normal) := by
      intro v10 h
      cases v10
      · refine Ops.seg' 1 10 (by kernel_rfl) ?_
        refine Ops.one' 11 (fun h0 e0 => (len_r (T := T) h0 41 3 .plain eI v1.1 (by kernel_rfl))) (by kernel_rfl) (by kernel_rfl) ?_
        refine Ops.seg' 2 13 (by kernel_rfl) ?_
        refine Ops.st ⟨(.v (.str a0)) :: u1 ((dB false) :: (dP eI v1.1) :: (.ptr 0 0) :: u4 ((.v (.tuple [(vP eI v1.1), (.agg [(vI v1.2.fCode), (vI v1.2.fIndex)])])) :: (.v (.str a0)) :: (.v (.tuple [(vP eI v1.1), (.agg [(vI v1.2.fCode), (vI v1.2.fIndex)])])) :: (dP eI v1.1) :: (.v (.agg [(vI v1.2.fCode), (vI v1.2.fIndex)])) :: (.v (.agg [(vI v1.2.fCode), (vI v1.2.fIndex)])) :: (.v (.agg [(vI 0), (vI 0)])) :: (dB v7) :: (dB v7) :: d4 :: d5 :: d6 :: (dB false) :: (dB false) :: (dP eI v1.1) :: (dI ((v1.1.length : Int))) :: (dB (decide ((v1.1.length : Int) > 30))) :: (dB (decide ((v1.1.length : Int) > 30))) :: u19 [])), [(.cells [(dI v1.2.fCode), (dI v1.2.fIndex)])]⟩ (by kernel_rfl) ?_
        exact J13j17 _ _ _ _ _ h
      · refine Ops.seg' 4 13 (by kernel_rfl) ?_
        refine Ops.st ⟨(.v (.str a0)) :: u1 ((dB false) :: (dP eI v1.1) :: (.ptr 0 0) :: u4 ((.v (.tuple [(vP eI v1.1), (.agg [(vI v1.2.fCode), (vI v1.2.fIndex)])])) :: (.v (.str a0)) :: (.v (.tuple [(vP eI v1.1), (.agg [(vI v1.2.fCode), (vI v1.2.fIndex)])])) :: (dP eI v1.1) :: (.v (.agg [(vI v1.2.fCode), (vI v1.2.fIndex)])) :: (.v (.agg [(vI v1.2.fCode), (vI v1.2.fIndex)])) :: (.v (.agg [(vI 0), (vI 0)])) :: (dB v7) :: (dB v7) :: d4 :: d5 :: d6 :: (dB true) :: (dB true) :: u3 ((dB true) :: u19 []))), [(.cells [(dI v1.2.fCode), (dI v1.2.fIndex)])]⟩ (by kernel_rfl) ?_
        exact J13j17 _ _ _ _ _ h
    exact Ops.st ⟨(.v (.str a0)) :: u1 ((dB false) :: (dP eI v1.1) :: (.ptr 0 0) :: u4 ((.v (.tuple [(vP eI v1.1), (.agg [(vI v1.2.fCode), (vI v1.2.fIndex)])])) :: (.v (.str a0)) :: (.v (.tuple [(vP eI v1.1), (.agg [(vI v1.2.fCode), (vI v1.2.fIndex)])])) :: (dP eI v1.1) :: (.v (.agg [(vI v1.2.fCode), (vI v1.2.fIndex)])) :: (.v (.agg [(vI v1.2.fCode), (vI v1.2.fIndex)])) :: (.v (.agg [(vI 0), (vI 0)])) :: (dB v7) :: (dB v7) :: d4 :: d5 :: d6 :: (dB v8) :: (dB v8) :: u23 [])), [(.cells [(dI v1.2.fCode), (dI v1.2.fIndex)])]⟩ (by kernel_rfl) (G13g11 v8 h)
  have G13g3 : ∀ v2 : Bool, f13_r4 m v1 ((v2 || (((v1.1.length : Int)) == 0))) = some o → Ops (X13 n) (opl (cL (cL (cR (cR C13))))) 4 ⟨(.v (.str a0)) :: u1 ((dB false) :: (dP eI v1.1) :: (.ptr 0 0) :: u4 ((.v (.tuple [(vP eI v1.1), (.agg [(vI v1.2.fCode), (vI v1.2.fIndex)])])) :: (.v (.str a0)) :: (.v (.tuple [(vP eI v1.1), (.agg [(vI v1.2.fCode), (vI v1.2.fIndex)])])) :: (dP eI v1.1) :: (.v (.agg [(vI v1.2.fCode), (vI v1.2.fIndex)])) :: (.v (.agg [(vI v1.2.fCode), (vI v1.2.fIndex)])) :: (.v (.agg [(vI 0), (vI 0)])) :: (dB v2) :: (dB v2) :: u28 [])), [(.cells [(dI v1.2.fCode), (dI v1.2.fIndex)])]⟩ ((seqQ (X13 n) (cR (cL (cR (cR C13)))) (seqQ (X13 n) (cR (cR (cR C13))) (fnQ (X13 n).E.T (resOf Proofs.Tryd.prog 13) (eB o)))) .normal) := by
    intro v2 h
    cases v2
    · refine Ops.seg' 1 5 (by kernel_rfl) ?_
      refine Ops.one' 6 (fun h0 e0 => (len_r (T := T) h0 41 3 .plain eI v1.1 (by kernel_rfl))) (by kernel_rfl) (by kernel_rfl) ?_
      refine Ops.seg' 2 8 (by kernel_rfl) ?_
      refine Ops.st ⟨(.v (.str a0)) :: u1 ((dB false) :: (dP eI v1.1) :: (.ptr 0 0) :: u4 ((.v (.tuple [(vP eI v1.1), (.agg [(vI v1.2.fCode), (vI v1.2.fIndex)])])) :: (.v (.str a0)) :: (.v (.tuple [(vP eI v1.1), (.agg [(vI v1.2.fCode), (vI v1.2.fIndex)])])) :: (dP eI v1.1) :: (.v (.agg [(vI v1.2.fCode), (vI v1.2.fIndex)])) :: (.v (.agg [(vI v1.2.fCode), (vI v1.2.fIndex)])) :: (.v (.agg [(vI 0), (vI 0)])) :: (dB false) :: (dB false) :: (dP eI v1.1) :: (dI ((v1.1.length : Int))) :: (dB (((v1.1.length : Int)) == 0)) :: (dB (((v1.1.length : Int)) == 0)) :: u24 [])), [(.cells [(dI v1.2.fCode), (dI v1.2.fIndex)])]⟩ (by kernel_rfl) ?_
      exact J13j9 _ _ _ _ _ h
    · refine Ops.seg' 4 8 (by kernel_rfl) ?_
      refine Ops.st ⟨(.v (.str a0)) :: u1 ((dB false) :: (dP eI v1.1) :: (.ptr 0 0) :: u4 ((.v (.tuple [(vP eI v1.1), (.agg [(vI v1.2.fCode), (vI v1.2.fIndex)])])) :: (.v (.str a0)) :: (.v (.tuple [(vP eI v1.1), (.agg [(vI v1.2.fCode), (vI v1.2.fIndex)])])) :: (dP eI v1.1) :: (.v (.agg [(vI v1.2.fCode), (vI v1.2.fIndex)])) :: (.v (.agg [(vI v1.2.fCode), (vI v1.2.fIndex)])) :: (.v (.agg [(vI 0), (vI 0)])) :: (dB true) :: (dB true) :: u3 ((dB true) :: u24 []))), [(.cells [(dI v1.2.fCode), (dI v1.2.fIndex)])]⟩ (by kernel_rfl) ?_
      exact J13j9 _ _ _ _ _ h
  exact Ops.st ⟨(.v (.str a0)) :: u1 ((dB false) :: (dP eI v1.1) :: (.ptr 0 0) :: u4 ((.v (.tuple [(vP eI v1.1), (.agg [(vI v1.2.fCode), (vI v1.2.fIndex)])])) :: (.v (.str a0)) :: (.v (.tuple [(vP eI v1.1), (.agg [(vI v1.2.fCode), (vI v1.2.fIndex)])])) :: (dP eI v1.1) :: (.v (.agg [(vI v1.2.fCode), (vI v1.2.fIndex)])) :: (.v (.agg [(vI v1.2.fCode), (vI v1.2.fIndex)])) :: (.v (.agg [(vI 0), (vI 0)])) :: (dB ((!((v1.2.fCode == 0) && ((v1.2.fIndex == 0) && true))))) :: (dB ((!((v1.2.fCode == 0) && ((v1.2.fIndex == 0) && true))))) :: u28 [])), [(.cells [(dI v1.2.fCode), (dI v1.2.fIndex)])]⟩ (by kernel_rfl) (G13g3 (!((v1.2.fCode == 0) && ((v1.2.fIndex == 0) && true))) h)

/-! ### 22 glosswright/glosswrightref6.Name -/
def f22_r1 (m : Nat) (v96 : Int) (v137 : Bool) : Option (Stp Bool (Int)) :=
  cnd (!v137)
  (some (.ret false))
  (some (.nxt (w64 (v96 + 1))))
def f22_r2 (m : Nat) (v96 : Int) (v106 : Int) (v130 : Bool) : Option (Stp Bool (Int)) :=
  f22_r1 m v96 ((v130 || (v106 == 45)))
def f22_r3 (m : Nat) (v96 : Int) (v106 : Int) (v123 : Bool) : Option (Stp Bool (Int)) :=
  f22_r2 m v96 v106 ((v123 || (v106 == 95)))
def f22_r4 (m : Nat) (v96 : Int) (v106 : Int) (v112 : Bool) : Option (Stp Bool (Int)) :=
  f22_r3 m v96 v106 ((v112 || (((decide (v106 ≥ 48)) && (decide (v106 ≤ 57))))))
def f22_B5 (m : Nat) (a0 : ByteArray) (v96 : Int) : Option (Stp Bool (Int)) :=
  cnd (decide (v96 < (a0.size : Int)))
  (bnd (sidx a0 v96) fun v106 =>
  f22_r4 m v96 v106 (((decide (v106 ≥ 97)) && (decide (v106 ≤ 122)))))
  (some (.brk v96))
def f22_r6 (m : Nat) (a0 : ByteArray) (v23 : Bool) : Option Bool :=
  cnd v23
  (some false)
  (brk (iter (fun (y : Int) => f22_B5 m a0 y) m 0) some fun y142 =>
  some true)
def f22_r7 (m : Nat) (a0 : ByteArray) (v15 : Bool) : Option Bool :=
  bnd (cnd v15
  (some true)
  (bnd (sidx a0 0) fun v144 =>
  some (decide (v144 > 122)))) fun v23 =>
  f22_r6 m a0 v23
def f22_r8 (m : Nat) (a0 : ByteArray) (v7 : Bool) : Option Bool :=
  bnd (cnd v7
  (some true)
  (bnd (sidx a0 0) fun v145 =>
  some (decide (v145 < 97)))) fun v15 =>
  f22_r7 m a0 v15
def f22 (m : Nat) (a0 : ByteArray) : Option Bool :=
  f22_r8 m a0 (((((a0.size : Int)) == 0) || (decide ((a0.size : Int) > 30))))
noncomputable abbrev X22 (n : Nat) : Cx := cxOf Proofs.Tryd.prog EG 22 n
noncomputable def C22 : Code := bodyOf Proofs.Tryd.prog 22
theorem ok22 (m : Nat) (a0 : ByteArray) (o : Bool) (h : f22 m a0 = some o) (n : Nat) (hn : m + 1 ≤ n) : Fn Proofs.Tryd.prog EG n 22 [.v (eS a0)] (eB o) := by
  obtain ⟨n, rfl⟩ : ∃ q, n = q + 1 := ⟨n - 1, by omega⟩
  unfold f22 at h
  refine Fn.of (by kernel_rfl) (by kernel_rfl) (by kernel_rfl) ⟨(.v (.str a0)) :: u40 (u14 []), []⟩ (by kernel_rfl) ?_
  refine Wp.seq' (by kernel_rfl) ?_
  refine Wp.region (by kernel_rfl) ?_
  refine Ops.seg' 1 1 (by kernel_rfl) ?_
  refine Ops.done (by kernel_rfl) ?_
  refine seqQ.n ?_
  refine Wp.seq' (by kernel_rfl) ?_
  refine Wp.seq' (by kernel_rfl) ?_
  refine Wp.region (by kernel_rfl) ?_
  refine Ops.seg' 4 4 (by kernel_rfl) ?_
  have J22j8 : ∀ (d3 d4 d5 : D) (v6 : Bool) (v7 : Bool), f22_r8 m a0 v7 = some o → Ops (X22 n) (opl (cL (cL (cR C22)))) 8 ⟨(.v (.str a0)) :: u1 ((dB false) :: u2 ((.v (.str a0)) :: (dI ((a0.size : Int))) :: (dB v6) :: (dB v6) :: d3 :: d4 :: d5 :: (dB v7) :: u40 (u2 []))), []⟩ ((seqQ (X22 n) (cR (cL (cR C22))) (seqQ (X22 n) (cR (cR C22)) (fnQ (X22 n).E.T (resOf Proofs.Tryd.prog 22) (eB o)))) .normal) := by
    intro d3 d4 d5 v6 v7 h
    unfold f22_r8 at h
    refine Ops.seg' 1 9 (by kernel_rfl) ?_
    have J22j16 : ∀ (d11 d12 d13 : D) (v14 : Bool) (v15 : Bool), f22_r7 m a0 v15 = some o → Ops (X22 n) (opl (cL (cL (cR C22)))) 13 ⟨(.v (.str a0)) :: u1 ((dB false) :: u2 ((.v (.str a0)) :: (dI ((a0.size : Int))) :: (dB v6) :: (dB v6) :: d3 :: d4 :: d5 :: (dB v14) :: (dB v14) :: d11 :: d12 :: d13 :: (dB v15) :: u37 [])), []⟩ ((seqQ (X22 n) (cR (cL (cR C22))) (seqQ (X22 n) (cR (cR C22)) (fnQ (X22 n).E.T (resOf Proofs.Tryd.prog 22) (eB o)))) .normal) := by
      intro d11 d12 d13 v14 v15 h
      unfold f22_r7 at h
      refine Ops.seg' 1 14 (by kernel_rfl) ?_
      have J22j24 : ∀ (d19 d20 d21 : D) (v22 : Bool) (v23 : Bool), f22_r6 m a0 v23 = some o → Ops (X22 n) (opl (cL (cL (cR C22)))) 18 ⟨(.v (.str a0)) :: u1 ((dB false) :: u2 ((.v (.str a0)) :: (dI ((a0.size : Int))) :: (dB v6) :: (dB v6) :: d3 :: d4 :: d5 :: (dB v14) :: (dB v14) :: d11 :: d12 :: d13 :: (dB v22) :: (dB v22) :: d19 :: d20 :: d21 :: (dB v23) :: u32 [])), []⟩ ((seqQ (X22 n) (cR (cL (cR C22))) (seqQ (X22 n) (cR (cR C22)) (fnQ (X22 n).E.T (resOf Proofs.Tryd.prog 22) (eB o)))) .normal) := by
        intro d19 d20 d21 v22 v23 h
        unfold f22_r6 at h
        refine Ops.done (by kernel_rfl) ?_
        refine seqQ.n ?_
        refine Wp.cnd h [0, 2] 0 (by kernel_rfl) (fun h => ?_) (fun h => ?_)
        · refine Wp.seq' (by kernel_rfl) ?_
          refine Wp.region (by kernel_rfl) ?_
          refine Ops.seg' 1 1 (by kernel_rfl) ?_
          refine Ops.done (by kernel_rfl) ?_
          refine seqQ.n ?_
          refine Wp.ret (by kernel_rfl) ?_
          refine sqQ.r ?_
          refine seqQ.r ?_
          exact fnQ.r' (X22 n) (fun z => (eB z)) h (RetOk.mk' (dB false) (by kernel_rfl) (by kernel_rfl))
        · refine Wp.skip (by kernel_rfl) ?_
          refine sqQ.n' ?_
          refine seqQ.n ?_
          refine Wp.seq' (by kernel_rfl) ?_
          refine Wp.seq' (by kernel_rfl) ?_
          refine Wp.region (by kernel_rfl) ?_
          refine Ops.seg' 1 1 (by kernel_rfl) ?_
          refine Ops.done (by kernel_rfl) ?_
          refine seqQ.n ?_
          refine Wp.block' 0 [2] 0 (by kernel_rfl) ?_
          have hLx141 : ∀ (kx98 : Nat) (v96 : Int)  (ox97 : Bool ⊕ (Int)), iter (fun (y : Int) => f22_B5 m a0 y) kx98 v96 = some ox97 → ∀ nx99, kx98 ≤ nx99 → (∀ r, ox97 = .inl r → ∀ σ, RetOk (X22 n) (resOf Proofs.Tryd.prog 22) (eB r) σ → (seqQ (X22 n) (cR (cR (cR C22))) (fnQ (X22 n).E.T (resOf Proofs.Tryd.prog 22) (eB o))) .ret σ) → (∀ (y : Int) , ox97 = .inr y → (seqQ (X22 n) (cR (cR (cR C22))) (fnQ (X22 n).E.T (resOf Proofs.Tryd.prog 22) (eB o))) .normal ⟨(.v (.str a0)) :: q1 ((dB false) :: (dI y) :: q40 (q11 [])), []⟩) → Lp (X22 n) [0, 2, 3] 0 (cL (cL (cR (cL (cR (cR C22)))))) nx99 ⟨(.v (.str a0)) :: q1 ((dB false) :: (dI v96) :: q40 (q11 [])), []⟩ (blkQ (X22 n) 0 [2] 0 (seqQ (X22 n) (cR (cR (cR C22))) (fnQ (X22 n).E.T (resOf Proofs.Tryd.prog 22) (eB o)))) := by
            intro kx98
            induction kx98 with
            | zero => intro v96  ox97 h; exact (iter_zero h).elim
            | succ kx98 ihx100 =>
              intro v96  ox97 h nx99 hnx103 hrx101 hxx102
              obtain ⟨nx99, rfl⟩ : ∃ q, nx99 = q + 1 := ⟨nx99 - 1, by omega⟩
              obtain ⟨sx104, h, hsx105⟩ := iter_some h
              have h : f22_B5 m a0 v96 = some sx104 := h
              unfold f22_B5 at h
              refine Lp.succ ?_
              refine Wp.seq' (by kernel_rfl) ?_
              refine Wp.seq' (by kernel_rfl) ?_
              refine Wp.region (by kernel_rfl) ?_
              refine Ops.seg' 4 4 (by kernel_rfl) ?_
              refine Ops.done (by kernel_rfl) ?_
              refine seqQ.n ?_
              refine Wp.cnd h [0, 2, 3] 0 (by kernel_rfl) (fun h => ?_) (fun h => ?_)
              · refine Wp.skip (by kernel_rfl) ?_
                refine sqQ.n' ?_
                refine seqQ.n ?_
                refine Wp.seq' (by kernel_rfl) ?_
                refine Wp.block' 1 [0, 2, 3] 0 (by kernel_rfl) ?_
                refine Wp.seq' (by kernel_rfl) ?_
                refine Wp.region (by kernel_rfl) ?_
                refine Ops.seg' 2 2 (by kernel_rfl) ?_
                obtain ⟨v106, ev106, h⟩ := bnd_some h
                refine Ops.one' 3 (fun h0 e0 => (str_ix (T := T) h0 9 a0 v96 v106 ev106 (by kernel_rfl))) (by kernel_rfl) (by kernel_rfl) ?_
                refine Ops.seg' 1 4 (by kernel_rfl) ?_
                refine Ops.done (by kernel_rfl) ?_
                refine seqQ.n ?_
                refine Wp.seq' (by kernel_rfl) ?_
                refine Wp.region (by kernel_rfl) ?_
                refine Ops.seg' 3 3 (by kernel_rfl) ?_
                have J22j113 : ∀ (d109 d110 : D) (v111 : Bool) (v112 : Bool), f22_r4 m v96 v106 v112 = some sx104 → Ops (X22 n) (opl (cL (cR (cL (cL (cR (cL (cL (cR (cL (cR (cR C22)))))))))))) 6 ⟨(.v (.str a0)) :: q1 ((dB false) :: (dI v96) :: (.v (.int .u8 v106)) :: q18 ((dI v96) :: (.v (.str a0)) :: (dI ((a0.size : Int))) :: (dB (decide (v96 < (a0.size : Int)))) :: q2 ((.v (.str a0)) :: (dI v96) :: (.v (.int .u8 v106)) :: (.v (.int .u8 v106)) :: (dB v111) :: (dB v111) :: d109 :: d110 :: (dB v112) :: q17 []))), []⟩ ((seqQ (X22 n) (cR (cR (cL (cL (cR (cL (cL (cR (cL (cR (cR C22))))))))))) (blkQ (X22 n) 1 [0, 2, 3] 0 (seqQ (X22 n) (cR (cR (cL (cL (cR (cL (cR (cR C22)))))))) (lpQ (X22 n) [0, 2, 3] 0 (cL (cL (cR (cL (cR (cR C22)))))) nx99 (blkQ (X22 n) 0 [2] 0 (seqQ (X22 n) (cR (cR (cR C22))) (fnQ (X22 n).E.T (resOf Proofs.Tryd.prog 22) (eB o)))))))) .normal) := by
                  intro d109 d110 v111 v112 h
                  unfold f22_r4 at h
                  refine Ops.seg' 1 7 (by kernel_rfl) ?_
                  have J22j124 : ∀ (d116 d117 d118 d119 d120 d121 : D) (v122 : Bool) (v123 : Bool), f22_r3 m v96 v106 v123 = some sx104 → Ops (X22 n) (opl (cL (cR (cL (cL (cR (cL (cL (cR (cL (cR (cR C22)))))))))))) 14 ⟨(.v (.str a0)) :: q1 ((dB false) :: (dI v96) :: (.v (.int .u8 v106)) :: q18 ((dI v96) :: (.v (.str a0)) :: (dI ((a0.size : Int))) :: (dB (decide (v96 < (a0.size : Int)))) :: q2 ((.v (.str a0)) :: (dI v96) :: (.v (.int .u8 v106)) :: (.v (.int .u8 v106)) :: (dB v111) :: (dB v111) :: d109 :: d110 :: (dB v122) :: (dB v122) :: d116 :: d117 :: d118 :: d119 :: d120 :: d121 :: (dB v123) :: q9 []))), []⟩ ((seqQ (X22 n) (cR (cR (cL (cL (cR (cL (cL (cR (cL (cR (cR C22))))))))))) (blkQ (X22 n) 1 [0, 2, 3] 0 (seqQ (X22 n) (cR (cR (cL (cL (cR (cL (cR (cR C22)))))))) (lpQ (X22 n) [0, 2, 3] 0 (cL (cL (cR (cL (cR (cR C22)))))) nx99 (blkQ (X22 n) 0 [2] 0 (seqQ (X22 n) (cR (cR (cR C22))) (fnQ (X22 n).E.T (resOf Proofs.Tryd.prog 22) (eB o)))))))) .normal) := by
                    intro d116 d117 d118 d119 d120 d121 v122 v123 h
                    unfold f22_r3 at h
                    refine Ops.seg' 1 15 (by kernel_rfl) ?_
                    have J22j131 : ∀ (d127 d128 : D) (v129 : Bool) (v130 : Bool), f22_r2 m v96 v106 v130 = some sx104 → Ops (X22 n) (opl (cL (cR (cL (cL (cR (cL (cL (cR (cL (cR (cR C22)))))))))))) 18 ⟨(.v (.str a0)) :: q1 ((dB false) :: (dI v96) :: (.v (.int .u8 v106)) :: q18 ((dI v96) :: (.v (.str a0)) :: (dI ((a0.size : Int))) :: (dB (decide (v96 < (a0.size : Int)))) :: q2 ((.v (.str a0)) :: (dI v96) :: (.v (.int .u8 v106)) :: (.v (.int .u8 v106)) :: (dB v111) :: (dB v111) :: d109 :: d110 :: (dB v122) :: (dB v122) :: d116 :: d117 :: d118 :: d119 :: d120 :: d121 :: (dB v129) :: (dB v129) :: d127 :: d128 :: (dB v130) :: q5 []))), []⟩ ((seqQ (X22 n) (cR (cR (cL (cL (cR (cL (cL (cR (cL (cR (cR C22))))))))))) (blkQ (X22 n) 1 [0, 2, 3] 0 (seqQ (X22 n) (cR (cR (cL (cL (cR (cL (cR (cR C22)))))))) (lpQ (X22 n) [0, 2, 3] 0 (cL (cL (cR (cL (cR (cR C22)))))) nx99 (blkQ (X22 n) 0 [2] 0 (seqQ (X22 n) (cR (cR (cR C22))) (fnQ (X22 n).E.T (resOf Proofs.Tryd.prog 22) (eB o)))))))) .normal) := by
                      intro d127 d128 v129 v130 h
                      unfold f22_r2 at h
                      refine Ops.seg' 1 19 (by kernel_rfl) ?_
                      have J22j138 : ∀ (d134 d135 : D) (v136 : Bool) (v137 : Bool), f22_r1 m v96 v137 = some sx104 → Ops (X22 n) (opl (cL (cR (cL (cL (cR (cL (cL (cR (cL (cR (cR C22)))))))))))) 22 ⟨(.v (.str a0)) :: q1 ((dB false) :: (dI v96) :: (.v (.int .u8 v106)) :: q18 ((dI v96) :: (.v (.str a0)) :: (dI ((a0.size : Int))) :: (dB (decide (v96 < (a0.size : Int)))) :: q2 ((.v (.str a0)) :: (dI v96) :: (.v (.int .u8 v106)) :: (.v (.int .u8 v106)) :: (dB v111) :: (dB v111) :: d109 :: d110 :: (dB v122) :: (dB v122) :: d116 :: d117 :: d118 :: d119 :: d120 :: d121 :: (dB v129) :: (dB v129) :: d127 :: d128 :: (dB v136) :: (dB v136) :: d134 :: d135 :: (dB v137) :: q1 []))), []⟩ ((seqQ (X22 n) (cR (cR (cL (cL (cR (cL (cL (cR (cL (cR (cR C22))))))))))) (blkQ (X22 n) 1 [0, 2, 3] 0 (seqQ (X22 n) (cR (cR (cL (cL (cR (cL (cR (cR C22)))))))) (lpQ (X22 n) [0, 2, 3] 0 (cL (cL (cR (cL (cR (cR C22)))))) nx99 (blkQ (X22 n) 0 [2] 0 (seqQ (X22 n) (cR (cR (cR C22))) (fnQ (X22 n).E.T (resOf Proofs.Tryd.prog 22) (eB o)))))))) .normal) := by
                        intro d134 d135 v136 v137 h
                        unfold f22_r1 at h
                        refine Ops.seg' 1 23 (by kernel_rfl) ?_
                        refine Ops.done (by kernel_rfl) ?_
                        refine seqQ.n ?_
                        refine Wp.cnd h [0, 2, 3] 0 (by kernel_rfl) (fun h => ?_) (fun h => ?_)
                        · refine Wp.seq' (by kernel_rfl) ?_
                          refine Wp.region (by kernel_rfl) ?_
                          refine Ops.seg' 1 1 (by kernel_rfl) ?_
                          refine Ops.done (by kernel_rfl) ?_
                          refine seqQ.n ?_
                          refine Wp.ret (by kernel_rfl) ?_
                          refine sqQ.r ?_
                          refine blkQ.r ?_
                          refine seqQ.r ?_
                          cases h
                          refine lpQ.r ?_
                          refine blkQ.r ?_
                          exact hrx101 _ hsx105 _ (RetOk.forget [0, 2, 3] (by kernel_rfl) (RetOk.mk' (dB false) (by kernel_rfl) (by kernel_rfl)))
                        · refine Wp.skip (by kernel_rfl) ?_
                          refine sqQ.n' ?_
                          refine blkQ.n' ?_
                          refine seqQ.n ?_
                          refine Wp.region (by kernel_rfl) ?_
                          refine Ops.seg' 3 3 (by kernel_rfl) ?_
                          refine Ops.done (by kernel_rfl) ?_
                          refine lpQ.n ⟨(.v (.str a0)) :: q1 ((dB false) :: (dI (w64 (v96 + 1))) :: q40 (q11 [])), []⟩ (by kernel_rfl) ?_
                          cases h
                          exact ihx100 (w64 (v96 + 1))  _ hsx105 _ (by omega) hrx101 hxx102
                      have G22g133 : ∀ v132 : Bool, f22_r1 m v96 ((v132 || (v106 == 45))) = some sx104 → Ops (X22 n) (opl (cL (cR (cL (cL (cR (cL (cL (cR (cL (cR (cR C22)))))))))))) 19 ⟨(.v (.str a0)) :: q1 ((dB false) :: (dI v96) :: (.v (.int .u8 v106)) :: q18 ((dI v96) :: (.v (.str a0)) :: (dI ((a0.size : Int))) :: (dB (decide (v96 < (a0.size : Int)))) :: q2 ((.v (.str a0)) :: (dI v96) :: (.v (.int .u8 v106)) :: (.v (.int .u8 v106)) :: (dB v111) :: (dB v111) :: d109 :: d110 :: (dB v122) :: (dB v122) :: d116 :: d117 :: d118 :: d119 :: d120 :: d121 :: (dB v129) :: (dB v129) :: d127 :: d128 :: (dB v132) :: (dB v132) :: q4 []))), []⟩ ((seqQ (X22 n) (cR (cR (cL (cL (cR (cL (cL (cR (cL (cR (cR C22))))))))))) (blkQ (X22 n) 1 [0, 2, 3] 0 (seqQ (X22 n) (cR (cR (cL (cL (cR (cL (cR (cR C22)))))))) (lpQ (X22 n) [0, 2, 3] 0 (cL (cL (cR (cL (cR (cR C22)))))) nx99 (blkQ (X22 n) 0 [2] 0 (seqQ (X22 n) (cR (cR (cR C22))) (fnQ (X22 n).E.T (resOf Proofs.Tryd.prog 22) (eB o)))))))) .normal) := by
                        intro v132 h
                        cases v132
                        · refine Ops.seg' 3 22 (by kernel_rfl) ?_
                          refine Ops.st ⟨(.v (.str a0)) :: q1 ((dB false) :: (dI v96) :: (.v (.int .u8 v106)) :: q18 ((dI v96) :: (.v (.str a0)) :: (dI ((a0.size : Int))) :: (dB (decide (v96 < (a0.size : Int)))) :: q2 ((.v (.str a0)) :: (dI v96) :: (.v (.int .u8 v106)) :: (.v (.int .u8 v106)) :: (dB v111) :: (dB v111) :: d109 :: d110 :: (dB v122) :: (dB v122) :: d116 :: d117 :: d118 :: d119 :: d120 :: d121 :: (dB v129) :: (dB v129) :: d127 :: d128 :: (dB false) :: (dB false) :: (.v (.int .u8 v106)) :: (dB (v106 == 45)) :: (dB (v106 == 45)) :: q1 []))), []⟩ (by kernel_rfl) ?_
                          exact J22j138 _ _ _ _ h
                        · refine Ops.seg' 3 22 (by kernel_rfl) ?_
                          refine Ops.st ⟨(.v (.str a0)) :: q1 ((dB false) :: (dI v96) :: (.v (.int .u8 v106)) :: q18 ((dI v96) :: (.v (.str a0)) :: (dI ((a0.size : Int))) :: (dB (decide (v96 < (a0.size : Int)))) :: q2 ((.v (.str a0)) :: (dI v96) :: (.v (.int .u8 v106)) :: (.v (.int .u8 v106)) :: (dB v111) :: (dB v111) :: d109 :: d110 :: (dB v122) :: (dB v122) :: d116 :: d117 :: d118 :: d119 :: d120 :: d121 :: (dB v129) :: (dB v129) :: d127 :: d128 :: (dB true) :: (dB true) :: u2 ((dB true) :: q1 [])))), []⟩ (by kernel_rfl) ?_
                          exact J22j138 _ _ _ _ h
                      exact Ops.st ⟨(.v (.str a0)) :: q1 ((dB false) :: (dI v96) :: (.v (.int .u8 v106)) :: q18 ((dI v96) :: (.v (.str a0)) :: (dI ((a0.size : Int))) :: (dB (decide (v96 < (a0.size : Int)))) :: q2 ((.v (.str a0)) :: (dI v96) :: (.v (.int .u8 v106)) :: (.v (.int .u8 v106)) :: (dB v111) :: (dB v111) :: d109 :: d110 :: (dB v122) :: (dB v122) :: d116 :: d117 :: d118 :: d119 :: d120 :: d121 :: (dB v129) :: (dB v129) :: d127 :: d128 :: (dB v130) :: (dB v130) :: q4 []))), []⟩ (by kernel_rfl) (G22g133 v130 h)
                    have G22g126 : ∀ v125 : Bool, f22_r2 m v96 v106 ((v125 || (v106 == 95))) = some sx104 → Ops (X22 n) (opl (cL (cR (cL (cL (cR (cL (cL (cR (cL (cR (cR C22)))))))))))) 15 ⟨(.v (.str a0)) :: q1 ((dB false) :: (dI v96) :: (.v (.int .u8 v106)) :: q18 ((dI v96) :: (.v (.str a0)) :: (dI ((a0.size : Int))) :: (dB (decide (v96 < (a0.size : Int)))) :: q2 ((.v (.str a0)) :: (dI v96) :: (.v (.int .u8 v106)) :: (.v (.int .u8 v106)) :: (dB v111) :: (dB v111) :: d109 :: d110 :: (dB v122) :: (dB v122) :: d116 :: d117 :: d118 :: d119 :: d120 :: d121 :: (dB v125) :: (dB v125) :: q8 []))), []⟩ ((seqQ (X22 n) (cR (cR (cL (cL (cR (cL (cL (cR (cL (cR (cR C22))))))))))) (blkQ (X22 n) 1 [0, 2, 3] 0 (seqQ (X22 n) (cR (cR (cL (cL (cR (cL (cR (cR C22)))))))) (lpQ (X22 n) [0, 2, 3] 0 (cL (cL (cR (cL (cR (cR C22)))))) nx99 (blkQ (X22 n) 0 [2] 0 (seqQ (X22 n) (cR (cR (cR C22))) (fnQ (X22 n).E.T (resOf Proofs.Tryd.prog 22) (eB o)))))))) .normal) := by
                      intro v125 h
                      cases v125
                      · refine Ops.seg' 3 18 (by kernel_rfl) ?_
                        refine Ops.st ⟨(.v (.str a0)) :: q1 ((dB false) :: (dI v96) :: (.v (.int .u8 v106)) :: q18 ((dI v96) :: (.v (.str a0)) :: (dI ((a0.size : Int))) :: (dB (decide (v96 < (a0.size : Int)))) :: q2 ((.v (.str a0)) :: (dI v96) :: (.v (.int .u8 v106)) :: (.v (.int .u8 v106)) :: (dB v111) :: (dB v111) :: d109 :: d110 :: (dB v122) :: (dB v122) :: d116 :: d117 :: d118 :: d119 :: d120 :: d121 :: (dB false) :: (dB false) :: (.v (.int .u8 v106)) :: (dB (v106 == 95)) :: (dB (v106 == 95)) :: q5 []))), []⟩ (by kernel_rfl) ?_
                        exact J22j131 _ _ _ _ h
                      · refine Ops.seg' 3 18 (by kernel_rfl) ?_
                        refine Ops.st ⟨(.v (.str a0)) :: q1 ((dB false) :: (dI v96) :: (.v (.int .u8 v106)) :: q18 ((dI v96) :: (.v (.str a0)) :: (dI ((a0.size : Int))) :: (dB (decide (v96 < (a0.size : Int)))) :: q2 ((.v (.str a0)) :: (dI v96) :: (.v (.int .u8 v106)) :: (.v (.int .u8 v106)) :: (dB v111) :: (dB v111) :: d109 :: d110 :: (dB v122) :: (dB v122) :: d116 :: d117 :: d118 :: d119 :: d120 :: d121 :: (dB true) :: (dB true) :: u2 ((dB true) :: q5 [])))), []⟩ (by kernel_rfl) ?_
                        exact J22j131 _ _ _ _ h
                    exact Ops.st ⟨(.v (.str a0)) :: q1 ((dB false) :: (dI v96) :: (.v (.int .u8 v106)) :: q18 ((dI v96) :: (.v (.str a0)) :: (dI ((a0.size : Int))) :: (dB (decide (v96 < (a0.size : Int)))) :: q2 ((.v (.str a0)) :: (dI v96) :: (.v (.int .u8 v106)) :: (.v (.int .u8 v106)) :: (dB v111) :: (dB v111) :: d109 :: d110 :: (dB v122) :: (dB v122) :: d116 :: d117 :: d118 :: d119 :: d120 :: d121 :: (dB v123) :: (dB v123) :: q8 []))), []⟩ (by kernel_rfl) (G22g126 v123 h)
                  have G22g115 : ∀ v114 : Bool, f22_r3 m v96 v106 ((v114 || (((decide (v106 ≥ 48)) && (decide (v106 ≤ 57)))))) = some sx104 → Ops (X22 n) (opl (cL (cR (cL (cL (cR (cL (cL (cR (cL (cR (cR C22)))))))))))) 7 ⟨(.v (.str a0)) :: q1 ((dB false) :: (dI v96) :: (.v (.int .u8 v106)) :: q18 ((dI v96) :: (.v (.str a0)) :: (dI ((a0.size : Int))) :: (dB (decide (v96 < (a0.size : Int)))) :: q2 ((.v (.str a0)) :: (dI v96) :: (.v (.int .u8 v106)) :: (.v (.int .u8 v106)) :: (dB v111) :: (dB v111) :: d109 :: d110 :: (dB v114) :: (dB v114) :: q16 []))), []⟩ ((seqQ (X22 n) (cR (cR (cL (cL (cR (cL (cL (cR (cL (cR (cR C22))))))))))) (blkQ (X22 n) 1 [0, 2, 3] 0 (seqQ (X22 n) (cR (cR (cL (cL (cR (cL (cR (cR C22)))))))) (lpQ (X22 n) [0, 2, 3] 0 (cL (cL (cR (cL (cR (cR C22)))))) nx99 (blkQ (X22 n) 0 [2] 0 (seqQ (X22 n) (cR (cR (cR C22))) (fnQ (X22 n).E.T (resOf Proofs.Tryd.prog 22) (eB o)))))))) .normal) := by
                    intro v114 h
                    cases v114
                    · refine Ops.seg' 3 10 (by kernel_rfl) ?_
                      have G22g140 : ∀ v139 : Bool, (f22_r3 m v96 v106 ((false || ((v139 && (decide (v106 ≤ 57))))))) = some sx104 → Ops (X22 n) (opl (cL (cR (cL (cL (cR (cL (cL (cR (cL (cR (cR C22)))))))))))) 10 ⟨(.v (.str a0)) :: q1 ((dB false) :: (dI v96) :: (.v (.int .u8 v106)) :: q18 ((dI v96) :: (.v (.str a0)) :: (dI ((a0.size : Int))) :: (dB (decide (v96 < (a0.size : Int)))) :: q2 ((.v (.str a0)) :: (dI v96) :: (.v (.int .u8 v106)) :: (.v (.int .u8 v106)) :: (dB v111) :: (dB v111) :: d109 :: d110 :: (dB false) :: (dB false) :: (.v (.int .u8 v106)) :: (dB v139) :: (dB v139) :: q13 []))), []⟩ ((seqQ (X22 n) (cR (cR (cL (cL (cR (cL (cL (cR (cL (cR (cR C22))))))))))) (blkQ (X22 n) 1 [0, 2, 3] 0 (seqQ (X22 n) (cR (cR (cL (cL (cR (cL (cR (cR C22)))))))) (lpQ (X22 n) [0, 2, 3] 0 (cL (cL (cR (cL (cR (cR C22)))))) nx99 (blkQ (X22 n) 0 [2] 0 (seqQ (X22 n) (cR (cR (cR C22))) (fnQ (X22 n).E.T (resOf Proofs.Tryd.prog 22) (eB o)))))))) .normal) := by
                        intro v139 h
                        cases v139
                        · refine Ops.seg' 4 14 (by kernel_rfl) ?_
                          refine Ops.st ⟨(.v (.str a0)) :: q1 ((dB false) :: (dI v96) :: (.v (.int .u8 v106)) :: q18 ((dI v96) :: (.v (.str a0)) :: (dI ((a0.size : Int))) :: (dB (decide (v96 < (a0.size : Int)))) :: q2 ((.v (.str a0)) :: (dI v96) :: (.v (.int .u8 v106)) :: (.v (.int .u8 v106)) :: (dB v111) :: (dB v111) :: d109 :: d110 :: (dB false) :: (dB false) :: (.v (.int .u8 v106)) :: (dB false) :: (dB false) :: u2 ((dB false) :: (dB false) :: q9 [])))), []⟩ (by kernel_rfl) ?_
                          exact J22j124 _ _ _ _ _ _ _ _ h
                        · refine Ops.seg' 4 14 (by kernel_rfl) ?_
                          refine Ops.st ⟨(.v (.str a0)) :: q1 ((dB false) :: (dI v96) :: (.v (.int .u8 v106)) :: q18 ((dI v96) :: (.v (.str a0)) :: (dI ((a0.size : Int))) :: (dB (decide (v96 < (a0.size : Int)))) :: q2 ((.v (.str a0)) :: (dI v96) :: (.v (.int .u8 v106)) :: (.v (.int .u8 v106)) :: (dB v111) :: (dB v111) :: d109 :: d110 :: (dB false) :: (dB false) :: (.v (.int .u8 v106)) :: (dB true) :: (dB true) :: (.v (.int .u8 v106)) :: (dB (decide (v106 ≤ 57))) :: (dB (decide (v106 ≤ 57))) :: (dB (decide (v106 ≤ 57))) :: q9 []))), []⟩ (by kernel_rfl) ?_
                          exact J22j124 _ _ _ _ _ _ _ _ h
                      exact Ops.st ⟨(.v (.str a0)) :: q1 ((dB false) :: (dI v96) :: (.v (.int .u8 v106)) :: q18 ((dI v96) :: (.v (.str a0)) :: (dI ((a0.size : Int))) :: (dB (decide (v96 < (a0.size : Int)))) :: q2 ((.v (.str a0)) :: (dI v96) :: (.v (.int .u8 v106)) :: (.v (.int .u8 v106)) :: (dB v111) :: (dB v111) :: d109 :: d110 :: (dB false) :: (dB false) :: (.v (.int .u8 v106)) :: (dB ((decide (v106 ≥ 48)))) :: (dB ((decide (v106 ≥ 48)))) :: q13 []))), []⟩ (by kernel_rfl) (G22g140 (decide (v106 ≥ 48)) h)
                    · refine Ops.seg' 7 14 (by kernel_rfl) ?_
                      refine Ops.st ⟨(.v (.str a0)) :: q1 ((dB false) :: (dI v96) :: (.v (.int .u8 v106)) :: q18 ((dI v96) :: (.v (.str a0)) :: (dI ((a0.size : Int))) :: (dB (decide (v96 < (a0.size : Int)))) :: q2 ((.v (.str a0)) :: (dI v96) :: (.v (.int .u8 v106)) :: (.v (.int .u8 v106)) :: (dB v111) :: (dB v111) :: d109 :: d110 :: (dB true) :: (dB true) :: u6 ((dB true) :: q9 [])))), []⟩ (by kernel_rfl) ?_
                      exact J22j124 _ _ _ _ _ _ _ _ h
                  exact Ops.st ⟨(.v (.str a0)) :: q1 ((dB false) :: (dI v96) :: (.v (.int .u8 v106)) :: q18 ((dI v96) :: (.v (.str a0)) :: (dI ((a0.size : Int))) :: (dB (decide (v96 < (a0.size : Int)))) :: q2 ((.v (.str a0)) :: (dI v96) :: (.v (.int .u8 v106)) :: (.v (.int .u8 v106)) :: (dB v111) :: (dB v111) :: d109 :: d110 :: (dB v112) :: (dB v112) :: q16 []))), []⟩ (by kernel_rfl) (G22g115 v112 h)
                have G22g108 : ∀ v107 : Bool, f22_r4 m v96 v106 ((v107 && (decide (v106 ≤ 122)))) = some sx104 → Ops (X22 n) (opl (cL (cR (cL (cL (cR (cL (cL (cR (cL (cR (cR C22)))))))))))) 3 ⟨(.v (.str a0)) :: q1 ((dB false) :: (dI v96) :: (.v (.int .u8 v106)) :: q18 ((dI v96) :: (.v (.str a0)) :: (dI ((a0.size : Int))) :: (dB (decide (v96 < (a0.size : Int)))) :: q2 ((.v (.str a0)) :: (dI v96) :: (.v (.int .u8 v106)) :: (.v (.int .u8 v106)) :: (dB v107) :: (dB v107) :: q20 []))), []⟩ ((seqQ (X22 n) (cR (cR (cL (cL (cR (cL (cL (cR (cL (cR (cR C22))))))))))) (blkQ (X22 n) 1 [0, 2, 3] 0 (seqQ (X22 n) (cR (cR (cL (cL (cR (cL (cR (cR C22)))))))) (lpQ (X22 n) [0, 2, 3] 0 (cL (cL (cR (cL (cR (cR C22)))))) nx99 (blkQ (X22 n) 0 [2] 0 (seqQ (X22 n) (cR (cR (cR C22))) (fnQ (X22 n).E.T (resOf Proofs.Tryd.prog 22) (eB o)))))))) .normal) := by
                  intro v107 h
                  cases v107
                  · refine Ops.seg' 3 6 (by kernel_rfl) ?_
                    refine Ops.st ⟨(.v (.str a0)) :: q1 ((dB false) :: (dI v96) :: (.v (.int .u8 v106)) :: q18 ((dI v96) :: (.v (.str a0)) :: (dI ((a0.size : Int))) :: (dB (decide (v96 < (a0.size : Int)))) :: q2 ((.v (.str a0)) :: (dI v96) :: (.v (.int .u8 v106)) :: (.v (.int .u8 v106)) :: (dB false) :: (dB false) :: u2 ((dB false) :: q17 [])))), []⟩ (by kernel_rfl) ?_
                    exact J22j113 _ _ _ _ h
                  · refine Ops.seg' 3 6 (by kernel_rfl) ?_
                    refine Ops.st ⟨(.v (.str a0)) :: q1 ((dB false) :: (dI v96) :: (.v (.int .u8 v106)) :: q18 ((dI v96) :: (.v (.str a0)) :: (dI ((a0.size : Int))) :: (dB (decide (v96 < (a0.size : Int)))) :: q2 ((.v (.str a0)) :: (dI v96) :: (.v (.int .u8 v106)) :: (.v (.int .u8 v106)) :: (dB true) :: (dB true) :: (.v (.int .u8 v106)) :: (dB (decide (v106 ≤ 122))) :: (dB (decide (v106 ≤ 122))) :: q17 []))), []⟩ (by kernel_rfl) ?_
                    exact J22j113 _ _ _ _ h
                exact Ops.st ⟨(.v (.str a0)) :: q1 ((dB false) :: (dI v96) :: (.v (.int .u8 v106)) :: q18 ((dI v96) :: (.v (.str a0)) :: (dI ((a0.size : Int))) :: (dB (decide (v96 < (a0.size : Int)))) :: q2 ((.v (.str a0)) :: (dI v96) :: (.v (.int .u8 v106)) :: (.v (.int .u8 v106)) :: (dB ((decide (v106 ≥ 97)))) :: (dB ((decide (v106 ≥ 97)))) :: q20 []))), []⟩ (by kernel_rfl) (G22g108 (decide (v106 ≥ 97)) h)
              · refine Wp.exit (id := 0) (by kernel_rfl) ?_
                refine sqQ.x ?_
                refine seqQ.x ?_
                cases h
                refine lpQ.x ?_
                refine blkQ.x ⟨(.v (.str a0)) :: q1 ((dB false) :: (dI v96) :: q40 (q11 [])), []⟩ (by kernel_rfl) ?_
                exact hxx102 v96  hsx105
          refine Wp.loop' [0, 2, 3] 0 (by kernel_rfl) ⟨(.v (.str a0)) :: q1 ((dB false) :: (dI 0) :: q40 (q11 [])), []⟩ (by kernel_rfl) ?_
          rcases brk_some h with ⟨r143, er143, h⟩ | ⟨y142, ey142, h⟩
          · refine hLx141 _ 0  _ er143 n (by omega) (fun r er σ hσ => ?_) (fun y  ey => by cases ey)
            cases er
            refine seqQ.r ?_
            exact fnQ.r' (X22 n) (fun z => (eB z)) h hσ
          · refine hLx141 _ 0  _ ey142 n (by omega) (fun r er => by cases er) (fun y  ey => ?_)
            cases ey
            refine seqQ.n ?_
            refine Wp.seq' (by kernel_rfl) ?_
            refine Wp.region (by kernel_rfl) ?_
            refine Ops.seg' 1 1 (by kernel_rfl) ?_
            refine Ops.done (by kernel_rfl) ?_
            refine seqQ.n ?_
            refine Wp.ret (by kernel_rfl) ?_
            exact fnQ.r' (X22 n) (fun z => (eB z)) h (RetOk.mk' (dB true) (by kernel_rfl) (by kernel_rfl))
      obtain ⟨v23, ev23, h⟩ := bnd_some h
      have G22g18 : ∀ v17 : Bool, (cnd v17 (some true) (bnd (sidx a0 0) fun v144 => some (decide (v144 > 122)))) = some v23 → Ops (X22 n) (opl (cL (cL (cR C22)))) 14 ⟨(.v (.str a0)) :: u1 ((dB false) :: u2 ((.v (.str a0)) :: (dI ((a0.size : Int))) :: (dB v6) :: (dB v6) :: d3 :: d4 :: d5 :: (dB v14) :: (dB v14) :: d11 :: d12 :: d13 :: (dB v17) :: (dB v17) :: u36 [])), []⟩ ((seqQ (X22 n) (cR (cL (cR C22))) (seqQ (X22 n) (cR (cR C22)) (fnQ (X22 n).E.T (resOf Proofs.Tryd.prog 22) (eB o)))) .normal) := by
        intro v17 ev23
        cases v17
        · have ev23 := cnd_f ev23
          refine Ops.seg' 1 15 (by kernel_rfl) ?_
          obtain ⟨v144, ev144, ev23⟩ := bnd_some ev23
          refine Ops.one' 16 (fun h0 e0 => (str_ix (T := T) h0 9 a0 0 v144 ev144 (by kernel_rfl))) (by kernel_rfl) (by kernel_rfl) ?_
          refine Ops.seg' 2 18 (by kernel_rfl) ?_
          refine Ops.st ⟨(.v (.str a0)) :: u1 ((dB false) :: u2 ((.v (.str a0)) :: (dI ((a0.size : Int))) :: (dB v6) :: (dB v6) :: d3 :: d4 :: d5 :: (dB v14) :: (dB v14) :: d11 :: d12 :: d13 :: (dB false) :: (dB false) :: (.v (.str a0)) :: (.v (.int .u8 v144)) :: (dB (decide (v144 > 122))) :: (dB (decide (v144 > 122))) :: u32 [])), []⟩ (by kernel_rfl) ?_
          exact J22j24 _ _ _ _ _ (some_sub (fun v23 => f22_r6 m a0 v23 = some o) ev23 h)
        · have ev23 := cnd_t ev23
          refine Ops.seg' 4 18 (by kernel_rfl) ?_
          refine Ops.st ⟨(.v (.str a0)) :: u1 ((dB false) :: u2 ((.v (.str a0)) :: (dI ((a0.size : Int))) :: (dB v6) :: (dB v6) :: d3 :: d4 :: d5 :: (dB v14) :: (dB v14) :: d11 :: d12 :: d13 :: (dB true) :: (dB true) :: u3 ((dB true) :: u32 []))), []⟩ (by kernel_rfl) ?_
          exact J22j24 _ _ _ _ _ (some_sub (fun v23 => f22_r6 m a0 v23 = some o) ev23 h)
      exact Ops.st ⟨(.v (.str a0)) :: u1 ((dB false) :: u2 ((.v (.str a0)) :: (dI ((a0.size : Int))) :: (dB v6) :: (dB v6) :: d3 :: d4 :: d5 :: (dB v14) :: (dB v14) :: d11 :: d12 :: d13 :: (dB v15) :: (dB v15) :: u36 [])), []⟩ (by kernel_rfl) (G22g18 v15 ev23)
    obtain ⟨v15, ev15, h⟩ := bnd_some h
    have G22g10 : ∀ v9 : Bool, (cnd v9 (some true) (bnd (sidx a0 0) fun v145 => some (decide (v145 < 97)))) = some v15 → Ops (X22 n) (opl (cL (cL (cR C22)))) 9 ⟨(.v (.str a0)) :: u1 ((dB false) :: u2 ((.v (.str a0)) :: (dI ((a0.size : Int))) :: (dB v6) :: (dB v6) :: d3 :: d4 :: d5 :: (dB v9) :: (dB v9) :: u40 (u1 []))), []⟩ ((seqQ (X22 n) (cR (cL (cR C22))) (seqQ (X22 n) (cR (cR C22)) (fnQ (X22 n).E.T (resOf Proofs.Tryd.prog 22) (eB o)))) .normal) := by
      intro v9 ev15
      cases v9
      · have ev15 := cnd_f ev15
        refine Ops.seg' 1 10 (by kernel_rfl) ?_
        obtain ⟨v145, ev145, ev15⟩ := bnd_some ev15
        refine Ops.one' 11 (fun h0 e0 => (str_ix (T := T) h0 9 a0 0 v145 ev145 (by kernel_rfl))) (by kernel_rfl) (by kernel_rfl) ?_
        refine Ops.seg' 2 13 (by kernel_rfl) ?_
        refine Ops.st ⟨(.v (.str a0)) :: u1 ((dB false) :: u2 ((.v (.str a0)) :: (dI ((a0.size : Int))) :: (dB v6) :: (dB v6) :: d3 :: d4 :: d5 :: (dB false) :: (dB false) :: (.v (.str a0)) :: (.v (.int .u8 v145)) :: (dB (decide (v145 < 97))) :: (dB (decide (v145 < 97))) :: u37 [])), []⟩ (by kernel_rfl) ?_
        exact J22j16 _ _ _ _ _ (some_sub (fun v15 => f22_r7 m a0 v15 = some o) ev15 h)
      · have ev15 := cnd_t ev15
        refine Ops.seg' 4 13 (by kernel_rfl) ?_
        refine Ops.st ⟨(.v (.str a0)) :: u1 ((dB false) :: u2 ((.v (.str a0)) :: (dI ((a0.size : Int))) :: (dB v6) :: (dB v6) :: d3 :: d4 :: d5 :: (dB true) :: (dB true) :: u3 ((dB true) :: u37 []))), []⟩ (by kernel_rfl) ?_
        exact J22j16 _ _ _ _ _ (some_sub (fun v15 => f22_r7 m a0 v15 = some o) ev15 h)
    exact Ops.st ⟨(.v (.str a0)) :: u1 ((dB false) :: u2 ((.v (.str a0)) :: (dI ((a0.size : Int))) :: (dB v6) :: (dB v6) :: d3 :: d4 :: d5 :: (dB v7) :: (dB v7) :: u40 (u1 []))), []⟩ (by kernel_rfl) (G22g10 v7 ev15)
  have G22g2 : ∀ v1 : Bool, f22_r8 m a0 ((v1 || (decide ((a0.size : Int) > 30)))) = some o → Ops (X22 n) (opl (cL (cL (cR C22)))) 4 ⟨(.v (.str a0)) :: u1 ((dB false) :: u2 ((.v (.str a0)) :: (dI ((a0.size : Int))) :: (dB v1) :: (dB v1) :: u40 (u6 []))), []⟩ ((seqQ (X22 n) (cR (cL (cR C22))) (seqQ (X22 n) (cR (cR C22)) (fnQ (X22 n).E.T (resOf Proofs.Tryd.prog 22) (eB o)))) .normal) := by
    intro v1 h
    cases v1
    · refine Ops.seg' 4 8 (by kernel_rfl) ?_
      refine Ops.st ⟨(.v (.str a0)) :: u1 ((dB false) :: u2 ((.v (.str a0)) :: (dI ((a0.size : Int))) :: (dB false) :: (dB false) :: (.v (.str a0)) :: (dI ((a0.size : Int))) :: (dB (decide ((a0.size : Int) > 30))) :: (dB (decide ((a0.size : Int) > 30))) :: u40 (u2 []))), []⟩ (by kernel_rfl) ?_
      exact J22j8 _ _ _ _ _ h
    · refine Ops.seg' 4 8 (by kernel_rfl) ?_
      refine Ops.st ⟨(.v (.str a0)) :: u1 ((dB false) :: u2 ((.v (.str a0)) :: (dI ((a0.size : Int))) :: (dB true) :: (dB true) :: u3 ((dB true) :: u40 (u2 [])))), []⟩ (by kernel_rfl) ?_
      exact J22j8 _ _ _ _ _ h
  exact Ops.st ⟨(.v (.str a0)) :: u1 ((dB false) :: u2 ((.v (.str a0)) :: (dI ((a0.size : Int))) :: (dB ((((a0.size : Int)) == 0))) :: (dB ((((a0.size : Int)) == 0))) :: u40 (u6 []))), []⟩ (by kernel_rfl) (G22g2 (((a0.size : Int)) == 0) h)

/-! ### 11 glosswright/glosswrightlaw6.samplesFault -/
def f11_B1 (m : Nat) (a0 : (List S39)) (v8 : Int) : Option (Stp S27 (Int)) :=
  cnd (decide (v8 < (a0.length : Int)))
  (bnd (idx a0 v8) fun v18 =>
  bnd (f13 m v18.fWord) fun v19 =>
  cnd (!v19)
  (some (.ret ((⟨5, v8⟩ : S27))))
  (bnd (f22 m v18.fTag) fun v20 =>
  cnd (!v20)
  (some (.ret ((⟨10, v8⟩ : S27))))
  (some (.nxt (w64 (v8 + 1))))))
  (some (.brk v8))
def f11 (m : Nat) (a0 : (List S39)) : Option S27 :=
  cnd (decide ((a0.length : Int) > 300))
  (some ((⟨2, (-1)⟩ : S27)))
  (brk (iter (fun (y : Int) => f11_B1 m a0 y) m 0) some fun y22 =>
  some ((⟨0, 0⟩ : S27)))
noncomputable abbrev X11 (n : Nat) : Cx := cxOf Proofs.Tryd.prog EG 11 n
noncomputable def C11 : Code := bodyOf Proofs.Tryd.prog 11
theorem ok11 (m : Nat) (a0 : (List S39)) (o : S27) (h : f11 m a0 = some o) (n : Nat) (hn : m + 5 ≤ n) : Fn Proofs.Tryd.prog EG n 11 [.v ((eL e39) a0)] (e27 o) := by
  obtain ⟨n, rfl⟩ : ∃ q, n = q + 1 := ⟨n - 1, by omega⟩
  unfold f11 at h
  refine Fn.of (by kernel_rfl) (by kernel_rfl) (by kernel_rfl) ⟨(dP e39 a0) :: u29 [], []⟩ (by kernel_rfl) ?_
  refine Wp.seq' (by kernel_rfl) ?_
  refine Wp.region (by kernel_rfl) ?_
  refine Ops.seg' 1 1 (by kernel_rfl) ?_
  refine Ops.done (by kernel_rfl) ?_
  refine seqQ.n ?_
  refine Wp.seq' (by kernel_rfl) ?_
  refine Wp.seq' (by kernel_rfl) ?_
  refine Wp.region (by kernel_rfl) ?_
  refine Ops.seg' 1 1 (by kernel_rfl) ?_
  refine Ops.one' 2 (fun h0 e0 => (len_r (T := T) h0 22 40 .plain e39 a0 (by kernel_rfl))) (by kernel_rfl) (by kernel_rfl) ?_
  refine Ops.seg' 1 3 (by kernel_rfl) ?_
  refine Ops.done (by kernel_rfl) ?_
  refine seqQ.n ?_
  refine Wp.cnd h [0, 2] 1 (by kernel_rfl) (fun h => ?_) (fun h => ?_)
  · refine Wp.seq' (by kernel_rfl) ?_
    refine Wp.region (by kernel_rfl) ?_
    refine Ops.seg' 2 2 (by kernel_rfl) ?_
    refine Ops.done (by kernel_rfl) ?_
    refine seqQ.n ?_
    refine Wp.ret (by kernel_rfl) ?_
    refine sqQ.r ?_
    refine seqQ.r ?_
    exact fnQ.r' (X11 n) (fun z => (e27 z)) h (RetOk.mk' (.v (.agg [(vI 2), (vI ((-1)))])) (by kernel_rfl) (by kernel_rfl))
  · refine Wp.skip (by kernel_rfl) ?_
    refine sqQ.n' ?_
    refine seqQ.n ?_
    refine Wp.seq' (by kernel_rfl) ?_
    refine Wp.seq' (by kernel_rfl) ?_
    refine Wp.region (by kernel_rfl) ?_
    refine Ops.seg' 1 1 (by kernel_rfl) ?_
    refine Ops.one' 2 (fun h0 e0 => (len_r (T := T) h0 22 40 .plain e39 a0 (by kernel_rfl))) (by kernel_rfl) (by kernel_rfl) ?_
    refine Ops.seg' 1 3 (by kernel_rfl) ?_
    refine Ops.done (by kernel_rfl) ?_
    refine seqQ.n ?_
    refine Wp.block' 0 [2] 1 (by kernel_rfl) ?_
    have hLx21 : ∀ (kx10 : Nat) (v8 : Int)  (ox9 : S27 ⊕ (Int)), iter (fun (y : Int) => f11_B1 m a0 y) kx10 v8 = some ox9 → ∀ nx11, kx10 ≤ nx11 → (∀ r, ox9 = .inl r → ∀ σ, RetOk (X11 n) (resOf Proofs.Tryd.prog 11) (e27 r) σ → (seqQ (X11 n) (cR (cR (cR C11))) (fnQ (X11 n).E.T (resOf Proofs.Tryd.prog 11) (e27 o))) .ret σ) → (∀ (y : Int) , ox9 = .inr y → (seqQ (X11 n) (cR (cR (cR C11))) (fnQ (X11 n).E.T (resOf Proofs.Tryd.prog 11) (e27 o))) .normal ⟨q2 ((.ptr 0 0) :: q6 ((dP e39 a0) :: (dI ((a0.length : Int))) :: (dI y) :: q18 [])), [(.cells [(dI 0), (dI 0)])]⟩) → Lp (X11 n) [2, 9, 10, 11] 1 (cL (cL (cR (cL (cR (cR C11)))))) nx11 ⟨q2 ((.ptr 0 0) :: q6 ((dP e39 a0) :: (dI ((a0.length : Int))) :: (dI v8) :: q18 [])), [(.cells [(dI 0), (dI 0)])]⟩ (blkQ (X11 n) 0 [2] 1 (seqQ (X11 n) (cR (cR (cR C11))) (fnQ (X11 n).E.T (resOf Proofs.Tryd.prog 11) (e27 o)))) := by
      intro kx10
      induction kx10 with
      | zero => intro v8  ox9 h; exact (iter_zero h).elim
      | succ kx10 ihx12 =>
        intro v8  ox9 h nx11 hnx15 hrx13 hxx14
        obtain ⟨nx11, rfl⟩ : ∃ q, nx11 = q + 1 := ⟨nx11 - 1, by omega⟩
        obtain ⟨sx16, h, hsx17⟩ := iter_some h
        have h : f11_B1 m a0 v8 = some sx16 := h
        unfold f11_B1 at h
        refine Lp.succ ?_
        refine Wp.seq' (by kernel_rfl) ?_
        refine Wp.region (by kernel_rfl) ?_
        refine Ops.seg' 1 1 (by kernel_rfl) ?_
        refine Ops.done (by kernel_rfl) ?_
        refine seqQ.n ?_
        refine Wp.seq' (by kernel_rfl) ?_
        refine Wp.cnd h [2, 9, 10, 11] 1 (by kernel_rfl) (fun h => ?_) (fun h => ?_)
        · refine Wp.skip (by kernel_rfl) ?_
          refine sqQ.n' ?_
          refine seqQ.n ?_
          refine Wp.seq' (by kernel_rfl) ?_
          refine Wp.block' 1 [2, 9, 10, 11] 1 (by kernel_rfl) ?_
          refine Wp.seq' (by kernel_rfl) ?_
          refine Wp.region (by kernel_rfl) ?_
          refine Ops.seg' 1 1 (by kernel_rfl) ?_
          obtain ⟨v18, ev18, h⟩ := bnd_some h
          refine Ops.one' 2 (fun h0 e0 => (ix_r (T := T) h0 22 40 2 .plain e39 a0 v8 v18 ev18 (by kernel_rfl) (by kernel_rfl) (fun _ => rfl))) (by kernel_rfl) (by kernel_rfl) ?_
          refine Ops.seg' 4 6 (by kernel_rfl) ?_
          refine Ops.done (by kernel_rfl) ?_
          refine seqQ.n ?_
          refine Wp.seq' (by kernel_rfl) ?_
          refine Wp.seq' (by kernel_rfl) ?_
          refine Wp.region (by kernel_rfl) ?_
          refine Ops.seg' 2 2 (by kernel_rfl) ?_
          obtain ⟨v19, ev19, h⟩ := bnd_some h
          refine Ops.one' 3 (fun h0 e0 => (call_ok (E' := EG) (h := h0) (by kernel_rfl) (Args.v (.str v18.fWord) (eS v18.fWord) (by kernel_rfl) Args.nil) (ok13 m v18.fWord v19 ev19 n (by omega)))) (by kernel_rfl) (by kernel_rfl) ?_
          refine Ops.seg' 1 4 (by kernel_rfl) ?_
          refine Ops.done (by kernel_rfl) ?_
          refine seqQ.n ?_
          refine Wp.cnd h [2, 3, 4, 9, 10, 11] 2 (by kernel_rfl) (fun h => ?_) (fun h => ?_)
          · refine Wp.seq' (by kernel_rfl) ?_
            refine Wp.region (by kernel_rfl) ?_
            refine Ops.seg' 3 3 (by kernel_rfl) ?_
            refine Ops.done (by kernel_rfl) ?_
            refine seqQ.n ?_
            refine Wp.ret (by kernel_rfl) ?_
            refine sqQ.r ?_
            refine seqQ.r ?_
            refine blkQ.r ?_
            refine seqQ.r ?_
            cases h
            refine lpQ.r ?_
            refine blkQ.r ?_
            exact hrx13 _ hsx17 _ (RetOk.forget [2, 9, 10, 11] (by kernel_rfl) (RetOk.mk' (.v (.agg [(vI 5), (vI v8)])) (by kernel_rfl) (by kernel_rfl)))
          · refine Wp.skip (by kernel_rfl) ?_
            refine sqQ.n' ?_
            refine seqQ.n ?_
            refine Wp.seq' (by kernel_rfl) ?_
            refine Wp.region (by kernel_rfl) ?_
            refine Ops.seg' 2 2 (by kernel_rfl) ?_
            obtain ⟨v20, ev20, h⟩ := bnd_some h
            refine Ops.one' 3 (fun h0 e0 => (call_ok (E' := EG) (h := h0) (by kernel_rfl) (Args.v (.str v18.fTag) (eS v18.fTag) (by kernel_rfl) Args.nil) (ok22 m v18.fTag v20 ev20 n (by omega)))) (by kernel_rfl) (by kernel_rfl) ?_
            refine Ops.seg' 1 4 (by kernel_rfl) ?_
            refine Ops.done (by kernel_rfl) ?_
            refine seqQ.n ?_
            refine Wp.cnd h [2, 9, 10, 11] 2 (by kernel_rfl) (fun h => ?_) (fun h => ?_)
            · refine Wp.seq' (by kernel_rfl) ?_
              refine Wp.region (by kernel_rfl) ?_
              refine Ops.seg' 3 3 (by kernel_rfl) ?_
              refine Ops.done (by kernel_rfl) ?_
              refine seqQ.n ?_
              refine Wp.ret (by kernel_rfl) ?_
              refine sqQ.r ?_
              refine blkQ.r ?_
              refine seqQ.r ?_
              cases h
              refine lpQ.r ?_
              refine blkQ.r ?_
              exact hrx13 _ hsx17 _ (RetOk.forget [2, 9, 10, 11] (by kernel_rfl) (RetOk.mk' (.v (.agg [(vI 10), (vI v8)])) (by kernel_rfl) (by kernel_rfl)))
            · refine Wp.skip (by kernel_rfl) ?_
              refine sqQ.n' ?_
              refine blkQ.n' ?_
              refine seqQ.n ?_
              refine Wp.region (by kernel_rfl) ?_
              refine Ops.seg' 2 2 (by kernel_rfl) ?_
              refine Ops.done (by kernel_rfl) ?_
              refine lpQ.n ⟨q2 ((.ptr 0 0) :: q6 ((dP e39 a0) :: (dI ((a0.length : Int))) :: (dI (w64 (v8 + 1))) :: q18 [])), [(.cells [(dI 0), (dI 0)])]⟩ (by kernel_rfl) ?_
              cases h
              exact ihx12 (w64 (v8 + 1))  _ hsx17 _ (by omega) hrx13 hxx14
        · refine Wp.exit (id := 0) (by kernel_rfl) ?_
          refine sqQ.x ?_
          refine seqQ.x ?_
          cases h
          refine lpQ.x ?_
          refine blkQ.x ⟨q2 ((.ptr 0 0) :: q6 ((dP e39 a0) :: (dI ((a0.length : Int))) :: (dI v8) :: q18 [])), [(.cells [(dI 0), (dI 0)])]⟩ (by kernel_rfl) ?_
          exact hxx14 v8  hsx17
    refine Wp.loop' [2, 9, 10, 11] 1 (by kernel_rfl) ⟨q2 ((.ptr 0 0) :: q6 ((dP e39 a0) :: (dI ((a0.length : Int))) :: (dI 0) :: q18 [])), [(.cells [(dI 0), (dI 0)])]⟩ (by kernel_rfl) ?_
    rcases brk_some h with ⟨r23, er23, h⟩ | ⟨y22, ey22, h⟩
    · refine hLx21 _ 0  _ er23 n (by omega) (fun r er σ hσ => ?_) (fun y  ey => by cases ey)
      cases er
      refine seqQ.r ?_
      exact fnQ.r' (X11 n) (fun z => (e27 z)) h hσ
    · refine hLx21 _ 0  _ ey22 n (by omega) (fun r er => by cases er) (fun y  ey => ?_)
      cases ey
      refine seqQ.n ?_
      refine Wp.seq' (by kernel_rfl) ?_
      refine Wp.region (by kernel_rfl) ?_
      refine Ops.seg' 2 2 (by kernel_rfl) ?_
      refine Ops.done (by kernel_rfl) ?_
      refine seqQ.n ?_
      refine Wp.ret (by kernel_rfl) ?_
      exact fnQ.r' (X11 n) (fun z => (e27 z)) h (RetOk.mk' (.v (.agg [(vI 0), (vI 0)])) (by kernel_rfl) (by kernel_rfl))

/-! ### 6 glosswright/glosswrightlaw6.GuessMoreSamplesSuggestMore -/
def f6_r1 (m : Nat) (v360 : Int) (v400 : Bool) : Option (Stp Bool (Bool × Int)) :=
  some (.nxt (v400, w64 (v360 + 1)))
def f6_B2 (m : Nat) (v17 : ((List S44) × S27)) (v289 : S44) (v359 : Bool) (v360 : Int) : Option (Stp Bool (Bool × Int)) :=
  cnd (decide (v360 < (v17.1.length : Int)))
  (bnd (idx v17.1 v360) fun v370 =>
  f6_r1 m v360 ((v359 || ((((v289.fTag.toList == v370.fTag.toList)) && (((decide (v370.fLength > v289.fLength)) || (((v370.fLength == v289.fLength) && (decide (v370.fCount ≥ v289.fCount)))))))))))
  (some (.brk (v359, v360)))
def f6_B3 (m : Nat) (v16 : ((List S44) × S27)) (v17 : ((List S44) × S27)) (v279 : Int) : Option (Stp Bool (Int)) :=
  cnd (decide (v279 < (v16.1.length : Int)))
  (bnd (idx v16.1 v279) fun v289 =>
  brk (iter (fun (y : Bool × Int) => f6_B2 m v17 v289 y.1 y.2) m (false, 0)) (fun r => some (.ret r)) fun y409 =>
  cnd (!y409.1)
  (some (.ret false))
  (some (.nxt (w64 (v279 + 1)))))
  (some (.brk v279))
def f6_r4 (m : Nat) (v16 : ((List S44) × S27)) (v17 : ((List S44) × S27)) (v32 : Bool) : Option Bool :=
  cnd v32
  (some false)
  (brk (iter (fun (y : Int) => f6_B3 m v16 v17 y) m 0) some fun y412 =>
  some true)
def f6_r5 (m : Nat) (v16 : ((List S44) × S27)) (v17 : ((List S44) × S27)) (v24 : Bool) : Option Bool :=
  f6_r4 m v16 v17 ((v24 || (!((v16.2.fCode == v17.2.fCode) && ((v16.2.fIndex == v17.2.fIndex) && true)))))
def f6_r6 (m : Nat) (a0 : (List S39)) (a2 : ByteArray) (v3 : (List S39)) (v12 : Bool) : Option Bool :=
  cnd v12
  (some true)
  (bnd (f10 m a0) fun v14 =>
  bnd (f10 m v3) fun v15 =>
  bnd (f12 m v14.1 a2) fun v16 =>
  bnd (f12 m v15.1 a2) fun v17 =>
  f6_r5 m v16 v17 (((!((v14.2.fCode == 0) && ((v14.2.fIndex == 0) && true))) || (!((v15.2.fCode == 0) && ((v15.2.fIndex == 0) && true))))))
def f6 (m : Nat) (a0 : (List S39)) (a1 : (List S39)) (a2 : ByteArray) : Option Bool :=
  bnd (f9 m ) fun v1 =>
  cnd (!v1)
  (some false)
  (bnd (app 32 [] a0) fun v2 =>
  bnd (app 32 v2 a1) fun v3 =>
  bnd (f11 m a0) fun v4 =>
  bnd (cnd (!((v4.fCode == 0) && ((v4.fIndex == 0) && true)))
  (some true)
  (bnd (f11 m v3) fun v414 =>
  some (!((v414.fCode == 0) && ((v414.fIndex == 0) && true))))) fun v12 =>
  f6_r6 m a0 a2 v3 v12)
noncomputable abbrev X6 (n : Nat) : Cx := cxOf Proofs.Tryd.prog EG 6 n
noncomputable def C6 : Code := bodyOf Proofs.Tryd.prog 6
theorem f6_hLx408 (m : Nat) (a0 : (List S39)) (a1 : (List S39)) (a2 : ByteArray) (o : Bool) (n : Nat) (hn : m + 6 ≤ n + 1) (v17 : ((List S44) × S27)) (v289 : S44) (nx282 : Nat) (v16 : ((List S44) × S27)) (v279 : Int) (v3 : (List S39)) (v14 : (S25 × S27)) (v15 : (S25 × S27)) : ∀ (kx362 : Nat) (v359 : Bool) (v360 : Int)  (ox361 : Bool ⊕ (Bool × Int)), iter (fun (y : Bool × Int) => f6_B2 m v17 v289 y.1 y.2) kx362 (v359, v360) = some ox361 → ∀ nx363, kx362 ≤ nx363 → (∀ r, ox361 = .inl r → ∀ σ, RetOk (X6 n) (resOf Proofs.Tryd.prog 6) (eB r) σ → (seqQ (X6 n) (cR (cR (cR (cL (cL (cR (cR (cL (cL (cR (cL (cR (cR (cR (cR (cR (cR (cR (cR (cR C6)))))))))))))))))))) (blkQ (X6 n) 1 [6, 14, 73, 74, 75] 8 (seqQ (X6 n) (cR (cR (cR (cL (cL (cR (cL (cR (cR (cR (cR (cR (cR (cR (cR (cR C6)))))))))))))))) (lpQ (X6 n) [6, 14, 73, 74, 75] 8 (cL (cL (cR (cL (cR (cR (cR (cR (cR (cR (cR (cR (cR C6))))))))))))) nx282 (blkQ (X6 n) 0 [6] 8 (seqQ (X6 n) (cR (cR (cR (cR (cR (cR (cR (cR (cR (cR C6)))))))))) (fnQ (X6 n).E.T (resOf Proofs.Tryd.prog 6) (eB o)))))))) .ret σ) → (∀ (y : Bool × Int) , ox361 = .inr y → (seqQ (X6 n) (cR (cR (cR (cL (cL (cR (cR (cL (cL (cR (cL (cR (cR (cR (cR (cR (cR (cR (cR (cR C6)))))))))))))))))))) (blkQ (X6 n) 1 [6, 14, 73, 74, 75] 8 (seqQ (X6 n) (cR (cR (cR (cL (cL (cR (cL (cR (cR (cR (cR (cR (cR (cR (cR (cR C6)))))))))))))))) (lpQ (X6 n) [6, 14, 73, 74, 75] 8 (cL (cL (cR (cL (cR (cR (cR (cR (cR (cR (cR (cR (cR C6))))))))))))) nx282 (blkQ (X6 n) 0 [6] 8 (seqQ (X6 n) (cR (cR (cR (cR (cR (cR (cR (cR (cR (cR C6)))))))))) (fnQ (X6 n).E.T (resOf Proofs.Tryd.prog 6) (eB o)))))))) .normal ⟨q6 ((dB false) :: q7 ((dP e44 v17.1) :: q2 ((.ptr 8 0) :: (dB y.1) :: q40 (q14 ((dP e44 v16.1) :: (dI ((v16.1.length : Int))) :: (dI v279) :: q3 ((dP e44 v17.1) :: (dI ((v17.1.length : Int))) :: (dI y.2) :: q36 [])))))), [.dead, (appO 2 (List.map e39 v3)), (.cells [(.v (eGz v14.1.fRoot))]), (.cells [(dI v14.2.fCode), (dI v14.2.fIndex)]), (.cells [(.v (eGz v15.1.fRoot))]), (.cells [(dI v15.2.fCode), (dI v15.2.fIndex)]), (.cells [(dI v16.2.fCode), (dI v16.2.fIndex)]), (.cells [(dI v17.2.fCode), (dI v17.2.fIndex)]), (.cells [(.v (.str v289.fTag)), (dI v289.fLength), (dI v289.fCount)])]⟩) → Lp (X6 n) [6, 14, 17, 18, 73, 74, 75, 79, 80, 81] 9 (cL (cL (cR (cL (cR (cR (cL (cL (cR (cR (cL (cL (cR (cL (cR (cR (cR (cR (cR (cR (cR (cR (cR C6))))))))))))))))))))))) nx363 ⟨q6 ((dB false) :: q7 ((dP e44 v17.1) :: q2 ((.ptr 8 0) :: (dB v359) :: q40 (q14 ((dP e44 v16.1) :: (dI ((v16.1.length : Int))) :: (dI v279) :: q3 ((dP e44 v17.1) :: (dI ((v17.1.length : Int))) :: (dI v360) :: q36 [])))))), [.dead, (appO 2 (List.map e39 v3)), (.cells [(.v (eGz v14.1.fRoot))]), (.cells [(dI v14.2.fCode), (dI v14.2.fIndex)]), (.cells [(.v (eGz v15.1.fRoot))]), (.cells [(dI v15.2.fCode), (dI v15.2.fIndex)]), (.cells [(dI v16.2.fCode), (dI v16.2.fIndex)]), (.cells [(dI v17.2.fCode), (dI v17.2.fIndex)]), (.cells [(.v (.str v289.fTag)), (dI v289.fLength), (dI v289.fCount)])]⟩ (blkQ (X6 n) 2 [6, 14, 18, 73, 74, 75] 9 (seqQ (X6 n) (cR (cR (cR (cL (cL (cR (cR (cL (cL (cR (cL (cR (cR (cR (cR (cR (cR (cR (cR (cR C6)))))))))))))))))))) (blkQ (X6 n) 1 [6, 14, 73, 74, 75] 8 (seqQ (X6 n) (cR (cR (cR (cL (cL (cR (cL (cR (cR (cR (cR (cR (cR (cR (cR (cR C6)))))))))))))))) (lpQ (X6 n) [6, 14, 73, 74, 75] 8 (cL (cL (cR (cL (cR (cR (cR (cR (cR (cR (cR (cR (cR C6))))))))))))) nx282 (blkQ (X6 n) 0 [6] 8 (seqQ (X6 n) (cR (cR (cR (cR (cR (cR (cR (cR (cR (cR C6)))))))))) (fnQ (X6 n).E.T (resOf Proofs.Tryd.prog 6) (eB o))))))))) := by
  intro kx362
  induction kx362 with
  | zero => intro v359 v360  ox361 h; exact (iter_zero h).elim
  | succ kx362 ihx364 =>
    intro v359 v360  ox361 h nx363 hnx367 hrx365 hxx366
    obtain ⟨nx363, rfl⟩ : ∃ q, nx363 = q + 1 := ⟨nx363 - 1, by omega⟩
    obtain ⟨sx368, h, hsx369⟩ := iter_some h
    have h : f6_B2 m v17 v289 v359 v360 = some sx368 := h
    unfold f6_B2 at h
    refine Lp.succ ?_
    refine Wp.seq' (by kernel_rfl) ?_
    refine Wp.region (by kernel_rfl) ?_
    refine Ops.seg' 1 1 (by kernel_rfl) ?_
    refine Ops.done (by kernel_rfl) ?_
    refine seqQ.n ?_
    refine Wp.seq' (by kernel_rfl) ?_
    refine Wp.cnd h [6, 14, 17, 18, 73, 74, 75, 79, 80, 81] 9 (by kernel_rfl) (fun h => ?_) (fun h => ?_)
    · refine Wp.skip (by kernel_rfl) ?_
      refine sqQ.n ⟨q6 ((dB false) :: q7 ((dP e44 v17.1) :: q2 ((.ptr 8 0) :: (dB v359) :: q40 (q14 ((dP e44 v16.1) :: (dI ((v16.1.length : Int))) :: (dI v279) :: q3 ((dP e44 v17.1) :: (dI ((v17.1.length : Int))) :: (dI v360) :: (dB (decide (v360 < (v17.1.length : Int)))) :: q35 [])))))), [.dead, (appO 2 (List.map e39 v3)), (.cells [(.v (eGz v14.1.fRoot))]), (.cells [(dI v14.2.fCode), (dI v14.2.fIndex)]), (.cells [(.v (eGz v15.1.fRoot))]), (.cells [(dI v15.2.fCode), (dI v15.2.fIndex)]), (.cells [(dI v16.2.fCode), (dI v16.2.fIndex)]), (.cells [(dI v17.2.fCode), (dI v17.2.fIndex)]), (.cells [(.v (.str v289.fTag)), (dI v289.fLength), (dI v289.fCount)])]⟩ (by generalize v3 = z0; cases z0 <;> kernel_rfl) ?_
      refine seqQ.n ?_
      refine Wp.seq' (by kernel_rfl) ?_
      refine Wp.block' 3 [6, 14, 17, 18, 73, 74, 75, 79, 80, 81] 9 (by kernel_rfl) ?_
      refine Wp.seq' (by kernel_rfl) ?_
      refine Wp.region (by kernel_rfl) ?_
      obtain ⟨v370, ev370, h⟩ := bnd_some h
      refine Ops.one' 1 (fun h0 e0 => (ix_r (T := T) h0 32 45 3 .plain e44 v17.1 v360 v370 ev370 (by kernel_rfl) (by kernel_rfl) (fun _ => rfl))) (by kernel_rfl) (by kernel_rfl) ?_
      refine Ops.seg' 3 4 (by kernel_rfl) ?_
      refine Ops.done (by kernel_rfl) ?_
      refine seqQ.n ?_
      refine Wp.region (by kernel_rfl) ?_
      refine Ops.seg' 2 2 (by kernel_rfl) ?_
      have J6j401 : ∀ (d373 d374 d375 d376 d377 d378 d379 d380 d381 d382 d383 d384 d385 d386 d387 d388 d389 d390 d391 d392 d393 d394 d395 d396 d397 d398 : D) (v399 : Bool) (v400 : Bool), f6_r1 m v360 v400 = some sx368 → Ops (X6 n) (opl (cR (cL (cL (cR (cR (cL (cL (cR (cL (cR (cR (cL (cL (cR (cR (cL (cL (cR (cL (cR (cR (cR (cR (cR (cR (cR (cR (cR C6))))))))))))))))))))))))))))) 29 ⟨q6 ((dB false) :: q7 ((dP e44 v17.1) :: q2 ((.ptr 8 0) :: (dB v399) :: q1 ((.ptr 9 0) :: q40 (q12 ((dP e44 v16.1) :: (dI ((v16.1.length : Int))) :: (dI v279) :: q3 ((dP e44 v17.1) :: (dI ((v17.1.length : Int))) :: (dI v360) :: (dB (decide (v360 < (v17.1.length : Int)))) :: (.vptr [(.str v370.fTag), (vI v370.fLength), (vI v370.fCount)]) :: (.v (.agg [(.str v370.fTag), (vI v370.fLength), (vI v370.fCount)])) :: (dB v399) :: (dB v399) :: d373 :: d374 :: d375 :: d376 :: d377 :: d378 :: d379 :: d380 :: d381 :: d382 :: d383 :: d384 :: d385 :: d386 :: d387 :: d388 :: d389 :: d390 :: d391 :: d392 :: d393 :: d394 :: d395 :: d396 :: d397 :: d398 :: (dB v400) :: q4 []))))))), [.dead, (appO 2 (List.map e39 v3)), (.cells [(.v (eGz v14.1.fRoot))]), (.cells [(dI v14.2.fCode), (dI v14.2.fIndex)]), (.cells [(.v (eGz v15.1.fRoot))]), (.cells [(dI v15.2.fCode), (dI v15.2.fIndex)]), (.cells [(dI v16.2.fCode), (dI v16.2.fIndex)]), (.cells [(dI v17.2.fCode), (dI v17.2.fIndex)]), (.cells [(.v (.str v289.fTag)), (dI v289.fLength), (dI v289.fCount)]), (.cells [(.v (.str v370.fTag)), (dI v370.fLength), (dI v370.fCount)])]⟩ ((blkQ (X6 n) 3 [6, 14, 17, 18, 73, 74, 75, 79, 80, 81] 9 (seqQ (X6 n) (cR (cR (cR (cL (cL (cR (cL (cR (cR (cL (cL (cR (cR (cL (cL (cR (cL (cR (cR (cR (cR (cR (cR (cR (cR (cR C6)))))))))))))))))))))))))) (lpQ (X6 n) [6, 14, 17, 18, 73, 74, 75, 79, 80, 81] 9 (cL (cL (cR (cL (cR (cR (cL (cL (cR (cR (cL (cL (cR (cL (cR (cR (cR (cR (cR (cR (cR (cR (cR C6))))))))))))))))))))))) nx363 (blkQ (X6 n) 2 [6, 14, 18, 73, 74, 75] 9 (seqQ (X6 n) (cR (cR (cR (cL (cL (cR (cR (cL (cL (cR (cL (cR (cR (cR (cR (cR (cR (cR (cR (cR C6)))))))))))))))))))) (blkQ (X6 n) 1 [6, 14, 73, 74, 75] 8 (seqQ (X6 n) (cR (cR (cR (cL (cL (cR (cL (cR (cR (cR (cR (cR (cR (cR (cR (cR C6)))))))))))))))) (lpQ (X6 n) [6, 14, 73, 74, 75] 8 (cL (cL (cR (cL (cR (cR (cR (cR (cR (cR (cR (cR (cR C6))))))))))))) nx282 (blkQ (X6 n) 0 [6] 8 (seqQ (X6 n) (cR (cR (cR (cR (cR (cR (cR (cR (cR (cR C6)))))))))) (fnQ (X6 n).E.T (resOf Proofs.Tryd.prog 6) (eB o)))))))))))) .normal) := by
        intro d373 d374 d375 d376 d377 d378 d379 d380 d381 d382 d383 d384 d385 d386 d387 d388 d389 d390 d391 d392 d393 d394 d395 d396 d397 d398 v399 v400 h
        unfold f6_r1 at h
        refine Ops.seg' 1 30 (by kernel_rfl) ?_
        refine Ops.done (by kernel_rfl) ?_
        refine blkQ.n ⟨q6 ((dB false) :: q7 ((dP e44 v17.1) :: q2 ((.ptr 8 0) :: (dB v400) :: q40 (q14 ((dP e44 v16.1) :: (dI ((v16.1.length : Int))) :: (dI v279) :: q3 ((dP e44 v17.1) :: (dI ((v17.1.length : Int))) :: (dI v360) :: q36 [])))))), [.dead, (appO 2 (List.map e39 v3)), (.cells [(.v (eGz v14.1.fRoot))]), (.cells [(dI v14.2.fCode), (dI v14.2.fIndex)]), (.cells [(.v (eGz v15.1.fRoot))]), (.cells [(dI v15.2.fCode), (dI v15.2.fIndex)]), (.cells [(dI v16.2.fCode), (dI v16.2.fIndex)]), (.cells [(dI v17.2.fCode), (dI v17.2.fIndex)]), (.cells [(.v (.str v289.fTag)), (dI v289.fLength), (dI v289.fCount)])]⟩ (by generalize v3 = z0; cases z0 <;> kernel_rfl) ?_
        refine seqQ.n ?_
        refine Wp.region (by kernel_rfl) ?_
        refine Ops.seg' 2 2 (by kernel_rfl) ?_
        refine Ops.done (by kernel_rfl) ?_
        refine lpQ.n ⟨q6 ((dB false) :: q7 ((dP e44 v17.1) :: q2 ((.ptr 8 0) :: (dB v400) :: q40 (q14 ((dP e44 v16.1) :: (dI ((v16.1.length : Int))) :: (dI v279) :: q3 ((dP e44 v17.1) :: (dI ((v17.1.length : Int))) :: (dI (w64 (v360 + 1))) :: q36 [])))))), [.dead, (appO 2 (List.map e39 v3)), (.cells [(.v (eGz v14.1.fRoot))]), (.cells [(dI v14.2.fCode), (dI v14.2.fIndex)]), (.cells [(.v (eGz v15.1.fRoot))]), (.cells [(dI v15.2.fCode), (dI v15.2.fIndex)]), (.cells [(dI v16.2.fCode), (dI v16.2.fIndex)]), (.cells [(dI v17.2.fCode), (dI v17.2.fIndex)]), (.cells [(.v (.str v289.fTag)), (dI v289.fLength), (dI v289.fCount)])]⟩ (by generalize v3 = z0; cases z0 <;> kernel_rfl) ?_
        cases h
        exact ihx364 v400 (w64 (v360 + 1))  _ hsx369 _ (by omega) hrx365 hxx366
      have G6g372 : ∀ v371 : Bool, f6_r1 m v360 ((v371 || ((((v289.fTag.toList == v370.fTag.toList)) && (((decide (v370.fLength > v289.fLength)) || (((v370.fLength == v289.fLength) && (decide (v370.fCount ≥ v289.fCount)))))))))) = some sx368 → Ops (X6 n) (opl (cR (cL (cL (cR (cR (cL (cL (cR (cL (cR (cR (cL (cL (cR (cR (cL (cL (cR (cL (cR (cR (cR (cR (cR (cR (cR (cR (cR C6))))))))))))))))))))))))))))) 2 ⟨q6 ((dB false) :: q7 ((dP e44 v17.1) :: q2 ((.ptr 8 0) :: (dB v371) :: q1 ((.ptr 9 0) :: q40 (q12 ((dP e44 v16.1) :: (dI ((v16.1.length : Int))) :: (dI v279) :: q3 ((dP e44 v17.1) :: (dI ((v17.1.length : Int))) :: (dI v360) :: (dB (decide (v360 < (v17.1.length : Int)))) :: (.vptr [(.str v370.fTag), (vI v370.fLength), (vI v370.fCount)]) :: (.v (.agg [(.str v370.fTag), (vI v370.fLength), (vI v370.fCount)])) :: (dB v371) :: (dB v371) :: q31 []))))))), [.dead, (appO 2 (List.map e39 v3)), (.cells [(.v (eGz v14.1.fRoot))]), (.cells [(dI v14.2.fCode), (dI v14.2.fIndex)]), (.cells [(.v (eGz v15.1.fRoot))]), (.cells [(dI v15.2.fCode), (dI v15.2.fIndex)]), (.cells [(dI v16.2.fCode), (dI v16.2.fIndex)]), (.cells [(dI v17.2.fCode), (dI v17.2.fIndex)]), (.cells [(.v (.str v289.fTag)), (dI v289.fLength), (dI v289.fCount)]), (.cells [(.v (.str v370.fTag)), (dI v370.fLength), (dI v370.fCount)])]⟩ ((blkQ (X6 n) 3 [6, 14, 17, 18, 73, 74, 75, 79, 80, 81] 9 (seqQ (X6 n) (cR (cR (cR (cL (cL (cR (cL (cR (cR (cL (cL (cR (cR (cL (cL (cR (cL (cR (cR (cR (cR (cR (cR (cR (cR (cR C6)))))))))))))))))))))))))) (lpQ (X6 n) [6, 14, 17, 18, 73, 74, 75, 79, 80, 81] 9 (cL (cL (cR (cL (cR (cR (cL (cL (cR (cR (cL (cL (cR (cL (cR (cR (cR (cR (cR (cR (cR (cR (cR C6))))))))))))))))))))))) nx363 (blkQ (X6 n) 2 [6, 14, 18, 73, 74, 75] 9 (seqQ (X6 n) (cR (cR (cR (cL (cL (cR (cR (cL (cL (cR (cL (cR (cR (cR (cR (cR (cR (cR (cR (cR C6)))))))))))))))))))) (blkQ (X6 n) 1 [6, 14, 73, 74, 75] 8 (seqQ (X6 n) (cR (cR (cR (cL (cL (cR (cL (cR (cR (cR (cR (cR (cR (cR (cR (cR C6)))))))))))))))) (lpQ (X6 n) [6, 14, 73, 74, 75] 8 (cL (cL (cR (cL (cR (cR (cR (cR (cR (cR (cR (cR (cR C6))))))))))))) nx282 (blkQ (X6 n) 0 [6] 8 (seqQ (X6 n) (cR (cR (cR (cR (cR (cR (cR (cR (cR (cR C6)))))))))) (fnQ (X6 n).E.T (resOf Proofs.Tryd.prog 6) (eB o)))))))))))) .normal) := by
        intro v371 h
        cases v371
        · refine Ops.seg' 6 8 (by kernel_rfl) ?_
          have G6g403 : ∀ v402 : Bool, (f6_r1 m v360 ((false || ((v402 && (((decide (v370.fLength > v289.fLength)) || (((v370.fLength == v289.fLength) && (decide (v370.fCount ≥ v289.fCount))))))))))) = some sx368 → Ops (X6 n) (opl (cR (cL (cL (cR (cR (cL (cL (cR (cL (cR (cR (cL (cL (cR (cR (cL (cL (cR (cL (cR (cR (cR (cR (cR (cR (cR (cR (cR C6))))))))))))))))))))))))))))) 8 ⟨q6 ((dB false) :: q7 ((dP e44 v17.1) :: q2 ((.ptr 8 0) :: (dB false) :: q1 ((.ptr 9 0) :: q40 (q12 ((dP e44 v16.1) :: (dI ((v16.1.length : Int))) :: (dI v279) :: q3 ((dP e44 v17.1) :: (dI ((v17.1.length : Int))) :: (dI v360) :: (dB (decide (v360 < (v17.1.length : Int)))) :: (.vptr [(.str v370.fTag), (vI v370.fLength), (vI v370.fCount)]) :: (.v (.agg [(.str v370.fTag), (vI v370.fLength), (vI v370.fCount)])) :: (dB false) :: (dB false) :: (.ptr 8 0) :: (.v (.str v289.fTag)) :: (.ptr 9 0) :: (.v (.str v370.fTag)) :: (dB v402) :: (dB v402) :: q25 []))))))), [.dead, (appO 2 (List.map e39 v3)), (.cells [(.v (eGz v14.1.fRoot))]), (.cells [(dI v14.2.fCode), (dI v14.2.fIndex)]), (.cells [(.v (eGz v15.1.fRoot))]), (.cells [(dI v15.2.fCode), (dI v15.2.fIndex)]), (.cells [(dI v16.2.fCode), (dI v16.2.fIndex)]), (.cells [(dI v17.2.fCode), (dI v17.2.fIndex)]), (.cells [(.v (.str v289.fTag)), (dI v289.fLength), (dI v289.fCount)]), (.cells [(.v (.str v370.fTag)), (dI v370.fLength), (dI v370.fCount)])]⟩ ((blkQ (X6 n) 3 [6, 14, 17, 18, 73, 74, 75, 79, 80, 81] 9 (seqQ (X6 n) (cR (cR (cR (cL (cL (cR (cL (cR (cR (cL (cL (cR (cR (cL (cL (cR (cL (cR (cR (cR (cR (cR (cR (cR (cR (cR C6)))))))))))))))))))))))))) (lpQ (X6 n) [6, 14, 17, 18, 73, 74, 75, 79, 80, 81] 9 (cL (cL (cR (cL (cR (cR (cL (cL (cR (cR (cL (cL (cR (cL (cR (cR (cR (cR (cR (cR (cR (cR (cR C6))))))))))))))))))))))) nx363 (blkQ (X6 n) 2 [6, 14, 18, 73, 74, 75] 9 (seqQ (X6 n) (cR (cR (cR (cL (cL (cR (cR (cL (cL (cR (cL (cR (cR (cR (cR (cR (cR (cR (cR (cR C6)))))))))))))))))))) (blkQ (X6 n) 1 [6, 14, 73, 74, 75] 8 (seqQ (X6 n) (cR (cR (cR (cL (cL (cR (cL (cR (cR (cR (cR (cR (cR (cR (cR (cR C6)))))))))))))))) (lpQ (X6 n) [6, 14, 73, 74, 75] 8 (cL (cL (cR (cL (cR (cR (cR (cR (cR (cR (cR (cR (cR C6))))))))))))) nx282 (blkQ (X6 n) 0 [6] 8 (seqQ (X6 n) (cR (cR (cR (cR (cR (cR (cR (cR (cR (cR C6)))))))))) (fnQ (X6 n).E.T (resOf Proofs.Tryd.prog 6) (eB o)))))))))))) .normal) := by
            intro v402 h
            cases v402
            · refine Ops.seg' 21 29 (by kernel_rfl) ?_
              refine Ops.st ⟨q6 ((dB false) :: q7 ((dP e44 v17.1) :: q2 ((.ptr 8 0) :: (dB false) :: q1 ((.ptr 9 0) :: q40 (q12 ((dP e44 v16.1) :: (dI ((v16.1.length : Int))) :: (dI v279) :: q3 ((dP e44 v17.1) :: (dI ((v17.1.length : Int))) :: (dI v360) :: (dB (decide (v360 < (v17.1.length : Int)))) :: (.vptr [(.str v370.fTag), (vI v370.fLength), (vI v370.fCount)]) :: (.v (.agg [(.str v370.fTag), (vI v370.fLength), (vI v370.fCount)])) :: (dB false) :: (dB false) :: (.ptr 8 0) :: (.v (.str v289.fTag)) :: (.ptr 9 0) :: (.v (.str v370.fTag)) :: (dB false) :: (dB false) :: u19 ((dB false) :: (dB false) :: q4 [])))))))), [.dead, (appO 2 (List.map e39 v3)), (.cells [(.v (eGz v14.1.fRoot))]), (.cells [(dI v14.2.fCode), (dI v14.2.fIndex)]), (.cells [(.v (eGz v15.1.fRoot))]), (.cells [(dI v15.2.fCode), (dI v15.2.fIndex)]), (.cells [(dI v16.2.fCode), (dI v16.2.fIndex)]), (.cells [(dI v17.2.fCode), (dI v17.2.fIndex)]), (.cells [(.v (.str v289.fTag)), (dI v289.fLength), (dI v289.fCount)]), (.cells [(.v (.str v370.fTag)), (dI v370.fLength), (dI v370.fCount)])]⟩ (by kernel_rfl) ?_
              exact J6j401 _ _ _ _ _ _ _ _ _ _ _ _ _ _ _ _ _ _ _ _ _ _ _ _ _ _ _ _ h
            · refine Ops.seg' 6 14 (by kernel_rfl) ?_
              have G6g405 : ∀ v404 : Bool, (f6_r1 m v360 ((false || ((true && ((v404 || (((v370.fLength == v289.fLength) && (decide (v370.fCount ≥ v289.fCount))))))))))) = some sx368 → Ops (X6 n) (opl (cR (cL (cL (cR (cR (cL (cL (cR (cL (cR (cR (cL (cL (cR (cR (cL (cL (cR (cL (cR (cR (cR (cR (cR (cR (cR (cR (cR C6))))))))))))))))))))))))))))) 14 ⟨q6 ((dB false) :: q7 ((dP e44 v17.1) :: q2 ((.ptr 8 0) :: (dB false) :: q1 ((.ptr 9 0) :: q40 (q12 ((dP e44 v16.1) :: (dI ((v16.1.length : Int))) :: (dI v279) :: q3 ((dP e44 v17.1) :: (dI ((v17.1.length : Int))) :: (dI v360) :: (dB (decide (v360 < (v17.1.length : Int)))) :: (.vptr [(.str v370.fTag), (vI v370.fLength), (vI v370.fCount)]) :: (.v (.agg [(.str v370.fTag), (vI v370.fLength), (vI v370.fCount)])) :: (dB false) :: (dB false) :: (.ptr 8 0) :: (.v (.str v289.fTag)) :: (.ptr 9 0) :: (.v (.str v370.fTag)) :: (dB true) :: (dB true) :: (.ptr 9 1) :: (dI v370.fLength) :: (.ptr 8 1) :: (dI v289.fLength) :: (dB v404) :: (dB v404) :: q19 []))))))), [.dead, (appO 2 (List.map e39 v3)), (.cells [(.v (eGz v14.1.fRoot))]), (.cells [(dI v14.2.fCode), (dI v14.2.fIndex)]), (.cells [(.v (eGz v15.1.fRoot))]), (.cells [(dI v15.2.fCode), (dI v15.2.fIndex)]), (.cells [(dI v16.2.fCode), (dI v16.2.fIndex)]), (.cells [(dI v17.2.fCode), (dI v17.2.fIndex)]), (.cells [(.v (.str v289.fTag)), (dI v289.fLength), (dI v289.fCount)]), (.cells [(.v (.str v370.fTag)), (dI v370.fLength), (dI v370.fCount)])]⟩ ((blkQ (X6 n) 3 [6, 14, 17, 18, 73, 74, 75, 79, 80, 81] 9 (seqQ (X6 n) (cR (cR (cR (cL (cL (cR (cL (cR (cR (cL (cL (cR (cR (cL (cL (cR (cL (cR (cR (cR (cR (cR (cR (cR (cR (cR C6)))))))))))))))))))))))))) (lpQ (X6 n) [6, 14, 17, 18, 73, 74, 75, 79, 80, 81] 9 (cL (cL (cR (cL (cR (cR (cL (cL (cR (cR (cL (cL (cR (cL (cR (cR (cR (cR (cR (cR (cR (cR (cR C6))))))))))))))))))))))) nx363 (blkQ (X6 n) 2 [6, 14, 18, 73, 74, 75] 9 (seqQ (X6 n) (cR (cR (cR (cL (cL (cR (cR (cL (cL (cR (cL (cR (cR (cR (cR (cR (cR (cR (cR (cR C6)))))))))))))))))))) (blkQ (X6 n) 1 [6, 14, 73, 74, 75] 8 (seqQ (X6 n) (cR (cR (cR (cL (cL (cR (cL (cR (cR (cR (cR (cR (cR (cR (cR (cR C6)))))))))))))))) (lpQ (X6 n) [6, 14, 73, 74, 75] 8 (cL (cL (cR (cL (cR (cR (cR (cR (cR (cR (cR (cR (cR C6))))))))))))) nx282 (blkQ (X6 n) 0 [6] 8 (seqQ (X6 n) (cR (cR (cR (cR (cR (cR (cR (cR (cR (cR C6)))))))))) (fnQ (X6 n).E.T (resOf Proofs.Tryd.prog 6) (eB o)))))))))))) .normal) := by
                intro v404 h
                cases v404
                · refine Ops.seg' 6 20 (by kernel_rfl) ?_
                  have G6g407 : ∀ v406 : Bool, (f6_r1 m v360 ((false || ((true && ((false || ((v406 && (decide (v370.fCount ≥ v289.fCount))))))))))) = some sx368 → Ops (X6 n) (opl (cR (cL (cL (cR (cR (cL (cL (cR (cL (cR (cR (cL (cL (cR (cR (cL (cL (cR (cL (cR (cR (cR (cR (cR (cR (cR (cR (cR C6))))))))))))))))))))))))))))) 20 ⟨q6 ((dB false) :: q7 ((dP e44 v17.1) :: q2 ((.ptr 8 0) :: (dB false) :: q1 ((.ptr 9 0) :: q40 (q12 ((dP e44 v16.1) :: (dI ((v16.1.length : Int))) :: (dI v279) :: q3 ((dP e44 v17.1) :: (dI ((v17.1.length : Int))) :: (dI v360) :: (dB (decide (v360 < (v17.1.length : Int)))) :: (.vptr [(.str v370.fTag), (vI v370.fLength), (vI v370.fCount)]) :: (.v (.agg [(.str v370.fTag), (vI v370.fLength), (vI v370.fCount)])) :: (dB false) :: (dB false) :: (.ptr 8 0) :: (.v (.str v289.fTag)) :: (.ptr 9 0) :: (.v (.str v370.fTag)) :: (dB true) :: (dB true) :: (.ptr 9 1) :: (dI v370.fLength) :: (.ptr 8 1) :: (dI v289.fLength) :: (dB false) :: (dB false) :: (.ptr 9 1) :: (dI v370.fLength) :: (.ptr 8 1) :: (dI v289.fLength) :: (dB v406) :: (dB v406) :: q13 []))))))), [.dead, (appO 2 (List.map e39 v3)), (.cells [(.v (eGz v14.1.fRoot))]), (.cells [(dI v14.2.fCode), (dI v14.2.fIndex)]), (.cells [(.v (eGz v15.1.fRoot))]), (.cells [(dI v15.2.fCode), (dI v15.2.fIndex)]), (.cells [(dI v16.2.fCode), (dI v16.2.fIndex)]), (.cells [(dI v17.2.fCode), (dI v17.2.fIndex)]), (.cells [(.v (.str v289.fTag)), (dI v289.fLength), (dI v289.fCount)]), (.cells [(.v (.str v370.fTag)), (dI v370.fLength), (dI v370.fCount)])]⟩ ((blkQ (X6 n) 3 [6, 14, 17, 18, 73, 74, 75, 79, 80, 81] 9 (seqQ (X6 n) (cR (cR (cR (cL (cL (cR (cL (cR (cR (cL (cL (cR (cR (cL (cL (cR (cL (cR (cR (cR (cR (cR (cR (cR (cR (cR C6)))))))))))))))))))))))))) (lpQ (X6 n) [6, 14, 17, 18, 73, 74, 75, 79, 80, 81] 9 (cL (cL (cR (cL (cR (cR (cL (cL (cR (cR (cL (cL (cR (cL (cR (cR (cR (cR (cR (cR (cR (cR (cR C6))))))))))))))))))))))) nx363 (blkQ (X6 n) 2 [6, 14, 18, 73, 74, 75] 9 (seqQ (X6 n) (cR (cR (cR (cL (cL (cR (cR (cL (cL (cR (cL (cR (cR (cR (cR (cR (cR (cR (cR (cR C6)))))))))))))))))))) (blkQ (X6 n) 1 [6, 14, 73, 74, 75] 8 (seqQ (X6 n) (cR (cR (cR (cL (cL (cR (cL (cR (cR (cR (cR (cR (cR (cR (cR (cR C6)))))))))))))))) (lpQ (X6 n) [6, 14, 73, 74, 75] 8 (cL (cL (cR (cL (cR (cR (cR (cR (cR (cR (cR (cR (cR C6))))))))))))) nx282 (blkQ (X6 n) 0 [6] 8 (seqQ (X6 n) (cR (cR (cR (cR (cR (cR (cR (cR (cR (cR C6)))))))))) (fnQ (X6 n).E.T (resOf Proofs.Tryd.prog 6) (eB o)))))))))))) .normal) := by
                    intro v406 h
                    cases v406
                    · refine Ops.seg' 9 29 (by kernel_rfl) ?_
                      refine Ops.st ⟨q6 ((dB false) :: q7 ((dP e44 v17.1) :: q2 ((.ptr 8 0) :: (dB false) :: q1 ((.ptr 9 0) :: q40 (q12 ((dP e44 v16.1) :: (dI ((v16.1.length : Int))) :: (dI v279) :: q3 ((dP e44 v17.1) :: (dI ((v17.1.length : Int))) :: (dI v360) :: (dB (decide (v360 < (v17.1.length : Int)))) :: (.vptr [(.str v370.fTag), (vI v370.fLength), (vI v370.fCount)]) :: (.v (.agg [(.str v370.fTag), (vI v370.fLength), (vI v370.fCount)])) :: (dB false) :: (dB false) :: (.ptr 8 0) :: (.v (.str v289.fTag)) :: (.ptr 9 0) :: (.v (.str v370.fTag)) :: (dB true) :: (dB true) :: (.ptr 9 1) :: (dI v370.fLength) :: (.ptr 8 1) :: (dI v289.fLength) :: (dB false) :: (dB false) :: (.ptr 9 1) :: (dI v370.fLength) :: (.ptr 8 1) :: (dI v289.fLength) :: (dB false) :: (dB false) :: u5 ((dB false) :: (dB false) :: (dB false) :: (dB false) :: q4 [])))))))), [.dead, (appO 2 (List.map e39 v3)), (.cells [(.v (eGz v14.1.fRoot))]), (.cells [(dI v14.2.fCode), (dI v14.2.fIndex)]), (.cells [(.v (eGz v15.1.fRoot))]), (.cells [(dI v15.2.fCode), (dI v15.2.fIndex)]), (.cells [(dI v16.2.fCode), (dI v16.2.fIndex)]), (.cells [(dI v17.2.fCode), (dI v17.2.fIndex)]), (.cells [(.v (.str v289.fTag)), (dI v289.fLength), (dI v289.fCount)]), (.cells [(.v (.str v370.fTag)), (dI v370.fLength), (dI v370.fCount)])]⟩ (by kernel_rfl) ?_
                      exact J6j401 _ _ _ _ _ _ _ _ _ _ _ _ _ _ _ _ _ _ _ _ _ _ _ _ _ _ _ _ h
                    · refine Ops.seg' 9 29 (by kernel_rfl) ?_
                      refine Ops.st ⟨q6 ((dB false) :: q7 ((dP e44 v17.1) :: q2 ((.ptr 8 0) :: (dB false) :: q1 ((.ptr 9 0) :: q40 (q12 ((dP e44 v16.1) :: (dI ((v16.1.length : Int))) :: (dI v279) :: q3 ((dP e44 v17.1) :: (dI ((v17.1.length : Int))) :: (dI v360) :: (dB (decide (v360 < (v17.1.length : Int)))) :: (.vptr [(.str v370.fTag), (vI v370.fLength), (vI v370.fCount)]) :: (.v (.agg [(.str v370.fTag), (vI v370.fLength), (vI v370.fCount)])) :: (dB false) :: (dB false) :: (.ptr 8 0) :: (.v (.str v289.fTag)) :: (.ptr 9 0) :: (.v (.str v370.fTag)) :: (dB true) :: (dB true) :: (.ptr 9 1) :: (dI v370.fLength) :: (.ptr 8 1) :: (dI v289.fLength) :: (dB false) :: (dB false) :: (.ptr 9 1) :: (dI v370.fLength) :: (.ptr 8 1) :: (dI v289.fLength) :: (dB true) :: (dB true) :: (.ptr 9 2) :: (dI v370.fCount) :: (.ptr 8 2) :: (dI v289.fCount) :: (dB (decide (v370.fCount ≥ v289.fCount))) :: (dB (decide (v370.fCount ≥ v289.fCount))) :: (dB (decide (v370.fCount ≥ v289.fCount))) :: (dB (decide (v370.fCount ≥ v289.fCount))) :: (dB (decide (v370.fCount ≥ v289.fCount))) :: q4 []))))))), [.dead, (appO 2 (List.map e39 v3)), (.cells [(.v (eGz v14.1.fRoot))]), (.cells [(dI v14.2.fCode), (dI v14.2.fIndex)]), (.cells [(.v (eGz v15.1.fRoot))]), (.cells [(dI v15.2.fCode), (dI v15.2.fIndex)]), (.cells [(dI v16.2.fCode), (dI v16.2.fIndex)]), (.cells [(dI v17.2.fCode), (dI v17.2.fIndex)]), (.cells [(.v (.str v289.fTag)), (dI v289.fLength), (dI v289.fCount)]), (.cells [(.v (.str v370.fTag)), (dI v370.fLength), (dI v370.fCount)])]⟩ (by kernel_rfl) ?_
                      exact J6j401 _ _ _ _ _ _ _ _ _ _ _ _ _ _ _ _ _ _ _ _ _ _ _ _ _ _ _ _ h
                  exact Ops.st ⟨q6 ((dB false) :: q7 ((dP e44 v17.1) :: q2 ((.ptr 8 0) :: (dB false) :: q1 ((.ptr 9 0) :: q40 (q12 ((dP e44 v16.1) :: (dI ((v16.1.length : Int))) :: (dI v279) :: q3 ((dP e44 v17.1) :: (dI ((v17.1.length : Int))) :: (dI v360) :: (dB (decide (v360 < (v17.1.length : Int)))) :: (.vptr [(.str v370.fTag), (vI v370.fLength), (vI v370.fCount)]) :: (.v (.agg [(.str v370.fTag), (vI v370.fLength), (vI v370.fCount)])) :: (dB false) :: (dB false) :: (.ptr 8 0) :: (.v (.str v289.fTag)) :: (.ptr 9 0) :: (.v (.str v370.fTag)) :: (dB true) :: (dB true) :: (.ptr 9 1) :: (dI v370.fLength) :: (.ptr 8 1) :: (dI v289.fLength) :: (dB false) :: (dB false) :: (.ptr 9 1) :: (dI v370.fLength) :: (.ptr 8 1) :: (dI v289.fLength) :: (dB ((v370.fLength == v289.fLength))) :: (dB ((v370.fLength == v289.fLength))) :: q13 []))))))), [.dead, (appO 2 (List.map e39 v3)), (.cells [(.v (eGz v14.1.fRoot))]), (.cells [(dI v14.2.fCode), (dI v14.2.fIndex)]), (.cells [(.v (eGz v15.1.fRoot))]), (.cells [(dI v15.2.fCode), (dI v15.2.fIndex)]), (.cells [(dI v16.2.fCode), (dI v16.2.fIndex)]), (.cells [(dI v17.2.fCode), (dI v17.2.fIndex)]), (.cells [(.v (.str v289.fTag)), (dI v289.fLength), (dI v289.fCount)]), (.cells [(.v (.str v370.fTag)), (dI v370.fLength), (dI v370.fCount)])]⟩ (by kernel_rfl) (G6g407 (v370.fLength == v289.fLength) h)
                · refine Ops.seg' 15 29 (by kernel_rfl) ?_
                  refine Ops.st ⟨q6 ((dB false) :: q7 ((dP e44 v17.1) :: q2 ((.ptr 8 0) :: (dB false) :: q1 ((.ptr 9 0) :: q40 (q12 ((dP e44 v16.1) :: (dI ((v16.1.length : Int))) :: (dI v279) :: q3 ((dP e44 v17.1) :: (dI ((v17.1.length : Int))) :: (dI v360) :: (dB (decide (v360 < (v17.1.length : Int)))) :: (.vptr [(.str v370.fTag), (vI v370.fLength), (vI v370.fCount)]) :: (.v (.agg [(.str v370.fTag), (vI v370.fLength), (vI v370.fCount)])) :: (dB false) :: (dB false) :: (.ptr 8 0) :: (.v (.str v289.fTag)) :: (.ptr 9 0) :: (.v (.str v370.fTag)) :: (dB true) :: (dB true) :: (.ptr 9 1) :: (dI v370.fLength) :: (.ptr 8 1) :: (dI v289.fLength) :: (dB true) :: (dB true) :: u12 ((dB true) :: (dB true) :: (dB true) :: q4 [])))))))), [.dead, (appO 2 (List.map e39 v3)), (.cells [(.v (eGz v14.1.fRoot))]), (.cells [(dI v14.2.fCode), (dI v14.2.fIndex)]), (.cells [(.v (eGz v15.1.fRoot))]), (.cells [(dI v15.2.fCode), (dI v15.2.fIndex)]), (.cells [(dI v16.2.fCode), (dI v16.2.fIndex)]), (.cells [(dI v17.2.fCode), (dI v17.2.fIndex)]), (.cells [(.v (.str v289.fTag)), (dI v289.fLength), (dI v289.fCount)]), (.cells [(.v (.str v370.fTag)), (dI v370.fLength), (dI v370.fCount)])]⟩ (by kernel_rfl) ?_
                  exact J6j401 _ _ _ _ _ _ _ _ _ _ _ _ _ _ _ _ _ _ _ _ _ _ _ _ _ _ _ _ h
              exact Ops.st ⟨q6 ((dB false) :: q7 ((dP e44 v17.1) :: q2 ((.ptr 8 0) :: (dB false) :: q1 ((.ptr 9 0) :: q40 (q12 ((dP e44 v16.1) :: (dI ((v16.1.length : Int))) :: (dI v279) :: q3 ((dP e44 v17.1) :: (dI ((v17.1.length : Int))) :: (dI v360) :: (dB (decide (v360 < (v17.1.length : Int)))) :: (.vptr [(.str v370.fTag), (vI v370.fLength), (vI v370.fCount)]) :: (.v (.agg [(.str v370.fTag), (vI v370.fLength), (vI v370.fCount)])) :: (dB false) :: (dB false) :: (.ptr 8 0) :: (.v (.str v289.fTag)) :: (.ptr 9 0) :: (.v (.str v370.fTag)) :: (dB true) :: (dB true) :: (.ptr 9 1) :: (dI v370.fLength) :: (.ptr 8 1) :: (dI v289.fLength) :: (dB ((decide (v370.fLength > v289.fLength)))) :: (dB ((decide (v370.fLength > v289.fLength)))) :: q19 []))))))), [.dead, (appO 2 (List.map e39 v3)), (.cells [(.v (eGz v14.1.fRoot))]), (.cells [(dI v14.2.fCode), (dI v14.2.fIndex)]), (.cells [(.v (eGz v15.1.fRoot))]), (.cells [(dI v15.2.fCode), (dI v15.2.fIndex)]), (.cells [(dI v16.2.fCode), (dI v16.2.fIndex)]), (.cells [(dI v17.2.fCode), (dI v17.2.fIndex)]), (.cells [(.v (.str v289.fTag)), (dI v289.fLength), (dI v289.fCount)]), (.cells [(.v (.str v370.fTag)), (dI v370.fLength), (dI v370.fCount)])]⟩ (by kernel_rfl) (G6g405 (decide (v370.fLength > v289.fLength)) h)
          exact Ops.st ⟨q6 ((dB false) :: q7 ((dP e44 v17.1) :: q2 ((.ptr 8 0) :: (dB false) :: q1 ((.ptr 9 0) :: q40 (q12 ((dP e44 v16.1) :: (dI ((v16.1.length : Int))) :: (dI v279) :: q3 ((dP e44 v17.1) :: (dI ((v17.1.length : Int))) :: (dI v360) :: (dB (decide (v360 < (v17.1.length : Int)))) :: (.vptr [(.str v370.fTag), (vI v370.fLength), (vI v370.fCount)]) :: (.v (.agg [(.str v370.fTag), (vI v370.fLength), (vI v370.fCount)])) :: (dB false) :: (dB false) :: (.ptr 8 0) :: (.v (.str v289.fTag)) :: (.ptr 9 0) :: (.v (.str v370.fTag)) :: (dB (((v289.fTag.toList == v370.fTag.toList)))) :: (dB (((v289.fTag.toList == v370.fTag.toList)))) :: q25 []))))))), [.dead, (appO 2 (List.map e39 v3)), (.cells [(.v (eGz v14.1.fRoot))]), (.cells [(dI v14.2.fCode), (dI v14.2.fIndex)]), (.cells [(.v (eGz v15.1.fRoot))]), (.cells [(dI v15.2.fCode), (dI v15.2.fIndex)]), (.cells [(dI v16.2.fCode), (dI v16.2.fIndex)]), (.cells [(dI v17.2.fCode), (dI v17.2.fIndex)]), (.cells [(.v (.str v289.fTag)), (dI v289.fLength), (dI v289.fCount)]), (.cells [(.v (.str v370.fTag)), (dI v370.fLength), (dI v370.fCount)])]⟩ (by kernel_rfl) (G6g403 ((v289.fTag.toList == v370.fTag.toList)) h)
        · refine Ops.seg' 27 29 (by kernel_rfl) ?_
          refine Ops.st ⟨q6 ((dB false) :: q7 ((dP e44 v17.1) :: q2 ((.ptr 8 0) :: (dB true) :: q1 ((.ptr 9 0) :: q40 (q12 ((dP e44 v16.1) :: (dI ((v16.1.length : Int))) :: (dI v279) :: q3 ((dP e44 v17.1) :: (dI ((v17.1.length : Int))) :: (dI v360) :: (dB (decide (v360 < (v17.1.length : Int)))) :: (.vptr [(.str v370.fTag), (vI v370.fLength), (vI v370.fCount)]) :: (.v (.agg [(.str v370.fTag), (vI v370.fLength), (vI v370.fCount)])) :: (dB true) :: (dB true) :: u26 ((dB true) :: q4 [])))))))), [.dead, (appO 2 (List.map e39 v3)), (.cells [(.v (eGz v14.1.fRoot))]), (.cells [(dI v14.2.fCode), (dI v14.2.fIndex)]), (.cells [(.v (eGz v15.1.fRoot))]), (.cells [(dI v15.2.fCode), (dI v15.2.fIndex)]), (.cells [(dI v16.2.fCode), (dI v16.2.fIndex)]), (.cells [(dI v17.2.fCode), (dI v17.2.fIndex)]), (.cells [(.v (.str v289.fTag)), (dI v289.fLength), (dI v289.fCount)]), (.cells [(.v (.str v370.fTag)), (dI v370.fLength), (dI v370.fCount)])]⟩ (by kernel_rfl) ?_
          exact J6j401 _ _ _ _ _ _ _ _ _ _ _ _ _ _ _ _ _ _ _ _ _ _ _ _ _ _ _ _ h
      exact Ops.st ⟨q6 ((dB false) :: q7 ((dP e44 v17.1) :: q2 ((.ptr 8 0) :: (dB v359) :: q1 ((.ptr 9 0) :: q40 (q12 ((dP e44 v16.1) :: (dI ((v16.1.length : Int))) :: (dI v279) :: q3 ((dP e44 v17.1) :: (dI ((v17.1.length : Int))) :: (dI v360) :: (dB (decide (v360 < (v17.1.length : Int)))) :: (.vptr [(.str v370.fTag), (vI v370.fLength), (vI v370.fCount)]) :: (.v (.agg [(.str v370.fTag), (vI v370.fLength), (vI v370.fCount)])) :: (dB v359) :: (dB v359) :: q31 []))))))), [.dead, (appO 2 (List.map e39 v3)), (.cells [(.v (eGz v14.1.fRoot))]), (.cells [(dI v14.2.fCode), (dI v14.2.fIndex)]), (.cells [(.v (eGz v15.1.fRoot))]), (.cells [(dI v15.2.fCode), (dI v15.2.fIndex)]), (.cells [(dI v16.2.fCode), (dI v16.2.fIndex)]), (.cells [(dI v17.2.fCode), (dI v17.2.fIndex)]), (.cells [(.v (.str v289.fTag)), (dI v289.fLength), (dI v289.fCount)]), (.cells [(.v (.str v370.fTag)), (dI v370.fLength), (dI v370.fCount)])]⟩ (by kernel_rfl) (G6g372 v359 h)
    · refine Wp.exit (id := 2) (by kernel_rfl) ?_
      refine sqQ.x ?_
      refine seqQ.x ?_
      cases h
      refine lpQ.x ?_
      refine blkQ.x ⟨q6 ((dB false) :: q7 ((dP e44 v17.1) :: q2 ((.ptr 8 0) :: (dB v359) :: q40 (q14 ((dP e44 v16.1) :: (dI ((v16.1.length : Int))) :: (dI v279) :: q3 ((dP e44 v17.1) :: (dI ((v17.1.length : Int))) :: (dI v360) :: q36 [])))))), [.dead, (appO 2 (List.map e39 v3)), (.cells [(.v (eGz v14.1.fRoot))]), (.cells [(dI v14.2.fCode), (dI v14.2.fIndex)]), (.cells [(.v (eGz v15.1.fRoot))]), (.cells [(dI v15.2.fCode), (dI v15.2.fIndex)]), (.cells [(dI v16.2.fCode), (dI v16.2.fIndex)]), (.cells [(dI v17.2.fCode), (dI v17.2.fIndex)]), (.cells [(.v (.str v289.fTag)), (dI v289.fLength), (dI v289.fCount)])]⟩ (by generalize v3 = z0; cases z0 <;> kernel_rfl) ?_
      exact hxx366 (v359, v360)  hsx369
theorem ok6 (m : Nat) (a0 : (List S39)) (a1 : (List S39)) (a2 : ByteArray) (o : Bool) (h : f6 m a0 a1 a2 = some o) (n : Nat) (hn : m + 6 ≤ n) : Fn Proofs.Tryd.prog EG n 6 [.v ((eL e39) a0), .v ((eL e39) a1), .v (eS a2)] (eB o) := by
  obtain ⟨n, rfl⟩ : ∃ q, n = q + 1 := ⟨n - 1, by omega⟩
  unfold f6 at h
  refine Fn.of (by kernel_rfl) (by kernel_rfl) (by kernel_rfl) ⟨(dP e39 a0) :: (dP e39 a1) :: (.v (.str a2)) :: u40 (u40 (u35 [])), []⟩ (by kernel_rfl) ?_
  refine Wp.seq' (by kernel_rfl) ?_
  refine Wp.region (by kernel_rfl) ?_
  refine Ops.seg' 1 1 (by kernel_rfl) ?_
  refine Ops.done (by kernel_rfl) ?_
  refine seqQ.n ?_
  refine Wp.seq' (by kernel_rfl) ?_
  refine Wp.seq' (by kernel_rfl) ?_
  refine Wp.region (by kernel_rfl) ?_
  obtain ⟨v1, ev1, h⟩ := bnd_some h
  refine Ops.one' 1 (fun h0 e0 => (call_ok (E' := EG) (h := h0) (by kernel_rfl) Args.nil (ok9 m  v1 ev1 n (by omega)))) (by kernel_rfl) (by kernel_rfl) ?_
  refine Ops.seg' 1 2 (by kernel_rfl) ?_
  refine Ops.done (by kernel_rfl) ?_
  refine seqQ.n ?_
  refine Wp.cnd h [0, 1, 2, 6] 0 (by kernel_rfl) (fun h => ?_) (fun h => ?_)
  · refine Wp.seq' (by kernel_rfl) ?_
    refine Wp.region (by kernel_rfl) ?_
    refine Ops.seg' 1 1 (by kernel_rfl) ?_
    refine Ops.done (by kernel_rfl) ?_
    refine seqQ.n ?_
    refine Wp.ret (by kernel_rfl) ?_
    refine sqQ.r ?_
    refine seqQ.r ?_
    exact fnQ.r' (X6 n) (fun z => (eB z)) h (RetOk.mk' (dB false) (by kernel_rfl) (by kernel_rfl))
  · refine Wp.skip (by kernel_rfl) ?_
    refine sqQ.n' ?_
    refine seqQ.n ?_
    refine Wp.seq' (by kernel_rfl) ?_
    refine Wp.region (by kernel_rfl) ?_
    refine Ops.seg' 2 2 (by kernel_rfl) ?_
    obtain ⟨v2, ev2, h⟩ := bnd_some h
    refine Ops.one' 3 (fun h0 e0 => (app_n (T := T) (g := .nonfull) h0 22 40 2 ti40 .plain e39 a0 v2 ev2 (by kernel_rfl) (by kernel_rfl) (by kernel_rfl) (by kernel_rfl) (fun _ => rfl))) (by kernel_rfl) (by kernel_rfl) ?_
    refine Ops.seg' 1 4 (by kernel_rfl) ?_
    obtain ⟨v3, ev3, h⟩ := bnd_some h
    refine Ops.one' 5 (fun h0 e0 => (app_r (T := T) (g := .nonfull) h0 22 40 0 2 ti40 .plain e39 v2 a1 v3 ev3 (by kernel_rfl) (by kernel_rfl) (by kernel_rfl) (by kernel_rfl) (fun _ => rfl) (hq_of e0 (by kernel_rfl)))) (by kernel_rfl) (by kernel_rfl) ?_
    refine Ops.seg' 1 6 (by kernel_rfl) ?_
    refine Ops.done (by kernel_rfl) ?_
    refine seqQ.n ?_
    refine Wp.seq' (by kernel_rfl) ?_
    refine Wp.seq' (by kernel_rfl) ?_
    refine Wp.region (by kernel_rfl) ?_
    refine Ops.seg' 1 1 (by kernel_rfl) ?_
    obtain ⟨v4, ev4, h⟩ := bnd_some h
    refine Ops.one' 2 (fun h0 e0 => (call_ok (E' := EG) (h := h0) (by kernel_rfl) (Args.v (vP e39 a0) ((eL e39) a0) (by kernel_rfl) Args.nil) (ok11 m a0 v4 ev4 n (by omega)))) (by kernel_rfl) (by kernel_rfl) ?_
    refine Ops.seg' 3 5 (by kernel_rfl) ?_
    have J6j13 : ∀ (d7 d8 d9 d10 : D) (v11 : Bool) (v12 : Bool), f6_r6 m a0 a2 v3 v12 = some o → Ops (X6 n) (opl (cL (cL (cR (cR (cR C6)))))) 10 ⟨(dP e39 a0) :: (dP e39 a1) :: (.v (.str a2)) :: u3 ((dB false) :: (appF .nonfull 1 (List.map e39 v3)) :: u13 ((dB v1) :: (dB (!v1)) :: (.v (.sl .nonfull (List.map e39 []))) :: (dP e39 a0) :: (appF .nonfull 0 (List.map e39 v2)) :: (dP e39 a1) :: (appF .nonfull 1 (List.map e39 v3)) :: (dP e39 a0) :: (.v (.agg [(vI v4.fCode), (vI v4.fIndex)])) :: (.v (.agg [(vI 0), (vI 0)])) :: (dB v11) :: (dB v11) :: d7 :: d8 :: d9 :: d10 :: (dB v12) :: u40 (u40 []))), [.dead, (appO 2 (List.map e39 v3))]⟩ ((seqQ (X6 n) (cR (cL (cR (cR (cR C6))))) (seqQ (X6 n) (cR (cR (cR (cR C6)))) (fnQ (X6 n).E.T (resOf Proofs.Tryd.prog 6) (eB o)))) .normal) := by
      intro d7 d8 d9 d10 v11 v12 h
      unfold f6_r6 at h
      refine Ops.done (by kernel_rfl) ?_
      refine seqQ.n ?_
      refine Wp.cnd h [0, 2, 6, 7] 2 (by kernel_rfl) (fun h => ?_) (fun h => ?_)
      · refine Wp.seq' (by kernel_rfl) ?_
        refine Wp.region (by kernel_rfl) ?_
        refine Ops.seg' 1 1 (by kernel_rfl) ?_
        refine Ops.done (by kernel_rfl) ?_
        refine seqQ.n ?_
        refine Wp.ret (by kernel_rfl) ?_
        refine sqQ.r ?_
        refine seqQ.r ?_
        exact fnQ.r' (X6 n) (fun z => (eB z)) h (RetOk.mk' (dB true) (by kernel_rfl) (by kernel_rfl))
      · refine Wp.skip (by kernel_rfl) ?_
        refine sqQ.n ⟨(dP e39 a0) :: (dP e39 a1) :: (.v (.str a2)) :: u3 ((dB false) :: (appF .nonfull 1 (List.map e39 v3)) :: u13 ((dB v1) :: (dB (!v1)) :: (.v (.sl .nonfull (List.map e39 []))) :: (dP e39 a0) :: (appF .nonfull 0 (List.map e39 v2)) :: (dP e39 a1) :: (appF .nonfull 1 (List.map e39 v3)) :: (dP e39 a0) :: (.v (.agg [(vI v4.fCode), (vI v4.fIndex)])) :: (.v (.agg [(vI 0), (vI 0)])) :: (dB v11) :: (dB v11) :: d7 :: d8 :: d9 :: d10 :: (dB v12) :: u40 (u40 []))), [.dead, (appO 2 (List.map e39 v3))]⟩ (by generalize v3 = z0; cases z0 <;> kernel_rfl) ?_
        refine seqQ.n ?_
        refine Wp.seq' (by kernel_rfl) ?_
        refine Wp.region (by kernel_rfl) ?_
        refine Ops.seg' 1 1 (by kernel_rfl) ?_
        obtain ⟨v14, ev14, h⟩ := bnd_some h
        refine Ops.one' 2 (fun h0 e0 => (call_ok (E' := EG) (h := h0) (by kernel_rfl) (Args.v (vP e39 a0) ((eL e39) a0) (by kernel_rfl) Args.nil) (ok10 m a0 v14 ev14 n (by omega)))) (by kernel_rfl) (by kernel_rfl) ?_
        refine Ops.seg' 5 7 (by kernel_rfl) ?_
        refine Ops.one' 8 (fun h0 e0 => (stc (i := ti26) (h := h0) (r := 2) (off := 0) (cs := [(.v (eGz none))]) (cs' := [(.v (eGz v14.1.fRoot))]) (x := (.v (.agg [(eGz v14.1.fRoot)]))) (hq_of (g := [.dead, (appO 2 (List.map e39 v3)), (.cells [(.v (eGz none))]), (.cells [(dI 0), (dI 0)])]) (e0.trans (by kernel_rfl)) rfl) (solid_e25 v14.1.fRoot) (by rfl))) (by kernel_rfl) (by kernel_rfl) ?_
        refine Ops.seg' 1 9 (by kernel_rfl) ?_
        refine Ops.done (by kernel_rfl) ?_
        refine seqQ.n ?_
        refine Wp.seq' (by kernel_rfl) ?_
        refine Wp.region (by kernel_rfl) ?_
        refine Ops.seg' 1 1 (by kernel_rfl) ?_
        obtain ⟨v15, ev15, h⟩ := bnd_some h
        refine Ops.one' 2 (fun h0 e0 => (call_ok (E' := EG) (h := h0) (by kernel_rfl) (Args.app (g := .nonfull) 1 (List.map e39 v3) Args.nil) (ok10 m v3 v15 ev15 n (by omega)))) (by kernel_rfl) (by kernel_rfl) ?_
        refine Ops.seg' 5 7 (by kernel_rfl) ?_
        refine Ops.one' 8 (fun h0 e0 => (stc (i := ti26) (h := h0) (r := 4) (off := 0) (cs := [(.v (eGz none))]) (cs' := [(.v (eGz v15.1.fRoot))]) (x := (.v (.agg [(eGz v15.1.fRoot)]))) (hq_of (g := [.dead, (appO 2 (List.map e39 v3)), (.cells [(.v (eGz v14.1.fRoot))]), (.cells [(dI v14.2.fCode), (dI v14.2.fIndex)]), (.cells [(.v (eGz none))]), (.cells [(dI 0), (dI 0)])]) (e0.trans (by kernel_rfl)) rfl) (solid_e25 v15.1.fRoot) (by rfl))) (by kernel_rfl) (by kernel_rfl) ?_
        refine Ops.seg' 1 9 (by kernel_rfl) ?_
        refine Ops.done (by kernel_rfl) ?_
        refine seqQ.n ?_
        refine Wp.seq' (by kernel_rfl) ?_
        refine Wp.region (by kernel_rfl) ?_
        refine Ops.seg' 2 2 (by kernel_rfl) ?_
        obtain ⟨v16, ev16, h⟩ := bnd_some h
        refine Ops.one' 3 (fun h0 e0 => (call_ok (E' := EG) (h := h0) (by kernel_rfl) (Args.v (.agg [(eGz v14.1.fRoot)]) (e25 v14.1) (plain_e25 _) (Args.v (.str a2) (eS a2) (by kernel_rfl) Args.nil)) (ok12 m v14.1 a2 v16 ev16 n (by omega)))) (by kernel_rfl) (by kernel_rfl) ?_
        refine Ops.seg' 6 9 (by kernel_rfl) ?_
        refine Ops.done (by kernel_rfl) ?_
        refine seqQ.n ?_
        refine Wp.seq' (by kernel_rfl) ?_
        refine Wp.region (by kernel_rfl) ?_
        refine Ops.seg' 2 2 (by kernel_rfl) ?_
        obtain ⟨v17, ev17, h⟩ := bnd_some h
        refine Ops.one' 3 (fun h0 e0 => (call_ok (E' := EG) (h := h0) (by kernel_rfl) (Args.v (.agg [(eGz v15.1.fRoot)]) (e25 v15.1) (plain_e25 _) (Args.v (.str a2) (eS a2) (by kernel_rfl) Args.nil)) (ok12 m v15.1 a2 v17 ev17 n (by omega)))) (by kernel_rfl) (by kernel_rfl) ?_
        refine Ops.seg 6 9 (by kernel_rfl) ⟨(dP e39 a0) :: (dP e39 a1) :: (.v (.str a2)) :: u3 ((dB false) :: (appF .nonfull 1 (List.map e39 v3)) :: (.ptr 2 0) :: (.ptr 3 0) :: (.ptr 4 0) :: (.ptr 5 0) :: (dP e44 v16.1) :: (.ptr 6 0) :: (dP e44 v17.1) :: (.ptr 7 0) :: u5 ((dB v1) :: (dB (!v1)) :: (.v (.sl .nonfull (List.map e39 []))) :: (dP e39 a0) :: (appF .nonfull 0 (List.map e39 v2)) :: (dP e39 a1) :: (appF .nonfull 1 (List.map e39 v3)) :: (dP e39 a0) :: (.v (.agg [(vI v4.fCode), (vI v4.fIndex)])) :: (.v (.agg [(vI 0), (vI 0)])) :: (dB v11) :: (dB v11) :: d7 :: d8 :: d9 :: d10 :: (dB v12) :: (.v (.tuple [(.agg [(eGz v14.1.fRoot)]), (.agg [(vI v14.2.fCode), (vI v14.2.fIndex)])])) :: (dP e39 a0) :: (.v (.tuple [(.agg [(eGz v14.1.fRoot)]), (.agg [(vI v14.2.fCode), (vI v14.2.fIndex)])])) :: (.v (.agg [(eGz v14.1.fRoot)])) :: (.v (.agg [(vI v14.2.fCode), (vI v14.2.fIndex)])) :: (.v (.tuple [(.agg [(eGz v15.1.fRoot)]), (.agg [(vI v15.2.fCode), (vI v15.2.fIndex)])])) :: (appF .nonfull 1 (List.map e39 v3)) :: (.v (.tuple [(.agg [(eGz v15.1.fRoot)]), (.agg [(vI v15.2.fCode), (vI v15.2.fIndex)])])) :: (.v (.agg [(eGz v15.1.fRoot)])) :: (.v (.agg [(vI v15.2.fCode), (vI v15.2.fIndex)])) :: (.v (.tuple [(vP e44 v16.1), (.agg [(vI v16.2.fCode), (vI v16.2.fIndex)])])) :: (.v (.agg [(eGz v14.1.fRoot)])) :: (.v (.str a2)) :: (.v (.tuple [(vP e44 v16.1), (.agg [(vI v16.2.fCode), (vI v16.2.fIndex)])])) :: (dP e44 v16.1) :: (.v (.agg [(vI v16.2.fCode), (vI v16.2.fIndex)])) :: (.v (.tuple [(vP e44 v17.1), (.agg [(vI v17.2.fCode), (vI v17.2.fIndex)])])) :: (.v (.agg [(eGz v15.1.fRoot)])) :: (.v (.str a2)) :: (.v (.tuple [(vP e44 v17.1), (.agg [(vI v17.2.fCode), (vI v17.2.fIndex)])])) :: (dP e44 v17.1) :: (.v (.agg [(vI v17.2.fCode), (vI v17.2.fIndex)])) :: u40 (u18 []))), [.dead, (appO 2 (List.map e39 v3)), (.cells [(.v (eGz v14.1.fRoot))]), (.cells [(dI v14.2.fCode), (dI v14.2.fIndex)]), (.cells [(.v (eGz v15.1.fRoot))]), (.cells [(dI v15.2.fCode), (dI v15.2.fIndex)]), (.cells [(dI v16.2.fCode), (dI v16.2.fIndex)]), (.cells [(dI v17.2.fCode), (dI v17.2.fIndex)])]⟩ (by kernel_rfl) ?_
        refine Ops.done (by kernel_rfl) ?_
        refine seqQ.n ?_
        refine Wp.seq' (by kernel_rfl) ?_
        refine Wp.seq' (by kernel_rfl) ?_
        refine Wp.region (by kernel_rfl) ?_
        refine Ops.seg' 4 4 (by kernel_rfl) ?_
        have J6j25 : ∀ (d20 d21 d22 : D) (v23 : Bool) (v24 : Bool), f6_r5 m v16 v17 v24 = some o → Ops (X6 n) (opl (cL (cL (cR (cR (cR (cR (cR (cR (cR (cR C6))))))))))) 8 ⟨(dP e39 a0) :: (dP e39 a1) :: (.v (.str a2)) :: u3 ((dB false) :: (appF .nonfull 1 (List.map e39 v3)) :: (.ptr 2 0) :: (.ptr 3 0) :: (.ptr 4 0) :: (.ptr 5 0) :: (dP e44 v16.1) :: (.ptr 6 0) :: (dP e44 v17.1) :: (.ptr 7 0) :: u5 ((dB v1) :: (dB (!v1)) :: (.v (.sl .nonfull (List.map e39 []))) :: (dP e39 a0) :: (appF .nonfull 0 (List.map e39 v2)) :: (dP e39 a1) :: (appF .nonfull 1 (List.map e39 v3)) :: (dP e39 a0) :: (.v (.agg [(vI v4.fCode), (vI v4.fIndex)])) :: (.v (.agg [(vI 0), (vI 0)])) :: (dB v11) :: (dB v11) :: d7 :: d8 :: d9 :: d10 :: (dB v12) :: (.v (.tuple [(.agg [(eGz v14.1.fRoot)]), (.agg [(vI v14.2.fCode), (vI v14.2.fIndex)])])) :: (dP e39 a0) :: (.v (.tuple [(.agg [(eGz v14.1.fRoot)]), (.agg [(vI v14.2.fCode), (vI v14.2.fIndex)])])) :: (.v (.agg [(eGz v14.1.fRoot)])) :: (.v (.agg [(vI v14.2.fCode), (vI v14.2.fIndex)])) :: (.v (.tuple [(.agg [(eGz v15.1.fRoot)]), (.agg [(vI v15.2.fCode), (vI v15.2.fIndex)])])) :: (appF .nonfull 1 (List.map e39 v3)) :: (.v (.tuple [(.agg [(eGz v15.1.fRoot)]), (.agg [(vI v15.2.fCode), (vI v15.2.fIndex)])])) :: (.v (.agg [(eGz v15.1.fRoot)])) :: (.v (.agg [(vI v15.2.fCode), (vI v15.2.fIndex)])) :: (.v (.tuple [(vP e44 v16.1), (.agg [(vI v16.2.fCode), (vI v16.2.fIndex)])])) :: (.v (.agg [(eGz v14.1.fRoot)])) :: (.v (.str a2)) :: (.v (.tuple [(vP e44 v16.1), (.agg [(vI v16.2.fCode), (vI v16.2.fIndex)])])) :: (dP e44 v16.1) :: (.v (.agg [(vI v16.2.fCode), (vI v16.2.fIndex)])) :: (.v (.tuple [(vP e44 v17.1), (.agg [(vI v17.2.fCode), (vI v17.2.fIndex)])])) :: (.v (.agg [(eGz v15.1.fRoot)])) :: (.v (.str a2)) :: (.v (.tuple [(vP e44 v17.1), (.agg [(vI v17.2.fCode), (vI v17.2.fIndex)])])) :: (dP e44 v17.1) :: (.v (.agg [(vI v17.2.fCode), (vI v17.2.fIndex)])) :: (.v (.agg [(vI v14.2.fCode), (vI v14.2.fIndex)])) :: (.v (.agg [(vI 0), (vI 0)])) :: (dB v23) :: (dB v23) :: d20 :: d21 :: d22 :: (dB v24) :: u40 (u10 []))), [.dead, (appO 2 (List.map e39 v3)), (.cells [(.v (eGz v14.1.fRoot))]), (.cells [(dI v14.2.fCode), (dI v14.2.fIndex)]), (.cells [(.v (eGz v15.1.fRoot))]), (.cells [(dI v15.2.fCode), (dI v15.2.fIndex)]), (.cells [(dI v16.2.fCode), (dI v16.2.fIndex)]), (.cells [(dI v17.2.fCode), (dI v17.2.fIndex)])]⟩ ((seqQ (X6 n) (cR (cL (cR (cR (cR (cR (cR (cR (cR (cR C6)))))))))) (seqQ (X6 n) (cR (cR (cR (cR (cR (cR (cR (cR (cR C6))))))))) (fnQ (X6 n).E.T (resOf Proofs.Tryd.prog 6) (eB o)))) .normal) := by
          intro d20 d21 d22 v23 v24 h
          unfold f6_r5 at h
          refine Ops.seg' 1 9 (by kernel_rfl) ?_
          have J6j33 : ∀ (d28 d29 d30 : D) (v31 : Bool) (v32 : Bool), f6_r4 m v16 v17 v32 = some o → Ops (X6 n) (opl (cL (cL (cR (cR (cR (cR (cR (cR (cR (cR C6))))))))))) 13 ⟨(dP e39 a0) :: (dP e39 a1) :: (.v (.str a2)) :: u3 ((dB false) :: (appF .nonfull 1 (List.map e39 v3)) :: (.ptr 2 0) :: (.ptr 3 0) :: (.ptr 4 0) :: (.ptr 5 0) :: (dP e44 v16.1) :: (.ptr 6 0) :: (dP e44 v17.1) :: (.ptr 7 0) :: u5 ((dB v1) :: (dB (!v1)) :: (.v (.sl .nonfull (List.map e39 []))) :: (dP e39 a0) :: (appF .nonfull 0 (List.map e39 v2)) :: (dP e39 a1) :: (appF .nonfull 1 (List.map e39 v3)) :: (dP e39 a0) :: (.v (.agg [(vI v4.fCode), (vI v4.fIndex)])) :: (.v (.agg [(vI 0), (vI 0)])) :: (dB v11) :: (dB v11) :: d7 :: d8 :: d9 :: d10 :: (dB v12) :: (.v (.tuple [(.agg [(eGz v14.1.fRoot)]), (.agg [(vI v14.2.fCode), (vI v14.2.fIndex)])])) :: (dP e39 a0) :: (.v (.tuple [(.agg [(eGz v14.1.fRoot)]), (.agg [(vI v14.2.fCode), (vI v14.2.fIndex)])])) :: (.v (.agg [(eGz v14.1.fRoot)])) :: (.v (.agg [(vI v14.2.fCode), (vI v14.2.fIndex)])) :: (.v (.tuple [(.agg [(eGz v15.1.fRoot)]), (.agg [(vI v15.2.fCode), (vI v15.2.fIndex)])])) :: (appF .nonfull 1 (List.map e39 v3)) :: (.v (.tuple [(.agg [(eGz v15.1.fRoot)]), (.agg [(vI v15.2.fCode), (vI v15.2.fIndex)])])) :: (.v (.agg [(eGz v15.1.fRoot)])) :: (.v (.agg [(vI v15.2.fCode), (vI v15.2.fIndex)])) :: (.v (.tuple [(vP e44 v16.1), (.agg [(vI v16.2.fCode), (vI v16.2.fIndex)])])) :: (.v (.agg [(eGz v14.1.fRoot)])) :: (.v (.str a2)) :: (.v (.tuple [(vP e44 v16.1), (.agg [(vI v16.2.fCode), (vI v16.2.fIndex)])])) :: (dP e44 v16.1) :: (.v (.agg [(vI v16.2.fCode), (vI v16.2.fIndex)])) :: (.v (.tuple [(vP e44 v17.1), (.agg [(vI v17.2.fCode), (vI v17.2.fIndex)])])) :: (.v (.agg [(eGz v15.1.fRoot)])) :: (.v (.str a2)) :: (.v (.tuple [(vP e44 v17.1), (.agg [(vI v17.2.fCode), (vI v17.2.fIndex)])])) :: (dP e44 v17.1) :: (.v (.agg [(vI v17.2.fCode), (vI v17.2.fIndex)])) :: (.v (.agg [(vI v14.2.fCode), (vI v14.2.fIndex)])) :: (.v (.agg [(vI 0), (vI 0)])) :: (dB v23) :: (dB v23) :: d20 :: d21 :: d22 :: (dB v31) :: (dB v31) :: d28 :: d29 :: d30 :: (dB v32) :: u40 (u5 []))), [.dead, (appO 2 (List.map e39 v3)), (.cells [(.v (eGz v14.1.fRoot))]), (.cells [(dI v14.2.fCode), (dI v14.2.fIndex)]), (.cells [(.v (eGz v15.1.fRoot))]), (.cells [(dI v15.2.fCode), (dI v15.2.fIndex)]), (.cells [(dI v16.2.fCode), (dI v16.2.fIndex)]), (.cells [(dI v17.2.fCode), (dI v17.2.fIndex)])]⟩ ((seqQ (X6 n) (cR (cL (cR (cR (cR (cR (cR (cR (cR (cR C6)))))))))) (seqQ (X6 n) (cR (cR (cR (cR (cR (cR (cR (cR (cR C6))))))))) (fnQ (X6 n).E.T (resOf Proofs.Tryd.prog 6) (eB o)))) .normal) := by
            intro d28 d29 d30 v31 v32 h
            unfold f6_r4 at h
            refine Ops.done (by kernel_rfl) ?_
            refine seqQ.n ?_
            refine Wp.cnd h [6, 12, 14] 8 (by kernel_rfl) (fun h => ?_) (fun h => ?_)
            · refine Wp.seq' (by kernel_rfl) ?_
              refine Wp.region (by kernel_rfl) ?_
              refine Ops.seg' 1 1 (by kernel_rfl) ?_
              refine Ops.done (by kernel_rfl) ?_
              refine seqQ.n ?_
              refine Wp.ret (by kernel_rfl) ?_
              refine sqQ.r ?_
              refine seqQ.r ?_
              exact fnQ.r' (X6 n) (fun z => (eB z)) h (RetOk.mk' (dB false) (by kernel_rfl) (by kernel_rfl))
            · refine Wp.skip (by kernel_rfl) ?_
              refine sqQ.n ⟨(dP e39 a0) :: (dP e39 a1) :: (.v (.str a2)) :: u3 ((dB false) :: (appF .nonfull 1 (List.map e39 v3)) :: (.ptr 2 0) :: (.ptr 3 0) :: (.ptr 4 0) :: (.ptr 5 0) :: (dP e44 v16.1) :: (.ptr 6 0) :: (dP e44 v17.1) :: (.ptr 7 0) :: u5 ((dB v1) :: (dB (!v1)) :: (.v (.sl .nonfull (List.map e39 []))) :: (dP e39 a0) :: (appF .nonfull 0 (List.map e39 v2)) :: (dP e39 a1) :: (appF .nonfull 1 (List.map e39 v3)) :: (dP e39 a0) :: (.v (.agg [(vI v4.fCode), (vI v4.fIndex)])) :: (.v (.agg [(vI 0), (vI 0)])) :: (dB v11) :: (dB v11) :: d7 :: d8 :: d9 :: d10 :: (dB v12) :: (.v (.tuple [(.agg [(eGz v14.1.fRoot)]), (.agg [(vI v14.2.fCode), (vI v14.2.fIndex)])])) :: (dP e39 a0) :: (.v (.tuple [(.agg [(eGz v14.1.fRoot)]), (.agg [(vI v14.2.fCode), (vI v14.2.fIndex)])])) :: (.v (.agg [(eGz v14.1.fRoot)])) :: (.v (.agg [(vI v14.2.fCode), (vI v14.2.fIndex)])) :: (.v (.tuple [(.agg [(eGz v15.1.fRoot)]), (.agg [(vI v15.2.fCode), (vI v15.2.fIndex)])])) :: (appF .nonfull 1 (List.map e39 v3)) :: (.v (.tuple [(.agg [(eGz v15.1.fRoot)]), (.agg [(vI v15.2.fCode), (vI v15.2.fIndex)])])) :: (.v (.agg [(eGz v15.1.fRoot)])) :: (.v (.agg [(vI v15.2.fCode), (vI v15.2.fIndex)])) :: (.v (.tuple [(vP e44 v16.1), (.agg [(vI v16.2.fCode), (vI v16.2.fIndex)])])) :: (.v (.agg [(eGz v14.1.fRoot)])) :: (.v (.str a2)) :: (.v (.tuple [(vP e44 v16.1), (.agg [(vI v16.2.fCode), (vI v16.2.fIndex)])])) :: (dP e44 v16.1) :: (.v (.agg [(vI v16.2.fCode), (vI v16.2.fIndex)])) :: (.v (.tuple [(vP e44 v17.1), (.agg [(vI v17.2.fCode), (vI v17.2.fIndex)])])) :: (.v (.agg [(eGz v15.1.fRoot)])) :: (.v (.str a2)) :: (.v (.tuple [(vP e44 v17.1), (.agg [(vI v17.2.fCode), (vI v17.2.fIndex)])])) :: (dP e44 v17.1) :: (.v (.agg [(vI v17.2.fCode), (vI v17.2.fIndex)])) :: (.v (.agg [(vI v14.2.fCode), (vI v14.2.fIndex)])) :: (.v (.agg [(vI 0), (vI 0)])) :: (dB v23) :: (dB v23) :: d20 :: d21 :: d22 :: (dB v31) :: (dB v31) :: d28 :: d29 :: d30 :: (dB v32) :: u40 (u5 []))), [.dead, (appO 2 (List.map e39 v3)), (.cells [(.v (eGz v14.1.fRoot))]), (.cells [(dI v14.2.fCode), (dI v14.2.fIndex)]), (.cells [(.v (eGz v15.1.fRoot))]), (.cells [(dI v15.2.fCode), (dI v15.2.fIndex)]), (.cells [(dI v16.2.fCode), (dI v16.2.fIndex)]), (.cells [(dI v17.2.fCode), (dI v17.2.fIndex)])]⟩ (by generalize v3 = z0; cases z0 <;> kernel_rfl) ?_
              refine seqQ.n ?_
              refine Wp.seq' (by kernel_rfl) ?_
              refine Wp.seq' (by kernel_rfl) ?_
              refine Wp.region (by kernel_rfl) ?_
              refine Ops.seg' 1 1 (by kernel_rfl) ?_
              refine Ops.one' 2 (fun h0 e0 => (len_r (T := T) h0 32 45 .plain e44 v16.1 (by kernel_rfl))) (by kernel_rfl) (by kernel_rfl) ?_
              refine Ops.seg' 1 3 (by kernel_rfl) ?_
              refine Ops.done (by kernel_rfl) ?_
              refine seqQ.n ?_
              refine Wp.block' 0 [6] 8 (by kernel_rfl) ?_
              have hLx411 : ∀ (kx281 : Nat) (v279 : Int)  (ox280 : Bool ⊕ (Int)), iter (fun (y : Int) => f6_B3 m v16 v17 y) kx281 v279 = some ox280 → ∀ nx282, kx281 ≤ nx282 → (∀ r, ox280 = .inl r → ∀ σ, RetOk (X6 n) (resOf Proofs.Tryd.prog 6) (eB r) σ → (seqQ (X6 n) (cR (cR (cR (cR (cR (cR (cR (cR (cR (cR C6)))))))))) (fnQ (X6 n).E.T (resOf Proofs.Tryd.prog 6) (eB o))) .ret σ) → (∀ (y : Int) , ox280 = .inr y → (seqQ (X6 n) (cR (cR (cR (cR (cR (cR (cR (cR (cR (cR C6)))))))))) (fnQ (X6 n).E.T (resOf Proofs.Tryd.prog 6) (eB o))) .normal ⟨q6 ((dB false) :: q7 ((dP e44 v17.1) :: q40 (q18 ((dP e44 v16.1) :: (dI ((v16.1.length : Int))) :: (dI y) :: q40 (q2 []))))), [.dead, (appO 2 (List.map e39 v3)), (.cells [(.v (eGz v14.1.fRoot))]), (.cells [(dI v14.2.fCode), (dI v14.2.fIndex)]), (.cells [(.v (eGz v15.1.fRoot))]), (.cells [(dI v15.2.fCode), (dI v15.2.fIndex)]), (.cells [(dI v16.2.fCode), (dI v16.2.fIndex)]), (.cells [(dI v17.2.fCode), (dI v17.2.fIndex)])]⟩) → Lp (X6 n) [6, 14, 73, 74, 75] 8 (cL (cL (cR (cL (cR (cR (cR (cR (cR (cR (cR (cR (cR C6))))))))))))) nx282 ⟨q6 ((dB false) :: q7 ((dP e44 v17.1) :: q40 (q18 ((dP e44 v16.1) :: (dI ((v16.1.length : Int))) :: (dI v279) :: q40 (q2 []))))), [.dead, (appO 2 (List.map e39 v3)), (.cells [(.v (eGz v14.1.fRoot))]), (.cells [(dI v14.2.fCode), (dI v14.2.fIndex)]), (.cells [(.v (eGz v15.1.fRoot))]), (.cells [(dI v15.2.fCode), (dI v15.2.fIndex)]), (.cells [(dI v16.2.fCode), (dI v16.2.fIndex)]), (.cells [(dI v17.2.fCode), (dI v17.2.fIndex)])]⟩ (blkQ (X6 n) 0 [6] 8 (seqQ (X6 n) (cR (cR (cR (cR (cR (cR (cR (cR (cR (cR C6)))))))))) (fnQ (X6 n).E.T (resOf Proofs.Tryd.prog 6) (eB o)))) := by
                intro kx281
                induction kx281 with
                | zero => intro v279  ox280 h; exact (iter_zero h).elim
                | succ kx281 ihx283 =>
                  intro v279  ox280 h nx282 hnx286 hrx284 hxx285
                  obtain ⟨nx282, rfl⟩ : ∃ q, nx282 = q + 1 := ⟨nx282 - 1, by omega⟩
                  obtain ⟨sx287, h, hsx288⟩ := iter_some h
                  have h : f6_B3 m v16 v17 v279 = some sx287 := h
                  unfold f6_B3 at h
                  refine Lp.succ ?_
                  refine Wp.seq' (by kernel_rfl) ?_
                  refine Wp.region (by kernel_rfl) ?_
                  refine Ops.seg' 1 1 (by kernel_rfl) ?_
                  refine Ops.done (by kernel_rfl) ?_
                  refine seqQ.n ?_
                  refine Wp.seq' (by kernel_rfl) ?_
                  refine Wp.cnd h [6, 14, 73, 74, 75] 8 (by kernel_rfl) (fun h => ?_) (fun h => ?_)
                  · refine Wp.skip (by kernel_rfl) ?_
                    refine sqQ.n ⟨q6 ((dB false) :: q7 ((dP e44 v17.1) :: q40 (q18 ((dP e44 v16.1) :: (dI ((v16.1.length : Int))) :: (dI v279) :: (dB (decide (v279 < (v16.1.length : Int)))) :: q40 (q1 []))))), [.dead, (appO 2 (List.map e39 v3)), (.cells [(.v (eGz v14.1.fRoot))]), (.cells [(dI v14.2.fCode), (dI v14.2.fIndex)]), (.cells [(.v (eGz v15.1.fRoot))]), (.cells [(dI v15.2.fCode), (dI v15.2.fIndex)]), (.cells [(dI v16.2.fCode), (dI v16.2.fIndex)]), (.cells [(dI v17.2.fCode), (dI v17.2.fIndex)])]⟩ (by generalize v3 = z0; cases z0 <;> kernel_rfl) ?_
                    refine seqQ.n ?_
                    refine Wp.seq' (by kernel_rfl) ?_
                    refine Wp.block' 1 [6, 14, 73, 74, 75] 8 (by kernel_rfl) ?_
                    refine Wp.seq' (by kernel_rfl) ?_
                    refine Wp.region (by kernel_rfl) ?_
                    obtain ⟨v289, ev289, h⟩ := bnd_some h
                    refine Ops.one' 1 (fun h0 e0 => (ix_r (T := T) h0 32 45 3 .plain e44 v16.1 v279 v289 ev289 (by kernel_rfl) (by kernel_rfl) (fun _ => rfl))) (by kernel_rfl) (by kernel_rfl) ?_
                    refine Ops.seg' 3 4 (by kernel_rfl) ?_
                    refine Ops.done (by kernel_rfl) ?_
                    refine seqQ.n ?_
                    refine Wp.seq' (by kernel_rfl) ?_
                    refine Wp.region (by kernel_rfl) ?_
                    refine Ops.seg' 1 1 (by kernel_rfl) ?_
                    refine Ops.done (by kernel_rfl) ?_
                    refine seqQ.n ?_
                    refine Wp.seq' (by kernel_rfl) ?_
                    refine Wp.seq' (by kernel_rfl) ?_
                    refine Wp.region (by kernel_rfl) ?_
                    refine Ops.seg' 1 1 (by kernel_rfl) ?_
                    refine Ops.one' 2 (fun h0 e0 => (len_r (T := T) h0 32 45 .plain e44 v17.1 (by kernel_rfl))) (by kernel_rfl) (by kernel_rfl) ?_
                    refine Ops.seg' 1 3 (by kernel_rfl) ?_
                    refine Ops.done (by kernel_rfl) ?_
                    refine seqQ.n ?_
                    refine Wp.block' 2 [6, 14, 18, 73, 74, 75] 9 (by kernel_rfl) ?_
                    have hLx408 := f6_hLx408 m a0 a1 a2 o n hn v17 v289 nx282 v16 v279 v3 v14 v15
                    refine Wp.loop' [6, 14, 17, 18, 73, 74, 75, 79, 80, 81] 9 (by kernel_rfl) ⟨q6 ((dB false) :: q7 ((dP e44 v17.1) :: q2 ((.ptr 8 0) :: (dB false) :: q40 (q14 ((dP e44 v16.1) :: (dI ((v16.1.length : Int))) :: (dI v279) :: q3 ((dP e44 v17.1) :: (dI ((v17.1.length : Int))) :: (dI 0) :: q36 [])))))), [.dead, (appO 2 (List.map e39 v3)), (.cells [(.v (eGz v14.1.fRoot))]), (.cells [(dI v14.2.fCode), (dI v14.2.fIndex)]), (.cells [(.v (eGz v15.1.fRoot))]), (.cells [(dI v15.2.fCode), (dI v15.2.fIndex)]), (.cells [(dI v16.2.fCode), (dI v16.2.fIndex)]), (.cells [(dI v17.2.fCode), (dI v17.2.fIndex)]), (.cells [(.v (.str v289.fTag)), (dI v289.fLength), (dI v289.fCount)])]⟩ (by generalize v3 = z0; cases z0 <;> kernel_rfl) ?_
                    rcases brk_some h with ⟨r410, er410, h⟩ | ⟨y409, ey409, h⟩
                    · refine hLx408 _ false 0  _ er410 n (by omega) (fun r er σ hσ => ?_) (fun y  ey => by cases ey)
                      cases er
                      refine seqQ.r ?_
                      refine blkQ.r ?_
                      refine seqQ.r ?_
                      refine lpQ.r ?_
                      cases h
                      refine blkQ.r ?_
                      exact hrx284 _ hsx288 _ (RetOk.forget [6, 14, 73, 74, 75] (by kernel_rfl) hσ)
                    · refine hLx408 _ false 0  _ ey409 n (by omega) (fun r er => by cases er) (fun y  ey => ?_)
                      cases ey
                      refine seqQ.n ?_
                      refine Wp.seq' (by kernel_rfl) ?_
                      refine Wp.region (by kernel_rfl) ?_
                      refine Ops.seg' 2 2 (by kernel_rfl) ?_
                      refine Ops.done (by kernel_rfl) ?_
                      refine seqQ.n ?_
                      refine Wp.cnd h [6, 14, 73, 74, 75] 9 (by kernel_rfl) (fun h => ?_) (fun h => ?_)
                      · refine Wp.seq' (by kernel_rfl) ?_
                        refine Wp.region (by kernel_rfl) ?_
                        refine Ops.seg' 1 1 (by kernel_rfl) ?_
                        refine Ops.done (by kernel_rfl) ?_
                        refine seqQ.n ?_
                        refine Wp.ret (by kernel_rfl) ?_
                        refine sqQ.r ?_
                        refine blkQ.r ?_
                        refine seqQ.r ?_
                        cases h
                        refine lpQ.r ?_
                        refine blkQ.r ?_
                        exact hrx284 _ hsx288 _ (RetOk.forget [6, 14, 73, 74, 75] (by kernel_rfl) (RetOk.mk' (dB false) (by kernel_rfl) (by kernel_rfl)))
                      · refine Wp.skip (by kernel_rfl) ?_
                        refine sqQ.n ⟨q6 ((dB false) :: q7 ((dP e44 v17.1) :: q2 ((.ptr 8 0) :: (dB y409.1) :: q40 (q14 ((dP e44 v16.1) :: (dI ((v16.1.length : Int))) :: (dI v279) :: q3 ((dP e44 v17.1) :: (dI ((v17.1.length : Int))) :: (dI y409.2) :: q33 ((dB y409.1) :: (dB (!y409.1)) :: q1 []))))))), [.dead, (appO 2 (List.map e39 v3)), (.cells [(.v (eGz v14.1.fRoot))]), (.cells [(dI v14.2.fCode), (dI v14.2.fIndex)]), (.cells [(.v (eGz v15.1.fRoot))]), (.cells [(dI v15.2.fCode), (dI v15.2.fIndex)]), (.cells [(dI v16.2.fCode), (dI v16.2.fIndex)]), (.cells [(dI v17.2.fCode), (dI v17.2.fIndex)]), (.cells [(.v (.str v289.fTag)), (dI v289.fLength), (dI v289.fCount)])]⟩ (by generalize v3 = z0; cases z0 <;> kernel_rfl) ?_
                        refine blkQ.n ⟨q6 ((dB false) :: q7 ((dP e44 v17.1) :: q40 (q18 ((dP e44 v16.1) :: (dI ((v16.1.length : Int))) :: (dI v279) :: q40 (q2 []))))), [.dead, (appO 2 (List.map e39 v3)), (.cells [(.v (eGz v14.1.fRoot))]), (.cells [(dI v14.2.fCode), (dI v14.2.fIndex)]), (.cells [(.v (eGz v15.1.fRoot))]), (.cells [(dI v15.2.fCode), (dI v15.2.fIndex)]), (.cells [(dI v16.2.fCode), (dI v16.2.fIndex)]), (.cells [(dI v17.2.fCode), (dI v17.2.fIndex)])]⟩ (by generalize v3 = z0; cases z0 <;> kernel_rfl) ?_
                        refine seqQ.n ?_
                        refine Wp.region (by kernel_rfl) ?_
                        refine Ops.seg' 2 2 (by kernel_rfl) ?_
                        refine Ops.done (by kernel_rfl) ?_
                        refine lpQ.n ⟨q6 ((dB false) :: q7 ((dP e44 v17.1) :: q40 (q18 ((dP e44 v16.1) :: (dI ((v16.1.length : Int))) :: (dI (w64 (v279 + 1))) :: q40 (q2 []))))), [.dead, (appO 2 (List.map e39 v3)), (.cells [(.v (eGz v14.1.fRoot))]), (.cells [(dI v14.2.fCode), (dI v14.2.fIndex)]), (.cells [(.v (eGz v15.1.fRoot))]), (.cells [(dI v15.2.fCode), (dI v15.2.fIndex)]), (.cells [(dI v16.2.fCode), (dI v16.2.fIndex)]), (.cells [(dI v17.2.fCode), (dI v17.2.fIndex)])]⟩ (by generalize v3 = z0; cases z0 <;> kernel_rfl) ?_
                        cases h
                        exact ihx283 (w64 (v279 + 1))  _ hsx288 _ (by omega) hrx284 hxx285
                  · refine Wp.exit (id := 0) (by kernel_rfl) ?_
                    refine sqQ.x ?_
                    refine seqQ.x ?_
                    cases h
                    refine lpQ.x ?_
                    refine blkQ.x ⟨q6 ((dB false) :: q7 ((dP e44 v17.1) :: q40 (q18 ((dP e44 v16.1) :: (dI ((v16.1.length : Int))) :: (dI v279) :: q40 (q2 []))))), [.dead, (appO 2 (List.map e39 v3)), (.cells [(.v (eGz v14.1.fRoot))]), (.cells [(dI v14.2.fCode), (dI v14.2.fIndex)]), (.cells [(.v (eGz v15.1.fRoot))]), (.cells [(dI v15.2.fCode), (dI v15.2.fIndex)]), (.cells [(dI v16.2.fCode), (dI v16.2.fIndex)]), (.cells [(dI v17.2.fCode), (dI v17.2.fIndex)])]⟩ (by generalize v3 = z0; cases z0 <;> kernel_rfl) ?_
                    exact hxx285 v279  hsx288
              refine Wp.loop' [6, 14, 73, 74, 75] 8 (by kernel_rfl) ⟨q6 ((dB false) :: q7 ((dP e44 v17.1) :: q40 (q18 ((dP e44 v16.1) :: (dI ((v16.1.length : Int))) :: (dI 0) :: q40 (q2 []))))), [.dead, (appO 2 (List.map e39 v3)), (.cells [(.v (eGz v14.1.fRoot))]), (.cells [(dI v14.2.fCode), (dI v14.2.fIndex)]), (.cells [(.v (eGz v15.1.fRoot))]), (.cells [(dI v15.2.fCode), (dI v15.2.fIndex)]), (.cells [(dI v16.2.fCode), (dI v16.2.fIndex)]), (.cells [(dI v17.2.fCode), (dI v17.2.fIndex)])]⟩ (by generalize v3 = z0; cases z0 <;> kernel_rfl) ?_
              rcases brk_some h with ⟨r413, er413, h⟩ | ⟨y412, ey412, h⟩
              · refine hLx411 _ 0  _ er413 n (by omega) (fun r er σ hσ => ?_) (fun y  ey => by cases ey)
                cases er
                refine seqQ.r ?_
                exact fnQ.r' (X6 n) (fun z => (eB z)) h hσ
              · refine hLx411 _ 0  _ ey412 n (by omega) (fun r er => by cases er) (fun y  ey => ?_)
                cases ey
                refine seqQ.n ?_
                refine Wp.seq' (by kernel_rfl) ?_
                refine Wp.region (by kernel_rfl) ?_
                refine Ops.seg' 1 1 (by kernel_rfl) ?_
                refine Ops.done (by kernel_rfl) ?_
                refine seqQ.n ?_
                refine Wp.ret (by kernel_rfl) ?_
                exact fnQ.r' (X6 n) (fun z => (eB z)) h (RetOk.mk' (dB true) (by kernel_rfl) (by kernel_rfl))
          have G6g27 : ∀ v26 : Bool, f6_r4 m v16 v17 ((v26 || (!((v16.2.fCode == v17.2.fCode) && ((v16.2.fIndex == v17.2.fIndex) && true))))) = some o → Ops (X6 n) (opl (cL (cL (cR (cR (cR (cR (cR (cR (cR (cR C6))))))))))) 9 ⟨(dP e39 a0) :: (dP e39 a1) :: (.v (.str a2)) :: u3 ((dB false) :: (appF .nonfull 1 (List.map e39 v3)) :: (.ptr 2 0) :: (.ptr 3 0) :: (.ptr 4 0) :: (.ptr 5 0) :: (dP e44 v16.1) :: (.ptr 6 0) :: (dP e44 v17.1) :: (.ptr 7 0) :: u5 ((dB v1) :: (dB (!v1)) :: (.v (.sl .nonfull (List.map e39 []))) :: (dP e39 a0) :: (appF .nonfull 0 (List.map e39 v2)) :: (dP e39 a1) :: (appF .nonfull 1 (List.map e39 v3)) :: (dP e39 a0) :: (.v (.agg [(vI v4.fCode), (vI v4.fIndex)])) :: (.v (.agg [(vI 0), (vI 0)])) :: (dB v11) :: (dB v11) :: d7 :: d8 :: d9 :: d10 :: (dB v12) :: (.v (.tuple [(.agg [(eGz v14.1.fRoot)]), (.agg [(vI v14.2.fCode), (vI v14.2.fIndex)])])) :: (dP e39 a0) :: (.v (.tuple [(.agg [(eGz v14.1.fRoot)]), (.agg [(vI v14.2.fCode), (vI v14.2.fIndex)])])) :: (.v (.agg [(eGz v14.1.fRoot)])) :: (.v (.agg [(vI v14.2.fCode), (vI v14.2.fIndex)])) :: (.v (.tuple [(.agg [(eGz v15.1.fRoot)]), (.agg [(vI v15.2.fCode), (vI v15.2.fIndex)])])) :: (appF .nonfull 1 (List.map e39 v3)) :: (.v (.tuple [(.agg [(eGz v15.1.fRoot)]), (.agg [(vI v15.2.fCode), (vI v15.2.fIndex)])])) :: (.v (.agg [(eGz v15.1.fRoot)])) :: (.v (.agg [(vI v15.2.fCode), (vI v15.2.fIndex)])) :: (.v (.tuple [(vP e44 v16.1), (.agg [(vI v16.2.fCode), (vI v16.2.fIndex)])])) :: (.v (.agg [(eGz v14.1.fRoot)])) :: (.v (.str a2)) :: (.v (.tuple [(vP e44 v16.1), (.agg [(vI v16.2.fCode), (vI v16.2.fIndex)])])) :: (dP e44 v16.1) :: (.v (.agg [(vI v16.2.fCode), (vI v16.2.fIndex)])) :: (.v (.tuple [(vP e44 v17.1), (.agg [(vI v17.2.fCode), (vI v17.2.fIndex)])])) :: (.v (.agg [(eGz v15.1.fRoot)])) :: (.v (.str a2)) :: (.v (.tuple [(vP e44 v17.1), (.agg [(vI v17.2.fCode), (vI v17.2.fIndex)])])) :: (dP e44 v17.1) :: (.v (.agg [(vI v17.2.fCode), (vI v17.2.fIndex)])) :: (.v (.agg [(vI v14.2.fCode), (vI v14.2.fIndex)])) :: (.v (.agg [(vI 0), (vI 0)])) :: (dB v23) :: (dB v23) :: d20 :: d21 :: d22 :: (dB v26) :: (dB v26) :: u40 (u9 []))), [.dead, (appO 2 (List.map e39 v3)), (.cells [(.v (eGz v14.1.fRoot))]), (.cells [(dI v14.2.fCode), (dI v14.2.fIndex)]), (.cells [(.v (eGz v15.1.fRoot))]), (.cells [(dI v15.2.fCode), (dI v15.2.fIndex)]), (.cells [(dI v16.2.fCode), (dI v16.2.fIndex)]), (.cells [(dI v17.2.fCode), (dI v17.2.fIndex)])]⟩ ((seqQ (X6 n) (cR (cL (cR (cR (cR (cR (cR (cR (cR (cR C6)))))))))) (seqQ (X6 n) (cR (cR (cR (cR (cR (cR (cR (cR (cR C6))))))))) (fnQ (X6 n).E.T (resOf Proofs.Tryd.prog 6) (eB o)))) .normal) := by
            intro v26 h
            cases v26
            · refine Ops.seg' 4 13 (by kernel_rfl) ?_
              refine Ops.st ⟨(dP e39 a0) :: (dP e39 a1) :: (.v (.str a2)) :: u3 ((dB false) :: (appF .nonfull 1 (List.map e39 v3)) :: (.ptr 2 0) :: (.ptr 3 0) :: (.ptr 4 0) :: (.ptr 5 0) :: (dP e44 v16.1) :: (.ptr 6 0) :: (dP e44 v17.1) :: (.ptr 7 0) :: u5 ((dB v1) :: (dB (!v1)) :: (.v (.sl .nonfull (List.map e39 []))) :: (dP e39 a0) :: (appF .nonfull 0 (List.map e39 v2)) :: (dP e39 a1) :: (appF .nonfull 1 (List.map e39 v3)) :: (dP e39 a0) :: (.v (.agg [(vI v4.fCode), (vI v4.fIndex)])) :: (.v (.agg [(vI 0), (vI 0)])) :: (dB v11) :: (dB v11) :: d7 :: d8 :: d9 :: d10 :: (dB v12) :: (.v (.tuple [(.agg [(eGz v14.1.fRoot)]), (.agg [(vI v14.2.fCode), (vI v14.2.fIndex)])])) :: (dP e39 a0) :: (.v (.tuple [(.agg [(eGz v14.1.fRoot)]), (.agg [(vI v14.2.fCode), (vI v14.2.fIndex)])])) :: (.v (.agg [(eGz v14.1.fRoot)])) :: (.v (.agg [(vI v14.2.fCode), (vI v14.2.fIndex)])) :: (.v (.tuple [(.agg [(eGz v15.1.fRoot)]), (.agg [(vI v15.2.fCode), (vI v15.2.fIndex)])])) :: (appF .nonfull 1 (List.map e39 v3)) :: (.v (.tuple [(.agg [(eGz v15.1.fRoot)]), (.agg [(vI v15.2.fCode), (vI v15.2.fIndex)])])) :: (.v (.agg [(eGz v15.1.fRoot)])) :: (.v (.agg [(vI v15.2.fCode), (vI v15.2.fIndex)])) :: (.v (.tuple [(vP e44 v16.1), (.agg [(vI v16.2.fCode), (vI v16.2.fIndex)])])) :: (.v (.agg [(eGz v14.1.fRoot)])) :: (.v (.str a2)) :: (.v (.tuple [(vP e44 v16.1), (.agg [(vI v16.2.fCode), (vI v16.2.fIndex)])])) :: (dP e44 v16.1) :: (.v (.agg [(vI v16.2.fCode), (vI v16.2.fIndex)])) :: (.v (.tuple [(vP e44 v17.1), (.agg [(vI v17.2.fCode), (vI v17.2.fIndex)])])) :: (.v (.agg [(eGz v15.1.fRoot)])) :: (.v (.str a2)) :: (.v (.tuple [(vP e44 v17.1), (.agg [(vI v17.2.fCode), (vI v17.2.fIndex)])])) :: (dP e44 v17.1) :: (.v (.agg [(vI v17.2.fCode), (vI v17.2.fIndex)])) :: (.v (.agg [(vI v14.2.fCode), (vI v14.2.fIndex)])) :: (.v (.agg [(vI 0), (vI 0)])) :: (dB v23) :: (dB v23) :: d20 :: d21 :: d22 :: (dB false) :: (dB false) :: (.v (.agg [(vI v16.2.fCode), (vI v16.2.fIndex)])) :: (.v (.agg [(vI v17.2.fCode), (vI v17.2.fIndex)])) :: (dB (!((v16.2.fCode == v17.2.fCode) && ((v16.2.fIndex == v17.2.fIndex) && true)))) :: (dB (!((v16.2.fCode == v17.2.fCode) && ((v16.2.fIndex == v17.2.fIndex) && true)))) :: u40 (u5 []))), [.dead, (appO 2 (List.map e39 v3)), (.cells [(.v (eGz v14.1.fRoot))]), (.cells [(dI v14.2.fCode), (dI v14.2.fIndex)]), (.cells [(.v (eGz v15.1.fRoot))]), (.cells [(dI v15.2.fCode), (dI v15.2.fIndex)]), (.cells [(dI v16.2.fCode), (dI v16.2.fIndex)]), (.cells [(dI v17.2.fCode), (dI v17.2.fIndex)])]⟩ (by kernel_rfl) ?_
              exact J6j33 _ _ _ _ _ h
            · refine Ops.seg' 4 13 (by kernel_rfl) ?_
              refine Ops.st ⟨(dP e39 a0) :: (dP e39 a1) :: (.v (.str a2)) :: u3 ((dB false) :: (appF .nonfull 1 (List.map e39 v3)) :: (.ptr 2 0) :: (.ptr 3 0) :: (.ptr 4 0) :: (.ptr 5 0) :: (dP e44 v16.1) :: (.ptr 6 0) :: (dP e44 v17.1) :: (.ptr 7 0) :: u5 ((dB v1) :: (dB (!v1)) :: (.v (.sl .nonfull (List.map e39 []))) :: (dP e39 a0) :: (appF .nonfull 0 (List.map e39 v2)) :: (dP e39 a1) :: (appF .nonfull 1 (List.map e39 v3)) :: (dP e39 a0) :: (.v (.agg [(vI v4.fCode), (vI v4.fIndex)])) :: (.v (.agg [(vI 0), (vI 0)])) :: (dB v11) :: (dB v11) :: d7 :: d8 :: d9 :: d10 :: (dB v12) :: (.v (.tuple [(.agg [(eGz v14.1.fRoot)]), (.agg [(vI v14.2.fCode), (vI v14.2.fIndex)])])) :: (dP e39 a0) :: (.v (.tuple [(.agg [(eGz v14.1.fRoot)]), (.agg [(vI v14.2.fCode), (vI v14.2.fIndex)])])) :: (.v (.agg [(eGz v14.1.fRoot)])) :: (.v (.agg [(vI v14.2.fCode), (vI v14.2.fIndex)])) :: (.v (.tuple [(.agg [(eGz v15.1.fRoot)]), (.agg [(vI v15.2.fCode), (vI v15.2.fIndex)])])) :: (appF .nonfull 1 (List.map e39 v3)) :: (.v (.tuple [(.agg [(eGz v15.1.fRoot)]), (.agg [(vI v15.2.fCode), (vI v15.2.fIndex)])])) :: (.v (.agg [(eGz v15.1.fRoot)])) :: (.v (.agg [(vI v15.2.fCode), (vI v15.2.fIndex)])) :: (.v (.tuple [(vP e44 v16.1), (.agg [(vI v16.2.fCode), (vI v16.2.fIndex)])])) :: (.v (.agg [(eGz v14.1.fRoot)])) :: (.v (.str a2)) :: (.v (.tuple [(vP e44 v16.1), (.agg [(vI v16.2.fCode), (vI v16.2.fIndex)])])) :: (dP e44 v16.1) :: (.v (.agg [(vI v16.2.fCode), (vI v16.2.fIndex)])) :: (.v (.tuple [(vP e44 v17.1), (.agg [(vI v17.2.fCode), (vI v17.2.fIndex)])])) :: (.v (.agg [(eGz v15.1.fRoot)])) :: (.v (.str a2)) :: (.v (.tuple [(vP e44 v17.1), (.agg [(vI v17.2.fCode), (vI v17.2.fIndex)])])) :: (dP e44 v17.1) :: (.v (.agg [(vI v17.2.fCode), (vI v17.2.fIndex)])) :: (.v (.agg [(vI v14.2.fCode), (vI v14.2.fIndex)])) :: (.v (.agg [(vI 0), (vI 0)])) :: (dB v23) :: (dB v23) :: d20 :: d21 :: d22 :: (dB true) :: (dB true) :: u3 ((dB true) :: u40 (u5 [])))), [.dead, (appO 2 (List.map e39 v3)), (.cells [(.v (eGz v14.1.fRoot))]), (.cells [(dI v14.2.fCode), (dI v14.2.fIndex)]), (.cells [(.v (eGz v15.1.fRoot))]), (.cells [(dI v15.2.fCode), (dI v15.2.fIndex)]), (.cells [(dI v16.2.fCode), (dI v16.2.fIndex)]), (.cells [(dI v17.2.fCode), (dI v17.2.fIndex)])]⟩ (by kernel_rfl) ?_
              exact J6j33 _ _ _ _ _ h
          exact Ops.st ⟨(dP e39 a0) :: (dP e39 a1) :: (.v (.str a2)) :: u3 ((dB false) :: (appF .nonfull 1 (List.map e39 v3)) :: (.ptr 2 0) :: (.ptr 3 0) :: (.ptr 4 0) :: (.ptr 5 0) :: (dP e44 v16.1) :: (.ptr 6 0) :: (dP e44 v17.1) :: (.ptr 7 0) :: u5 ((dB v1) :: (dB (!v1)) :: (.v (.sl .nonfull (List.map e39 []))) :: (dP e39 a0) :: (appF .nonfull 0 (List.map e39 v2)) :: (dP e39 a1) :: (appF .nonfull 1 (List.map e39 v3)) :: (dP e39 a0) :: (.v (.agg [(vI v4.fCode), (vI v4.fIndex)])) :: (.v (.agg [(vI 0), (vI 0)])) :: (dB v11) :: (dB v11) :: d7 :: d8 :: d9 :: d10 :: (dB v12) :: (.v (.tuple [(.agg [(eGz v14.1.fRoot)]), (.agg [(vI v14.2.fCode), (vI v14.2.fIndex)])])) :: (dP e39 a0) :: (.v (.tuple [(.agg [(eGz v14.1.fRoot)]), (.agg [(vI v14.2.fCode), (vI v14.2.fIndex)])])) :: (.v (.agg [(eGz v14.1.fRoot)])) :: (.v (.agg [(vI v14.2.fCode), (vI v14.2.fIndex)])) :: (.v (.tuple [(.agg [(eGz v15.1.fRoot)]), (.agg [(vI v15.2.fCode), (vI v15.2.fIndex)])])) :: (appF .nonfull 1 (List.map e39 v3)) :: (.v (.tuple [(.agg [(eGz v15.1.fRoot)]), (.agg [(vI v15.2.fCode), (vI v15.2.fIndex)])])) :: (.v (.agg [(eGz v15.1.fRoot)])) :: (.v (.agg [(vI v15.2.fCode), (vI v15.2.fIndex)])) :: (.v (.tuple [(vP e44 v16.1), (.agg [(vI v16.2.fCode), (vI v16.2.fIndex)])])) :: (.v (.agg [(eGz v14.1.fRoot)])) :: (.v (.str a2)) :: (.v (.tuple [(vP e44 v16.1), (.agg [(vI v16.2.fCode), (vI v16.2.fIndex)])])) :: (dP e44 v16.1) :: (.v (.agg [(vI v16.2.fCode), (vI v16.2.fIndex)])) :: (.v (.tuple [(vP e44 v17.1), (.agg [(vI v17.2.fCode), (vI v17.2.fIndex)])])) :: (.v (.agg [(eGz v15.1.fRoot)])) :: (.v (.str a2)) :: (.v (.tuple [(vP e44 v17.1), (.agg [(vI v17.2.fCode), (vI v17.2.fIndex)])])) :: (dP e44 v17.1) :: (.v (.agg [(vI v17.2.fCode), (vI v17.2.fIndex)])) :: (.v (.agg [(vI v14.2.fCode), (vI v14.2.fIndex)])) :: (.v (.agg [(vI 0), (vI 0)])) :: (dB v23) :: (dB v23) :: d20 :: d21 :: d22 :: (dB v24) :: (dB v24) :: u40 (u9 []))), [.dead, (appO 2 (List.map e39 v3)), (.cells [(.v (eGz v14.1.fRoot))]), (.cells [(dI v14.2.fCode), (dI v14.2.fIndex)]), (.cells [(.v (eGz v15.1.fRoot))]), (.cells [(dI v15.2.fCode), (dI v15.2.fIndex)]), (.cells [(dI v16.2.fCode), (dI v16.2.fIndex)]), (.cells [(dI v17.2.fCode), (dI v17.2.fIndex)])]⟩ (by kernel_rfl) (G6g27 v24 h)
        have G6g19 : ∀ v18 : Bool, f6_r5 m v16 v17 ((v18 || (!((v15.2.fCode == 0) && ((v15.2.fIndex == 0) && true))))) = some o → Ops (X6 n) (opl (cL (cL (cR (cR (cR (cR (cR (cR (cR (cR C6))))))))))) 4 ⟨(dP e39 a0) :: (dP e39 a1) :: (.v (.str a2)) :: u3 ((dB false) :: (appF .nonfull 1 (List.map e39 v3)) :: (.ptr 2 0) :: (.ptr 3 0) :: (.ptr 4 0) :: (.ptr 5 0) :: (dP e44 v16.1) :: (.ptr 6 0) :: (dP e44 v17.1) :: (.ptr 7 0) :: u5 ((dB v1) :: (dB (!v1)) :: (.v (.sl .nonfull (List.map e39 []))) :: (dP e39 a0) :: (appF .nonfull 0 (List.map e39 v2)) :: (dP e39 a1) :: (appF .nonfull 1 (List.map e39 v3)) :: (dP e39 a0) :: (.v (.agg [(vI v4.fCode), (vI v4.fIndex)])) :: (.v (.agg [(vI 0), (vI 0)])) :: (dB v11) :: (dB v11) :: d7 :: d8 :: d9 :: d10 :: (dB v12) :: (.v (.tuple [(.agg [(eGz v14.1.fRoot)]), (.agg [(vI v14.2.fCode), (vI v14.2.fIndex)])])) :: (dP e39 a0) :: (.v (.tuple [(.agg [(eGz v14.1.fRoot)]), (.agg [(vI v14.2.fCode), (vI v14.2.fIndex)])])) :: (.v (.agg [(eGz v14.1.fRoot)])) :: (.v (.agg [(vI v14.2.fCode), (vI v14.2.fIndex)])) :: (.v (.tuple [(.agg [(eGz v15.1.fRoot)]), (.agg [(vI v15.2.fCode), (vI v15.2.fIndex)])])) :: (appF .nonfull 1 (List.map e39 v3)) :: (.v (.tuple [(.agg [(eGz v15.1.fRoot)]), (.agg [(vI v15.2.fCode), (vI v15.2.fIndex)])])) :: (.v (.agg [(eGz v15.1.fRoot)])) :: (.v (.agg [(vI v15.2.fCode), (vI v15.2.fIndex)])) :: (.v (.tuple [(vP e44 v16.1), (.agg [(vI v16.2.fCode), (vI v16.2.fIndex)])])) :: (.v (.agg [(eGz v14.1.fRoot)])) :: (.v (.str a2)) :: (.v (.tuple [(vP e44 v16.1), (.agg [(vI v16.2.fCode), (vI v16.2.fIndex)])])) :: (dP e44 v16.1) :: (.v (.agg [(vI v16.2.fCode), (vI v16.2.fIndex)])) :: (.v (.tuple [(vP e44 v17.1), (.agg [(vI v17.2.fCode), (vI v17.2.fIndex)])])) :: (.v (.agg [(eGz v15.1.fRoot)])) :: (.v (.str a2)) :: (.v (.tuple [(vP e44 v17.1), (.agg [(vI v17.2.fCode), (vI v17.2.fIndex)])])) :: (dP e44 v17.1) :: (.v (.agg [(vI v17.2.fCode), (vI v17.2.fIndex)])) :: (.v (.agg [(vI v14.2.fCode), (vI v14.2.fIndex)])) :: (.v (.agg [(vI 0), (vI 0)])) :: (dB v18) :: (dB v18) :: u40 (u14 []))), [.dead, (appO 2 (List.map e39 v3)), (.cells [(.v (eGz v14.1.fRoot))]), (.cells [(dI v14.2.fCode), (dI v14.2.fIndex)]), (.cells [(.v (eGz v15.1.fRoot))]), (.cells [(dI v15.2.fCode), (dI v15.2.fIndex)]), (.cells [(dI v16.2.fCode), (dI v16.2.fIndex)]), (.cells [(dI v17.2.fCode), (dI v17.2.fIndex)])]⟩ ((seqQ (X6 n) (cR (cL (cR (cR (cR (cR (cR (cR (cR (cR C6)))))))))) (seqQ (X6 n) (cR (cR (cR (cR (cR (cR (cR (cR (cR C6))))))))) (fnQ (X6 n).E.T (resOf Proofs.Tryd.prog 6) (eB o)))) .normal) := by
          intro v18 h
          cases v18
          · refine Ops.seg' 4 8 (by kernel_rfl) ?_
            refine Ops.st ⟨(dP e39 a0) :: (dP e39 a1) :: (.v (.str a2)) :: u3 ((dB false) :: (appF .nonfull 1 (List.map e39 v3)) :: (.ptr 2 0) :: (.ptr 3 0) :: (.ptr 4 0) :: (.ptr 5 0) :: (dP e44 v16.1) :: (.ptr 6 0) :: (dP e44 v17.1) :: (.ptr 7 0) :: u5 ((dB v1) :: (dB (!v1)) :: (.v (.sl .nonfull (List.map e39 []))) :: (dP e39 a0) :: (appF .nonfull 0 (List.map e39 v2)) :: (dP e39 a1) :: (appF .nonfull 1 (List.map e39 v3)) :: (dP e39 a0) :: (.v (.agg [(vI v4.fCode), (vI v4.fIndex)])) :: (.v (.agg [(vI 0), (vI 0)])) :: (dB v11) :: (dB v11) :: d7 :: d8 :: d9 :: d10 :: (dB v12) :: (.v (.tuple [(.agg [(eGz v14.1.fRoot)]), (.agg [(vI v14.2.fCode), (vI v14.2.fIndex)])])) :: (dP e39 a0) :: (.v (.tuple [(.agg [(eGz v14.1.fRoot)]), (.agg [(vI v14.2.fCode), (vI v14.2.fIndex)])])) :: (.v (.agg [(eGz v14.1.fRoot)])) :: (.v (.agg [(vI v14.2.fCode), (vI v14.2.fIndex)])) :: (.v (.tuple [(.agg [(eGz v15.1.fRoot)]), (.agg [(vI v15.2.fCode), (vI v15.2.fIndex)])])) :: (appF .nonfull 1 (List.map e39 v3)) :: (.v (.tuple [(.agg [(eGz v15.1.fRoot)]), (.agg [(vI v15.2.fCode), (vI v15.2.fIndex)])])) :: (.v (.agg [(eGz v15.1.fRoot)])) :: (.v (.agg [(vI v15.2.fCode), (vI v15.2.fIndex)])) :: (.v (.tuple [(vP e44 v16.1), (.agg [(vI v16.2.fCode), (vI v16.2.fIndex)])])) :: (.v (.agg [(eGz v14.1.fRoot)])) :: (.v (.str a2)) :: (.v (.tuple [(vP e44 v16.1), (.agg [(vI v16.2.fCode), (vI v16.2.fIndex)])])) :: (dP e44 v16.1) :: (.v (.agg [(vI v16.2.fCode), (vI v16.2.fIndex)])) :: (.v (.tuple [(vP e44 v17.1), (.agg [(vI v17.2.fCode), (vI v17.2.fIndex)])])) :: (.v (.agg [(eGz v15.1.fRoot)])) :: (.v (.str a2)) :: (.v (.tuple [(vP e44 v17.1), (.agg [(vI v17.2.fCode), (vI v17.2.fIndex)])])) :: (dP e44 v17.1) :: (.v (.agg [(vI v17.2.fCode), (vI v17.2.fIndex)])) :: (.v (.agg [(vI v14.2.fCode), (vI v14.2.fIndex)])) :: (.v (.agg [(vI 0), (vI 0)])) :: (dB false) :: (dB false) :: (.v (.agg [(vI v15.2.fCode), (vI v15.2.fIndex)])) :: (.v (.agg [(vI 0), (vI 0)])) :: (dB (!((v15.2.fCode == 0) && ((v15.2.fIndex == 0) && true)))) :: (dB (!((v15.2.fCode == 0) && ((v15.2.fIndex == 0) && true)))) :: u40 (u10 []))), [.dead, (appO 2 (List.map e39 v3)), (.cells [(.v (eGz v14.1.fRoot))]), (.cells [(dI v14.2.fCode), (dI v14.2.fIndex)]), (.cells [(.v (eGz v15.1.fRoot))]), (.cells [(dI v15.2.fCode), (dI v15.2.fIndex)]), (.cells [(dI v16.2.fCode), (dI v16.2.fIndex)]), (.cells [(dI v17.2.fCode), (dI v17.2.fIndex)])]⟩ (by kernel_rfl) ?_
            exact J6j25 _ _ _ _ _ h
          · refine Ops.seg' 4 8 (by kernel_rfl) ?_
            refine Ops.st ⟨(dP e39 a0) :: (dP e39 a1) :: (.v (.str a2)) :: u3 ((dB false) :: (appF .nonfull 1 (List.map e39 v3)) :: (.ptr 2 0) :: (.ptr 3 0) :: (.ptr 4 0) :: (.ptr 5 0) :: (dP e44 v16.1) :: (.ptr 6 0) :: (dP e44 v17.1) :: (.ptr 7 0) :: u5 ((dB v1) :: (dB (!v1)) :: (.v (.sl .nonfull (List.map e39 []))) :: (dP e39 a0) :: (appF .nonfull 0 (List.map e39 v2)) :: (dP e39 a1) :: (appF .nonfull 1 (List.map e39 v3)) :: (dP e39 a0) :: (.v (.agg [(vI v4.fCode), (vI v4.fIndex)])) :: (.v (.agg [(vI 0), (vI 0)])) :: (dB v11) :: (dB v11) :: d7 :: d8 :: d9 :: d10 :: (dB v12) :: (.v (.tuple [(.agg [(eGz v14.1.fRoot)]), (.agg [(vI v14.2.fCode), (vI v14.2.fIndex)])])) :: (dP e39 a0) :: (.v (.tuple [(.agg [(eGz v14.1.fRoot)]), (.agg [(vI v14.2.fCode), (vI v14.2.fIndex)])])) :: (.v (.agg [(eGz v14.1.fRoot)])) :: (.v (.agg [(vI v14.2.fCode), (vI v14.2.fIndex)])) :: (.v (.tuple [(.agg [(eGz v15.1.fRoot)]), (.agg [(vI v15.2.fCode), (vI v15.2.fIndex)])])) :: (appF .nonfull 1 (List.map e39 v3)) :: (.v (.tuple [(.agg [(eGz v15.1.fRoot)]), (.agg [(vI v15.2.fCode), (vI v15.2.fIndex)])])) :: (.v (.agg [(eGz v15.1.fRoot)])) :: (.v (.agg [(vI v15.2.fCode), (vI v15.2.fIndex)])) :: (.v (.tuple [(vP e44 v16.1), (.agg [(vI v16.2.fCode), (vI v16.2.fIndex)])])) :: (.v (.agg [(eGz v14.1.fRoot)])) :: (.v (.str a2)) :: (.v (.tuple [(vP e44 v16.1), (.agg [(vI v16.2.fCode), (vI v16.2.fIndex)])])) :: (dP e44 v16.1) :: (.v (.agg [(vI v16.2.fCode), (vI v16.2.fIndex)])) :: (.v (.tuple [(vP e44 v17.1), (.agg [(vI v17.2.fCode), (vI v17.2.fIndex)])])) :: (.v (.agg [(eGz v15.1.fRoot)])) :: (.v (.str a2)) :: (.v (.tuple [(vP e44 v17.1), (.agg [(vI v17.2.fCode), (vI v17.2.fIndex)])])) :: (dP e44 v17.1) :: (.v (.agg [(vI v17.2.fCode), (vI v17.2.fIndex)])) :: (.v (.agg [(vI v14.2.fCode), (vI v14.2.fIndex)])) :: (.v (.agg [(vI 0), (vI 0)])) :: (dB true) :: (dB true) :: u3 ((dB true) :: u40 (u10 [])))), [.dead, (appO 2 (List.map e39 v3)), (.cells [(.v (eGz v14.1.fRoot))]), (.cells [(dI v14.2.fCode), (dI v14.2.fIndex)]), (.cells [(.v (eGz v15.1.fRoot))]), (.cells [(dI v15.2.fCode), (dI v15.2.fIndex)]), (.cells [(dI v16.2.fCode), (dI v16.2.fIndex)]), (.cells [(dI v17.2.fCode), (dI v17.2.fIndex)])]⟩ (by kernel_rfl) ?_
            exact J6j25 _ _ _ _ _ h
        exact Ops.st ⟨(dP e39 a0) :: (dP e39 a1) :: (.v (.str a2)) :: u3 ((dB false) :: (appF .nonfull 1 (List.map e39 v3)) :: (.ptr 2 0) :: (.ptr 3 0) :: (.ptr 4 0) :: (.ptr 5 0) :: (dP e44 v16.1) :: (.ptr 6 0) :: (dP e44 v17.1) :: (.ptr 7 0) :: u5 ((dB v1) :: (dB (!v1)) :: (.v (.sl .nonfull (List.map e39 []))) :: (dP e39 a0) :: (appF .nonfull 0 (List.map e39 v2)) :: (dP e39 a1) :: (appF .nonfull 1 (List.map e39 v3)) :: (dP e39 a0) :: (.v (.agg [(vI v4.fCode), (vI v4.fIndex)])) :: (.v (.agg [(vI 0), (vI 0)])) :: (dB v11) :: (dB v11) :: d7 :: d8 :: d9 :: d10 :: (dB v12) :: (.v (.tuple [(.agg [(eGz v14.1.fRoot)]), (.agg [(vI v14.2.fCode), (vI v14.2.fIndex)])])) :: (dP e39 a0) :: (.v (.tuple [(.agg [(eGz v14.1.fRoot)]), (.agg [(vI v14.2.fCode), (vI v14.2.fIndex)])])) :: (.v (.agg [(eGz v14.1.fRoot)])) :: (.v (.agg [(vI v14.2.fCode), (vI v14.2.fIndex)])) :: (.v (.tuple [(.agg [(eGz v15.1.fRoot)]), (.agg [(vI v15.2.fCode), (vI v15.2.fIndex)])])) :: (appF .nonfull 1 (List.map e39 v3)) :: (.v (.tuple [(.agg [(eGz v15.1.fRoot)]), (.agg [(vI v15.2.fCode), (vI v15.2.fIndex)])])) :: (.v (.agg [(eGz v15.1.fRoot)])) :: (.v (.agg [(vI v15.2.fCode), (vI v15.2.fIndex)])) :: (.v (.tuple [(vP e44 v16.1), (.agg [(vI v16.2.fCode), (vI v16.2.fIndex)])])) :: (.v (.agg [(eGz v14.1.fRoot)])) :: (.v (.str a2)) :: (.v (.tuple [(vP e44 v16.1), (.agg [(vI v16.2.fCode), (vI v16.2.fIndex)])])) :: (dP e44 v16.1) :: (.v (.agg [(vI v16.2.fCode), (vI v16.2.fIndex)])) :: (.v (.tuple [(vP e44 v17.1), (.agg [(vI v17.2.fCode), (vI v17.2.fIndex)])])) :: (.v (.agg [(eGz v15.1.fRoot)])) :: (.v (.str a2)) :: (.v (.tuple [(vP e44 v17.1), (.agg [(vI v17.2.fCode), (vI v17.2.fIndex)])])) :: (dP e44 v17.1) :: (.v (.agg [(vI v17.2.fCode), (vI v17.2.fIndex)])) :: (.v (.agg [(vI v14.2.fCode), (vI v14.2.fIndex)])) :: (.v (.agg [(vI 0), (vI 0)])) :: (dB ((!((v14.2.fCode == 0) && ((v14.2.fIndex == 0) && true))))) :: (dB ((!((v14.2.fCode == 0) && ((v14.2.fIndex == 0) && true))))) :: u40 (u14 []))), [.dead, (appO 2 (List.map e39 v3)), (.cells [(.v (eGz v14.1.fRoot))]), (.cells [(dI v14.2.fCode), (dI v14.2.fIndex)]), (.cells [(.v (eGz v15.1.fRoot))]), (.cells [(dI v15.2.fCode), (dI v15.2.fIndex)]), (.cells [(dI v16.2.fCode), (dI v16.2.fIndex)]), (.cells [(dI v17.2.fCode), (dI v17.2.fIndex)])]⟩ (by kernel_rfl) (G6g19 (!((v14.2.fCode == 0) && ((v14.2.fIndex == 0) && true))) h)
    obtain ⟨v12, ev12, h⟩ := bnd_some h
    have G6g6 : ∀ v5 : Bool, (cnd v5 (some true) (bnd (f11 m v3) fun v414 => some (!((v414.fCode == 0) && ((v414.fIndex == 0) && true))))) = some v12 → Ops (X6 n) (opl (cL (cL (cR (cR (cR C6)))))) 5 ⟨(dP e39 a0) :: (dP e39 a1) :: (.v (.str a2)) :: u3 ((dB false) :: (appF .nonfull 1 (List.map e39 v3)) :: u13 ((dB v1) :: (dB (!v1)) :: (.v (.sl .nonfull (List.map e39 []))) :: (dP e39 a0) :: (appF .nonfull 0 (List.map e39 v2)) :: (dP e39 a1) :: (appF .nonfull 1 (List.map e39 v3)) :: (dP e39 a0) :: (.v (.agg [(vI v4.fCode), (vI v4.fIndex)])) :: (.v (.agg [(vI 0), (vI 0)])) :: (dB v5) :: (dB v5) :: u40 (u40 (u5 [])))), [.dead, (appO 2 (List.map e39 v3))]⟩ ((seqQ (X6 n) (cR (cL (cR (cR (cR C6))))) (seqQ (X6 n) (cR (cR (cR (cR C6)))) (fnQ (X6 n).E.T (resOf Proofs.Tryd.prog 6) (eB o)))) .normal) := by
      intro v5 ev12
      cases v5
      · have ev12 := cnd_f ev12
        refine Ops.seg' 1 6 (by kernel_rfl) ?_
        obtain ⟨v414, ev414, ev12⟩ := bnd_some ev12
        refine Ops.one' 7 (fun h0 e0 => (call_ok (E' := EG) (h := h0) (by kernel_rfl) (Args.app (g := .nonfull) 1 (List.map e39 v3) Args.nil) (ok11 m v3 v414 ev414 n (by omega)))) (by kernel_rfl) (by kernel_rfl) ?_
        refine Ops.seg' 3 10 (by kernel_rfl) ?_
        refine Ops.st ⟨(dP e39 a0) :: (dP e39 a1) :: (.v (.str a2)) :: u3 ((dB false) :: (appF .nonfull 1 (List.map e39 v3)) :: u13 ((dB v1) :: (dB (!v1)) :: (.v (.sl .nonfull (List.map e39 []))) :: (dP e39 a0) :: (appF .nonfull 0 (List.map e39 v2)) :: (dP e39 a1) :: (appF .nonfull 1 (List.map e39 v3)) :: (dP e39 a0) :: (.v (.agg [(vI v4.fCode), (vI v4.fIndex)])) :: (.v (.agg [(vI 0), (vI 0)])) :: (dB false) :: (dB false) :: (appF .nonfull 1 (List.map e39 v3)) :: (.v (.agg [(vI v414.fCode), (vI v414.fIndex)])) :: (.v (.agg [(vI 0), (vI 0)])) :: (dB (!((v414.fCode == 0) && ((v414.fIndex == 0) && true)))) :: (dB (!((v414.fCode == 0) && ((v414.fIndex == 0) && true)))) :: u40 (u40 []))), [.dead, (appO 2 (List.map e39 v3))]⟩ (by kernel_rfl) ?_
        exact J6j13 _ _ _ _ _ _ (some_sub (fun v12 => f6_r6 m a0 a2 v3 v12 = some o) ev12 h)
      · have ev12 := cnd_t ev12
        refine Ops.seg' 5 10 (by kernel_rfl) ?_
        refine Ops.st ⟨(dP e39 a0) :: (dP e39 a1) :: (.v (.str a2)) :: u3 ((dB false) :: (appF .nonfull 1 (List.map e39 v3)) :: u13 ((dB v1) :: (dB (!v1)) :: (.v (.sl .nonfull (List.map e39 []))) :: (dP e39 a0) :: (appF .nonfull 0 (List.map e39 v2)) :: (dP e39 a1) :: (appF .nonfull 1 (List.map e39 v3)) :: (dP e39 a0) :: (.v (.agg [(vI v4.fCode), (vI v4.fIndex)])) :: (.v (.agg [(vI 0), (vI 0)])) :: (dB true) :: (dB true) :: u4 ((dB true) :: u40 (u40 [])))), [.dead, (appO 2 (List.map e39 v3))]⟩ (by kernel_rfl) ?_
        exact J6j13 _ _ _ _ _ _ (some_sub (fun v12 => f6_r6 m a0 a2 v3 v12 = some o) ev12 h)
    exact Ops.st ⟨(dP e39 a0) :: (dP e39 a1) :: (.v (.str a2)) :: u3 ((dB false) :: (appF .nonfull 1 (List.map e39 v3)) :: u13 ((dB v1) :: (dB (!v1)) :: (.v (.sl .nonfull (List.map e39 []))) :: (dP e39 a0) :: (appF .nonfull 0 (List.map e39 v2)) :: (dP e39 a1) :: (appF .nonfull 1 (List.map e39 v3)) :: (dP e39 a0) :: (.v (.agg [(vI v4.fCode), (vI v4.fIndex)])) :: (.v (.agg [(vI 0), (vI 0)])) :: (dB ((!((v4.fCode == 0) && ((v4.fIndex == 0) && true))))) :: (dB ((!((v4.fCode == 0) && ((v4.fIndex == 0) && true))))) :: u40 (u40 (u5 [])))), [.dead, (appO 2 (List.map e39 v3))]⟩ (by kernel_rfl) (G6g6 (!((v4.fCode == 0) && ((v4.fIndex == 0) && true))) ev12)

end Go.Abs
