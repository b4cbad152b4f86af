import Derived.Test.YtgieobehohljnaaDoorGR
namespace Go.Abs
set_option linter.unusedVariables false
set_option maxRecDepth 100000

/-! ### 14 glosswright/glosswrightequal.Guesses -/
def f14_B1 (m : Nat) (a0 : (List S44)) (a1 : (List S44)) (v6 : Int) : Option (Stp Bool (Int)) :=
  cnd (decide (v6 < (a0.length : Int)))
  (bnd (idx a0 v6) fun v16 =>
  bnd (idx a1 v6) fun v17 =>
  cnd (!((v16.fTag.toList == v17.fTag.toList) && ((v16.fLength == v17.fLength) && ((v16.fCount == v17.fCount) && true))))
  (some (.ret false))
  (some (.nxt (w64 (v6 + 1)))))
  (some (.brk v6))
def f14 (m : Nat) (a0 : (List S44)) (a1 : (List S44)) : Option Bool :=
  cnd (((a0.length : Int)) != ((a1.length : Int)))
  (some false)
  (brk (iter (fun (y : Int) => f14_B1 m a0 a1 y) m 0) some fun y19 =>
  some true)
noncomputable abbrev X14 (n : Nat) : Cx := cxOf Proofs.Tryd.prog EG 14 n
noncomputable def C14 : Code := bodyOf Proofs.Tryd.prog 14
theorem ok14 (m : Nat) (a0 : (List S44)) (a1 : (List S44)) (o : Bool) (h : f14 m a0 a1 = some o) (n : Nat) (hn : m + 1 ≤ n) : Fn Proofs.Tryd.prog EG n 14 [.v ((eL e44) a0), .v ((eL e44) a1)] (eB o) := by
  obtain ⟨n, rfl⟩ : ∃ q, n = q + 1 := ⟨n - 1, by omega⟩
  unfold f14 at h
  refine Fn.of (by kernel_rfl) (by kernel_rfl) (by kernel_rfl) ⟨(dP e44 a0) :: (dP e44 a1) :: u24 [], []⟩ (by kernel_rfl) ?_
  refine Wp.seq' (by kernel_rfl) ?_
  refine Wp.region (by kernel_rfl) ?_
  refine Ops.seg' 1 1 (by kernel_rfl) ?_
  refine Ops.done (by kernel_rfl) ?_
  refine seqQ.n ?_
  refine Wp.seq' (by kernel_rfl) ?_
  refine Wp.seq' (by kernel_rfl) ?_
  refine Wp.region (by kernel_rfl) ?_
  refine Ops.seg' 1 1 (by kernel_rfl) ?_
  refine Ops.one' 2 (fun h0 e0 => (len_r (T := T) h0 32 45 .plain e44 a0 (by kernel_rfl))) (by kernel_rfl) (by kernel_rfl) ?_
  refine Ops.seg' 1 3 (by kernel_rfl) ?_
  refine Ops.one' 4 (fun h0 e0 => (len_r (T := T) h0 32 45 .plain e44 a1 (by kernel_rfl))) (by kernel_rfl) (by kernel_rfl) ?_
  refine Ops.seg' 1 5 (by kernel_rfl) ?_
  refine Ops.done (by kernel_rfl) ?_
  refine seqQ.n ?_
  refine Wp.cnd h [0, 1, 4] 0 (by kernel_rfl) (fun h => ?_) (fun h => ?_)
  · refine Wp.seq' (by kernel_rfl) ?_
    refine Wp.region (by kernel_rfl) ?_
    refine Ops.seg' 1 1 (by kernel_rfl) ?_
    refine Ops.done (by kernel_rfl) ?_
    refine seqQ.n ?_
    refine Wp.ret (by kernel_rfl) ?_
    refine sqQ.r ?_
    refine seqQ.r ?_
    exact fnQ.r' (X14 n) (fun z => (eB z)) h (RetOk.mk' (dB false) (by kernel_rfl) (by kernel_rfl))
  · refine Wp.skip (by kernel_rfl) ?_
    refine sqQ.n' ?_
    refine seqQ.n ?_
    refine Wp.seq' (by kernel_rfl) ?_
    refine Wp.seq' (by kernel_rfl) ?_
    refine Wp.region (by kernel_rfl) ?_
    refine Ops.seg' 1 1 (by kernel_rfl) ?_
    refine Ops.one' 2 (fun h0 e0 => (len_r (T := T) h0 32 45 .plain e44 a0 (by kernel_rfl))) (by kernel_rfl) (by kernel_rfl) ?_
    refine Ops.seg' 1 3 (by kernel_rfl) ?_
    refine Ops.done (by kernel_rfl) ?_
    refine seqQ.n ?_
    refine Wp.block' 0 [4] 0 (by kernel_rfl) ?_
    have hLx18 : ∀ (kx8 : Nat) (v6 : Int)  (ox7 : Bool ⊕ (Int)), iter (fun (y : Int) => f14_B1 m a0 a1 y) kx8 v6 = some ox7 → ∀ nx9, kx8 ≤ nx9 → (∀ r, ox7 = .inl r → ∀ σ, RetOk (X14 n) (resOf Proofs.Tryd.prog 14) (eB r) σ → (seqQ (X14 n) (cR (cR (cR C14))) (fnQ (X14 n).E.T (resOf Proofs.Tryd.prog 14) (eB o))) .ret σ) → (∀ (y : Int) , ox7 = .inr y → (seqQ (X14 n) (cR (cR (cR C14))) (fnQ (X14 n).E.T (resOf Proofs.Tryd.prog 14) (eB o))) .normal ⟨(dP e44 a0) :: (dP e44 a1) :: q2 ((dB false) :: q7 ((dI ((a0.length : Int))) :: (dI y) :: q12 [])), []⟩) → Lp (X14 n) [0, 1, 4, 12, 13] 0 (cL (cL (cR (cL (cR (cR C14)))))) nx9 ⟨(dP e44 a0) :: (dP e44 a1) :: q2 ((dB false) :: q7 ((dI ((a0.length : Int))) :: (dI v6) :: q12 [])), []⟩ (blkQ (X14 n) 0 [4] 0 (seqQ (X14 n) (cR (cR (cR C14))) (fnQ (X14 n).E.T (resOf Proofs.Tryd.prog 14) (eB o)))) := by
      intro kx8
      induction kx8 with
      | zero => intro v6  ox7 h; exact (iter_zero h).elim
      | succ kx8 ihx10 =>
        intro v6  ox7 h nx9 hnx13 hrx11 hxx12
        obtain ⟨nx9, rfl⟩ : ∃ q, nx9 = q + 1 := ⟨nx9 - 1, by omega⟩
        obtain ⟨sx14, h, hsx15⟩ := iter_some h
        have h : f14_B1 m a0 a1 v6 = some sx14 := h
        unfold f14_B1 at h
        refine Lp.succ ?_
        refine Wp.seq' (by kernel_rfl) ?_
        refine Wp.region (by kernel_rfl) ?_
        refine Ops.seg' 1 1 (by kernel_rfl) ?_
        refine Ops.done (by kernel_rfl) ?_
        refine seqQ.n ?_
        refine Wp.seq' (by kernel_rfl) ?_
        refine Wp.cnd h [0, 1, 4, 12, 13] 0 (by kernel_rfl) (fun h => ?_) (fun h => ?_)
        · refine Wp.skip (by kernel_rfl) ?_
          refine sqQ.n' ?_
          refine seqQ.n ?_
          refine Wp.seq' (by kernel_rfl) ?_
          refine Wp.block' 1 [0, 1, 4, 12, 13] 0 (by kernel_rfl) ?_
          refine Wp.seq' (by kernel_rfl) ?_
          refine Wp.region (by kernel_rfl) ?_
          refine Ops.seg' 2 2 (by kernel_rfl) ?_
          refine Ops.done (by kernel_rfl) ?_
          refine seqQ.n ?_
          refine Wp.seq' (by kernel_rfl) ?_
          refine Wp.region (by kernel_rfl) ?_
          refine Ops.seg' 2 2 (by kernel_rfl) ?_
          obtain ⟨v16, ev16, h⟩ := bnd_some h
          refine Ops.one' 3 (fun h0 e0 => (ix_r (T := T) h0 32 45 3 .plain e44 a0 v6 v16 ev16 (by kernel_rfl) (by kernel_rfl) (fun _ => rfl))) (by kernel_rfl) (by kernel_rfl) ?_
          refine Ops.seg' 3 6 (by kernel_rfl) ?_
          obtain ⟨v17, ev17, h⟩ := bnd_some h
          refine Ops.one' 7 (fun h0 e0 => (ix_r (T := T) h0 32 45 3 .plain e44 a1 v6 v17 ev17 (by kernel_rfl) (by kernel_rfl) (fun _ => rfl))) (by kernel_rfl) (by kernel_rfl) ?_
          refine Ops.seg' 2 9 (by kernel_rfl) ?_
          refine Ops.done (by kernel_rfl) ?_
          refine seqQ.n ?_
          refine Wp.cnd h [0, 1, 4, 12, 13] 0 (by kernel_rfl) (fun h => ?_) (fun h => ?_)
          · refine Wp.seq' (by kernel_rfl) ?_
            refine Wp.region (by kernel_rfl) ?_
            refine Ops.seg' 1 1 (by kernel_rfl) ?_
            refine Ops.done (by kernel_rfl) ?_
            refine seqQ.n ?_
            refine Wp.ret (by kernel_rfl) ?_
            refine sqQ.r ?_
            refine blkQ.r ?_
            refine seqQ.r ?_
            cases h
            refine lpQ.r ?_
            refine blkQ.r ?_
            exact hrx11 _ hsx15 _ (RetOk.forget [0, 1, 4, 12, 13] (by kernel_rfl) (RetOk.mk' (dB false) (by kernel_rfl) (by kernel_rfl)))
          · refine Wp.skip (by kernel_rfl) ?_
            refine sqQ.n' ?_
            refine blkQ.n' ?_
            refine seqQ.n ?_
            refine Wp.region (by kernel_rfl) ?_
            refine Ops.seg' 2 2 (by kernel_rfl) ?_
            refine Ops.done (by kernel_rfl) ?_
            refine lpQ.n ⟨(dP e44 a0) :: (dP e44 a1) :: q2 ((dB false) :: q7 ((dI ((a0.length : Int))) :: (dI (w64 (v6 + 1))) :: q12 [])), []⟩ (by kernel_rfl) ?_
            cases h
            exact ihx10 (w64 (v6 + 1))  _ hsx15 _ (by omega) hrx11 hxx12
        · refine Wp.exit (id := 0) (by kernel_rfl) ?_
          refine sqQ.x ?_
          refine seqQ.x ?_
          cases h
          refine lpQ.x ?_
          refine blkQ.x ⟨(dP e44 a0) :: (dP e44 a1) :: q2 ((dB false) :: q7 ((dI ((a0.length : Int))) :: (dI v6) :: q12 [])), []⟩ (by kernel_rfl) ?_
          exact hxx12 v6  hsx15
    refine Wp.loop' [0, 1, 4, 12, 13] 0 (by kernel_rfl) ⟨(dP e44 a0) :: (dP e44 a1) :: q2 ((dB false) :: q7 ((dI ((a0.length : Int))) :: (dI 0) :: q12 [])), []⟩ (by kernel_rfl) ?_
    rcases brk_some h with ⟨r20, er20, h⟩ | ⟨y19, ey19, h⟩
    · refine hLx18 _ 0  _ er20 n (by omega) (fun r er σ hσ => ?_) (fun y  ey => by cases ey)
      cases er
      refine seqQ.r ?_
      exact fnQ.r' (X14 n) (fun z => (eB z)) h hσ
    · refine hLx18 _ 0  _ ey19 n (by omega) (fun r er => by cases er) (fun y  ey => ?_)
      cases ey
      refine seqQ.n ?_
      refine Wp.seq' (by kernel_rfl) ?_
      refine Wp.region (by kernel_rfl) ?_
      refine Ops.seg' 1 1 (by kernel_rfl) ?_
      refine Ops.done (by kernel_rfl) ?_
      refine seqQ.n ?_
      refine Wp.ret (by kernel_rfl) ?_
      exact fnQ.r' (X14 n) (fun z => (eB z)) h (RetOk.mk' (dB true) (by kernel_rfl) (by kernel_rfl))

/-! ### 9 glosswright/glosswrightlaw6.guessed -/
def f9_r1 (m : Nat) (v19 : Bool) : Option Bool :=
  some v19
def f9_r2 (m : Nat) (v2 : ((List S44) × S27)) (v9 : Bool) : Option Bool :=
  bnd (cnd v9
  (bnd (f14 m v2.1 ([(⟨(⟨#[112, 108]⟩ : ByteArray), 1, 1⟩ : S44), (⟨(⟨#[115, 103]⟩ : ByteArray), 0, 1⟩ : S44)])) fun v21 =>
  some v21)
  (some false)) fun v19 =>
  f9_r1 m v19
def f9 (m : Nat)  : Option Bool :=
  bnd (f10 m ([(⟨(⟨#[99, 97, 116, 115]⟩ : ByteArray), (⟨#[112, 108]⟩ : ByteArray)⟩ : S39), (⟨(⟨#[99, 97, 116]⟩ : ByteArray), (⟨#[115, 103]⟩ : ByteArray)⟩ : S39)])) fun v1 =>
  bnd (f12 m v1.1 ((⟨#[100, 111, 103, 115]⟩ : ByteArray))) fun v2 =>
  f9_r2 m v2 (((((v1.2.fCode == 0) && ((v1.2.fIndex == 0) && true))) && (((v2.2.fCode == 0) && ((v2.2.fIndex == 0) && true)))))
noncomputable abbrev X9 (n : Nat) : Cx := cxOf Proofs.Tryd.prog EG 9 n
noncomputable def C9 : Code := bodyOf Proofs.Tryd.prog 9
theorem ok9 (m : Nat)  (o : Bool) (h : f9 m  = some o) (n : Nat) (hn : m + 2 ≤ n) : Fn Proofs.Tryd.prog EG n 9 [] (eB o) := by
  obtain ⟨n, rfl⟩ : ∃ q, n = q + 1 := ⟨n - 1, by omega⟩
  unfold f9 at h
  refine Fn.of (by kernel_rfl) (by kernel_rfl) (by kernel_rfl) ⟨u32 [], []⟩ (by kernel_rfl) ?_
  refine Wp.seq' (by kernel_rfl) ?_
  refine Wp.region (by kernel_rfl) ?_
  refine Ops.seg' 1 1 (by kernel_rfl) ?_
  refine Ops.done (by kernel_rfl) ?_
  refine seqQ.n ?_
  refine Wp.seq' (by kernel_rfl) ?_
  refine Wp.region (by kernel_rfl) ?_
  refine Ops.seg' 3 3 (by kernel_rfl) ?_
  obtain ⟨v1, ev1, h⟩ := bnd_some h
  refine Ops.one' 4 (fun h0 e0 => (call_ok (E' := EG) (h := h0) (by kernel_rfl) (Args.v (.sl .nonfull (List.map e39 ([(⟨(⟨#[99, 97, 116, 115]⟩ : ByteArray), (⟨#[112, 108]⟩ : ByteArray)⟩ : S39), (⟨(⟨#[99, 97, 116]⟩ : ByteArray), (⟨#[115, 103]⟩ : ByteArray)⟩ : S39)]))) ((eL e39) ([(⟨(⟨#[99, 97, 116, 115]⟩ : ByteArray), (⟨#[112, 108]⟩ : ByteArray)⟩ : S39), (⟨(⟨#[99, 97, 116]⟩ : ByteArray), (⟨#[115, 103]⟩ : ByteArray)⟩ : S39)])) (by kernel_rfl) Args.nil) (ok10 m ([(⟨(⟨#[99, 97, 116, 115]⟩ : ByteArray), (⟨#[112, 108]⟩ : ByteArray)⟩ : S39), (⟨(⟨#[99, 97, 116]⟩ : ByteArray), (⟨#[115, 103]⟩ : ByteArray)⟩ : S39)]) v1 ev1 n (by omega)))) (by kernel_rfl) (by kernel_rfl) ?_
  refine Ops.seg' 5 9 (by kernel_rfl) ?_
  refine Ops.one' 10 (fun h0 e0 => (stc (i := ti26) (h := h0) (r := 0) (off := 0) (cs := [(.v (eGz none))]) (cs' := [(.v (eGz v1.1.fRoot))]) (x := (.v (.agg [(eGz v1.1.fRoot)]))) (hq_of (g := [(.cells [(.v (eGz none))]), (.cells [(dI 0), (dI 0)])]) (e0.trans (by kernel_rfl)) rfl) (solid_e25 v1.1.fRoot) (by rfl))) (by kernel_rfl) (by kernel_rfl) ?_
  refine Ops.seg' 1 11 (by kernel_rfl) ?_
  refine Ops.done (by kernel_rfl) ?_
  refine seqQ.n ?_
  refine Wp.seq' (by kernel_rfl) ?_
  refine Wp.region (by kernel_rfl) ?_
  refine Ops.seg' 1 1 (by kernel_rfl) ?_
  obtain ⟨v2, ev2, h⟩ := bnd_some h
  refine Ops.one' 2 (fun h0 e0 => (call_ok (E' := EG) (h := h0) (by kernel_rfl) (Args.v (.agg [(eGz v1.1.fRoot)]) (e25 v1.1) (plain_e25 _) (Args.v (.str ((⟨#[100, 111, 103, 115]⟩ : ByteArray))) (eS ((⟨#[100, 111, 103, 115]⟩ : ByteArray))) (by kernel_rfl) Args.nil)) (ok12 m v1.1 ((⟨#[100, 111, 103, 115]⟩ : ByteArray)) v2 ev2 n (by omega)))) (by kernel_rfl) (by kernel_rfl) ?_
  refine Ops.seg' 6 8 (by kernel_rfl) ?_
  refine Ops.done (by kernel_rfl) ?_
  refine seqQ.n ?_
  refine Wp.seq' (by kernel_rfl) ?_
  refine Wp.region (by kernel_rfl) ?_
  refine Ops.seg' 4 4 (by kernel_rfl) ?_
  have J9j10 : ∀ (d5 d6 d7 : D) (v8 : Bool) (v9 : Bool), f9_r2 m v2 v9 = some o → Ops (X9 n) (opl (cL (cR (cR (cR C9))))) 8 ⟨(dB false) :: (.ptr 0 0) :: (.ptr 1 0) :: (dP e44 v2.1) :: (.ptr 2 0) :: (.v (.tuple [(.agg [(eGz v1.1.fRoot)]), (.agg [(vI v1.2.fCode), (vI v1.2.fIndex)])])) :: (.v (.agg [(.str ((⟨#[99, 97, 116, 115]⟩ : ByteArray))), (.str ((⟨#[112, 108]⟩ : ByteArray)))])) :: (.v (.agg [(.str ((⟨#[99, 97, 116]⟩ : ByteArray))), (.str ((⟨#[115, 103]⟩ : ByteArray)))])) :: (.v (.sl .nonfull (List.map e39 ([(⟨(⟨#[99, 97, 116, 115]⟩ : ByteArray), (⟨#[112, 108]⟩ : ByteArray)⟩ : S39), (⟨(⟨#[99, 97, 116]⟩ : ByteArray), (⟨#[115, 103]⟩ : ByteArray)⟩ : S39)])))) :: (.v (.tuple [(.agg [(eGz v1.1.fRoot)]), (.agg [(vI v1.2.fCode), (vI v1.2.fIndex)])])) :: (.v (.agg [(eGz v1.1.fRoot)])) :: (.v (.agg [(vI v1.2.fCode), (vI v1.2.fIndex)])) :: (.v (.tuple [(vP e44 v2.1), (.agg [(vI v2.2.fCode), (vI v2.2.fIndex)])])) :: (.v (.agg [(eGz v1.1.fRoot)])) :: (.v (.tuple [(vP e44 v2.1), (.agg [(vI v2.2.fCode), (vI v2.2.fIndex)])])) :: (dP e44 v2.1) :: (.v (.agg [(vI v2.2.fCode), (vI v2.2.fIndex)])) :: (.v (.agg [(vI v1.2.fCode), (vI v1.2.fIndex)])) :: (.v (.agg [(vI 0), (vI 0)])) :: (dB v8) :: (dB v8) :: d5 :: d6 :: d7 :: (dB v9) :: u7 [], [(.cells [(.v (eGz v1.1.fRoot))]), (.cells [(dI v1.2.fCode), (dI v1.2.fIndex)]), (.cells [(dI v2.2.fCode), (dI v2.2.fIndex)])]⟩ ((seqQ (X9 n) (cR (cR (cR (cR C9)))) (fnQ (X9 n).E.T (resOf Proofs.Tryd.prog 9) (eB o))) .normal) := by
    intro d5 d6 d7 v8 v9 h
    unfold f9_r2 at h
    refine Ops.seg' 1 9 (by kernel_rfl) ?_
    have J9j20 : ∀ (d13 d14 d15 d16 d17 : D) (v18 : Bool) (v19 : Bool), f9_r1 m v19 = some o → Ops (X9 n) (opl (cL (cR (cR (cR C9))))) 15 ⟨(dB false) :: (.ptr 0 0) :: (.ptr 1 0) :: (dP e44 v2.1) :: (.ptr 2 0) :: (.v (.tuple [(.agg [(eGz v1.1.fRoot)]), (.agg [(vI v1.2.fCode), (vI v1.2.fIndex)])])) :: (.v (.agg [(.str ((⟨#[99, 97, 116, 115]⟩ : ByteArray))), (.str ((⟨#[112, 108]⟩ : ByteArray)))])) :: (.v (.agg [(.str ((⟨#[99, 97, 116]⟩ : ByteArray))), (.str ((⟨#[115, 103]⟩ : ByteArray)))])) :: (.v (.sl .nonfull (List.map e39 ([(⟨(⟨#[99, 97, 116, 115]⟩ : ByteArray), (⟨#[112, 108]⟩ : ByteArray)⟩ : S39), (⟨(⟨#[99, 97, 116]⟩ : ByteArray), (⟨#[115, 103]⟩ : ByteArray)⟩ : S39)])))) :: (.v (.tuple [(.agg [(eGz v1.1.fRoot)]), (.agg [(vI v1.2.fCode), (vI v1.2.fIndex)])])) :: (.v (.agg [(eGz v1.1.fRoot)])) :: (.v (.agg [(vI v1.2.fCode), (vI v1.2.fIndex)])) :: (.v (.tuple [(vP e44 v2.1), (.agg [(vI v2.2.fCode), (vI v2.2.fIndex)])])) :: (.v (.agg [(eGz v1.1.fRoot)])) :: (.v (.tuple [(vP e44 v2.1), (.agg [(vI v2.2.fCode), (vI v2.2.fIndex)])])) :: (dP e44 v2.1) :: (.v (.agg [(vI v2.2.fCode), (vI v2.2.fIndex)])) :: (.v (.agg [(vI v1.2.fCode), (vI v1.2.fIndex)])) :: (.v (.agg [(vI 0), (vI 0)])) :: (dB v8) :: (dB v8) :: d5 :: d6 :: d7 :: (dB v18) :: (dB v18) :: d13 :: d14 :: d15 :: d16 :: d17 :: (dB v19) :: [], [(.cells [(.v (eGz v1.1.fRoot))]), (.cells [(dI v1.2.fCode), (dI v1.2.fIndex)]), (.cells [(dI v2.2.fCode), (dI v2.2.fIndex)])]⟩ ((seqQ (X9 n) (cR (cR (cR (cR C9)))) (fnQ (X9 n).E.T (resOf Proofs.Tryd.prog 9) (eB o))) .normal) := by
      intro d13 d14 d15 d16 d17 v18 v19 h
      unfold f9_r1 at h
      refine Ops.seg' 1 16 (by kernel_rfl) ?_
      refine Ops.done (by kernel_rfl) ?_
      refine seqQ.n ?_
      refine Wp.ret (by kernel_rfl) ?_
      exact fnQ.r' (X9 n) (fun z => (eB z)) h (RetOk.mk' (dB v19) (by kernel_rfl) (by kernel_rfl))
    obtain ⟨v19, ev19, h⟩ := bnd_some h
    have G9g12 : ∀ v11 : Bool, (cnd v11 (bnd (f14 m v2.1 ([(⟨(⟨#[112, 108]⟩ : ByteArray), 1, 1⟩ : S44), (⟨(⟨#[115, 103]⟩ : ByteArray), 0, 1⟩ : S44)])) fun v21 => some v21) (some false)) = some v19 → Ops (X9 n) (opl (cL (cR (cR (cR C9))))) 9 ⟨(dB false) :: (.ptr 0 0) :: (.ptr 1 0) :: (dP e44 v2.1) :: (.ptr 2 0) :: (.v (.tuple [(.agg [(eGz v1.1.fRoot)]), (.agg [(vI v1.2.fCode), (vI v1.2.fIndex)])])) :: (.v (.agg [(.str ((⟨#[99, 97, 116, 115]⟩ : ByteArray))), (.str ((⟨#[112, 108]⟩ : ByteArray)))])) :: (.v (.agg [(.str ((⟨#[99, 97, 116]⟩ : ByteArray))), (.str ((⟨#[115, 103]⟩ : ByteArray)))])) :: (.v (.sl .nonfull (List.map e39 ([(⟨(⟨#[99, 97, 116, 115]⟩ : ByteArray), (⟨#[112, 108]⟩ : ByteArray)⟩ : S39), (⟨(⟨#[99, 97, 116]⟩ : ByteArray), (⟨#[115, 103]⟩ : ByteArray)⟩ : S39)])))) :: (.v (.tuple [(.agg [(eGz v1.1.fRoot)]), (.agg [(vI v1.2.fCode), (vI v1.2.fIndex)])])) :: (.v (.agg [(eGz v1.1.fRoot)])) :: (.v (.agg [(vI v1.2.fCode), (vI v1.2.fIndex)])) :: (.v (.tuple [(vP e44 v2.1), (.agg [(vI v2.2.fCode), (vI v2.2.fIndex)])])) :: (.v (.agg [(eGz v1.1.fRoot)])) :: (.v (.tuple [(vP e44 v2.1), (.agg [(vI v2.2.fCode), (vI v2.2.fIndex)])])) :: (dP e44 v2.1) :: (.v (.agg [(vI v2.2.fCode), (vI v2.2.fIndex)])) :: (.v (.agg [(vI v1.2.fCode), (vI v1.2.fIndex)])) :: (.v (.agg [(vI 0), (vI 0)])) :: (dB v8) :: (dB v8) :: d5 :: d6 :: d7 :: (dB v11) :: (dB v11) :: u6 [], [(.cells [(.v (eGz v1.1.fRoot))]), (.cells [(dI v1.2.fCode), (dI v1.2.fIndex)]), (.cells [(dI v2.2.fCode), (dI v2.2.fIndex)])]⟩ ((seqQ (X9 n) (cR (cR (cR (cR C9)))) (fnQ (X9 n).E.T (resOf Proofs.Tryd.prog 9) (eB o))) .normal) := by
      intro v11 ev19
      cases v11
      · have ev19 := cnd_f ev19
        refine Ops.seg' 6 15 (by kernel_rfl) ?_
        refine Ops.st ⟨(dB false) :: (.ptr 0 0) :: (.ptr 1 0) :: (dP e44 v2.1) :: (.ptr 2 0) :: (.v (.tuple [(.agg [(eGz v1.1.fRoot)]), (.agg [(vI v1.2.fCode), (vI v1.2.fIndex)])])) :: (.v (.agg [(.str ((⟨#[99, 97, 116, 115]⟩ : ByteArray))), (.str ((⟨#[112, 108]⟩ : ByteArray)))])) :: (.v (.agg [(.str ((⟨#[99, 97, 116]⟩ : ByteArray))), (.str ((⟨#[115, 103]⟩ : ByteArray)))])) :: (.v (.sl .nonfull (List.map e39 ([(⟨(⟨#[99, 97, 116, 115]⟩ : ByteArray), (⟨#[112, 108]⟩ : ByteArray)⟩ : S39), (⟨(⟨#[99, 97, 116]⟩ : ByteArray), (⟨#[115, 103]⟩ : ByteArray)⟩ : S39)])))) :: (.v (.tuple [(.agg [(eGz v1.1.fRoot)]), (.agg [(vI v1.2.fCode), (vI v1.2.fIndex)])])) :: (.v (.agg [(eGz v1.1.fRoot)])) :: (.v (.agg [(vI v1.2.fCode), (vI v1.2.fIndex)])) :: (.v (.tuple [(vP e44 v2.1), (.agg [(vI v2.2.fCode), (vI v2.2.fIndex)])])) :: (.v (.agg [(eGz v1.1.fRoot)])) :: (.v (.tuple [(vP e44 v2.1), (.agg [(vI v2.2.fCode), (vI v2.2.fIndex)])])) :: (dP e44 v2.1) :: (.v (.agg [(vI v2.2.fCode), (vI v2.2.fIndex)])) :: (.v (.agg [(vI v1.2.fCode), (vI v1.2.fIndex)])) :: (.v (.agg [(vI 0), (vI 0)])) :: (dB v8) :: (dB v8) :: d5 :: d6 :: d7 :: (dB false) :: (dB false) :: u5 ((dB false) :: []), [(.cells [(.v (eGz v1.1.fRoot))]), (.cells [(dI v1.2.fCode), (dI v1.2.fIndex)]), (.cells [(dI v2.2.fCode), (dI v2.2.fIndex)])]⟩ (by kernel_rfl) ?_
        exact J9j20 _ _ _ _ _ _ _ (some_sub (fun v19 => f9_r1 m v19 = some o) ev19 h)
      · have ev19 := cnd_t ev19
        refine Ops.seg' 4 13 (by kernel_rfl) ?_
        obtain ⟨v21, ev21, ev19⟩ := bnd_some ev19
        refine Ops.one' 14 (fun h0 e0 => (call_ok (E' := EG) (h := h0) (by kernel_rfl) (Args.v (vP e44 v2.1) ((eL e44) v2.1) (by kernel_rfl) (Args.v (.sl .nonfull (List.map e44 ([(⟨(⟨#[112, 108]⟩ : ByteArray), 1, 1⟩ : S44), (⟨(⟨#[115, 103]⟩ : ByteArray), 0, 1⟩ : S44)]))) ((eL e44) ([(⟨(⟨#[112, 108]⟩ : ByteArray), 1, 1⟩ : S44), (⟨(⟨#[115, 103]⟩ : ByteArray), 0, 1⟩ : S44)])) (by kernel_rfl) Args.nil)) (ok14 m v2.1 ([(⟨(⟨#[112, 108]⟩ : ByteArray), 1, 1⟩ : S44), (⟨(⟨#[115, 103]⟩ : ByteArray), 0, 1⟩ : S44)]) v21 ev21 n (by omega)))) (by kernel_rfl) (by kernel_rfl) ?_
        refine Ops.seg' 1 15 (by kernel_rfl) ?_
        refine Ops.st ⟨(dB false) :: (.ptr 0 0) :: (.ptr 1 0) :: (dP e44 v2.1) :: (.ptr 2 0) :: (.v (.tuple [(.agg [(eGz v1.1.fRoot)]), (.agg [(vI v1.2.fCode), (vI v1.2.fIndex)])])) :: (.v (.agg [(.str ((⟨#[99, 97, 116, 115]⟩ : ByteArray))), (.str ((⟨#[112, 108]⟩ : ByteArray)))])) :: (.v (.agg [(.str ((⟨#[99, 97, 116]⟩ : ByteArray))), (.str ((⟨#[115, 103]⟩ : ByteArray)))])) :: (.v (.sl .nonfull (List.map e39 ([(⟨(⟨#[99, 97, 116, 115]⟩ : ByteArray), (⟨#[112, 108]⟩ : ByteArray)⟩ : S39), (⟨(⟨#[99, 97, 116]⟩ : ByteArray), (⟨#[115, 103]⟩ : ByteArray)⟩ : S39)])))) :: (.v (.tuple [(.agg [(eGz v1.1.fRoot)]), (.agg [(vI v1.2.fCode), (vI v1.2.fIndex)])])) :: (.v (.agg [(eGz v1.1.fRoot)])) :: (.v (.agg [(vI v1.2.fCode), (vI v1.2.fIndex)])) :: (.v (.tuple [(vP e44 v2.1), (.agg [(vI v2.2.fCode), (vI v2.2.fIndex)])])) :: (.v (.agg [(eGz v1.1.fRoot)])) :: (.v (.tuple [(vP e44 v2.1), (.agg [(vI v2.2.fCode), (vI v2.2.fIndex)])])) :: (dP e44 v2.1) :: (.v (.agg [(vI v2.2.fCode), (vI v2.2.fIndex)])) :: (.v (.agg [(vI v1.2.fCode), (vI v1.2.fIndex)])) :: (.v (.agg [(vI 0), (vI 0)])) :: (dB v8) :: (dB v8) :: d5 :: d6 :: d7 :: (dB true) :: (dB true) :: (dP e44 v2.1) :: (.v (.agg [(.str ((⟨#[112, 108]⟩ : ByteArray))), (vI 1), (vI 1)])) :: (.v (.agg [(.str ((⟨#[115, 103]⟩ : ByteArray))), (vI 0), (vI 1)])) :: (.v (.sl .nonfull (List.map e44 ([(⟨(⟨#[112, 108]⟩ : ByteArray), 1, 1⟩ : S44), (⟨(⟨#[115, 103]⟩ : ByteArray), 0, 1⟩ : S44)])))) :: (dB v21) :: (dB v21) :: [], [(.cells [(.v (eGz v1.1.fRoot))]), (.cells [(dI v1.2.fCode), (dI v1.2.fIndex)]), (.cells [(dI v2.2.fCode), (dI v2.2.fIndex)])]⟩ (by kernel_rfl) ?_
        exact J9j20 _ _ _ _ _ _ _ (some_sub (fun v19 => f9_r1 m v19 = some o) ev19 h)
    exact Ops.st ⟨(dB false) :: (.ptr 0 0) :: (.ptr 1 0) :: (dP e44 v2.1) :: (.ptr 2 0) :: (.v (.tuple [(.agg [(eGz v1.1.fRoot)]), (.agg [(vI v1.2.fCode), (vI v1.2.fIndex)])])) :: (.v (.agg [(.str ((⟨#[99, 97, 116, 115]⟩ : ByteArray))), (.str ((⟨#[112, 108]⟩ : ByteArray)))])) :: (.v (.agg [(.str ((⟨#[99, 97, 116]⟩ : ByteArray))), (.str ((⟨#[115, 103]⟩ : ByteArray)))])) :: (.v (.sl .nonfull (List.map e39 ([(⟨(⟨#[99, 97, 116, 115]⟩ : ByteArray), (⟨#[112, 108]⟩ : ByteArray)⟩ : S39), (⟨(⟨#[99, 97, 116]⟩ : ByteArray), (⟨#[115, 103]⟩ : ByteArray)⟩ : S39)])))) :: (.v (.tuple [(.agg [(eGz v1.1.fRoot)]), (.agg [(vI v1.2.fCode), (vI v1.2.fIndex)])])) :: (.v (.agg [(eGz v1.1.fRoot)])) :: (.v (.agg [(vI v1.2.fCode), (vI v1.2.fIndex)])) :: (.v (.tuple [(vP e44 v2.1), (.agg [(vI v2.2.fCode), (vI v2.2.fIndex)])])) :: (.v (.agg [(eGz v1.1.fRoot)])) :: (.v (.tuple [(vP e44 v2.1), (.agg [(vI v2.2.fCode), (vI v2.2.fIndex)])])) :: (dP e44 v2.1) :: (.v (.agg [(vI v2.2.fCode), (vI v2.2.fIndex)])) :: (.v (.agg [(vI v1.2.fCode), (vI v1.2.fIndex)])) :: (.v (.agg [(vI 0), (vI 0)])) :: (dB v8) :: (dB v8) :: d5 :: d6 :: d7 :: (dB v9) :: (dB v9) :: u6 [], [(.cells [(.v (eGz v1.1.fRoot))]), (.cells [(dI v1.2.fCode), (dI v1.2.fIndex)]), (.cells [(dI v2.2.fCode), (dI v2.2.fIndex)])]⟩ (by kernel_rfl) (G9g12 v9 ev19)
  have G9g4 : ∀ v3 : Bool, f9_r2 m v2 ((v3 && (((v2.2.fCode == 0) && ((v2.2.fIndex == 0) && true))))) = some o → Ops (X9 n) (opl (cL (cR (cR (cR C9))))) 4 ⟨(dB false) :: (.ptr 0 0) :: (.ptr 1 0) :: (dP e44 v2.1) :: (.ptr 2 0) :: (.v (.tuple [(.agg [(eGz v1.1.fRoot)]), (.agg [(vI v1.2.fCode), (vI v1.2.fIndex)])])) :: (.v (.agg [(.str ((⟨#[99, 97, 116, 115]⟩ : ByteArray))), (.str ((⟨#[112, 108]⟩ : ByteArray)))])) :: (.v (.agg [(.str ((⟨#[99, 97, 116]⟩ : ByteArray))), (.str ((⟨#[115, 103]⟩ : ByteArray)))])) :: (.v (.sl .nonfull (List.map e39 ([(⟨(⟨#[99, 97, 116, 115]⟩ : ByteArray), (⟨#[112, 108]⟩ : ByteArray)⟩ : S39), (⟨(⟨#[99, 97, 116]⟩ : ByteArray), (⟨#[115, 103]⟩ : ByteArray)⟩ : S39)])))) :: (.v (.tuple [(.agg [(eGz v1.1.fRoot)]), (.agg [(vI v1.2.fCode), (vI v1.2.fIndex)])])) :: (.v (.agg [(eGz v1.1.fRoot)])) :: (.v (.agg [(vI v1.2.fCode), (vI v1.2.fIndex)])) :: (.v (.tuple [(vP e44 v2.1), (.agg [(vI v2.2.fCode), (vI v2.2.fIndex)])])) :: (.v (.agg [(eGz v1.1.fRoot)])) :: (.v (.tuple [(vP e44 v2.1), (.agg [(vI v2.2.fCode), (vI v2.2.fIndex)])])) :: (dP e44 v2.1) :: (.v (.agg [(vI v2.2.fCode), (vI v2.2.fIndex)])) :: (.v (.agg [(vI v1.2.fCode), (vI v1.2.fIndex)])) :: (.v (.agg [(vI 0), (vI 0)])) :: (dB v3) :: (dB v3) :: u11 [], [(.cells [(.v (eGz v1.1.fRoot))]), (.cells [(dI v1.2.fCode), (dI v1.2.fIndex)]), (.cells [(dI v2.2.fCode), (dI v2.2.fIndex)])]⟩ ((seqQ (X9 n) (cR (cR (cR (cR C9)))) (fnQ (X9 n).E.T (resOf Proofs.Tryd.prog 9) (eB o))) .normal) := by
    intro v3 h
    cases v3
    · refine Ops.seg' 4 8 (by kernel_rfl) ?_
      refine Ops.st ⟨(dB false) :: (.ptr 0 0) :: (.ptr 1 0) :: (dP e44 v2.1) :: (.ptr 2 0) :: (.v (.tuple [(.agg [(eGz v1.1.fRoot)]), (.agg [(vI v1.2.fCode), (vI v1.2.fIndex)])])) :: (.v (.agg [(.str ((⟨#[99, 97, 116, 115]⟩ : ByteArray))), (.str ((⟨#[112, 108]⟩ : ByteArray)))])) :: (.v (.agg [(.str ((⟨#[99, 97, 116]⟩ : ByteArray))), (.str ((⟨#[115, 103]⟩ : ByteArray)))])) :: (.v (.sl .nonfull (List.map e39 ([(⟨(⟨#[99, 97, 116, 115]⟩ : ByteArray), (⟨#[112, 108]⟩ : ByteArray)⟩ : S39), (⟨(⟨#[99, 97, 116]⟩ : ByteArray), (⟨#[115, 103]⟩ : ByteArray)⟩ : S39)])))) :: (.v (.tuple [(.agg [(eGz v1.1.fRoot)]), (.agg [(vI v1.2.fCode), (vI v1.2.fIndex)])])) :: (.v (.agg [(eGz v1.1.fRoot)])) :: (.v (.agg [(vI v1.2.fCode), (vI v1.2.fIndex)])) :: (.v (.tuple [(vP e44 v2.1), (.agg [(vI v2.2.fCode), (vI v2.2.fIndex)])])) :: (.v (.agg [(eGz v1.1.fRoot)])) :: (.v (.tuple [(vP e44 v2.1), (.agg [(vI v2.2.fCode), (vI v2.2.fIndex)])])) :: (dP e44 v2.1) :: (.v (.agg [(vI v2.2.fCode), (vI v2.2.fIndex)])) :: (.v (.agg [(vI v1.2.fCode), (vI v1.2.fIndex)])) :: (.v (.agg [(vI 0), (vI 0)])) :: (dB false) :: (dB false) :: u3 ((dB false) :: u7 []), [(.cells [(.v (eGz v1.1.fRoot))]), (.cells [(dI v1.2.fCode), (dI v1.2.fIndex)]), (.cells [(dI v2.2.fCode), (dI v2.2.fIndex)])]⟩ (by kernel_rfl) ?_
      exact J9j10 _ _ _ _ _ h
    · refine Ops.seg' 4 8 (by kernel_rfl) ?_
      refine Ops.st ⟨(dB false) :: (.ptr 0 0) :: (.ptr 1 0) :: (dP e44 v2.1) :: (.ptr 2 0) :: (.v (.tuple [(.agg [(eGz v1.1.fRoot)]), (.agg [(vI v1.2.fCode), (vI v1.2.fIndex)])])) :: (.v (.agg [(.str ((⟨#[99, 97, 116, 115]⟩ : ByteArray))), (.str ((⟨#[112, 108]⟩ : ByteArray)))])) :: (.v (.agg [(.str ((⟨#[99, 97, 116]⟩ : ByteArray))), (.str ((⟨#[115, 103]⟩ : ByteArray)))])) :: (.v (.sl .nonfull (List.map e39 ([(⟨(⟨#[99, 97, 116, 115]⟩ : ByteArray), (⟨#[112, 108]⟩ : ByteArray)⟩ : S39), (⟨(⟨#[99, 97, 116]⟩ : ByteArray), (⟨#[115, 103]⟩ : ByteArray)⟩ : S39)])))) :: (.v (.tuple [(.agg [(eGz v1.1.fRoot)]), (.agg [(vI v1.2.fCode), (vI v1.2.fIndex)])])) :: (.v (.agg [(eGz v1.1.fRoot)])) :: (.v (.agg [(vI v1.2.fCode), (vI v1.2.fIndex)])) :: (.v (.tuple [(vP e44 v2.1), (.agg [(vI v2.2.fCode), (vI v2.2.fIndex)])])) :: (.v (.agg [(eGz v1.1.fRoot)])) :: (.v (.tuple [(vP e44 v2.1), (.agg [(vI v2.2.fCode), (vI v2.2.fIndex)])])) :: (dP e44 v2.1) :: (.v (.agg [(vI v2.2.fCode), (vI v2.2.fIndex)])) :: (.v (.agg [(vI v1.2.fCode), (vI v1.2.fIndex)])) :: (.v (.agg [(vI 0), (vI 0)])) :: (dB true) :: (dB true) :: (.v (.agg [(vI v2.2.fCode), (vI v2.2.fIndex)])) :: (.v (.agg [(vI 0), (vI 0)])) :: (dB (((v2.2.fCode == 0) && ((v2.2.fIndex == 0) && true)))) :: (dB (((v2.2.fCode == 0) && ((v2.2.fIndex == 0) && true)))) :: u7 [], [(.cells [(.v (eGz v1.1.fRoot))]), (.cells [(dI v1.2.fCode), (dI v1.2.fIndex)]), (.cells [(dI v2.2.fCode), (dI v2.2.fIndex)])]⟩ (by kernel_rfl) ?_
      exact J9j10 _ _ _ _ _ h
  exact Ops.st ⟨(dB false) :: (.ptr 0 0) :: (.ptr 1 0) :: (dP e44 v2.1) :: (.ptr 2 0) :: (.v (.tuple [(.agg [(eGz v1.1.fRoot)]), (.agg [(vI v1.2.fCode), (vI v1.2.fIndex)])])) :: (.v (.agg [(.str ((⟨#[99, 97, 116, 115]⟩ : ByteArray))), (.str ((⟨#[112, 108]⟩ : ByteArray)))])) :: (.v (.agg [(.str ((⟨#[99, 97, 116]⟩ : ByteArray))), (.str ((⟨#[115, 103]⟩ : ByteArray)))])) :: (.v (.sl .nonfull (List.map e39 ([(⟨(⟨#[99, 97, 116, 115]⟩ : ByteArray), (⟨#[112, 108]⟩ : ByteArray)⟩ : S39), (⟨(⟨#[99, 97, 116]⟩ : ByteArray), (⟨#[115, 103]⟩ : ByteArray)⟩ : S39)])))) :: (.v (.tuple [(.agg [(eGz v1.1.fRoot)]), (.agg [(vI v1.2.fCode), (vI v1.2.fIndex)])])) :: (.v (.agg [(eGz v1.1.fRoot)])) :: (.v (.agg [(vI v1.2.fCode), (vI v1.2.fIndex)])) :: (.v (.tuple [(vP e44 v2.1), (.agg [(vI v2.2.fCode), (vI v2.2.fIndex)])])) :: (.v (.agg [(eGz v1.1.fRoot)])) :: (.v (.tuple [(vP e44 v2.1), (.agg [(vI v2.2.fCode), (vI v2.2.fIndex)])])) :: (dP e44 v2.1) :: (.v (.agg [(vI v2.2.fCode), (vI v2.2.fIndex)])) :: (.v (.agg [(vI v1.2.fCode), (vI v1.2.fIndex)])) :: (.v (.agg [(vI 0), (vI 0)])) :: (dB ((((v1.2.fCode == 0) && ((v1.2.fIndex == 0) && true))))) :: (dB ((((v1.2.fCode == 0) && ((v1.2.fIndex == 0) && true))))) :: u11 [], [(.cells [(.v (eGz v1.1.fRoot))]), (.cells [(dI v1.2.fCode), (dI v1.2.fIndex)]), (.cells [(dI v2.2.fCode), (dI v2.2.fIndex)])]⟩ (by kernel_rfl) (G9g4 (((v1.2.fCode == 0) && ((v1.2.fIndex == 0) && true))) h)

/-! ### 30 glosswright/glosswrightref5.fault -/
def f30 (m : Nat) (a0 : Int) (a1 : Int) : Option S27 :=
  some ((⟨a0, a1⟩ : S27))
noncomputable abbrev X30 (n : Nat) : Cx := cxOf Proofs.Tryd.prog EG 30 n
noncomputable def C30 : Code := bodyOf Proofs.Tryd.prog 30
theorem ok30 (m : Nat) (a0 : Int) (a1 : Int) (o : S27) (h : f30 m a0 a1 = some o) (n : Nat) (hn : m + 1 ≤ n) : Fn Proofs.Tryd.prog EG n 30 [.v (eI a0), .v (eI a1)] (e27 o) := by
  obtain ⟨n, rfl⟩ : ∃ q, n = q + 1 := ⟨n - 1, by omega⟩
  unfold f30 at h
  refine Fn.of (by kernel_rfl) (by kernel_rfl) (by kernel_rfl) ⟨(dI a0) :: (dI a1) :: u6 [], []⟩ (by kernel_rfl) ?_
  refine Wp.seq' (by kernel_rfl) ?_
  refine Wp.region (by kernel_rfl) ?_
  refine Ops.seg' 1 1 (by kernel_rfl) ?_
  refine Ops.done (by kernel_rfl) ?_
  refine seqQ.n ?_
  refine Wp.seq' (by kernel_rfl) ?_
  refine Wp.region (by kernel_rfl) ?_
  refine Ops.seg' 4 4 (by kernel_rfl) ?_
  refine Ops.done (by kernel_rfl) ?_
  refine seqQ.n ?_
  refine Wp.ret (by kernel_rfl) ?_
  exact fnQ.r' (X30 n) (fun z => (e27 z)) h (RetOk.mk' (.v (.agg [(vI a0), (vI a1)])) (by kernel_rfl) (by kernel_rfl))

/-! ### 40 glosswright/glosswrightref5.Scalar -/
def f40_r1 (m : Nat) (v17 : Bool) : Option Bool :=
  some v17
def f40_r2 (m : Nat) (a0 : Int) (v6 : Bool) : Option Bool :=
  f40_r1 m ((v6 || (((decide (a0 > 57343)) && (decide (a0 ≤ 1114111))))))
def f40 (m : Nat) (a0 : Int) : Option Bool :=
  f40_r2 m a0 (((decide (a0 ≥ 0)) && (decide (a0 < 55296))))
noncomputable abbrev X40 (n : Nat) : Cx := cxOf Proofs.Tryd.prog EG 40 n
noncomputable def C40 : Code := bodyOf Proofs.Tryd.prog 40
theorem ok40 (m : Nat) (a0 : Int) (o : Bool) (h : f40 m a0 = some o) (n : Nat) (hn : m + 1 ≤ n) : Fn Proofs.Tryd.prog EG n 40 [.v (eI a0)] (eB o) := by
  obtain ⟨n, rfl⟩ : ∃ q, n = q + 1 := ⟨n - 1, by omega⟩
  unfold f40 at h
  refine Fn.of (by kernel_rfl) (by kernel_rfl) (by kernel_rfl) ⟨(dI a0) :: u16 [], []⟩ (by kernel_rfl) ?_
  refine Wp.seq' (by kernel_rfl) ?_
  refine Wp.region (by kernel_rfl) ?_
  refine Ops.seg' 1 1 (by kernel_rfl) ?_
  refine Ops.done (by kernel_rfl) ?_
  refine seqQ.n ?_
  refine Wp.seq' (by kernel_rfl) ?_
  refine Wp.region (by kernel_rfl) ?_
  refine Ops.seg' 3 3 (by kernel_rfl) ?_
  have J40j7 : ∀ (d3 d4 : D) (v5 : Bool) (v6 : Bool), f40_r2 m a0 v6 = some o → Ops (X40 n) (opl (cL (cR C40))) 6 ⟨(dI a0) :: u1 ((dB false) :: (dI a0) :: (dB v5) :: (dB v5) :: d3 :: d4 :: (dB v6) :: u8 []), []⟩ ((seqQ (X40 n) (cR (cR C40)) (fnQ (X40 n).E.T (resOf Proofs.Tryd.prog 40) (eB o))) .normal) := by
    intro d3 d4 v5 v6 h
    unfold f40_r2 at h
    refine Ops.seg' 1 7 (by kernel_rfl) ?_
    have J40j18 : ∀ (d10 d11 d12 d13 d14 d15 : D) (v16 : Bool) (v17 : Bool), f40_r1 m v17 = some o → Ops (X40 n) (opl (cL (cR C40))) 14 ⟨(dI a0) :: u1 ((dB false) :: (dI a0) :: (dB v5) :: (dB v5) :: d3 :: d4 :: (dB v16) :: (dB v16) :: d10 :: d11 :: d12 :: d13 :: d14 :: d15 :: (dB v17) :: []), []⟩ ((seqQ (X40 n) (cR (cR C40)) (fnQ (X40 n).E.T (resOf Proofs.Tryd.prog 40) (eB o))) .normal) := by
      intro d10 d11 d12 d13 d14 d15 v16 v17 h
      unfold f40_r1 at h
      refine Ops.seg' 1 15 (by kernel_rfl) ?_
      refine Ops.done (by kernel_rfl) ?_
      refine seqQ.n ?_
      refine Wp.ret (by kernel_rfl) ?_
      exact fnQ.r' (X40 n) (fun z => (eB z)) h (RetOk.mk' (dB v17) (by kernel_rfl) (by kernel_rfl))
    have G40g9 : ∀ v8 : Bool, f40_r1 m ((v8 || (((decide (a0 > 57343)) && (decide (a0 ≤ 1114111)))))) = some o → Ops (X40 n) (opl (cL (cR C40))) 7 ⟨(dI a0) :: u1 ((dB false) :: (dI a0) :: (dB v5) :: (dB v5) :: d3 :: d4 :: (dB v8) :: (dB v8) :: u7 []), []⟩ ((seqQ (X40 n) (cR (cR C40)) (fnQ (X40 n).E.T (resOf Proofs.Tryd.prog 40) (eB o))) .normal) := by
      intro v8 h
      cases v8
      · refine Ops.seg' 3 10 (by kernel_rfl) ?_
        have G40g20 : ∀ v19 : Bool, (f40_r1 m ((false || ((v19 && (decide (a0 ≤ 1114111))))))) = some o → Ops (X40 n) (opl (cL (cR C40))) 10 ⟨(dI a0) :: u1 ((dB false) :: (dI a0) :: (dB v5) :: (dB v5) :: d3 :: d4 :: (dB false) :: (dB false) :: (dI a0) :: (dB v19) :: (dB v19) :: u4 []), []⟩ ((seqQ (X40 n) (cR (cR C40)) (fnQ (X40 n).E.T (resOf Proofs.Tryd.prog 40) (eB o))) .normal) := by
          intro v19 h
          cases v19
          · refine Ops.seg' 4 14 (by kernel_rfl) ?_
            refine Ops.st ⟨(dI a0) :: u1 ((dB false) :: (dI a0) :: (dB v5) :: (dB v5) :: d3 :: d4 :: (dB false) :: (dB false) :: (dI a0) :: (dB false) :: (dB false) :: u2 ((dB false) :: (dB false) :: [])), []⟩ (by kernel_rfl) ?_
            exact J40j18 _ _ _ _ _ _ _ _ h
          · refine Ops.seg' 4 14 (by kernel_rfl) ?_
            refine Ops.st ⟨(dI a0) :: u1 ((dB false) :: (dI a0) :: (dB v5) :: (dB v5) :: d3 :: d4 :: (dB false) :: (dB false) :: (dI a0) :: (dB true) :: (dB true) :: (dI a0) :: (dB (decide (a0 ≤ 1114111))) :: (dB (decide (a0 ≤ 1114111))) :: (dB (decide (a0 ≤ 1114111))) :: []), []⟩ (by kernel_rfl) ?_
            exact J40j18 _ _ _ _ _ _ _ _ h
        exact Ops.st ⟨(dI a0) :: u1 ((dB false) :: (dI a0) :: (dB v5) :: (dB v5) :: d3 :: d4 :: (dB false) :: (dB false) :: (dI a0) :: (dB ((decide (a0 > 57343)))) :: (dB ((decide (a0 > 57343)))) :: u4 []), []⟩ (by kernel_rfl) (G40g20 (decide (a0 > 57343)) h)
      · refine Ops.seg' 7 14 (by kernel_rfl) ?_
        refine Ops.st ⟨(dI a0) :: u1 ((dB false) :: (dI a0) :: (dB v5) :: (dB v5) :: d3 :: d4 :: (dB true) :: (dB true) :: u6 ((dB true) :: [])), []⟩ (by kernel_rfl) ?_
        exact J40j18 _ _ _ _ _ _ _ _ h
    exact Ops.st ⟨(dI a0) :: u1 ((dB false) :: (dI a0) :: (dB v5) :: (dB v5) :: d3 :: d4 :: (dB v6) :: (dB v6) :: u7 []), []⟩ (by kernel_rfl) (G40g9 v6 h)
  have G40g2 : ∀ v1 : Bool, f40_r2 m a0 ((v1 && (decide (a0 < 55296)))) = some o → Ops (X40 n) (opl (cL (cR C40))) 3 ⟨(dI a0) :: u1 ((dB false) :: (dI a0) :: (dB v1) :: (dB v1) :: u11 []), []⟩ ((seqQ (X40 n) (cR (cR C40)) (fnQ (X40 n).E.T (resOf Proofs.Tryd.prog 40) (eB o))) .normal) := by
    intro v1 h
    cases v1
    · refine Ops.seg' 3 6 (by kernel_rfl) ?_
      refine Ops.st ⟨(dI a0) :: u1 ((dB false) :: (dI a0) :: (dB false) :: (dB false) :: u2 ((dB false) :: u8 [])), []⟩ (by kernel_rfl) ?_
      exact J40j7 _ _ _ _ h
    · refine Ops.seg' 3 6 (by kernel_rfl) ?_
      refine Ops.st ⟨(dI a0) :: u1 ((dB false) :: (dI a0) :: (dB true) :: (dB true) :: (dI a0) :: (dB (decide (a0 < 55296))) :: (dB (decide (a0 < 55296))) :: u8 []), []⟩ (by kernel_rfl) ?_
      exact J40j7 _ _ _ _ h
  exact Ops.st ⟨(dI a0) :: u1 ((dB false) :: (dI a0) :: (dB ((decide (a0 ≥ 0)))) :: (dB ((decide (a0 ≥ 0)))) :: u11 []), []⟩ (by kernel_rfl) (G40g2 (decide (a0 ≥ 0)) h)

/-! ### 32 glosswright/glosswrightref5.Width -/
def f32 (m : Nat) (a0 : Int) : Option Int :=
  cnd (decide (a0 < 128))
  (some 1)
  (cnd (decide (a0 < 2048))
  (some 2)
  (cnd (decide (a0 < 65536))
  (some 3)
  (some 4)))
noncomputable abbrev X32 (n : Nat) : Cx := cxOf Proofs.Tryd.prog EG 32 n
noncomputable def C32 : Code := bodyOf Proofs.Tryd.prog 32
theorem ok32 (m : Nat) (a0 : Int) (o : Int) (h : f32 m a0 = some o) (n : Nat) (hn : m + 1 ≤ n) : Fn Proofs.Tryd.prog EG n 32 [.v (eI a0)] (eI o) := by
  obtain ⟨n, rfl⟩ : ∃ q, n = q + 1 := ⟨n - 1, by omega⟩
  unfold f32 at h
  refine Fn.of (by kernel_rfl) (by kernel_rfl) (by kernel_rfl) ⟨(dI a0) :: u8 [], []⟩ (by kernel_rfl) ?_
  refine Wp.seq' (by kernel_rfl) ?_
  refine Wp.region (by kernel_rfl) ?_
  refine Ops.seg' 1 1 (by kernel_rfl) ?_
  refine Ops.done (by kernel_rfl) ?_
  refine seqQ.n ?_
  refine Wp.seq' (by kernel_rfl) ?_
  refine Wp.seq' (by kernel_rfl) ?_
  refine Wp.region (by kernel_rfl) ?_
  refine Ops.seg' 2 2 (by kernel_rfl) ?_
  refine Ops.done (by kernel_rfl) ?_
  refine seqQ.n ?_
  refine Wp.cnd h [0, 2] 0 (by kernel_rfl) (fun h => ?_) (fun h => ?_)
  · refine Wp.seq' (by kernel_rfl) ?_
    refine Wp.region (by kernel_rfl) ?_
    refine Ops.seg' 1 1 (by kernel_rfl) ?_
    refine Ops.done (by kernel_rfl) ?_
    refine seqQ.n ?_
    refine Wp.ret (by kernel_rfl) ?_
    refine sqQ.r ?_
    refine seqQ.r ?_
    exact fnQ.r' (X32 n) (fun z => (eI z)) h (RetOk.mk' (dI 1) (by kernel_rfl) (by kernel_rfl))
  · refine Wp.skip (by kernel_rfl) ?_
    refine sqQ.n' ?_
    refine seqQ.n ?_
    refine Wp.seq' (by kernel_rfl) ?_
    refine Wp.seq' (by kernel_rfl) ?_
    refine Wp.region (by kernel_rfl) ?_
    refine Ops.seg' 2 2 (by kernel_rfl) ?_
    refine Ops.done (by kernel_rfl) ?_
    refine seqQ.n ?_
    refine Wp.cnd h [0, 2] 0 (by kernel_rfl) (fun h => ?_) (fun h => ?_)
    · refine Wp.seq' (by kernel_rfl) ?_
      refine Wp.region (by kernel_rfl) ?_
      refine Ops.seg' 1 1 (by kernel_rfl) ?_
      refine Ops.done (by kernel_rfl) ?_
      refine seqQ.n ?_
      refine Wp.ret (by kernel_rfl) ?_
      refine sqQ.r ?_
      refine seqQ.r ?_
      exact fnQ.r' (X32 n) (fun z => (eI z)) h (RetOk.mk' (dI 2) (by kernel_rfl) (by kernel_rfl))
    · refine Wp.skip (by kernel_rfl) ?_
      refine sqQ.n' ?_
      refine seqQ.n ?_
      refine Wp.seq' (by kernel_rfl) ?_
      refine Wp.seq' (by kernel_rfl) ?_
      refine Wp.region (by kernel_rfl) ?_
      refine Ops.seg' 2 2 (by kernel_rfl) ?_
      refine Ops.done (by kernel_rfl) ?_
      refine seqQ.n ?_
      refine Wp.cnd h [2] 0 (by kernel_rfl) (fun h => ?_) (fun h => ?_)
      · refine Wp.seq' (by kernel_rfl) ?_
        refine Wp.region (by kernel_rfl) ?_
        refine Ops.seg' 1 1 (by kernel_rfl) ?_
        refine Ops.done (by kernel_rfl) ?_
        refine seqQ.n ?_
        refine Wp.ret (by kernel_rfl) ?_
        refine sqQ.r ?_
        refine seqQ.r ?_
        exact fnQ.r' (X32 n) (fun z => (eI z)) h (RetOk.mk' (dI 3) (by kernel_rfl) (by kernel_rfl))
      · refine Wp.skip (by kernel_rfl) ?_
        refine sqQ.n' ?_
        refine seqQ.n ?_
        refine Wp.seq' (by kernel_rfl) ?_
        refine Wp.region (by kernel_rfl) ?_
        refine Ops.seg' 1 1 (by kernel_rfl) ?_
        refine Ops.done (by kernel_rfl) ?_
        refine seqQ.n ?_
        refine Wp.ret (by kernel_rfl) ?_
        exact fnQ.r' (X32 n) (fun z => (eI z)) h (RetOk.mk' (dI 4) (by kernel_rfl) (by kernel_rfl))

/-! ### 31 glosswright/glosswrightref5.one -/
def f31_r1 (m : Nat) (v35 : Int) (v36 : Int) (v46 : Int) (v52 : Bool) : Option (Stp Int (Int × Int)) :=
  cnd v52
  (some (.ret ((-1))))
  (some (.nxt (w64 (w64 (w64 (v35 * 64) + w64 v46) - 128), w64 (v36 + 1))))
def f31_B2 (m : Nat) (a0 : ByteArray) (a1 : Int) (v2 : Int) (v35 : Int) (v36 : Int) : Option (Stp Int (Int × Int)) :=
  cnd (decide (v36 < v2))
  (bnd (sidx a0 (w64 (a1 + v36))) fun v46 =>
  f31_r1 m v35 v36 v46 (((decide (w64 v46 < 128)) || (decide (w64 v46 > 191)))))
  (some (.brk (v35, v36)))
def f31_r3 (m : Nat) (y55 : Int × Int) (v65 : Bool) : Option Int :=
  cnd v65
  (some ((-1)))
  (some y55.1)
def f31_j4 (m : Nat) (a0 : ByteArray) (a1 : Int) (v2 : Int) (v3 : Int) : Option Int :=
  cnd (decide (w64 (a1 + v2) > (a0.size : Int)))
  (some ((-1)))
  (brk (iter (fun (y : Int × Int) => f31_B2 m a0 a1 v2 y.1 y.2) m (v3, 1)) some fun y55 =>
  bnd (f40 m y55.1) fun v57 =>
  bnd (cnd (!v57)
  (some true)
  (bnd (f32 m y55.1) fun v67 =>
  some (v67 != v2))) fun v65 =>
  f31_r3 m y55 v65)
def f31_j5 (m : Nat) (a0 : ByteArray) (a1 : Int) (v68 : Int) (v69 : Int) : Option Int :=
  f31_j4 m a0 a1 v68 v69
def f31_j6 (m : Nat) (a0 : ByteArray) (a1 : Int) (v79 : Int) (v80 : Int) : Option Int :=
  f31_j5 m a0 a1 v79 v80
def f31 (m : Nat) (a0 : ByteArray) (a1 : Int) : Option Int :=
  bnd (sidx a0 a1) fun v1 =>
  cnd (decide (w64 v1 ≥ 240))
  (f31_j4 m a0 a1 4 (w64 (w64 v1 - 240)))
  (cnd (decide (w64 v1 ≥ 224))
  (f31_j5 m a0 a1 3 (w64 (w64 v1 - 224)))
  (cnd (decide (w64 v1 ≥ 192))
  (f31_j6 m a0 a1 2 (w64 (w64 v1 - 192)))
  (cnd (decide (w64 v1 ≥ 128))
  (some ((-1)))
  (f31_j6 m a0 a1 1 (w64 v1)))))
noncomputable abbrev X31 (n : Nat) : Cx := cxOf Proofs.Tryd.prog EG 31 n
noncomputable def C31 : Code := bodyOf Proofs.Tryd.prog 31
theorem ok31 (m : Nat) (a0 : ByteArray) (a1 : Int) (o : Int) (h : f31 m a0 a1 = some o) (n : Nat) (hn : m + 2 ≤ n) : Fn Proofs.Tryd.prog EG n 31 [.v (eS a0), .v (eI a1)] (eI o) := by
  obtain ⟨n, rfl⟩ : ∃ q, n = q + 1 := ⟨n - 1, by omega⟩
  unfold f31 at h
  refine Fn.of (by kernel_rfl) (by kernel_rfl) (by kernel_rfl) ⟨(.v (.str a0)) :: (dI a1) :: u40 (u25 []), []⟩ (by kernel_rfl) ?_
  refine Wp.seq' (by kernel_rfl) ?_
  refine Wp.region (by kernel_rfl) ?_
  refine Ops.seg' 1 1 (by kernel_rfl) ?_
  refine Ops.done (by kernel_rfl) ?_
  refine seqQ.n ?_
  refine Wp.seq' (by kernel_rfl) ?_
  refine Wp.region (by kernel_rfl) ?_
  refine Ops.seg' 2 2 (by kernel_rfl) ?_
  obtain ⟨v1, ev1, h⟩ := bnd_some h
  refine Ops.one' 3 (fun h0 e0 => (str_ix (T := T) h0 9 a0 a1 v1 ev1 (by kernel_rfl))) (by kernel_rfl) (by kernel_rfl) ?_
  refine Ops.seg' 2 5 (by kernel_rfl) ?_
  refine Ops.done (by kernel_rfl) ?_
  refine seqQ.n ?_
  refine Wp.seq' (by kernel_rfl) ?_
  refine Wp.region (by kernel_rfl) ?_
  refine Ops.seg' 1 1 (by kernel_rfl) ?_
  refine Ops.done (by kernel_rfl) ?_
  refine seqQ.n ?_
  refine Wp.seq' (by kernel_rfl) ?_
  refine Wp.region (by kernel_rfl) ?_
  refine Ops.seg' 2 2 (by kernel_rfl) ?_
  refine Ops.done (by kernel_rfl) ?_
  refine seqQ.n ?_
  refine Wp.seq' (by kernel_rfl) ?_
  refine Wp.seq' (by kernel_rfl) ?_
  refine Wp.region (by kernel_rfl) ?_
  refine Ops.seg' 2 2 (by kernel_rfl) ?_
  refine Ops.done (by kernel_rfl) ?_
  refine seqQ.n ?_
  have J31j16 : ∀ (v2 : Int) (v3 : Int) (d4 : D) (d5 : D) (d6 : D) (d7 : D) (d8 : D) (d9 : D) (d10 : D) (d11 : D) (d12 : D) (d13 : D) (d14 : D) (d15 : D), f31_j4 m a0 a1 v2 v3 = some o → (seqQ (X31 n) (cR (cR (cR (cR (cR C31))))) (fnQ (X31 n).E.T (resOf Proofs.Tryd.prog 31) (eI o))) .normal ⟨(.v (.str a0)) :: (dI a1) :: u2 ((dI 0) :: (dI (w64 v1)) :: (dI v2) :: (dI v3) :: u2 ((.v (.str a0)) :: (dI a1) :: (.v (.int .u8 v1)) :: (dI (w64 v1)) :: (dI (w64 v1)) :: (dI (w64 v1)) :: (dB (decide (w64 v1 ≥ 240))) :: d4 :: d5 :: d6 :: d7 :: d8 :: d9 :: d10 :: d11 :: d12 :: d13 :: d14 :: d15 :: u38 [])), []⟩ := by
    intro v2 v3 d4 d5 d6 d7 d8 d9 d10 d11 d12 d13 d14 d15 h
    unfold f31_j4 at h
    refine seqQ.n ?_
    refine Wp.seq' (by kernel_rfl) ?_
    refine Wp.seq' (by kernel_rfl) ?_
    refine Wp.region (by kernel_rfl) ?_
    refine Ops.seg' 6 6 (by kernel_rfl) ?_
    refine Ops.done (by kernel_rfl) ?_
    refine seqQ.n ?_
    refine Wp.cnd h [0, 1, 4, 6, 7] 0 (by kernel_rfl) (fun h => ?_) (fun h => ?_)
    · refine Wp.seq' (by kernel_rfl) ?_
      refine Wp.region (by kernel_rfl) ?_
      refine Ops.seg' 1 1 (by kernel_rfl) ?_
      refine Ops.done (by kernel_rfl) ?_
      refine seqQ.n ?_
      refine Wp.ret (by kernel_rfl) ?_
      refine sqQ.r ?_
      refine seqQ.r ?_
      exact fnQ.r' (X31 n) (fun z => (eI z)) h (RetOk.mk' (dI ((-1))) (by kernel_rfl) (by kernel_rfl))
    · refine Wp.skip (by kernel_rfl) ?_
      refine sqQ.n' ?_
      refine seqQ.n ?_
      refine Wp.seq' (by kernel_rfl) ?_
      refine Wp.seq' (by kernel_rfl) ?_
      refine Wp.region (by kernel_rfl) ?_
      refine Ops.seg' 1 1 (by kernel_rfl) ?_
      refine Ops.done (by kernel_rfl) ?_
      refine seqQ.n ?_
      refine Wp.block' 0 [4, 6, 7] 0 (by kernel_rfl) ?_
      have hLx54 : ∀ (kx38 : Nat) (v35 : Int) (v36 : Int)  (ox37 : Int ⊕ (Int × Int)), iter (fun (y : Int × Int) => f31_B2 m a0 a1 v2 y.1 y.2) kx38 (v35, v36) = some ox37 → ∀ nx39, kx38 ≤ nx39 → (∀ r, ox37 = .inl r → ∀ σ, RetOk (X31 n) (resOf Proofs.Tryd.prog 31) (eI r) σ → (seqQ (X31 n) (cR (cR (cR (cR (cR (cR (cR C31))))))) (fnQ (X31 n).E.T (resOf Proofs.Tryd.prog 31) (eI o))) .ret σ) → (∀ (y : Int × Int) , ox37 = .inr y → (seqQ (X31 n) (cR (cR (cR (cR (cR (cR (cR C31))))))) (fnQ (X31 n).E.T (resOf Proofs.Tryd.prog 31) (eI o))) .normal ⟨(.v (.str a0)) :: (dI a1) :: q2 ((dI 0) :: q1 ((dI v2) :: (dI y.1) :: (dI y.2) :: q40 (q18 []))), []⟩) → Lp (X31 n) [0, 1, 4, 6, 7, 8] 0 (cL (cL (cR (cL (cR (cR (cR (cR (cR (cR C31)))))))))) nx39 ⟨(.v (.str a0)) :: (dI a1) :: q2 ((dI 0) :: q1 ((dI v2) :: (dI v35) :: (dI v36) :: q40 (q18 []))), []⟩ (blkQ (X31 n) 0 [4, 6, 7] 0 (seqQ (X31 n) (cR (cR (cR (cR (cR (cR (cR C31))))))) (fnQ (X31 n).E.T (resOf Proofs.Tryd.prog 31) (eI o)))) := by
        intro kx38
        induction kx38 with
        | zero => intro v35 v36  ox37 h; exact (iter_zero h).elim
        | succ kx38 ihx40 =>
          intro v35 v36  ox37 h nx39 hnx43 hrx41 hxx42
          obtain ⟨nx39, rfl⟩ : ∃ q, nx39 = q + 1 := ⟨nx39 - 1, by omega⟩
          obtain ⟨sx44, h, hsx45⟩ := iter_some h
          have h : f31_B2 m a0 a1 v2 v35 v36 = some sx44 := h
          unfold f31_B2 at h
          refine Lp.succ ?_
          refine Wp.seq' (by kernel_rfl) ?_
          refine Wp.seq' (by kernel_rfl) ?_
          refine Wp.region (by kernel_rfl) ?_
          refine Ops.seg' 3 3 (by kernel_rfl) ?_
          refine Ops.done (by kernel_rfl) ?_
          refine seqQ.n ?_
          refine Wp.cnd h [0, 1, 4, 6, 7, 8] 0 (by kernel_rfl) (fun h => ?_) (fun h => ?_)
          · refine Wp.skip (by kernel_rfl) ?_
            refine sqQ.n' ?_
            refine seqQ.n ?_
            refine Wp.seq' (by kernel_rfl) ?_
            refine Wp.block' 1 [0, 1, 4, 6, 7, 8] 0 (by kernel_rfl) ?_
            refine Wp.seq' (by kernel_rfl) ?_
            refine Wp.region (by kernel_rfl) ?_
            refine Ops.seg' 4 4 (by kernel_rfl) ?_
            obtain ⟨v46, ev46, h⟩ := bnd_some h
            refine Ops.one' 5 (fun h0 e0 => (str_ix (T := T) h0 9 a0 (w64 (a1 + v36)) v46 ev46 (by kernel_rfl))) (by kernel_rfl) (by kernel_rfl) ?_
            refine Ops.seg' 2 7 (by kernel_rfl) ?_
            refine Ops.done (by kernel_rfl) ?_
            refine seqQ.n ?_
            refine Wp.seq' (by kernel_rfl) ?_
            refine Wp.seq' (by kernel_rfl) ?_
            refine Wp.region (by kernel_rfl) ?_
            refine Ops.seg' 3 3 (by kernel_rfl) ?_
            have J31j53 : ∀ (d49 d50 : D) (v51 : Bool) (v52 : Bool), f31_r1 m v35 v36 v46 v52 = some sx44 → Ops (X31 n) (opl (cL (cL (cR (cL (cL (cR (cL (cL (cR (cL (cR (cR (cR (cR (cR (cR C31))))))))))))))))) 6 ⟨(.v (.str a0)) :: (dI a1) :: q2 ((dI 0) :: q1 ((dI v2) :: (dI v35) :: (dI v36) :: (dI (w64 v46)) :: q25 ((dI v36) :: (dI v2) :: (dB (decide (v36 < v2))) :: q2 ((.v (.str a0)) :: (dI a1) :: (dI v36) :: (dI (w64 (a1 + v36))) :: (.v (.int .u8 v46)) :: (dI (w64 v46)) :: (dI (w64 v46)) :: (dB v51) :: (dB v51) :: d49 :: d50 :: (dB v52) :: q15 [])))), []⟩ ((seqQ (X31 n) (cR (cL (cR (cL (cL (cR (cL (cL (cR (cL (cR (cR (cR (cR (cR (cR C31)))))))))))))))) (seqQ (X31 n) (cR (cR (cL (cL (cR (cL (cL (cR (cL (cR (cR (cR (cR (cR (cR C31))))))))))))))) (blkQ (X31 n) 1 [0, 1, 4, 6, 7, 8] 0 (seqQ (X31 n) (cR (cR (cL (cL (cR (cL (cR (cR (cR (cR (cR (cR C31)))))))))))) (lpQ (X31 n) [0, 1, 4, 6, 7, 8] 0 (cL (cL (cR (cL (cR (cR (cR (cR (cR (cR C31)))))))))) nx39 (blkQ (X31 n) 0 [4, 6, 7] 0 (seqQ (X31 n) (cR (cR (cR (cR (cR (cR (cR C31))))))) (fnQ (X31 n).E.T (resOf Proofs.Tryd.prog 31) (eI o))))))))) .normal) := by
              intro d49 d50 v51 v52 h
              unfold f31_r1 at h
              refine Ops.done (by kernel_rfl) ?_
              refine seqQ.n ?_
              refine Wp.cnd h [0, 1, 4, 6, 7, 8, 9] 0 (by kernel_rfl) (fun h => ?_) (fun h => ?_)
              · refine Wp.seq' (by kernel_rfl) ?_
                refine Wp.region (by kernel_rfl) ?_
                refine Ops.seg' 1 1 (by kernel_rfl) ?_
                refine Ops.done (by kernel_rfl) ?_
                refine seqQ.n ?_
                refine Wp.ret (by kernel_rfl) ?_
                refine sqQ.r ?_
                refine seqQ.r ?_
                refine blkQ.r ?_
                refine seqQ.r ?_
                cases h
                refine lpQ.r ?_
                refine blkQ.r ?_
                exact hrx41 _ hsx45 _ (RetOk.forget [0, 1, 4, 6, 7, 8] (by kernel_rfl) (RetOk.mk' (dI ((-1))) (by kernel_rfl) (by kernel_rfl)))
              · refine Wp.skip (by kernel_rfl) ?_
                refine sqQ.n' ?_
                refine seqQ.n ?_
                refine Wp.region (by kernel_rfl) ?_
                refine Ops.seg' 6 6 (by kernel_rfl) ?_
                refine Ops.done (by kernel_rfl) ?_
                refine blkQ.n' ?_
                refine seqQ.n ?_
                refine Wp.region (by kernel_rfl) ?_
                refine Ops.seg' 3 3 (by kernel_rfl) ?_
                refine Ops.done (by kernel_rfl) ?_
                refine lpQ.n ⟨(.v (.str a0)) :: (dI a1) :: q2 ((dI 0) :: q1 ((dI v2) :: (dI (w64 (w64 (w64 (v35 * 64) + w64 v46) - 128))) :: (dI (w64 (v36 + 1))) :: q40 (q18 []))), []⟩ (by kernel_rfl) ?_
                cases h
                exact ihx40 (w64 (w64 (w64 (v35 * 64) + w64 v46) - 128)) (w64 (v36 + 1))  _ hsx45 _ (by omega) hrx41 hxx42
            have G31g48 : ∀ v47 : Bool, f31_r1 m v35 v36 v46 ((v47 || (decide (w64 v46 > 191)))) = some sx44 → Ops (X31 n) (opl (cL (cL (cR (cL (cL (cR (cL (cL (cR (cL (cR (cR (cR (cR (cR (cR C31))))))))))))))))) 3 ⟨(.v (.str a0)) :: (dI a1) :: q2 ((dI 0) :: q1 ((dI v2) :: (dI v35) :: (dI v36) :: (dI (w64 v46)) :: q25 ((dI v36) :: (dI v2) :: (dB (decide (v36 < v2))) :: q2 ((.v (.str a0)) :: (dI a1) :: (dI v36) :: (dI (w64 (a1 + v36))) :: (.v (.int .u8 v46)) :: (dI (w64 v46)) :: (dI (w64 v46)) :: (dB v47) :: (dB v47) :: q18 [])))), []⟩ ((seqQ (X31 n) (cR (cL (cR (cL (cL (cR (cL (cL (cR (cL (cR (cR (cR (cR (cR (cR C31)))))))))))))))) (seqQ (X31 n) (cR (cR (cL (cL (cR (cL (cL (cR (cL (cR (cR (cR (cR (cR (cR C31))))))))))))))) (blkQ (X31 n) 1 [0, 1, 4, 6, 7, 8] 0 (seqQ (X31 n) (cR (cR (cL (cL (cR (cL (cR (cR (cR (cR (cR (cR C31)))))))))))) (lpQ (X31 n) [0, 1, 4, 6, 7, 8] 0 (cL (cL (cR (cL (cR (cR (cR (cR (cR (cR C31)))))))))) nx39 (blkQ (X31 n) 0 [4, 6, 7] 0 (seqQ (X31 n) (cR (cR (cR (cR (cR (cR (cR C31))))))) (fnQ (X31 n).E.T (resOf Proofs.Tryd.prog 31) (eI o))))))))) .normal) := by
              intro v47 h
              cases v47
              · refine Ops.seg' 3 6 (by kernel_rfl) ?_
                refine Ops.st ⟨(.v (.str a0)) :: (dI a1) :: q2 ((dI 0) :: q1 ((dI v2) :: (dI v35) :: (dI v36) :: (dI (w64 v46)) :: q25 ((dI v36) :: (dI v2) :: (dB (decide (v36 < v2))) :: q2 ((.v (.str a0)) :: (dI a1) :: (dI v36) :: (dI (w64 (a1 + v36))) :: (.v (.int .u8 v46)) :: (dI (w64 v46)) :: (dI (w64 v46)) :: (dB false) :: (dB false) :: (dI (w64 v46)) :: (dB (decide (w64 v46 > 191))) :: (dB (decide (w64 v46 > 191))) :: q15 [])))), []⟩ (by kernel_rfl) ?_
                exact J31j53 _ _ _ _ h
              · refine Ops.seg' 3 6 (by kernel_rfl) ?_
                refine Ops.st ⟨(.v (.str a0)) :: (dI a1) :: q2 ((dI 0) :: q1 ((dI v2) :: (dI v35) :: (dI v36) :: (dI (w64 v46)) :: q25 ((dI v36) :: (dI v2) :: (dB (decide (v36 < v2))) :: q2 ((.v (.str a0)) :: (dI a1) :: (dI v36) :: (dI (w64 (a1 + v36))) :: (.v (.int .u8 v46)) :: (dI (w64 v46)) :: (dI (w64 v46)) :: (dB true) :: (dB true) :: u2 ((dB true) :: q15 []))))), []⟩ (by kernel_rfl) ?_
                exact J31j53 _ _ _ _ h
            exact Ops.st ⟨(.v (.str a0)) :: (dI a1) :: q2 ((dI 0) :: q1 ((dI v2) :: (dI v35) :: (dI v36) :: (dI (w64 v46)) :: q25 ((dI v36) :: (dI v2) :: (dB (decide (v36 < v2))) :: q2 ((.v (.str a0)) :: (dI a1) :: (dI v36) :: (dI (w64 (a1 + v36))) :: (.v (.int .u8 v46)) :: (dI (w64 v46)) :: (dI (w64 v46)) :: (dB ((decide (w64 v46 < 128)))) :: (dB ((decide (w64 v46 < 128)))) :: q18 [])))), []⟩ (by kernel_rfl) (G31g48 (decide (w64 v46 < 128)) h)
          · refine Wp.exit (id := 0) (by kernel_rfl) ?_
            refine sqQ.x ?_
            refine seqQ.x ?_
            cases h
            refine lpQ.x ?_
            refine blkQ.x ⟨(.v (.str a0)) :: (dI a1) :: q2 ((dI 0) :: q1 ((dI v2) :: (dI v35) :: (dI v36) :: q40 (q18 []))), []⟩ (by kernel_rfl) ?_
            exact hxx42 (v35, v36)  hsx45
      refine Wp.loop' [0, 1, 4, 6, 7, 8] 0 (by kernel_rfl) ⟨(.v (.str a0)) :: (dI a1) :: q2 ((dI 0) :: q1 ((dI v2) :: (dI v3) :: (dI 1) :: q40 (q18 []))), []⟩ (by kernel_rfl) ?_
      rcases brk_some h with ⟨r56, er56, h⟩ | ⟨y55, ey55, h⟩
      · refine hLx54 _ v3 1  _ er56 n (by omega) (fun r er σ hσ => ?_) (fun y  ey => by cases ey)
        cases er
        refine seqQ.r ?_
        exact fnQ.r' (X31 n) (fun z => (eI z)) h hσ
      · refine hLx54 _ v3 1  _ ey55 n (by omega) (fun r er => by cases er) (fun y  ey => ?_)
        cases ey
        refine seqQ.n ?_
        refine Wp.seq' (by kernel_rfl) ?_
        refine Wp.seq' (by kernel_rfl) ?_
        refine Wp.region (by kernel_rfl) ?_
        refine Ops.seg' 1 1 (by kernel_rfl) ?_
        obtain ⟨v57, ev57, h⟩ := bnd_some h
        refine Ops.one' 2 (fun h0 e0 => (call_ok (E' := EG) (h := h0) (by kernel_rfl) (Args.v (vI y55.1) (eI y55.1) (by kernel_rfl) Args.nil) (ok40 m y55.1 v57 ev57 n (by omega)))) (by kernel_rfl) (by kernel_rfl) ?_
        refine Ops.seg' 2 4 (by kernel_rfl) ?_
        have J31j66 : ∀ (d60 d61 d62 d63 : D) (v64 : Bool) (v65 : Bool), f31_r3 m y55 v65 = some o → Ops (X31 n) (opl (cL (cL (cR (cR (cR (cR (cR (cR (cR C31)))))))))) 9 ⟨(.v (.str a0)) :: (dI a1) :: q2 ((dI 0) :: q1 ((dI v2) :: (dI y55.1) :: (dI y55.2) :: q40 (q8 ((dI y55.1) :: (dB v57) :: (dB v64) :: (dB v64) :: d60 :: d61 :: d62 :: d63 :: (dB v65) :: q1 [])))), []⟩ ((seqQ (X31 n) (cR (cL (cR (cR (cR (cR (cR (cR (cR C31))))))))) (seqQ (X31 n) (cR (cR (cR (cR (cR (cR (cR (cR C31)))))))) (fnQ (X31 n).E.T (resOf Proofs.Tryd.prog 31) (eI o)))) .normal) := by
          intro d60 d61 d62 d63 v64 v65 h
          unfold f31_r3 at h
          refine Ops.done (by kernel_rfl) ?_
          refine seqQ.n ?_
          refine Wp.cnd h [4, 7] 0 (by kernel_rfl) (fun h => ?_) (fun h => ?_)
          · refine Wp.seq' (by kernel_rfl) ?_
            refine Wp.region (by kernel_rfl) ?_
            refine Ops.seg' 1 1 (by kernel_rfl) ?_
            refine Ops.done (by kernel_rfl) ?_
            refine seqQ.n ?_
            refine Wp.ret (by kernel_rfl) ?_
            refine sqQ.r ?_
            refine seqQ.r ?_
            exact fnQ.r' (X31 n) (fun z => (eI z)) h (RetOk.mk' (dI ((-1))) (by kernel_rfl) (by kernel_rfl))
          · refine Wp.skip (by kernel_rfl) ?_
            refine sqQ.n' ?_
            refine seqQ.n ?_
            refine Wp.seq' (by kernel_rfl) ?_
            refine Wp.region (by kernel_rfl) ?_
            refine Ops.seg' 2 2 (by kernel_rfl) ?_
            refine Ops.done (by kernel_rfl) ?_
            refine seqQ.n ?_
            refine Wp.ret (by kernel_rfl) ?_
            exact fnQ.r' (X31 n) (fun z => (eI z)) h (RetOk.mk' (dI y55.1) (by kernel_rfl) (by kernel_rfl))
        obtain ⟨v65, ev65, h⟩ := bnd_some h
        have G31g59 : ∀ v58 : Bool, (cnd v58 (some true) (bnd (f32 m y55.1) fun v67 => some (v67 != v2))) = some v65 → Ops (X31 n) (opl (cL (cL (cR (cR (cR (cR (cR (cR (cR C31)))))))))) 4 ⟨(.v (.str a0)) :: (dI a1) :: q2 ((dI 0) :: q1 ((dI v2) :: (dI y55.1) :: (dI y55.2) :: q40 (q8 ((dI y55.1) :: (dB v57) :: (dB v58) :: (dB v58) :: q6 [])))), []⟩ ((seqQ (X31 n) (cR (cL (cR (cR (cR (cR (cR (cR (cR C31))))))))) (seqQ (X31 n) (cR (cR (cR (cR (cR (cR (cR (cR C31)))))))) (fnQ (X31 n).E.T (resOf Proofs.Tryd.prog 31) (eI o)))) .normal) := by
          intro v58 ev65
          cases v58
          · have ev65 := cnd_f ev65
            refine Ops.seg' 1 5 (by kernel_rfl) ?_
            obtain ⟨v67, ev67, ev65⟩ := bnd_some ev65
            refine Ops.one' 6 (fun h0 e0 => (call_ok (E' := EG) (h := h0) (by kernel_rfl) (Args.v (vI y55.1) (eI y55.1) (by kernel_rfl) Args.nil) (ok32 m y55.1 v67 ev67 n (by omega)))) (by kernel_rfl) (by kernel_rfl) ?_
            refine Ops.seg' 3 9 (by kernel_rfl) ?_
            refine Ops.st ⟨(.v (.str a0)) :: (dI a1) :: q2 ((dI 0) :: q1 ((dI v2) :: (dI y55.1) :: (dI y55.2) :: q40 (q8 ((dI y55.1) :: (dB v57) :: (dB false) :: (dB false) :: (dI y55.1) :: (dI v67) :: (dI v2) :: (dB (v67 != v2)) :: (dB (v67 != v2)) :: q1 [])))), []⟩ (by kernel_rfl) ?_
            exact J31j66 _ _ _ _ _ _ (some_sub (fun v65 => f31_r3 m y55 v65 = some o) ev65 h)
          · have ev65 := cnd_t ev65
            refine Ops.seg' 5 9 (by kernel_rfl) ?_
            refine Ops.st ⟨(.v (.str a0)) :: (dI a1) :: q2 ((dI 0) :: q1 ((dI v2) :: (dI y55.1) :: (dI y55.2) :: q40 (q8 ((dI y55.1) :: (dB v57) :: (dB true) :: (dB true) :: u4 ((dB true) :: q1 []))))), []⟩ (by kernel_rfl) ?_
            exact J31j66 _ _ _ _ _ _ (some_sub (fun v65 => f31_r3 m y55 v65 = some o) ev65 h)
        exact Ops.st ⟨(.v (.str a0)) :: (dI a1) :: q2 ((dI 0) :: q1 ((dI v2) :: (dI y55.1) :: (dI y55.2) :: q40 (q8 ((dI y55.1) :: (dB v57) :: (dB ((!v57))) :: (dB ((!v57))) :: q6 [])))), []⟩ (by kernel_rfl) (G31g59 (!v57) ev65)
  refine Wp.cnd h [0, 1, 4, 6, 7] 0 (by kernel_rfl) (fun h => ?_) (fun h => ?_)
  · refine Wp.seq' (by kernel_rfl) ?_
    refine Wp.region (by kernel_rfl) ?_
    refine Ops.seg' 1 1 (by kernel_rfl) ?_
    refine Ops.done (by kernel_rfl) ?_
    refine seqQ.n ?_
    refine Wp.region (by kernel_rfl) ?_
    refine Ops.seg' 3 3 (by kernel_rfl) ?_
    refine Ops.done (by kernel_rfl) ?_
    refine sqQ.n ⟨(.v (.str a0)) :: (dI a1) :: u2 ((dI 0) :: (dI (w64 v1)) :: (dI 4) :: (dI (w64 (w64 v1 - 240))) :: u2 ((.v (.str a0)) :: (dI a1) :: (.v (.int .u8 v1)) :: (dI (w64 v1)) :: (dI (w64 v1)) :: (dI (w64 v1)) :: (dB (decide (w64 v1 ≥ 240))) :: (dI (w64 v1)) :: (dI (w64 (w64 v1 - 240))) :: u40 (u8 []))), []⟩ (by kernel_rfl) ?_
    exact J31j16 4 (w64 (w64 v1 - 240)) _ _ _ _ _ _ _ _ _ _ _ _ h
  · refine Wp.seq' (by kernel_rfl) ?_
    refine Wp.region (by kernel_rfl) ?_
    refine Ops.seg' 2 2 (by kernel_rfl) ?_
    refine Ops.done (by kernel_rfl) ?_
    refine seqQ.n ?_
    have J31j78 : ∀ (v68 : Int) (v69 : Int) (d70 : D) (d71 : D) (d72 : D) (d73 : D) (d74 : D) (d75 : D) (d76 : D) (d77 : D), f31_j5 m a0 a1 v68 v69 = some o → (sqQ (X31 n) [0, 1, 4, 6, 7] 0 (seqQ (X31 n) (cR (cR (cR (cR (cR C31))))) (fnQ (X31 n).E.T (resOf Proofs.Tryd.prog 31) (eI o)))) .normal ⟨(.v (.str a0)) :: (dI a1) :: u2 ((dI 0) :: (dI (w64 v1)) :: (dI v68) :: (dI v69) :: u2 ((.v (.str a0)) :: (dI a1) :: (.v (.int .u8 v1)) :: (dI (w64 v1)) :: (dI (w64 v1)) :: (dI (w64 v1)) :: (dB (decide (w64 v1 ≥ 240))) :: u2 ((dI (w64 v1)) :: (dB (decide (w64 v1 ≥ 224))) :: d70 :: d71 :: d72 :: d73 :: d74 :: d75 :: d76 :: d77 :: u38 []))), []⟩ := by
      intro v68 v69 d70 d71 d72 d73 d74 d75 d76 d77 h
      unfold f31_j5 at h
      refine sqQ.n ⟨(.v (.str a0)) :: (dI a1) :: u2 ((dI 0) :: (dI (w64 v1)) :: (dI v68) :: (dI v69) :: u2 ((.v (.str a0)) :: (dI a1) :: (.v (.int .u8 v1)) :: (dI (w64 v1)) :: (dI (w64 v1)) :: (dI (w64 v1)) :: (dB (decide (w64 v1 ≥ 240))) :: u2 ((dI (w64 v1)) :: (dB (decide (w64 v1 ≥ 224))) :: d70 :: d71 :: d72 :: d73 :: d74 :: d75 :: d76 :: d77 :: u38 []))), []⟩ (by kernel_rfl) ?_
      exact J31j16 v68 v69 _ _ _ _ _ _ _ _ _ _ _ _ h
    refine Wp.cnd h [0, 1, 4, 6, 7] 0 (by kernel_rfl) (fun h => ?_) (fun h => ?_)
    · refine Wp.seq' (by kernel_rfl) ?_
      refine Wp.region (by kernel_rfl) ?_
      refine Ops.seg' 1 1 (by kernel_rfl) ?_
      refine Ops.done (by kernel_rfl) ?_
      refine seqQ.n ?_
      refine Wp.region (by kernel_rfl) ?_
      refine Ops.seg' 3 3 (by kernel_rfl) ?_
      refine Ops.done (by kernel_rfl) ?_
      refine sqQ.n ⟨(.v (.str a0)) :: (dI a1) :: u2 ((dI 0) :: (dI (w64 v1)) :: (dI 3) :: (dI (w64 (w64 v1 - 224))) :: u2 ((.v (.str a0)) :: (dI a1) :: (.v (.int .u8 v1)) :: (dI (w64 v1)) :: (dI (w64 v1)) :: (dI (w64 v1)) :: (dB (decide (w64 v1 ≥ 240))) :: u2 ((dI (w64 v1)) :: (dB (decide (w64 v1 ≥ 224))) :: (dI (w64 v1)) :: (dI (w64 (w64 v1 - 224))) :: u40 (u4 [])))), []⟩ (by kernel_rfl) ?_
      exact J31j78 3 (w64 (w64 v1 - 224)) _ _ _ _ _ _ _ _ h
    · refine Wp.seq' (by kernel_rfl) ?_
      refine Wp.region (by kernel_rfl) ?_
      refine Ops.seg' 2 2 (by kernel_rfl) ?_
      refine Ops.done (by kernel_rfl) ?_
      refine seqQ.n ?_
      have J31j85 : ∀ (v79 : Int) (v80 : Int) (d81 : D) (d82 : D) (d83 : D) (d84 : D), f31_j6 m a0 a1 v79 v80 = some o → (sqQ (X31 n) [0, 1, 4, 6, 7] 0 (sqQ (X31 n) [0, 1, 4, 6, 7] 0 (seqQ (X31 n) (cR (cR (cR (cR (cR C31))))) (fnQ (X31 n).E.T (resOf Proofs.Tryd.prog 31) (eI o))))) .normal ⟨(.v (.str a0)) :: (dI a1) :: u2 ((dI 0) :: (dI (w64 v1)) :: (dI v79) :: (dI v80) :: u2 ((.v (.str a0)) :: (dI a1) :: (.v (.int .u8 v1)) :: (dI (w64 v1)) :: (dI (w64 v1)) :: (dI (w64 v1)) :: (dB (decide (w64 v1 ≥ 240))) :: u2 ((dI (w64 v1)) :: (dB (decide (w64 v1 ≥ 224))) :: u2 ((dI (w64 v1)) :: (dB (decide (w64 v1 ≥ 192))) :: d81 :: d82 :: d83 :: d84 :: u38 [])))), []⟩ := by
        intro v79 v80 d81 d82 d83 d84 h
        unfold f31_j6 at h
        refine sqQ.n ⟨(.v (.str a0)) :: (dI a1) :: u2 ((dI 0) :: (dI (w64 v1)) :: (dI v79) :: (dI v80) :: u2 ((.v (.str a0)) :: (dI a1) :: (.v (.int .u8 v1)) :: (dI (w64 v1)) :: (dI (w64 v1)) :: (dI (w64 v1)) :: (dB (decide (w64 v1 ≥ 240))) :: u2 ((dI (w64 v1)) :: (dB (decide (w64 v1 ≥ 224))) :: u2 ((dI (w64 v1)) :: (dB (decide (w64 v1 ≥ 192))) :: d81 :: d82 :: d83 :: d84 :: u38 [])))), []⟩ (by kernel_rfl) ?_
        exact J31j78 v79 v80 _ _ _ _ _ _ _ _ h
      refine Wp.cnd h [0, 1, 4, 6, 7] 0 (by kernel_rfl) (fun h => ?_) (fun h => ?_)
      · refine Wp.seq' (by kernel_rfl) ?_
        refine Wp.region (by kernel_rfl) ?_
        refine Ops.seg' 1 1 (by kernel_rfl) ?_
        refine Ops.done (by kernel_rfl) ?_
        refine seqQ.n ?_
        refine Wp.region (by kernel_rfl) ?_
        refine Ops.seg' 3 3 (by kernel_rfl) ?_
        refine Ops.done (by kernel_rfl) ?_
        refine sqQ.n ⟨(.v (.str a0)) :: (dI a1) :: u2 ((dI 0) :: (dI (w64 v1)) :: (dI 2) :: (dI (w64 (w64 v1 - 192))) :: u2 ((.v (.str a0)) :: (dI a1) :: (.v (.int .u8 v1)) :: (dI (w64 v1)) :: (dI (w64 v1)) :: (dI (w64 v1)) :: (dB (decide (w64 v1 ≥ 240))) :: u2 ((dI (w64 v1)) :: (dB (decide (w64 v1 ≥ 224))) :: u2 ((dI (w64 v1)) :: (dB (decide (w64 v1 ≥ 192))) :: (dI (w64 v1)) :: (dI (w64 (w64 v1 - 192))) :: u40 [])))), []⟩ (by kernel_rfl) ?_
        exact J31j85 2 (w64 (w64 v1 - 192)) _ _ _ _ h
      · refine Wp.seq' (by kernel_rfl) ?_
        refine Wp.region (by kernel_rfl) ?_
        refine Ops.seg' 2 2 (by kernel_rfl) ?_
        refine Ops.done (by kernel_rfl) ?_
        refine seqQ.n ?_
        refine Wp.cnd h [0, 1, 4, 6, 7] 0 (by kernel_rfl) (fun h => ?_) (fun h => ?_)
        · refine Wp.seq' (by kernel_rfl) ?_
          refine Wp.region (by kernel_rfl) ?_
          refine Ops.seg' 1 1 (by kernel_rfl) ?_
          refine Ops.done (by kernel_rfl) ?_
          refine seqQ.n ?_
          refine Wp.ret (by kernel_rfl) ?_
          refine sqQ.r ?_
          refine sqQ.r ?_
          refine sqQ.r ?_
          refine sqQ.r ?_
          refine seqQ.r ?_
          exact fnQ.r' (X31 n) (fun z => (eI z)) h (RetOk.mk' (dI ((-1))) (by kernel_rfl) (by kernel_rfl))
        · refine Wp.skip (by kernel_rfl) ?_
          refine sqQ.n' ?_
          refine sqQ.n ⟨(.v (.str a0)) :: (dI a1) :: u2 ((dI 0) :: (dI (w64 v1)) :: (dI 1) :: (dI (w64 v1)) :: u2 ((.v (.str a0)) :: (dI a1) :: (.v (.int .u8 v1)) :: (dI (w64 v1)) :: (dI (w64 v1)) :: (dI (w64 v1)) :: (dB (decide (w64 v1 ≥ 240))) :: u2 ((dI (w64 v1)) :: (dB (decide (w64 v1 ≥ 224))) :: u2 ((dI (w64 v1)) :: (dB (decide (w64 v1 ≥ 192))) :: u2 ((dI (w64 v1)) :: (dB (decide (w64 v1 ≥ 128))) :: u38 []))))), []⟩ (by kernel_rfl) ?_
          exact J31j85 1 (w64 v1) _ _ _ _ h

/-! ### 16 glosswright/glosswrightref5.Points -/
def f16_B1 (m : Nat) (a0 : ByteArray) (v12 : (List Int)) (v13 : Int) : Option (Stp (((List Int) × S27)) ((List Int) × Int)) :=
  cnd (decide (v13 < (a0.size : Int)))
  (bnd (f31 m a0 v13) fun v23 =>
  cnd (decide (v23 < 0))
  (bnd (f30 m 5 v13) fun v24 =>
  some (.ret (([], v24))))
  (bnd (app 8 v12 [v23]) fun v25 =>
  bnd (f32 m v23) fun v26 =>
  some (.nxt (v25, w64 (v13 + v26)))))
  (some (.brk (v12, v13)))
def f16 (m : Nat) (a0 : ByteArray) : Option ((List Int) × S27) :=
  cnd (decide ((a0.size : Int) > 4000))
  (bnd (f30 m 1 ((-1))) fun v1 =>
  some (([], v1)))
  (brk (iter (fun (y : (List Int) × Int) => f16_B1 m a0 y.1 y.2) m ([], 0)) some fun y28 =>
  some ((y28.1, (⟨0, 0⟩ : S27))))
noncomputable abbrev X16 (n : Nat) : Cx := cxOf Proofs.Tryd.prog EG 16 n
noncomputable def C16 : Code := bodyOf Proofs.Tryd.prog 16
theorem ok16 (m : Nat) (a0 : ByteArray) (o : ((List Int) × S27)) (h : f16 m a0 = some o) (n : Nat) (hn : m + 3 ≤ n) : Fn Proofs.Tryd.prog EG n 16 [.v (eS a0)] (.tuple [(eL eI) o.1, e27 o.2]) := by
  obtain ⟨n, rfl⟩ : ∃ q, n = q + 1 := ⟨n - 1, by omega⟩
  unfold f16 at h
  refine Fn.of (by kernel_rfl) (by kernel_rfl) (by kernel_rfl) ⟨(.v (.str a0)) :: u31 [], []⟩ (by kernel_rfl) ?_
  refine Wp.seq' (by kernel_rfl) ?_
  refine Wp.region (by kernel_rfl) ?_
  refine Ops.seg' 2 2 (by kernel_rfl) ?_
  refine Ops.done (by kernel_rfl) ?_
  refine seqQ.n ?_
  refine Wp.seq' (by kernel_rfl) ?_
  refine Wp.seq' (by kernel_rfl) ?_
  refine Wp.region (by kernel_rfl) ?_
  refine Ops.seg' 3 3 (by kernel_rfl) ?_
  refine Ops.done (by kernel_rfl) ?_
  refine seqQ.n ?_
  refine Wp.cnd h [0, 2, 3] 1 (by kernel_rfl) (fun h => ?_) (fun h => ?_)
  · refine Wp.seq' (by kernel_rfl) ?_
    refine Wp.region (by kernel_rfl) ?_
    obtain ⟨v1, ev1, h⟩ := bnd_some h
    refine Ops.one' 1 (fun h0 e0 => (call_ok (E' := EG) (h := h0) (by kernel_rfl) (Args.v (vI 1) (eI 1) (by kernel_rfl) (Args.v (vI ((-1))) (eI ((-1))) (by kernel_rfl) Args.nil)) (ok30 m 1 ((-1)) v1 ev1 n (by omega)))) (by kernel_rfl) (by kernel_rfl) ?_
    refine Ops.seg' 2 3 (by kernel_rfl) ?_
    refine Ops.done (by kernel_rfl) ?_
    refine seqQ.n ?_
    refine Wp.ret (by kernel_rfl) ?_
    refine sqQ.r ?_
    refine seqQ.r ?_
    exact fnQ.r' (X16 n) (fun z => (.tuple [(eL eI) z.1, e27 z.2])) h (RetOk.mk' (.v (.tuple [(.sl .nil (List.map eI [])), (.agg [(vI v1.fCode), (vI v1.fIndex)])])) (by kernel_rfl) (by kernel_rfl))
  · refine Wp.skip (by kernel_rfl) ?_
    refine sqQ.n' ?_
    refine seqQ.n ?_
    refine Wp.seq' (by kernel_rfl) ?_
    refine Wp.region (by kernel_rfl) ?_
    refine Ops.seg' 1 1 (by kernel_rfl) ?_
    refine Ops.done (by kernel_rfl) ?_
    refine seqQ.n ?_
    refine Wp.seq' (by kernel_rfl) ?_
    refine Wp.seq' (by kernel_rfl) ?_
    refine Wp.region (by kernel_rfl) ?_
    refine Ops.seg' 1 1 (by kernel_rfl) ?_
    refine Ops.done (by kernel_rfl) ?_
    refine seqQ.n ?_
    refine Wp.block' 0 [2, 3, 4] 2 (by kernel_rfl) ?_
    have hLx27 : ∀ (kx15 : Nat) (v12 : (List Int)) (v13 : Int)  (ox14 : ((List Int) × S27) ⊕ ((List Int) × Int)), iter (fun (y : (List Int) × Int) => f16_B1 m a0 y.1 y.2) kx15 (v12, v13) = some ox14 → ∀ nx16, kx15 ≤ nx16 → (∀ r, ox14 = .inl r → ∀ σ, RetOk (X16 n) (resOf Proofs.Tryd.prog 16) (.tuple [(eL eI) r.1, e27 r.2]) σ → (seqQ (X16 n) (cR (cR (cR (cR C16)))) (fnQ (X16 n).E.T (resOf Proofs.Tryd.prog 16) (.tuple [(eL eI) o.1, e27 o.2]))) .ret σ) → (∀ (y : (List Int) × Int) , ox14 = .inr y → (seqQ (X16 n) (cR (cR (cR (cR C16)))) (fnQ (X16 n).E.T (resOf Proofs.Tryd.prog 16) (.tuple [(eL eI) o.1, e27 o.2]))) .normal ⟨q2 ((.v (.sl .nil (List.map eI []))) :: (.ptr 0 0) :: (appD 2 (List.map eI y.1)) :: q27 []), [(.cells [(dI 0), (dI 0)]), .dead, (appO 1 (List.map eI y.1))]⟩) → Lp (X16 n) [0, 2, 3, 4, 5] 2 (cL (cL (cR (cL (cR (cR (cR C16))))))) nx16 ⟨(.v (.str a0)) :: q1 ((.v (.sl .nil (List.map eI []))) :: (.ptr 0 0) :: (appD 2 (List.map eI v12)) :: (dI v13) :: q26 []), [(.cells [(dI 0), (dI 0)]), .dead, (appO 1 (List.map eI v12))]⟩ (blkQ (X16 n) 0 [2, 3, 4] 2 (seqQ (X16 n) (cR (cR (cR (cR C16)))) (fnQ (X16 n).E.T (resOf Proofs.Tryd.prog 16) (.tuple [(eL eI) o.1, e27 o.2])))) := by
      intro kx15
      induction kx15 with
      | zero => intro v12 v13  ox14 h; exact (iter_zero h).elim
      | succ kx15 ihx17 =>
        intro v12 v13  ox14 h nx16 hnx20 hrx18 hxx19
        obtain ⟨nx16, rfl⟩ : ∃ q, nx16 = q + 1 := ⟨nx16 - 1, by omega⟩
        obtain ⟨sx21, h, hsx22⟩ := iter_some h
        have h : f16_B1 m a0 v12 v13 = some sx21 := h
        unfold f16_B1 at h
        refine Lp.succ ?_
        refine Wp.seq' (by kernel_rfl) ?_
        refine Wp.seq' (by kernel_rfl) ?_
        refine Wp.region (by kernel_rfl) ?_
        refine Ops.seg' 4 4 (by kernel_rfl) ?_
        refine Ops.done (by kernel_rfl) ?_
        refine seqQ.n ?_
        refine Wp.cnd h [0, 2, 3, 4, 5] 3 (by kernel_rfl) (fun h => ?_) (fun h => ?_)
        · refine Wp.skip (by kernel_rfl) ?_
          refine sqQ.n ⟨(.v (.str a0)) :: q1 ((.v (.sl .nil (List.map eI []))) :: (.ptr 0 0) :: (appD 3 (List.map eI v12)) :: (dI v13) :: q26 []), [(.cells [(dI 0), (dI 0)]), .dead, .dead, (appO 1 (List.map eI v12))]⟩ (by generalize v12 = z0; cases z0 <;> kernel_rfl) ?_
          refine seqQ.n ?_
          refine Wp.block' 1 [0, 2, 3, 4, 5] 4 (by kernel_rfl) ?_
          refine Wp.seq' (by kernel_rfl) ?_
          refine Wp.region (by kernel_rfl) ?_
          refine Ops.seg' 2 2 (by kernel_rfl) ?_
          obtain ⟨v23, ev23, h⟩ := bnd_some h
          refine Ops.one' 3 (fun h0 e0 => (call_ok (E' := EG) (h := h0) (by kernel_rfl) (Args.v (.str a0) (eS a0) (by kernel_rfl) (Args.v (vI v13) (eI v13) (by kernel_rfl) Args.nil)) (ok31 m a0 v13 v23 ev23 n (by omega)))) (by kernel_rfl) (by kernel_rfl) ?_
          refine Ops.seg' 1 4 (by kernel_rfl) ?_
          refine Ops.done (by kernel_rfl) ?_
          refine seqQ.n ?_
          refine Wp.seq' (by kernel_rfl) ?_
          refine Wp.seq' (by kernel_rfl) ?_
          refine Wp.region (by kernel_rfl) ?_
          refine Ops.seg' 2 2 (by kernel_rfl) ?_
          refine Ops.done (by kernel_rfl) ?_
          refine seqQ.n ?_
          refine Wp.cnd h [0, 2, 3, 4, 5, 6] 4 (by kernel_rfl) (fun h => ?_) (fun h => ?_)
          · refine Wp.seq' (by kernel_rfl) ?_
            refine Wp.region (by kernel_rfl) ?_
            refine Ops.seg' 1 1 (by kernel_rfl) ?_
            obtain ⟨v24, ev24, h⟩ := bnd_some h
            refine Ops.one' 2 (fun h0 e0 => (call_ok (E' := EG) (h := h0) (by kernel_rfl) (Args.v (vI 5) (eI 5) (by kernel_rfl) (Args.v (vI v13) (eI v13) (by kernel_rfl) Args.nil)) (ok30 m 5 v13 v24 ev24 n (by omega)))) (by kernel_rfl) (by kernel_rfl) ?_
            refine Ops.seg' 2 4 (by kernel_rfl) ?_
            refine Ops.done (by kernel_rfl) ?_
            refine seqQ.n ?_
            refine Wp.ret (by kernel_rfl) ?_
            refine sqQ.r ?_
            refine seqQ.r ?_
            refine blkQ.r ?_
            cases h
            refine lpQ.r ?_
            refine blkQ.r ?_
            exact hrx18 _ hsx22 _ (RetOk.forget [0, 2, 3, 4, 5] (by kernel_rfl) (RetOk.mk' (.v (.tuple [(.sl .nil (List.map eI [])), (.agg [(vI v24.fCode), (vI v24.fIndex)])])) (by kernel_rfl) (by kernel_rfl)))
          · refine Wp.skip (by kernel_rfl) ?_
            refine sqQ.n ⟨(.v (.str a0)) :: q1 ((.v (.sl .nil (List.map eI []))) :: (.ptr 0 0) :: (appD 4 (List.map eI v12)) :: (dI v13) :: (dI v23) :: q25 []), [(.cells [(dI 0), (dI 0)]), .dead, .dead, .dead, (appO 1 (List.map eI v12))]⟩ (by generalize v12 = z0; cases z0 <;> kernel_rfl) ?_
            refine seqQ.n ?_
            refine Wp.seq' (by kernel_rfl) ?_
            refine Wp.region (by kernel_rfl) ?_
            refine Ops.seg' 3 3 (by kernel_rfl) ?_
            obtain ⟨v25, ev25, h⟩ := bnd_some h
            refine Ops.one' 4 (fun h0 e0 => (app_r (T := T) (g := .nil) h0 41 3 4 1 ti3 .nonfull eI v12 [v23] v25 ev25 (by kernel_rfl) (by kernel_rfl) (by kernel_rfl) (by kernel_rfl) (fun _ => rfl) (hq_of e0 (by kernel_rfl)))) (by kernel_rfl) (by kernel_rfl) ?_
            refine Ops.seg' 1 5 (by kernel_rfl) ?_
            refine Ops.done (by kernel_rfl) ?_
            refine seqQ.n ?_
            refine Wp.region (by kernel_rfl) ?_
            refine Ops.seg' 2 2 (by kernel_rfl) ?_
            obtain ⟨v26, ev26, h⟩ := bnd_some h
            refine Ops.one' 3 (fun h0 e0 => (call_ok (E' := EG) (h := h0) (by kernel_rfl) (Args.v (vI v23) (eI v23) (by kernel_rfl) Args.nil) (ok32 m v23 v26 ev26 n (by omega)))) (by kernel_rfl) (by kernel_rfl) ?_
            refine Ops.seg' 2 5 (by kernel_rfl) ?_
            refine Ops.done (by kernel_rfl) ?_
            refine blkQ.n ⟨(.v (.str a0)) :: q1 ((.v (.sl .nil (List.map eI []))) :: (.ptr 0 0) :: (appD 4 (List.map eI v25)) :: (dI (w64 (v13 + v26))) :: q26 []), [(.cells [(dI 0), (dI 0)]), .dead, .dead, .dead, (appO 1 (List.map eI v25))]⟩ (by generalize v25 = z0; cases z0 <;> kernel_rfl) ?_
            refine lpQ.n ⟨(.v (.str a0)) :: q1 ((.v (.sl .nil (List.map eI []))) :: (.ptr 0 0) :: (appD 2 (List.map eI v25)) :: (dI (w64 (v13 + v26))) :: q26 []), [(.cells [(dI 0), (dI 0)]), .dead, (appO 1 (List.map eI v25))]⟩ (by generalize v25 = z0; cases z0 <;> kernel_rfl) ?_
            cases h
            exact ihx17 v25 (w64 (v13 + v26))  _ hsx22 _ (by omega) hrx18 hxx19
        · refine Wp.exit (id := 0) (by kernel_rfl) ?_
          refine sqQ.x ?_
          refine seqQ.x ?_
          cases h
          refine lpQ.x ?_
          refine blkQ.x ⟨q2 ((.v (.sl .nil (List.map eI []))) :: (.ptr 0 0) :: (appD 2 (List.map eI v12)) :: q27 []), [(.cells [(dI 0), (dI 0)]), .dead, (appO 1 (List.map eI v12))]⟩ (by generalize v12 = z0; cases z0 <;> kernel_rfl) ?_
          exact hxx19 (v12, v13)  hsx22
    refine Wp.loop' [0, 2, 3, 4, 5] 2 (by kernel_rfl) ⟨(.v (.str a0)) :: q1 ((.v (.sl .nil (List.map eI []))) :: (.ptr 0 0) :: (appD 2 (List.map eI [])) :: (dI 0) :: q26 []), [(.cells [(dI 0), (dI 0)]), .dead, .dead]⟩ (by kernel_rfl) ?_
    rcases brk_some h with ⟨r29, er29, h⟩ | ⟨y28, ey28, h⟩
    · refine hLx27 _ [] 0  _ er29 n (by omega) (fun r er σ hσ => ?_) (fun y  ey => by cases ey)
      cases er
      refine seqQ.r ?_
      exact fnQ.r' (X16 n) (fun z => (.tuple [(eL eI) z.1, e27 z.2])) h hσ
    · refine hLx27 _ [] 0  _ ey28 n (by omega) (fun r er => by cases er) (fun y  ey => ?_)
      cases ey
      refine seqQ.n ?_
      refine Wp.seq' (by kernel_rfl) ?_
      refine Wp.region (by kernel_rfl) ?_
      refine Ops.seg' 4 4 (by kernel_rfl) ?_
      refine Ops.done (by kernel_rfl) ?_
      refine seqQ.n ?_
      refine Wp.ret (by kernel_rfl) ?_
      exact fnQ.r' (X16 n) (fun z => (.tuple [(eL eI) z.1, e27 z.2])) h (RetOk.tup [(appD 2 (List.map eI y28.1)), (.v (.agg [(vI 0), (vI 0)]))] (by kernel_rfl) (.d (appD 2 (List.map eI y28.1)) _ (appD_frz _ _ _ _) (appF_nt _ _ _) (.v (.agg [(vI 0), (vI 0)]) _ (by kernel_rfl) (by kernel_rfl) .nil)))

/-! ### 13 glosswright/glosswrightref6.Word -/
def f13_B1 (m : Nat) (v65 : Int) (v69 : Int) : Option (Stp Bool (Int)) :=
  cnd (decide (v69 < (([0, 9, 10, 32, 40, 41, 91, 93, 44, 59]).length : Int)))
  (bnd (idx ([0, 9, 10, 32, 40, 41, 91, 93, 44, 59]) v69) fun v79 =>
  cnd (v65 == v79)
  (some (.ret false))
  (some (.nxt (w64 (v69 + 1)))))
  (some (.brk v69))
def f13_B2 (m : Nat) (v1 : ((List Int) × S27)) (v55 : Int) : Option (Stp Bool (Int)) :=
  cnd (decide (v55 < (v1.1.length : Int)))
  (bnd (idx v1.1 v55) fun v65 =>
  brk (iter (fun (y : Int) => f13_B1 m v65 y) m 0) (fun r => some (.ret r)) fun y81 =>
  cnd (decide (v65 ≥ 983040))
  (some (.ret false))
  (some (.nxt (w64 (v55 + 1)))))
  (some (.brk v55))
def f13_r3 (m : Nat) (v1 : ((List Int) × S27)) (v16 : Bool) : Option Bool :=
  cnd v16
  (some false)
  (brk (iter (fun (y : Int) => f13_B2 m v1 y) m 0) some fun y84 =>
  some true)
def f13_r4 (m : Nat) (v1 : ((List Int) × S27)) (v8 : Bool) : Option Bool :=
  f13_r3 m v1 ((v8 || (decide ((v1.1.length : Int) > 30))))
def f13 (m : Nat) (a0 : ByteArray) : Option Bool :=
  bnd (f16 m a0) fun v1 =>
  f13_r4 m v1 (((!((v1.2.fCode == 0) && ((v1.2.fIndex == 0) && true))) || (((v1.1.length : Int)) == 0)))
noncomputable abbrev X13 (n : Nat) : Cx := cxOf Proofs.Tryd.prog EG 13 n
noncomputable def C13 : Code := bodyOf Proofs.Tryd.prog 13
theorem ok13 (m : Nat) (a0 : ByteArray) (o : Bool) (h : f13 m a0 = some o) (n : Nat) (hn : m + 4 ≤ n) : Fn Proofs.Tryd.prog EG n 13 [.v (eS a0)] (eB o) := by
  obtain ⟨n, rfl⟩ : ∃ q, n = q + 1 := ⟨n - 1, by omega⟩
  unfold f13 at h
  refine Fn.of (by kernel_rfl) (by kernel_rfl) (by kernel_rfl) ⟨(.v (.str a0)) :: u40 (u5 []), []⟩ (by kernel_rfl) ?_
  refine Wp.seq' (by kernel_rfl) ?_
  refine Wp.region (by kernel_rfl) ?_
  refine Ops.seg' 1 1 (by kernel_rfl) ?_
  refine Ops.done (by kernel_rfl) ?_
  refine seqQ.n ?_
  refine Wp.seq' (by kernel_rfl) ?_
  refine Wp.region (by kernel_rfl) ?_
  refine Ops.seg' 1 1 (by kernel_rfl) ?_
  obtain ⟨v1, ev1, h⟩ := bnd_some h
  refine Ops.one' 2 (fun h0 e0 => (call_ok (E' := EG) (h := h0) (by kernel_rfl) (Args.v (.str a0) (eS a0) (by kernel_rfl) Args.nil) (ok16 m a0 v1 ev1 n (by omega)))) (by kernel_rfl) (by kernel_rfl) ?_
  refine Ops.seg' 6 8 (by kernel_rfl) ?_
  refine Ops.done (by kernel_rfl) ?_
  refine seqQ.n ?_
  refine Wp.seq' (by kernel_rfl) ?_
  refine Wp.seq' (by kernel_rfl) ?_
  refine Wp.region (by kernel_rfl) ?_
  refine Ops.seg' 4 4 (by kernel_rfl) ?_
  have J13j9 : ∀ (d4 d5 d6 : D) (v7 : Bool) (v8 : Bool), f13_r4 m v1 v8 = some o → Ops (X13 n) (opl (cL (cL (cR (cR C13))))) 8 ⟨(.v (.str a0)) :: u1 ((dB false) :: (dP eI v1.1) :: (.ptr 0 0) :: u4 ((.v (.tuple [(vP eI v1.1), (.agg [(vI v1.2.fCode), (vI v1.2.fIndex)])])) :: (.v (.str a0)) :: (.v (.tuple [(vP eI v1.1), (.agg [(vI v1.2.fCode), (vI v1.2.fIndex)])])) :: (dP eI v1.1) :: (.v (.agg [(vI v1.2.fCode), (vI v1.2.fIndex)])) :: (.v (.agg [(vI v1.2.fCode), (vI v1.2.fIndex)])) :: (.v (.agg [(vI 0), (vI 0)])) :: (dB v7) :: (dB v7) :: d4 :: d5 :: d6 :: (dB v8) :: u24 [])), [(.cells [(dI v1.2.fCode), (dI v1.2.fIndex)])]⟩ ((seqQ (X13 n) (cR (cL (cR (cR C13)))) (seqQ (X13 n) (cR (cR (cR C13))) (fnQ (X13 n).E.T (resOf Proofs.Tryd.prog 13) (eB o)))) .normal) := by
    intro d4 d5 d6 v7 v8 h
    unfold f13_r4 at h
    refine Ops.seg' 1 9 (by kernel_rfl) ?_
    have J13j17 : ∀ (d12 d13 d14 : D) (v15 : Bool) (v16 : Bool), f13_r3 m v1 v16 = some o → Ops (X13 n) (opl (cL (cL (cR (cR C13))))) 13 ⟨(.v (.str a0)) :: u1 ((dB false) :: (dP eI v1.1) :: (.ptr 0 0) :: u4 ((.v (.tuple [(vP eI v1.1), (.agg [(vI v1.2.fCode), (vI v1.2.fIndex)])])) :: (.v (.str a0)) :: (.v (.tuple [(vP eI v1.1), (.agg [(vI v1.2.fCode), (vI v1.2.fIndex)])])) :: (dP eI v1.1) :: (.v (.agg [(vI v1.2.fCode), (vI v1.2.fIndex)])) :: (.v (.agg [(vI v1.2.fCode), (vI v1.2.fIndex)])) :: (.v (.agg [(vI 0), (vI 0)])) :: (dB v7) :: (dB v7) :: d4 :: d5 :: d6 :: (dB v15) :: (dB v15) :: d12 :: d13 :: d14 :: (dB v16) :: u19 [])), [(.cells [(dI v1.2.fCode), (dI v1.2.fIndex)])]⟩ ((seqQ (X13 n) (cR (cL (cR (cR C13)))) (seqQ (X13 n) (cR (cR (cR C13))) (fnQ (X13 n).E.T (resOf Proofs.Tryd.prog 13) (eB o)))) .normal) := by
      intro d12 d13 d14 v15 v16 h
      unfold f13_r3 at h
      refine Ops.done (by kernel_rfl) ?_
      refine seqQ.n ?_
      refine Wp.cnd h [2, 3] 1 (by kernel_rfl) (fun h => ?_) (fun h => ?_)
      · refine Wp.seq' (by kernel_rfl) ?_
        refine Wp.region (by kernel_rfl) ?_
        refine Ops.seg' 1 1 (by kernel_rfl) ?_
        refine Ops.done (by kernel_rfl) ?_
        refine seqQ.n ?_
        refine Wp.ret (by kernel_rfl) ?_
        refine sqQ.r ?_
        refine seqQ.r ?_
        exact fnQ.r' (X13 n) (fun z => (eB z)) h (RetOk.mk' (dB false) (by kernel_rfl) (by kernel_rfl))
      · refine Wp.skip (by kernel_rfl) ?_
        refine sqQ.n' ?_
        refine seqQ.n ?_
        refine Wp.seq' (by kernel_rfl) ?_
        refine Wp.seq' (by kernel_rfl) ?_
        refine Wp.region (by kernel_rfl) ?_
        refine Ops.seg' 1 1 (by kernel_rfl) ?_
        refine Ops.one' 2 (fun h0 e0 => (len_r (T := T) h0 41 3 .plain eI v1.1 (by kernel_rfl))) (by kernel_rfl) (by kernel_rfl) ?_
        refine Ops.seg' 1 3 (by kernel_rfl) ?_
        refine Ops.done (by kernel_rfl) ?_
        refine seqQ.n ?_
        refine Wp.block' 0 [2] 1 (by kernel_rfl) ?_
        have hLx83 : ∀ (kx57 : Nat) (v55 : Int)  (ox56 : Bool ⊕ (Int)), iter (fun (y : Int) => f13_B2 m v1 y) kx57 v55 = some ox56 → ∀ nx58, kx57 ≤ nx58 → (∀ r, ox56 = .inl r → ∀ σ, RetOk (X13 n) (resOf Proofs.Tryd.prog 13) (eB r) σ → (seqQ (X13 n) (cR (cR (cR (cR C13)))) (fnQ (X13 n).E.T (resOf Proofs.Tryd.prog 13) (eB o))) .ret σ) → (∀ (y : Int) , ox56 = .inr y → (seqQ (X13 n) (cR (cR (cR (cR C13)))) (fnQ (X13 n).E.T (resOf Proofs.Tryd.prog 13) (eB o))) .normal ⟨q2 ((dB false) :: q24 ((dP eI v1.1) :: (dI ((v1.1.length : Int))) :: (dI y) :: q16 [])), [(.cells [(dI v1.2.fCode), (dI v1.2.fIndex)])]⟩) → Lp (X13 n) [2, 27, 28, 29] 1 (cL (cL (cR (cL (cR (cR (cR C13))))))) nx58 ⟨q2 ((dB false) :: q24 ((dP eI v1.1) :: (dI ((v1.1.length : Int))) :: (dI v55) :: q16 [])), [(.cells [(dI v1.2.fCode), (dI v1.2.fIndex)])]⟩ (blkQ (X13 n) 0 [2] 1 (seqQ (X13 n) (cR (cR (cR (cR C13)))) (fnQ (X13 n).E.T (resOf Proofs.Tryd.prog 13) (eB o)))) := by
          intro kx57
          induction kx57 with
          | zero => intro v55  ox56 h; exact (iter_zero h).elim
          | succ kx57 ihx59 =>
            intro v55  ox56 h nx58 hnx62 hrx60 hxx61
            obtain ⟨nx58, rfl⟩ : ∃ q, nx58 = q + 1 := ⟨nx58 - 1, by omega⟩
            obtain ⟨sx63, h, hsx64⟩ := iter_some h
            have h : f13_B2 m v1 v55 = some sx63 := h
            unfold f13_B2 at h
            refine Lp.succ ?_
            refine Wp.seq' (by kernel_rfl) ?_
            refine Wp.region (by kernel_rfl) ?_
            refine Ops.seg' 1 1 (by kernel_rfl) ?_
            refine Ops.done (by kernel_rfl) ?_
            refine seqQ.n ?_
            refine Wp.seq' (by kernel_rfl) ?_
            refine Wp.cnd h [2, 27, 28, 29] 1 (by kernel_rfl) (fun h => ?_) (fun h => ?_)
            · refine Wp.skip (by kernel_rfl) ?_
              refine sqQ.n' ?_
              refine seqQ.n ?_
              refine Wp.seq' (by kernel_rfl) ?_
              refine Wp.block' 1 [2, 27, 28, 29] 1 (by kernel_rfl) ?_
              refine Wp.seq' (by kernel_rfl) ?_
              refine Wp.region (by kernel_rfl) ?_
              obtain ⟨v65, ev65, h⟩ := bnd_some h
              refine Ops.one' 1 (fun h0 e0 => (ix_r (T := T) h0 41 3 1 .plain eI v1.1 v55 v65 ev65 (by kernel_rfl) (by kernel_rfl) (fun _ => rfl))) (by kernel_rfl) (by kernel_rfl) ?_
              refine Ops.seg' 2 3 (by kernel_rfl) ?_
              refine Ops.done (by kernel_rfl) ?_
              refine seqQ.n ?_
              refine Wp.seq' (by kernel_rfl) ?_
              refine Wp.seq' (by kernel_rfl) ?_
              refine Wp.region (by kernel_rfl) ?_
              refine Ops.seg' 1 1 (by kernel_rfl) ?_
              refine Ops.one' 2 (fun h0 e0 => (len_r (T := T) h0 41 3 .nonfull eI ([0, 9, 10, 32, 40, 41, 91, 93, 44, 59]) (by kernel_rfl))) (by kernel_rfl) (by kernel_rfl) ?_
              refine Ops.seg' 1 3 (by kernel_rfl) ?_
              refine Ops.done (by kernel_rfl) ?_
              refine seqQ.n ?_
              refine Wp.block' 2 [2, 6, 27, 28, 29] 1 (by kernel_rfl) ?_
              have hLx80 : ∀ (kx71 : Nat) (v69 : Int)  (ox70 : Bool ⊕ (Int)), iter (fun (y : Int) => f13_B1 m v65 y) kx71 v69 = some ox70 → ∀ nx72, kx71 ≤ nx72 → (∀ r, ox70 = .inl r → ∀ σ, RetOk (X13 n) (resOf Proofs.Tryd.prog 13) (eB r) σ → (seqQ (X13 n) (cR (cR (cL (cL (cR (cR (cL (cL (cR (cL (cR (cR (cR C13))))))))))))) (blkQ (X13 n) 1 [2, 27, 28, 29] 1 (seqQ (X13 n) (cR (cR (cR (cL (cL (cR (cL (cR (cR (cR C13)))))))))) (lpQ (X13 n) [2, 27, 28, 29] 1 (cL (cL (cR (cL (cR (cR (cR C13))))))) nx58 (blkQ (X13 n) 0 [2] 1 (seqQ (X13 n) (cR (cR (cR (cR C13)))) (fnQ (X13 n).E.T (resOf Proofs.Tryd.prog 13) (eB o)))))))) .ret σ) → (∀ (y : Int) , ox70 = .inr y → (seqQ (X13 n) (cR (cR (cL (cL (cR (cR (cL (cL (cR (cL (cR (cR (cR C13))))))))))))) (blkQ (X13 n) 1 [2, 27, 28, 29] 1 (seqQ (X13 n) (cR (cR (cR (cL (cL (cR (cL (cR (cR (cR C13)))))))))) (lpQ (X13 n) [2, 27, 28, 29] 1 (cL (cL (cR (cL (cR (cR (cR C13))))))) nx58 (blkQ (X13 n) 0 [2] 1 (seqQ (X13 n) (cR (cR (cR (cR C13)))) (fnQ (X13 n).E.T (resOf Proofs.Tryd.prog 13) (eB o)))))))) .normal ⟨q2 ((dB false) :: q3 ((dI v65) :: q20 ((dP eI v1.1) :: (dI ((v1.1.length : Int))) :: (dI v55) :: q3 ((.v (.sl .nonfull (List.map eI ([0, 9, 10, 32, 40, 41, 91, 93, 44, 59])))) :: (dI ((([0, 9, 10, 32, 40, 41, 91, 93, 44, 59]).length : Int))) :: (dI y) :: q10 [])))), [(.cells [(dI v1.2.fCode), (dI v1.2.fIndex)])]⟩) → Lp (X13 n) [2, 6, 27, 28, 29, 33, 34, 35] 1 (cL (cL (cR (cL (cR (cL (cL (cR (cR (cL (cL (cR (cL (cR (cR (cR C13)))))))))))))))) nx72 ⟨q2 ((dB false) :: q3 ((dI v65) :: q20 ((dP eI v1.1) :: (dI ((v1.1.length : Int))) :: (dI v55) :: q3 ((.v (.sl .nonfull (List.map eI ([0, 9, 10, 32, 40, 41, 91, 93, 44, 59])))) :: (dI ((([0, 9, 10, 32, 40, 41, 91, 93, 44, 59]).length : Int))) :: (dI v69) :: q10 [])))), [(.cells [(dI v1.2.fCode), (dI v1.2.fIndex)])]⟩ (blkQ (X13 n) 2 [2, 6, 27, 28, 29] 1 (seqQ (X13 n) (cR (cR (cL (cL (cR (cR (cL (cL (cR (cL (cR (cR (cR C13))))))))))))) (blkQ (X13 n) 1 [2, 27, 28, 29] 1 (seqQ (X13 n) (cR (cR (cR (cL (cL (cR (cL (cR (cR (cR C13)))))))))) (lpQ (X13 n) [2, 27, 28, 29] 1 (cL (cL (cR (cL (cR (cR (cR C13))))))) nx58 (blkQ (X13 n) 0 [2] 1 (seqQ (X13 n) (cR (cR (cR (cR C13)))) (fnQ (X13 n).E.T (resOf Proofs.Tryd.prog 13) (eB o))))))))) := by
                intro kx71
                induction kx71 with
                | zero => intro v69  ox70 h; exact (iter_zero h).elim
                | succ kx71 ihx73 =>
                  intro v69  ox70 h nx72 hnx76 hrx74 hxx75
                  obtain ⟨nx72, rfl⟩ : ∃ q, nx72 = q + 1 := ⟨nx72 - 1, by omega⟩
                  obtain ⟨sx77, h, hsx78⟩ := iter_some h
                  have h : f13_B1 m v65 v69 = some sx77 := h
                  unfold f13_B1 at h
                  refine Lp.succ ?_
                  refine Wp.seq' (by kernel_rfl) ?_
                  refine Wp.region (by kernel_rfl) ?_
                  refine Ops.seg' 1 1 (by kernel_rfl) ?_
                  refine Ops.done (by kernel_rfl) ?_
                  refine seqQ.n ?_
                  refine Wp.seq' (by kernel_rfl) ?_
                  refine Wp.cnd h [2, 6, 27, 28, 29, 33, 34, 35] 1 (by kernel_rfl) (fun h => ?_) (fun h => ?_)
                  · refine Wp.skip (by kernel_rfl) ?_
                    refine sqQ.n' ?_
                    refine seqQ.n ?_
                    refine Wp.seq' (by kernel_rfl) ?_
                    refine Wp.block' 3 [2, 6, 27, 28, 29, 33, 34, 35] 1 (by kernel_rfl) ?_
                    refine Wp.seq' (by kernel_rfl) ?_
                    refine Wp.region (by kernel_rfl) ?_
                    obtain ⟨v79, ev79, h⟩ := bnd_some h
                    refine Ops.one' 1 (fun h0 e0 => (ix_r (T := T) h0 41 3 1 .nonfull eI ([0, 9, 10, 32, 40, 41, 91, 93, 44, 59]) v69 v79 ev79 (by kernel_rfl) (by kernel_rfl) (fun _ => rfl))) (by kernel_rfl) (by kernel_rfl) ?_
                    refine Ops.seg' 2 3 (by kernel_rfl) ?_
                    refine Ops.done (by kernel_rfl) ?_
                    refine seqQ.n ?_
                    refine Wp.seq' (by kernel_rfl) ?_
                    refine Wp.region (by kernel_rfl) ?_
                    refine Ops.seg' 3 3 (by kernel_rfl) ?_
                    refine Ops.done (by kernel_rfl) ?_
                    refine seqQ.n ?_
                    refine Wp.cnd h [2, 6, 27, 28, 29, 33, 34, 35] 1 (by kernel_rfl) (fun h => ?_) (fun h => ?_)
                    · refine Wp.seq' (by kernel_rfl) ?_
                      refine Wp.region (by kernel_rfl) ?_
                      refine Ops.seg' 1 1 (by kernel_rfl) ?_
                      refine Ops.done (by kernel_rfl) ?_
                      refine seqQ.n ?_
                      refine Wp.ret (by kernel_rfl) ?_
                      refine sqQ.r ?_
                      refine blkQ.r ?_
                      refine seqQ.r ?_
                      cases h
                      refine lpQ.r ?_
                      refine blkQ.r ?_
                      exact hrx74 _ hsx78 _ (RetOk.forget [2, 6, 27, 28, 29, 33, 34, 35] (by kernel_rfl) (RetOk.mk' (dB false) (by kernel_rfl) (by kernel_rfl)))
                    · refine Wp.skip (by kernel_rfl) ?_
                      refine sqQ.n' ?_
                      refine blkQ.n' ?_
                      refine seqQ.n ?_
                      refine Wp.region (by kernel_rfl) ?_
                      refine Ops.seg' 2 2 (by kernel_rfl) ?_
                      refine Ops.done (by kernel_rfl) ?_
                      refine lpQ.n ⟨q2 ((dB false) :: q3 ((dI v65) :: q20 ((dP eI v1.1) :: (dI ((v1.1.length : Int))) :: (dI v55) :: q3 ((.v (.sl .nonfull (List.map eI ([0, 9, 10, 32, 40, 41, 91, 93, 44, 59])))) :: (dI ((([0, 9, 10, 32, 40, 41, 91, 93, 44, 59]).length : Int))) :: (dI (w64 (v69 + 1))) :: q10 [])))), [(.cells [(dI v1.2.fCode), (dI v1.2.fIndex)])]⟩ (by kernel_rfl) ?_
                      cases h
                      exact ihx73 (w64 (v69 + 1))  _ hsx78 _ (by omega) hrx74 hxx75
                  · refine Wp.exit (id := 2) (by kernel_rfl) ?_
                    refine sqQ.x ?_
                    refine seqQ.x ?_
                    cases h
                    refine lpQ.x ?_
                    refine blkQ.x ⟨q2 ((dB false) :: q3 ((dI v65) :: q20 ((dP eI v1.1) :: (dI ((v1.1.length : Int))) :: (dI v55) :: q3 ((.v (.sl .nonfull (List.map eI ([0, 9, 10, 32, 40, 41, 91, 93, 44, 59])))) :: (dI ((([0, 9, 10, 32, 40, 41, 91, 93, 44, 59]).length : Int))) :: (dI v69) :: q10 [])))), [(.cells [(dI v1.2.fCode), (dI v1.2.fIndex)])]⟩ (by kernel_rfl) ?_
                    exact hxx75 v69  hsx78
              refine Wp.loop' [2, 6, 27, 28, 29, 33, 34, 35] 1 (by kernel_rfl) ⟨q2 ((dB false) :: q3 ((dI v65) :: q20 ((dP eI v1.1) :: (dI ((v1.1.length : Int))) :: (dI v55) :: q3 ((.v (.sl .nonfull (List.map eI ([0, 9, 10, 32, 40, 41, 91, 93, 44, 59])))) :: (dI ((([0, 9, 10, 32, 40, 41, 91, 93, 44, 59]).length : Int))) :: (dI 0) :: q10 [])))), [(.cells [(dI v1.2.fCode), (dI v1.2.fIndex)])]⟩ (by kernel_rfl) ?_
              rcases brk_some h with ⟨r82, er82, h⟩ | ⟨y81, ey81, h⟩
              · refine hLx80 _ 0  _ er82 n (by omega) (fun r er σ hσ => ?_) (fun y  ey => by cases ey)
                cases er
                refine seqQ.r ?_
                refine blkQ.r ?_
                refine seqQ.r ?_
                refine lpQ.r ?_
                cases h
                refine blkQ.r ?_
                exact hrx60 _ hsx64 _ (RetOk.forget [2, 27, 28, 29] (by kernel_rfl) hσ)
              · refine hLx80 _ 0  _ ey81 n (by omega) (fun r er => by cases er) (fun y  ey => ?_)
                cases ey
                refine seqQ.n ?_
                refine Wp.seq' (by kernel_rfl) ?_
                refine Wp.region (by kernel_rfl) ?_
                refine Ops.seg' 2 2 (by kernel_rfl) ?_
                refine Ops.done (by kernel_rfl) ?_
                refine seqQ.n ?_
                refine Wp.cnd h [2, 27, 28, 29] 1 (by kernel_rfl) (fun h => ?_) (fun h => ?_)
                · refine Wp.seq' (by kernel_rfl) ?_
                  refine Wp.region (by kernel_rfl) ?_
                  refine Ops.seg' 1 1 (by kernel_rfl) ?_
                  refine Ops.done (by kernel_rfl) ?_
                  refine seqQ.n ?_
                  refine Wp.ret (by kernel_rfl) ?_
                  refine sqQ.r ?_
                  refine blkQ.r ?_
                  refine seqQ.r ?_
                  cases h
                  refine lpQ.r ?_
                  refine blkQ.r ?_
                  exact hrx60 _ hsx64 _ (RetOk.forget [2, 27, 28, 29] (by kernel_rfl) (RetOk.mk' (dB false) (by kernel_rfl) (by kernel_rfl)))
                · refine Wp.skip (by kernel_rfl) ?_
                  refine sqQ.n' ?_
                  refine blkQ.n' ?_
                  refine seqQ.n ?_
                  refine Wp.region (by kernel_rfl) ?_
                  refine Ops.seg' 2 2 (by kernel_rfl) ?_
                  refine Ops.done (by kernel_rfl) ?_
                  refine lpQ.n ⟨q2 ((dB false) :: q24 ((dP eI v1.1) :: (dI ((v1.1.length : Int))) :: (dI (w64 (v55 + 1))) :: q16 [])), [(.cells [(dI v1.2.fCode), (dI v1.2.fIndex)])]⟩ (by kernel_rfl) ?_
                  cases h
                  exact ihx59 (w64 (v55 + 1))  _ hsx64 _ (by omega) hrx60 hxx61
            · refine Wp.exit (id := 0) (by kernel_rfl) ?_
              refine sqQ.x ?_
              refine seqQ.x ?_
              cases h
              refine lpQ.x ?_
              refine blkQ.x ⟨q2 ((dB false) :: q24 ((dP eI v1.1) :: (dI ((v1.1.length : Int))) :: (dI v55) :: q16 [])), [(.cells [(dI v1.2.fCode), (dI v1.2.fIndex)])]⟩ (by kernel_rfl) ?_
              exact hxx61 v55  hsx64
        refine Wp.loop' [2, 27, 28, 29] 1 (by kernel_rfl) ⟨q2 ((dB false) :: q24 ((dP eI v1.1) :: (dI ((v1.1.length : Int))) :: (dI 0) :: q16 [])), [(.cells [(dI v1.2.fCode), (dI v1.2.fIndex)])]⟩ (by kernel_rfl) ?_
        rcases brk_some h with ⟨r85, er85, h⟩ | ⟨y84, ey84, h⟩
        · refine hLx83 _ 0  _ er85 n (by omega) (fun r er σ hσ => ?_) (fun y  ey => by cases ey)
          cases er
          refine seqQ.r ?_
          exact fnQ.r' (X13 n) (fun z => (eB z)) h hσ
        · refine hLx83 _ 0  _ ey84 n (by omega) (fun r er => by cases er) (fun y  ey => ?_)
          cases ey
          refine seqQ.n ?_
          refine Wp.seq' (by kernel_rfl) ?_
          refine Wp.region (by kernel_rfl) ?_
          refine Ops.seg' 1 1 (by kernel_rfl) ?_
          refine Ops.done (by kernel_rfl) ?_
          refine seqQ.n ?_
          refine Wp.ret (by kernel_rfl) ?_
          exact fnQ.r' (X13 n) (fun z => (eB z)) h (RetOk.mk' (dB true) (by kernel_rfl) (by kernel_rfl))
    have G13g11 : ∀ v10 : Bool, f13_r3 m v1 ((v10 || (decide ((v1.1.length : Int) > 30)))) = some o → Ops (X13 n) (opl (cL (cL (cR (cR C13))))) 9 ⟨(.v (.str a0)) :: u1 ((dB false) :: (dP eI v1.1) :: (.ptr 0 0) :: u4 ((.v (.tuple [(vP eI v1.1), (.agg [(vI v1.2.fCode), (vI v1.2.fIndex)])])) :: (.v (.str a0)) :: (.v (.tuple [(vP eI v1.1), (.agg [(vI v1.2.fCode), (vI v1.2.fIndex)])])) :: (dP eI v1.1) :: (.v (.agg [(vI v1.2.fCode), (vI v1.2.fIndex)])) :: (.v (.agg [(vI v1.2.fCode), (vI v1.2.fIndex)])) :: (.v (.agg [(vI 0), (vI 0)])) :: (dB v7) :: (dB v7) :: d4 :: d5 :: d6 :: (dB v10) :: (dB v10) :: u23 [])), [(.cells [(dI v1.2.fCode), (dI v1.2.fIndex)])]⟩ ((seqQ (X13 n) (cR (cL (cR (cR C13)))) (seqQ (X13 n) (cR (cR (cR C13))) (fnQ (X13 n).E.T (resOf Proofs.Tryd.prog 13) (eB o)))) .normal) := by
      intro v10 h
      cases v10
      · refine Ops.seg' 1 10 (by kernel_rfl) ?_
        refine Ops.one' 11 (fun h0 e0 => (len_r (T := T) h0 41 3 .plain eI v1.1 (by kernel_rfl))) (by kernel_rfl) (by kernel_rfl) ?_
        refine Ops.seg' 2 13 (by kernel_rfl) ?_
        refine Ops.st ⟨(.v (.str a0)) :: u1 ((dB false) :: (dP eI v1.1) :: (.ptr 0 0) :: u4 ((.v (.tuple [(vP eI v1.1), (.agg [(vI v1.2.fCode), (vI v1.2.fIndex)])])) :: (.v (.str a0)) :: (.v (.tuple [(vP eI v1.1), (.agg [(vI v1.2.fCode), (vI v1.2.fIndex)])])) :: (dP eI v1.1) :: (.v (.agg [(vI v1.2.fCode), (vI v1.2.fIndex)])) :: (.v (.agg [(vI v1.2.fCode), (vI v1.2.fIndex)])) :: (.v (.agg [(vI 0), (vI 0)])) :: (dB v7) :: (dB v7) :: d4 :: d5 :: d6 :: (dB false) :: (dB false) :: (dP eI v1.1) :: (dI ((v1.1.length : Int))) :: (dB (decide ((v1.1.length : Int) > 30))) :: (dB (decide ((v1.1.length : Int) > 30))) :: u19 [])), [(.cells [(dI v1.2.fCode), (dI v1.2.fIndex)])]⟩ (by kernel_rfl) ?_
        exact J13j17 _ _ _ _ _ h
      · refine Ops.seg' 4 13 (by kernel_rfl) ?_
        refine Ops.st ⟨(.v (.str a0)) :: u1 ((dB false) :: (dP eI v1.1) :: (.ptr 0 0) :: u4 ((.v (.tuple [(vP eI v1.1), (.agg [(vI v1.2.fCode), (vI v1.2.fIndex)])])) :: (.v (.str a0)) :: (.v (.tuple [(vP eI v1.1), (.agg [(vI v1.2.fCode), (vI v1.2.fIndex)])])) :: (dP eI v1.1) :: (.v (.agg [(vI v1.2.fCode), (vI v1.2.fIndex)])) :: (.v (.agg [(vI v1.2.fCode), (vI v1.2.fIndex)])) :: (.v (.agg [(vI 0), (vI 0)])) :: (dB v7) :: (dB v7) :: d4 :: d5 :: d6 :: (dB true) :: (dB true) :: u3 ((dB true) :: u19 []))), [(.cells [(dI v1.2.fCode), (dI v1.2.fIndex)])]⟩ (by kernel_rfl) ?_
        exact J13j17 _ _ _ _ _ h
    exact Ops.st ⟨(.v (.str a0)) :: u1 ((dB false) :: (dP eI v1.1) :: (.ptr 0 0) :: u4 ((.v (.tuple [(vP eI v1.1), (.agg [(vI v1.2.fCode), (vI v1.2.fIndex)])])) :: (.v (.str a0)) :: (.v (.tuple [(vP eI v1.1), (.agg [(vI v1.2.fCode), (vI v1.2.fIndex)])])) :: (dP eI v1.1) :: (.v (.agg [(vI v1.2.fCode), (vI v1.2.fIndex)])) :: (.v (.agg [(vI v1.2.fCode), (vI v1.2.fIndex)])) :: (.v (.agg [(vI 0), (vI 0)])) :: (dB v7) :: (dB v7) :: d4 :: d5 :: d6 :: (dB v8) :: (dB v8) :: u23 [])), [(.cells [(dI v1.2.fCode), (dI v1.2.fIndex)])]⟩ (by kernel_rfl) (G13g11 v8 h)
  have G13g3 : ∀ v2 : Bool, f13_r4 m v1 ((v2 || (((v1.1.length : Int)) == 0))) = some o → Ops (X13 n) (opl (cL (cL (cR (cR C13))))) 4 ⟨(.v (.str a0)) :: u1 ((dB false) :: (dP eI v1.1) :: (.ptr 0 0) :: u4 ((.v (.tuple [(vP eI v1.1), (.agg [(vI v1.2.fCode), (vI v1.2.fIndex)])])) :: (.v (.str a0)) :: (.v (.tuple [(vP eI v1.1), (.agg [(vI v1.2.fCode), (vI v1.2.fIndex)])])) :: (dP eI v1.1) :: (.v (.agg [(vI v1.2.fCode), (vI v1.2.fIndex)])) :: (.v (.agg [(vI v1.2.fCode), (vI v1.2.fIndex)])) :: (.v (.agg [(vI 0), (vI 0)])) :: (dB v2) :: (dB v2) :: u28 [])), [(.cells [(dI v1.2.fCode), (dI v1.2.fIndex)])]⟩ ((seqQ (X13 n) (cR (cL (cR (cR C13)))) (seqQ (X13 n) (cR (cR (cR C13))) (fnQ (X13 n).E.T (resOf Proofs.Tryd.prog 13) (eB o)))) .normal) := by
    intro v2 h
    cases v2
    · refine Ops.seg' 1 5 (by kernel_rfl) ?_
      refine Ops.one' 6 (fun h0 e0 => (len_r (T := T) h0 41 3 .plain eI v1.1 (by kernel_rfl))) (by kernel_rfl) (by kernel_rfl) ?_
      refine Ops.seg' 2 8 (by kernel_rfl) ?_
      refine Ops.st ⟨(.v (.str a0)) :: u1 ((dB false) :: (dP eI v1.1) :: (.ptr 0 0) :: u4 ((.v (.tuple [(vP eI v1.1), (.agg [(vI v1.2.fCode), (vI v1.2.fIndex)])])) :: (.v (.str a0)) :: (.v (.tuple [(vP eI v1.1), (.agg [(vI v1.2.fCode), (vI v1.2.fIndex)])])) :: (dP eI v1.1) :: (.v (.agg [(vI v1.2.fCode), (vI v1.2.fIndex)])) :: (.v (.agg [(vI v1.2.fCode), (vI v1.2.fIndex)])) :: (.v (.agg [(vI 0), (vI 0)])) :: (dB false) :: (dB false) :: (dP eI v1.1) :: (dI ((v1.1.length : Int))) :: (dB (((v1.1.length : Int)) == 0)) :: (dB (((v1.1.length : Int)) == 0)) :: u24 [])), [(.cells [(dI v1.2.fCode), (dI v1.2.fIndex)])]⟩ (by kernel_rfl) ?_
      exact J13j9 _ _ _ _ _ h
    · refine Ops.seg' 4 8 (by kernel_rfl) ?_
      refine Ops.st ⟨(.v (.str a0)) :: u1 ((dB false) :: (dP eI v1.1) :: (.ptr 0 0) :: u4 ((.v (.tuple [(vP eI v1.1), (.agg [(vI v1.2.fCode), (vI v1.2.fIndex)])])) :: (.v (.str a0)) :: (.v (.tuple [(vP eI v1.1), (.agg [(vI v1.2.fCode), (vI v1.2.fIndex)])])) :: (dP eI v1.1) :: (.v (.agg [(vI v1.2.fCode), (vI v1.2.fIndex)])) :: (.v (.agg [(vI v1.2.fCode), (vI v1.2.fIndex)])) :: (.v (.agg [(vI 0), (vI 0)])) :: (dB true) :: (dB true) :: u3 ((dB true) :: u24 []))), [(.cells [(dI v1.2.fCode), (dI v1.2.fIndex)])]⟩ (by kernel_rfl) ?_
      exact J13j9 _ _ _ _ _ h
  exact Ops.st ⟨(.v (.str a0)) :: u1 ((dB false) :: (dP eI v1.1) :: (.ptr 0 0) :: u4 ((.v (.tuple [(vP eI v1.1), (.agg [(vI v1.2.fCode), (vI v1.2.fIndex)])])) :: (.v (.str a0)) :: (.v (.tuple [(vP eI v1.1), (.agg [(vI v1.2.fCode), (vI v1.2.fIndex)])])) :: (dP eI v1.1) :: (.v (.agg [(vI v1.2.fCode), (vI v1.2.fIndex)])) :: (.v (.agg [(vI v1.2.fCode), (vI v1.2.fIndex)])) :: (.v (.agg [(vI 0), (vI 0)])) :: (dB ((!((v1.2.fCode == 0) && ((v1.2.fIndex == 0) && true))))) :: (dB ((!((v1.2.fCode == 0) && ((v1.2.fIndex == 0) && true))))) :: u28 [])), [(.cells [(dI v1.2.fCode), (dI v1.2.fIndex)])]⟩ (by kernel_rfl) (G13g3 (!((v1.2.fCode == 0) && ((v1.2.fIndex == 0) && true))) h)

/-! ### 22 glosswright/glosswrightref6.Name -/
def f22_r1 (m : Nat) (v96 : Int) (v137 : Bool) : Option (Stp Bool (Int)) :=
  cnd (!v137)
  (some (.ret false))
  (some (.nxt (w64 (v96 + 1))))
def f22_r2 (m : Nat) (v96 : Int) (v106 : Int) (v130 : Bool) : Option (Stp Bool (Int)) :=
  f22_r1 m v96 ((v130 || (v106 == 45)))
def f22_r3 (m : Nat) (v96 : Int) (v106 : Int) (v123 : Bool) : Option (Stp Bool (Int)) :=
  f22_r2 m v96 v106 ((v123 || (v106 == 95)))
def f22_r4 (m : Nat) (v96 : Int) (v106 : Int) (v112 : Bool) : Option (Stp Bool (Int)) :=
  f22_r3 m v96 v106 ((v112 || (((decide (v106 ≥ 48)) && (decide (v106 ≤ 57))))))
def f22_B5 (m : Nat) (a0 : ByteArray) (v96 : Int) : Option (Stp Bool (Int)) :=
  cnd (decide (v96 < (a0.size : Int)))
  (bnd (sidx a0 v96) fun v106 =>
  f22_r4 m v96 v106 (((decide (v106 ≥ 97)) && (decide (v106 ≤ 122)))))
  (some (.brk v96))
def f22_r6 (m : Nat) (a0 : ByteArray) (v23 : Bool) : Option Bool :=
  cnd v23
  (some false)
  (brk (iter (fun (y : Int) => f22_B5 m a0 y) m 0) some fun y142 =>
  some true)
def f22_r7 (m : Nat) (a0 : ByteArray) (v15 : Bool) : Option Bool :=
  bnd (cnd v15
  (some true)
  (bnd (sidx a0 0) fun v144 =>
  some (decide (v144 > 122)))) fun v23 =>
  f22_r6 m a0 v23
def f22_r8 (m : Nat) (a0 : ByteArray) (v7 : Bool) : Option Bool :=
  bnd (cnd v7
  (some true)
  (bnd (sidx a0 0) fun v145 =>
  some (decide (v145 < 97)))) fun v15 =>
  f22_r7 m a0 v15
def f22 (m : Nat) (a0 : ByteArray) : Option Bool :=
  f22_r8 m a0 (((((a0.size : Int)) == 0) || (decide ((a0.size : Int) > 30))))
noncomputable abbrev X22 (n : Nat) : Cx := cxOf Proofs.Tryd.prog EG 22 n
noncomputable def C22 : Code := bodyOf Proofs.Tryd.prog 22
theorem ok22 (m : Nat) (a0 : ByteArray) (o : Bool) (h : f22 m a0 = some o) (n : Nat) (hn : m + 1 ≤ n) : Fn Proofs.Tryd.prog EG n 22 [.v (eS a0)] (eB o) := by
  obtain ⟨n, rfl⟩ : ∃ q, n = q + 1 := ⟨n - 1, by omega⟩
  unfold f22 at h
  refine Fn.of (by kernel_rfl) (by kernel_rfl) (by kernel_rfl) ⟨(.v (.str a0)) :: u40 (u14 []), []⟩ (by kernel_rfl) ?_
  refine Wp.seq' (by kernel_rfl) ?_
  refine Wp.region (by kernel_rfl) ?_
  refine Ops.seg' 1 1 (by kernel_rfl) ?_
  refine Ops.done (by kernel_rfl) ?_
  refine seqQ.n ?_
  refine Wp.seq' (by kernel_rfl) ?_
  refine Wp.seq' (by kernel_rfl) ?_
  refine Wp.region (by kernel_rfl) ?_
  refine Ops.seg' 4 4 (by kernel_rfl) ?_
  have J22j8 : ∀ (d3 d4 d5 : D) (v6 : Bool) (v7 : Bool), f22_r8 m a0 v7 = some o → Ops (X22 n) (opl (cL (cL (cR C22)))) 8 ⟨(.v (.str a0)) :: u1 ((dB false) :: u2 ((.v (.str a0)) :: (dI ((a0.size : Int))) :: (dB v6) :: (dB v6) :: d3 :: d4 :: d5 :: (dB v7) :: u40 (u2 []))), []⟩ ((seqQ (X22 n) (cR (cL (cR C22))) (seqQ (X22 n) (cR (cR C22)) (fnQ (X22 n).E.T (resOf Proofs.Tryd.prog 22) (eB o)))) .normal) := by
    intro d3 d4 d5 v6 v7 h
    unfold f22_r8 at h
    refine Ops.seg' 1 9 (by kernel_rfl) ?_
    have J22j16 : ∀ (d11 d12 d13 : D) (v14 : Bool) (v15 : Bool), f22_r7 m a0 v15 = some o → Ops (X22 n) (opl (cL (cL (cR C22)))) 13 ⟨(.v (.str a0)) :: u1 ((dB false) :: u2 ((.v (.str a0)) :: (dI ((a0.size : Int))) :: (dB v6) :: (dB v6) :: d3 :: d4 :: d5 :: (dB v14) :: (dB v14) :: d11 :: d12 :: d13 :: (dB v15) :: u37 [])), []⟩ ((seqQ (X22 n) (cR (cL (cR C22))) (seqQ (X22 n) (cR (cR C22)) (fnQ (X22 n).E.T (resOf Proofs.Tryd.prog 22) (eB o)))) .normal) := by
      intro d11 d12 d13 v14 v15 h
      unfold f22_r7 at h
      refine Ops.seg' 1 14 (by kernel_rfl) ?_
      have J22j24 : ∀ (d19 d20 d21 : D) (v22 : Bool) (v23 : Bool), f22_r6 m a0 v23 = some o → Ops (X22 n) (opl (cL (cL (cR C22)))) 18 ⟨(.v (.str a0)) :: u1 ((dB false) :: u2 ((.v (.str a0)) :: (dI ((a0.size : Int))) :: (dB v6) :: (dB v6) :: d3 :: d4 :: d5 :: (dB v14) :: (dB v14) :: d11 :: d12 :: d13 :: (dB v22) :: (dB v22) :: d19 :: d20 :: d21 :: (dB v23) :: u32 [])), []⟩ ((seqQ (X22 n) (cR (cL (cR C22))) (seqQ (X22 n) (cR (cR C22)) (fnQ (X22 n).E.T (resOf Proofs.Tryd.prog 22) (eB o)))) .normal) := by
        intro d19 d20 d21 v22 v23 h
        unfold f22_r6 at h
        refine Ops.done (by kernel_rfl) ?_
        refine seqQ.n ?_
        refine Wp.cnd h [0, 2] 0 (by kernel_rfl) (fun h => ?_) (fun h => ?_)
        · refine Wp.seq' (by kernel_rfl) ?_
          refine Wp.region (by kernel_rfl) ?_
          refine Ops.seg' 1 1 (by kernel_rfl) ?_
          refine Ops.done (by kernel_rfl) ?_
          refine seqQ.n ?_
          refine Wp.ret (by kernel_rfl) ?_
          refine sqQ.r ?_
          refine seqQ.r ?_
          exact fnQ.r' (X22 n) (fun z => (eB z)) h (RetOk.mk' (dB false) (by kernel_rfl) (by kernel_rfl))
        · refine Wp.skip (by kernel_rfl) ?_
          refine sqQ.n' ?_
          refine seqQ.n ?_
          refine Wp.seq' (by kernel_rfl) ?_
          refine Wp.seq' (by kernel_rfl) ?_
          refine Wp.region (by kernel_rfl) ?_
          refine Ops.seg' 1 1 (by kernel_rfl) ?_
          refine Ops.done (by kernel_rfl) ?_
          refine seqQ.n ?_
          refine Wp.block' 0 [2] 0 (by kernel_rfl) ?_
          have hLx141 : ∀ (kx98 : Nat) (v96 : Int)  (ox97 : Bool ⊕ (Int)), iter (fun (y : Int) => f22_B5 m a0 y) kx98 v96 = some ox97 → ∀ nx99, kx98 ≤ nx99 → (∀ r, ox97 = .inl r → ∀ σ, RetOk (X22 n) (resOf Proofs.Tryd.prog 22) (eB r) σ → (seqQ (X22 n) (cR (cR (cR C22))) (fnQ (X22 n).E.T (resOf Proofs.Tryd.prog 22) (eB o))) .ret σ) → (∀ (y : Int) , ox97 = .inr y → (seqQ (X22 n) (cR (cR (cR C22))) (fnQ (X22 n).E.T (resOf Proofs.Tryd.prog 22) (eB o))) .normal ⟨(.v (.str a0)) :: q1 ((dB false) :: (dI y) :: q40 (q11 [])), []⟩) → Lp (X22 n) [0, 2, 3] 0 (cL (cL (cR (cL (cR (cR C22)))))) nx99 ⟨(.v (.str a0)) :: q1 ((dB false) :: (dI v96) :: q40 (q11 [])), []⟩ (blkQ (X22 n) 0 [2] 0 (seqQ (X22 n) (cR (cR (cR C22))) (fnQ (X22 n).E.T (resOf Proofs.Tryd.prog 22) (eB o)))) := by
            intro kx98
            induction kx98 with
            | zero => intro v96  ox97 h; exact (iter_zero h).elim
            | succ kx98 ihx100 =>
              intro v96  ox97 h nx99 hnx103 hrx101 hxx102
              obtain ⟨nx99, rfl⟩ : ∃ q, nx99 = q + 1 := ⟨nx99 - 1, by omega⟩
              obtain ⟨sx104, h, hsx105⟩ := iter_some h
              have h : f22_B5 m a0 v96 = some sx104 := h
              unfold f22_B5 at h
              refine Lp.succ ?_
              refine Wp.seq' (by kernel_rfl) ?_
              refine Wp.seq' (by kernel_rfl) ?_
              refine Wp.region (by kernel_rfl) ?_
              refine Ops.seg' 4 4 (by kernel_rfl) ?_
              refine Ops.done (by kernel_rfl) ?_
              refine seqQ.n ?_
              refine Wp.cnd h [0, 2, 3] 0 (by kernel_rfl) (fun h => ?_) (fun h => ?_)
              · refine Wp.skip (by kernel_rfl) ?_
                refine sqQ.n' ?_
                refine seqQ.n ?_
                refine Wp.seq' (by kernel_rfl) ?_
                refine Wp.block' 1 [0, 2, 3] 0 (by kernel_rfl) ?_
                refine Wp.seq' (by kernel_rfl) ?_
                refine Wp.region (by kernel_rfl) ?_
                refine Ops.seg' 2 2 (by kernel_rfl) ?_
                obtain ⟨v106, ev106, h⟩ := bnd_some h
                refine Ops.one' 3 (fun h0 e0 => (str_ix (T := T) h0 9 a0 v96 v106 ev106 (by kernel_rfl))) (by kernel_rfl) (by kernel_rfl) ?_
                refine Ops.seg' 1 4 (by kernel_rfl) ?_
                refine Ops.done (by kernel_rfl) ?_
                refine seqQ.n ?_
                refine Wp.seq' (by kernel_rfl) ?_
                refine Wp.region (by kernel_rfl) ?_
                refine Ops.seg' 3 3 (by kernel_rfl) ?_
                have J22j113 : ∀ (d109 d110 : D) (v111 : Bool) (v112 : Bool), f22_r4 m v96 v106 v112 = some sx104 → Ops (X22 n) (opl (cL (cR (cL (cL (cR (cL (cL (cR (cL (cR (cR C22)))))))))))) 6 ⟨(.v (.str a0)) :: q1 ((dB false) :: (dI v96) :: (.v (.int .u8 v106)) :: q18 ((dI v96) :: (.v (.str a0)) :: (dI ((a0.size : Int))) :: (dB (decide (v96 < (a0.size : Int)))) :: q2 ((.v (.str a0)) :: (dI v96) :: (.v (.int .u8 v106)) :: (.v (.int .u8 v106)) :: (dB v111) :: (dB v111) :: d109 :: d110 :: (dB v112) :: q17 []))), []⟩ ((seqQ (X22 n) (cR (cR (cL (cL (cR (cL (cL (cR (cL (cR (cR C22))))))))))) (blkQ (X22 n) 1 [0, 2, 3] 0 (seqQ (X22 n) (cR (cR (cL (cL (cR (cL (cR (cR C22)))))))) (lpQ (X22 n) [0, 2, 3] 0 (cL (cL (cR (cL (cR (cR C22)))))) nx99 (blkQ (X22 n) 0 [2] 0 (seqQ (X22 n) (cR (cR (cR C22))) (fnQ (X22 n).E.T (resOf Proofs.Tryd.prog 22) (eB o)))))))) .normal) := by
                  intro d109 d110 v111 v112 h
                  unfold f22_r4 at h
                  refine Ops.seg' 1 7 (by kernel_rfl) ?_
                  have J22j124 : ∀ (d116 d117 d118 d119 d120 d121 : D) (v122 : Bool) (v123 : Bool), f22_r3 m v96 v106 v123 = some sx104 → Ops (X22 n) (opl (cL (cR (cL (cL (cR (cL (cL (cR (cL (cR (cR C22)))))))))))) 14 ⟨(.v (.str a0)) :: q1 ((dB false) :: (dI v96) :: (.v (.int .u8 v106)) :: q18 ((dI v96) :: (.v (.str a0)) :: (dI ((a0.size : Int))) :: (dB (decide (v96 < (a0.size : Int)))) :: q2 ((.v (.str a0)) :: (dI v96) :: (.v (.int .u8 v106)) :: (.v (.int .u8 v106)) :: (dB v111) :: (dB v111) :: d109 :: d110 :: (dB v122) :: (dB v122) :: d116 :: d117 :: d118 :: d119 :: d120 :: d121 :: (dB v123) :: q9 []))), []⟩ ((seqQ (X22 n) (cR (cR (cL (cL (cR (cL (cL (cR (cL (cR (cR C22))))))))))) (blkQ (X22 n) 1 [0, 2, 3] 0 (seqQ (X22 n) (cR (cR (cL (cL (cR (cL (cR (cR C22)))))))) (lpQ (X22 n) [0, 2, 3] 0 (cL (cL (cR (cL (cR (cR C22)))))) nx99 (blkQ (X22 n) 0 [2] 0 (seqQ (X22 n) (cR (cR (cR C22))) (fnQ (X22 n).E.T (resOf Proofs.Tryd.prog 22) (eB o)))))))) .normal) := by
                    intro d116 d117 d118 d119 d120 d121 v122 v123 h
                    unfold f22_r3 at h
                    refine Ops.seg' 1 15 (by kernel_rfl) ?_
                    have J22j131 : ∀ (d127 d128 : D) (v129 : Bool) (v130 : Bool), f22_r2 m v96 v106 v130 = some sx104 → Ops (X22 n) (opl (cL (cR (cL (cL (cR (cL (cL (cR (cL (cR (cR C22)))))))))))) 18 ⟨(.v (.str a0)) :: q1 ((dB false) :: (dI v96) :: (.v (.int .u8 v106)) :: q18 ((dI v96) :: (.v (.str a0)) :: (dI ((a0.size : Int))) :: (dB (decide (v96 < (a0.size : Int)))) :: q2 ((.v (.str a0)) :: (dI v96) :: (.v (.int .u8 v106)) :: (.v (.int .u8 v106)) :: (dB v111) :: (dB v111) :: d109 :: d110 :: (dB v122) :: (dB v122) :: d116 :: d117 :: d118 :: d119 :: d120 :: d121 :: (dB v129) :: (dB v129) :: d127 :: d128 :: (dB v130) :: q5 []))), []⟩ ((seqQ (X22 n) (cR (cR (cL (cL (cR (cL (cL (cR (cL (cR (cR C22))))))))))) (blkQ (X22 n) 1 [0, 2, 3] 0 (seqQ (X22 n) (cR (cR (cL (cL (cR (cL (cR (cR C22)))))))) (lpQ (X22 n) [0, 2, 3] 0 (cL (cL (cR (cL (cR (cR C22)))))) nx99 (blkQ (X22 n) 0 [2] 0 (seqQ (X22 n) (cR (cR (cR C22))) (fnQ (X22 n).E.T (resOf Proofs.Tryd.prog 22) (eB o)))))))) .normal) := by
                      intro d127 d128 v129 v130 h
                      unfold f22_r2 at h
                      refine Ops.seg' 1 19 (by kernel_rfl) ?_
                      have J22j138 : ∀ (d134 d135 : D) (v136 : Bool) (v137 : Bool), f22_r1 m v96 v137 = some sx104 → Ops (X22 n) (opl (cL (cR (cL (cL (cR (cL (cL (cR (cL (cR (cR C22)))))))))))) 22 ⟨(.v (.str a0)) :: q1 ((dB false) :: (dI v96) :: (.v (.int .u8 v106)) :: q18 ((dI v96) :: (.v (.str a0)) :: (dI ((a0.size : Int))) :: (dB (decide (v96 < (a0.size : Int)))) :: q2 ((.v (.str a0)) :: (dI v96) :: (.v (.int .u8 v106)) :: (.v (.int .u8 v106)) :: (dB v111) :: (dB v111) :: d109 :: d110 :: (dB v122) :: (dB v122) :: d116 :: d117 :: d118 :: d119 :: d120 :: d121 :: (dB v129) :: (dB v129) :: d127 :: d128 :: (dB v136) :: (dB v136) :: d134 :: d135 :: (dB v137) :: q1 []))), []⟩ ((seqQ (X22 n) (cR (cR (cL (cL (cR (cL (cL (cR (cL (cR (cR C22))))))))))) (blkQ (X22 n) 1 [0, 2, 3] 0 (seqQ (X22 n) (cR (cR (cL (cL (cR (cL (cR (cR C22)))))))) (lpQ (X22 n) [0, 2, 3] 0 (cL (cL (cR (cL (cR (cR C22)))))) nx99 (blkQ (X22 n) 0 [2] 0 (seqQ (X22 n) (cR (cR (cR C22))) (fnQ (X22 n).E.T (resOf Proofs.Tryd.prog 22) (eB o)))))))) .normal) := by
                        intro d134 d135 v136 v137 h
                        unfold f22_r1 at h
                        refine Ops.seg' 1 23 (by kernel_rfl) ?_
                        refine Ops.done (by kernel_rfl) ?_
                        refine seqQ.n ?_
                        refine Wp.cnd h [0, 2, 3] 0 (by kernel_rfl) (fun h => ?_) (fun h => ?_)
                        · refine Wp.seq' (by kernel_rfl) ?_
                          refine Wp.region (by kernel_rfl) ?_
                          refine Ops.seg' 1 1 (by kernel_rfl) ?_
                          refine Ops.done (by kernel_rfl) ?_
                          refine seqQ.n ?_
                          refine Wp.ret (by kernel_rfl) ?_
                          refine sqQ.r ?_
                          refine blkQ.r ?_
                          refine seqQ.r ?_
                          cases h
                          refine lpQ.r ?_
                          refine blkQ.r ?_
                          exact hrx101 _ hsx105 _ (RetOk.forget [0, 2, 3] (by kernel_rfl) (RetOk.mk' (dB false) (by kernel_rfl) (by kernel_rfl)))
                        · refine Wp.skip (by kernel_rfl) ?_
                          refine sqQ.n' ?_
                          refine blkQ.n' ?_
                          refine seqQ.n ?_
                          refine Wp.region (by kernel_rfl) ?_
                          refine Ops.seg' 3 3 (by kernel_rfl) ?_
                          refine Ops.done (by kernel_rfl) ?_
                          refine lpQ.n ⟨(.v (.str a0)) :: q1 ((dB false) :: (dI (w64 (v96 + 1))) :: q40 (q11 [])), []⟩ (by kernel_rfl) ?_
                          cases h
                          exact ihx100 (w64 (v96 + 1))  _ hsx105 _ (by omega) hrx101 hxx102
                      have G22g133 : ∀ v132 : Bool, f22_r1 m v96 ((v132 || (v106 == 45))) = some sx104 → Ops (X22 n) (opl (cL (cR (cL (cL (cR (cL (cL (cR (cL (cR (cR C22)))))))))))) 19 ⟨(.v (.str a0)) :: q1 ((dB false) :: (dI v96) :: (.v (.int .u8 v106)) :: q18 ((dI v96) :: (.v (.str a0)) :: (dI ((a0.size : Int))) :: (dB (decide (v96 < (a0.size : Int)))) :: q2 ((.v (.str a0)) :: (dI v96) :: (.v (.int .u8 v106)) :: (.v (.int .u8 v106)) :: (dB v111) :: (dB v111) :: d109 :: d110 :: (dB v122) :: (dB v122) :: d116 :: d117 :: d118 :: d119 :: d120 :: d121 :: (dB v129) :: (dB v129) :: d127 :: d128 :: (dB v132) :: (dB v132) :: q4 []))), []⟩ ((seqQ (X22 n) (cR (cR (cL (cL (cR (cL (cL (cR (cL (cR (cR C22))))))))))) (blkQ (X22 n) 1 [0, 2, 3] 0 (seqQ (X22 n) (cR (cR (cL (cL (cR (cL (cR (cR C22)))))))) (lpQ (X22 n) [0, 2, 3] 0 (cL (cL (cR (cL (cR (cR C22)))))) nx99 (blkQ (X22 n) 0 [2] 0 (seqQ (X22 n) (cR (cR (cR C22))) (fnQ (X22 n).E.T (resOf Proofs.Tryd.prog 22) (eB o)))))))) .normal) := by
                        intro v132 h
                        cases v132
                        · refine Ops.seg' 3 22 (by kernel_rfl) ?_
                          refine Ops.st ⟨(.v (.str a0)) :: q1 ((dB false) :: (dI v96) :: (.v (.int .u8 v106)) :: q18 ((dI v96) :: (.v (.str a0)) :: (dI ((a0.size : Int))) :: (dB (decide (v96 < (a0.size : Int)))) :: q2 ((.v (.str a0)) :: (dI v96) :: (.v (.int .u8 v106)) :: (.v (.int .u8 v106)) :: (dB v111) :: (dB v111) :: d109 :: d110 :: (dB v122) :: (dB v122) :: d116 :: d117 :: d118 :: d119 :: d120 :: d121 :: (dB v129) :: (dB v129) :: d127 :: d128 :: (dB false) :: (dB false) :: (.v (.int .u8 v106)) :: (dB (v106 == 45)) :: (dB (v106 == 45)) :: q1 []))), []⟩ (by kernel_rfl) ?_
                          exact J22j138 _ _ _ _ h
                        · refine Ops.seg' 3 22 (by kernel_rfl) ?_
                          refine Ops.st ⟨(.v (.str a0)) :: q1 ((dB false) :: (dI v96) :: (.v (.int .u8 v106)) :: q18 ((dI v96) :: (.v (.str a0)) :: (dI ((a0.size : Int))) :: (dB (decide (v96 < (a0.size : Int)))) :: q2 ((.v (.str a0)) :: (dI v96) :: (.v (.int .u8 v106)) :: (.v (.int .u8 v106)) :: (dB v111) :: (dB v111) :: d109 :: d110 :: (dB v122) :: (dB v122) :: d116 :: d117 :: d118 :: d119 :: d120 :: d121 :: (dB v129) :: (dB v129) :: d127 :: d128 :: (dB true) :: (dB true) :: u2 ((dB true) :: q1 [])))), []⟩ (by kernel_rfl) ?_
                          exact J22j138 _ _ _ _ h
                      exact Ops.st ⟨(.v (.str a0)) :: q1 ((dB false) :: (dI v96) :: (.v (.int .u8 v106)) :: q18 ((dI v96) :: (.v (.str a0)) :: (dI ((a0.size : Int))) :: (dB (decide (v96 < (a0.size : Int)))) :: q2 ((.v (.str a0)) :: (dI v96) :: (.v (.int .u8 v106)) :: (.v (.int .u8 v106)) :: (dB v111) :: (dB v111) :: d109 :: d110 :: (dB v122) :: (dB v122) :: d116 :: d117 :: d118 :: d119 :: d120 :: d121 :: (dB v129) :: (dB v129) :: d127 :: d128 :: (dB v130) :: (dB v130) :: q4 []))), []⟩ (by kernel_rfl) (G22g133 v130 h)
                    have G22g126 : ∀ v125 : Bool, f22_r2 m v96 v106 ((v125 || (v106 == 95))) = some sx104 → Ops (X22 n) (opl (cL (cR (cL (cL (cR (cL (cL (cR (cL (cR (cR C22)))))))))))) 15 ⟨(.v (.str a0)) :: q1 ((dB false) :: (dI v96) :: (.v (.int .u8 v106)) :: q18 ((dI v96) :: (.v (.str a0)) :: (dI ((a0.size : Int))) :: (dB (decide (v96 < (a0.size : Int)))) :: q2 ((.v (.str a0)) :: (dI v96) :: (.v (.int .u8 v106)) :: (.v (.int .u8 v106)) :: (dB v111) :: (dB v111) :: d109 :: d110 :: (dB v122) :: (dB v122) :: d116 :: d117 :: d118 :: d119 :: d120 :: d121 :: (dB v125) :: (dB v125) :: q8 []))), []⟩ ((seqQ (X22 n) (cR (cR (cL (cL (cR (cL (cL (cR (cL (cR (cR C22))))))))))) (blkQ (X22 n) 1 [0, 2, 3] 0 (seqQ (X22 n) (cR (cR (cL (cL (cR (cL (cR (cR C22)))))))) (lpQ (X22 n) [0, 2, 3] 0 (cL (cL (cR (cL (cR (cR C22)))))) nx99 (blkQ (X22 n) 0 [2] 0 (seqQ (X22 n) (cR (cR (cR C22))) (fnQ (X22 n).E.T (resOf Proofs.Tryd.prog 22) (eB o)))))))) .normal) := by
                      intro v125 h
                      cases v125
                      · refine Ops.seg' 3 18 (by kernel_rfl) ?_
                        refine Ops.st ⟨(.v (.str a0)) :: q1 ((dB false) :: (dI v96) :: (.v (.int .u8 v106)) :: q18 ((dI v96) :: (.v (.str a0)) :: (dI ((a0.size : Int))) :: (dB (decide (v96 < (a0.size : Int)))) :: q2 ((.v (.str a0)) :: (dI v96) :: (.v (.int .u8 v106)) :: (.v (.int .u8 v106)) :: (dB v111) :: (dB v111) :: d109 :: d110 :: (dB v122) :: (dB v122) :: d116 :: d117 :: d118 :: d119 :: d120 :: d121 :: (dB false) :: (dB false) :: (.v (.int .u8 v106)) :: (dB (v106 == 95)) :: (dB (v106 == 95)) :: q5 []))), []⟩ (by kernel_rfl) ?_
                        exact J22j131 _ _ _ _ h
                      · refine Ops.seg' 3 18 (by kernel_rfl) ?_
                        refine Ops.st ⟨(.v (.str a0)) :: q1 ((dB false) :: (dI v96) :: (.v (.int .u8 v106)) :: q18 ((dI v96) :: (.v (.str a0)) :: (dI ((a0.size : Int))) :: (dB (decide (v96 < (a0.size : Int)))) :: q2 ((.v (.str a0)) :: (dI v96) :: (.v (.int .u8 v106)) :: (.v (.int .u8 v106)) :: (dB v111) :: (dB v111) :: d109 :: d110 :: (dB v122) :: (dB v122) :: d116 :: d117 :: d118 :: d119 :: d120 :: d121 :: (dB true) :: (dB true) :: u2 ((dB true) :: q5 [])))), []⟩ (by kernel_rfl) ?_
                        exact J22j131 _ _ _ _ h
                    exact Ops.st ⟨(.v (.str a0)) :: q1 ((dB false) :: (dI v96) :: (.v (.int .u8 v106)) :: q18 ((dI v96) :: (.v (.str a0)) :: (dI ((a0.size : Int))) :: (dB (decide (v96 < (a0.size : Int)))) :: q2 ((.v (.str a0)) :: (dI v96) :: (.v (.int .u8 v106)) :: (.v (.int .u8 v106)) :: (dB v111) :: (dB v111) :: d109 :: d110 :: (dB v122) :: (dB v122) :: d116 :: d117 :: d118 :: d119 :: d120 :: d121 :: (dB v123) :: (dB v123) :: q8 []))), []⟩ (by kernel_rfl) (G22g126 v123 h)
                  have G22g115 : ∀ v114 : Bool, f22_r3 m v96 v106 ((v114 || (((decide (v106 ≥ 48)) && (decide (v106 ≤ 57)))))) = some sx104 → Ops (X22 n) (opl (cL (cR (cL (cL (cR (cL (cL (cR (cL (cR (cR C22)))))))))))) 7 ⟨(.v (.str a0)) :: q1 ((dB false) :: (dI v96) :: (.v (.int .u8 v106)) :: q18 ((dI v96) :: (.v (.str a0)) :: (dI ((a0.size : Int))) :: (dB (decide (v96 < (a0.size : Int)))) :: q2 ((.v (.str a0)) :: (dI v96) :: (.v (.int .u8 v106)) :: (.v (.int .u8 v106)) :: (dB v111) :: (dB v111) :: d109 :: d110 :: (dB v114) :: (dB v114) :: q16 []))), []⟩ ((seqQ (X22 n) (cR (cR (cL (cL (cR (cL (cL (cR (cL (cR (cR C22))))))))))) (blkQ (X22 n) 1 [0, 2, 3] 0 (seqQ (X22 n) (cR (cR (cL (cL (cR (cL (cR (cR C22)))))))) (lpQ (X22 n) [0, 2, 3] 0 (cL (cL (cR (cL (cR (cR C22)))))) nx99 (blkQ (X22 n) 0 [2] 0 (seqQ (X22 n) (cR (cR (cR C22))) (fnQ (X22 n).E.T (resOf Proofs.Tryd.prog 22) (eB o)))))))) .normal) := by
                    intro v114 h
                    cases v114
                    · refine Ops.seg' 3 10 (by kernel_rfl) ?_
                      have G22g140 : ∀ v139 : Bool, (f22_r3 m v96 v106 ((false || ((v139 && (decide (v106 ≤ 57))))))) = some sx104 → Ops (X22 n) (opl (cL (cR (cL (cL (cR (cL (cL (cR (cL (cR (cR C22)))))))))))) 10 ⟨(.v (.str a0)) :: q1 ((dB false) :: (dI v96) :: (.v (.int .u8 v106)) :: q18 ((dI v96) :: (.v (.str a0)) :: (dI ((a0.size : Int))) :: (dB (decide (v96 < (a0.size : Int)))) :: q2 ((.v (.str a0)) :: (dI v96) :: (.v (.int .u8 v106)) :: (.v (.int .u8 v106)) :: (dB v111) :: (dB v111) :: d109 :: d110 :: (dB false) :: (dB false) :: (.v (.int .u8 v106)) :: (dB v139) :: (dB v139) :: q13 []))), []⟩ ((seqQ (X22 n) (cR (cR (cL (cL (cR (cL (cL (cR (cL (cR (cR C22))))))))))) (blkQ (X22 n) 1 [0, 2, 3] 0 (seqQ (X22 n) (cR (cR (cL (cL (cR (cL (cR (cR C22)))))))) (lpQ (X22 n) [0, 2, 3] 0 (cL (cL (cR (cL (cR (cR C22)))))) nx99 (blkQ (X22 n) 0 [2] 0 (seqQ (X22 n) (cR (cR (cR C22))) (fnQ (X22 n).E.T (resOf Proofs.Tryd.prog 22) (eB o)))))))) .normal) := by
                        intro v139 h
                        cases v139
                        · refine Ops.seg' 4 14 (by kernel_rfl) ?_
                          refine Ops.st ⟨(.v (.str a0)) :: q1 ((dB false) :: (dI v96) :: (.v (.int .u8 v106)) :: q18 ((dI v96) :: (.v (.str a0)) :: (dI ((a0.size : Int))) :: (dB (decide (v96 < (a0.size : Int)))) :: q2 ((.v (.str a0)) :: (dI v96) :: (.v (.int .u8 v106)) :: (.v (.int .u8 v106)) :: (dB v111) :: (dB v111) :: d109 :: d110 :: (dB false) :: (dB false) :: (.v (.int .u8 v106)) :: (dB false) :: (dB false) :: u2 ((dB false) :: (dB false) :: q9 [])))), []⟩ (by kernel_rfl) ?_
                          exact J22j124 _ _ _ _ _ _ _ _ h
                        · refine Ops.seg' 4 14 (by kernel_rfl) ?_
                          refine Ops.st ⟨(.v (.str a0)) :: q1 ((dB false) :: (dI v96) :: (.v (.int .u8 v106)) :: q18 ((dI v96) :: (.v (.str a0)) :: (dI ((a0.size : Int))) :: (dB (decide (v96 < (a0.size : Int)))) :: q2 ((.v (.str a0)) :: (dI v96) :: (.v (.int .u8 v106)) :: (.v (.int .u8 v106)) :: (dB v111) :: (dB v111) :: d109 :: d110 :: (dB false) :: (dB false) :: (.v (.int .u8 v106)) :: (dB true) :: (dB true) :: (.v (.int .u8 v106)) :: (dB (decide (v106 ≤ 57))) :: (dB (decide (v106 ≤ 57))) :: (dB (decide (v106 ≤ 57))) :: q9 []))), []⟩ (by kernel_rfl) ?_
                          exact J22j124 _ _ _ _ _ _ _ _ h
                      exact Ops.st ⟨(.v (.str a0)) :: q1 ((dB false) :: (dI v96) :: (.v (.int .u8 v106)) :: q18 ((dI v96) :: (.v (.str a0)) :: (dI ((a0.size : Int))) :: (dB (decide (v96 < (a0.size : Int)))) :: q2 ((.v (.str a0)) :: (dI v96) :: (.v (.int .u8 v106)) :: (.v (.int .u8 v106)) :: (dB v111) :: (dB v111) :: d109 :: d110 :: (dB false) :: (dB false) :: (.v (.int .u8 v106)) :: (dB ((decide (v106 ≥ 48)))) :: (dB ((decide (v106 ≥ 48)))) :: q13 []))), []⟩ (by kernel_rfl) (G22g140 (decide (v106 ≥ 48)) h)
                    · refine Ops.seg' 7 14 (by kernel_rfl) ?_
                      refine Ops.st ⟨(.v (.str a0)) :: q1 ((dB false) :: (dI v96) :: (.v (.int .u8 v106)) :: q18 ((dI v96) :: (.v (.str a0)) :: (dI ((a0.size : Int))) :: (dB (decide (v96 < (a0.size : Int)))) :: q2 ((.v (.str a0)) :: (dI v96) :: (.v (.int .u8 v106)) :: (.v (.int .u8 v106)) :: (dB v111) :: (dB v111) :: d109 :: d110 :: (dB true) :: (dB true) :: u6 ((dB true) :: q9 [])))), []⟩ (by kernel_rfl) ?_
                      exact J22j124 _ _ _ _ _ _ _ _ h
                  exact Ops.st ⟨(.v (.str a0)) :: q1 ((dB false) :: (dI v96) :: (.v (.int .u8 v106)) :: q18 ((dI v96) :: (.v (.str a0)) :: (dI ((a0.size : Int))) :: (dB (decide (v96 < (a0.size : Int)))) :: q2 ((.v (.str a0)) :: (dI v96) :: (.v (.int .u8 v106)) :: (.v (.int .u8 v106)) :: (dB v111) :: (dB v111) :: d109 :: d110 :: (dB v112) :: (dB v112) :: q16 []))), []⟩ (by kernel_rfl) (G22g115 v112 h)
                have G22g108 : ∀ v107 : Bool, f22_r4 m v96 v106 ((v107 && (decide (v106 ≤ 122)))) = some sx104 → Ops (X22 n) (opl (cL (cR (cL (cL (cR (cL (cL (cR (cL (cR (cR C22)))))))))))) 3 ⟨(.v (.str a0)) :: q1 ((dB false) :: (dI v96) :: (.v (.int .u8 v106)) :: q18 ((dI v96) :: (.v (.str a0)) :: (dI ((a0.size : Int))) :: (dB (decide (v96 < (a0.size : Int)))) :: q2 ((.v (.str a0)) :: (dI v96) :: (.v (.int .u8 v106)) :: (.v (.int .u8 v106)) :: (dB v107) :: (dB v107) :: q20 []))), []⟩ ((seqQ (X22 n) (cR (cR (cL (cL (cR (cL (cL (cR (cL (cR (cR C22))))))))))) (blkQ (X22 n) 1 [0, 2, 3] 0 (seqQ (X22 n) (cR (cR (cL (cL (cR (cL (cR (cR C22)))))))) (lpQ (X22 n) [0, 2, 3] 0 (cL (cL (cR (cL (cR (cR C22)))))) nx99 (blkQ (X22 n) 0 [2] 0 (seqQ (X22 n) (cR (cR (cR C22))) (fnQ (X22 n).E.T (resOf Proofs.Tryd.prog 22) (eB o)))))))) .normal) := by
                  intro v107 h
                  cases v107
                  · refine Ops.seg' 3 6 (by kernel_rfl) ?_
                    refine Ops.st ⟨(.v (.str a0)) :: q1 ((dB false) :: (dI v96) :: (.v (.int .u8 v106)) :: q18 ((dI v96) :: (.v (.str a0)) :: (dI ((a0.size : Int))) :: (dB (decide (v96 < (a0.size : Int)))) :: q2 ((.v (.str a0)) :: (dI v96) :: (.v (.int .u8 v106)) :: (.v (.int .u8 v106)) :: (dB false) :: (dB false) :: u2 ((dB false) :: q17 [])))), []⟩ (by kernel_rfl) ?_
                    exact J22j113 _ _ _ _ h
                  · refine Ops.seg' 3 6 (by kernel_rfl) ?_
                    refine Ops.st ⟨(.v (.str a0)) :: q1 ((dB false) :: (dI v96) :: (.v (.int .u8 v106)) :: q18 ((dI v96) :: (.v (.str a0)) :: (dI ((a0.size : Int))) :: (dB (decide (v96 < (a0.size : Int)))) :: q2 ((.v (.str a0)) :: (dI v96) :: (.v (.int .u8 v106)) :: (.v (.int .u8 v106)) :: (dB true) :: (dB true) :: (.v (.int .u8 v106)) :: (dB (decide (v106 ≤ 122))) :: (dB (decide (v106 ≤ 122))) :: q17 []))), []⟩ (by kernel_rfl) ?_
                    exact J22j113 _ _ _ _ h
                exact Ops.st ⟨(.v (.str a0)) :: q1 ((dB false) :: (dI v96) :: (.v (.int .u8 v106)) :: q18 ((dI v96) :: (.v (.str a0)) :: (dI ((a0.size : Int))) :: (dB (decide (v96 < (a0.size : Int)))) :: q2 ((.v (.str a0)) :: (dI v96) :: (.v (.int .u8 v106)) :: (.v (.int .u8 v106)) :: (dB ((decide (v106 ≥ 97)))) :: (dB ((decide (v106 ≥ 97)))) :: q20 []))), []⟩ (by kernel_rfl) (G22g108 (decide (v106 ≥ 97)) h)
              · refine Wp.exit (id := 0) (by kernel_rfl) ?_
                refine sqQ.x ?_
                refine seqQ.x ?_
                cases h
                refine lpQ.x ?_
                refine blkQ.x ⟨(.v (.str a0)) :: q1 ((dB false) :: (dI v96) :: q40 (q11 [])), []⟩ (by kernel_rfl) ?_
                exact hxx102 v96  hsx105
          refine Wp.loop' [0, 2, 3] 0 (by kernel_rfl) ⟨(.v (.str a0)) :: q1 ((dB false) :: (dI 0) :: q40 (q11 [])), []⟩ (by kernel_rfl) ?_
          rcases brk_some h with ⟨r143, er143, h⟩ | ⟨y142, ey142, h⟩
          · refine hLx141 _ 0  _ er143 n (by omega) (fun r er σ hσ => ?_) (fun y  ey => by cases ey)
            cases er
            refine seqQ.r ?_
            exact fnQ.r' (X22 n) (fun z => (eB z)) h hσ
          · refine hLx141 _ 0  _ ey142 n (by omega) (fun r er => by cases er) (fun y  ey => ?_)
            cases ey
            refine seqQ.n ?_
            refine Wp.seq' (by kernel_rfl) ?_
            refine Wp.region (by kernel_rfl) ?_
            refine Ops.seg' 1 1 (by kernel_rfl) ?_
            refine Ops.done (by kernel_rfl) ?_
            refine seqQ.n ?_
            refine Wp.ret (by kernel_rfl) ?_
            exact fnQ.r' (X22 n) (fun z => (eB z)) h (RetOk.mk' (dB true) (by kernel_rfl) (by kernel_rfl))
      obtain ⟨v23, ev23, h⟩ := bnd_some h
      have G22g18 : ∀ v17 : Bool, (cnd v17 (some true) (bnd (sidx a0 0) fun v144 => some (decide (v144 > 122)))) = some v23 → Ops (X22 n) (opl (cL (cL (cR C22)))) 14 ⟨(.v (.str a0)) :: u1 ((dB false) :: u2 ((.v (.str a0)) :: (dI ((a0.size : Int))) :: (dB v6) :: (dB v6) :: d3 :: d4 :: d5 :: (dB v14) :: (dB v14) :: d11 :: d12 :: d13 :: (dB v17) :: (dB v17) :: u36 [])), []⟩ ((seqQ (X22 n) (cR (cL (cR C22))) (seqQ (X22 n) (cR (cR C22)) (fnQ (X22 n).E.T (resOf Proofs.Tryd.prog 22) (eB o)))) .normal) := by
        intro v17 ev23
        cases v17
        · have ev23 := cnd_f ev23
          refine Ops.seg' 1 15 (by kernel_rfl) ?_
          obtain ⟨v144, ev144, ev23⟩ := bnd_some ev23
          refine Ops.one' 16 (fun h0 e0 => (str_ix (T := T) h0 9 a0 0 v144 ev144 (by kernel_rfl))) (by kernel_rfl) (by kernel_rfl) ?_
          refine Ops.seg' 2 18 (by kernel_rfl) ?_
          refine Ops.st ⟨(.v (.str a0)) :: u1 ((dB false) :: u2 ((.v (.str a0)) :: (dI ((a0.size : Int))) :: (dB v6) :: (dB v6) :: d3 :: d4 :: d5 :: (dB v14) :: (dB v14) :: d11 :: d12 :: d13 :: (dB false) :: (dB false) :: (.v (.str a0)) :: (.v (.int .u8 v144)) :: (dB (decide (v144 > 122))) :: (dB (decide (v144 > 122))) :: u32 [])), []⟩ (by kernel_rfl) ?_
          exact J22j24 _ _ _ _ _ (some_sub (fun v23 => f22_r6 m a0 v23 = some o) ev23 h)
        · have ev23 := cnd_t ev23
          refine Ops.seg' 4 18 (by kernel_rfl) ?_
          refine Ops.st ⟨(.v (.str a0)) :: u1 ((dB false) :: u2 ((.v (.str a0)) :: (dI ((a0.size : Int))) :: (dB v6) :: (dB v6) :: d3 :: d4 :: d5 :: (dB v14) :: (dB v14) :: d11 :: d12 :: d13 :: (dB true) :: (dB true) :: u3 ((dB true) :: u32 []))), []⟩ (by kernel_rfl) ?_
          exact J22j24 _ _ _ _ _ (some_sub (fun v23 => f22_r6 m a0 v23 = some o) ev23 h)
      exact Ops.st ⟨(.v (.str a0)) :: u1 ((dB false) :: u2 ((.v (.str a0)) :: (dI ((a0.size : Int))) :: (dB v6) :: (dB v6) :: d3 :: d4 :: d5 :: (dB v14) :: (dB v14) :: d11 :: d12 :: d13 :: (dB v15) :: (dB v15) :: u36 [])), []⟩ (by kernel_rfl) (G22g18 v15 ev23)
    obtain ⟨v15, ev15, h⟩ := bnd_some h
    have G22g10 : ∀ v9 : Bool, (cnd v9 (some true) (bnd (sidx a0 0) fun v145 => some (decide (v145 < 97)))) = some v15 → Ops (X22 n) (opl (cL (cL (cR C22)))) 9 ⟨(.v (.str a0)) :: u1 ((dB false) :: u2 ((.v (.str a0)) :: (dI ((a0.size : Int))) :: (dB v6) :: (dB v6) :: d3 :: d4 :: d5 :: (dB v9) :: (dB v9) :: u40 (u1 []))), []⟩ ((seqQ (X22 n) (cR (cL (cR C22))) (seqQ (X22 n) (cR (cR C22)) (fnQ (X22 n).E.T (resOf Proofs.Tryd.prog 22) (eB o)))) .normal) := by
      intro v9 ev15
      cases v9
      · have ev15 := cnd_f ev15
        refine Ops.seg' 1 10 (by kernel_rfl) ?_
        obtain ⟨v145, ev145, ev15⟩ := bnd_some ev15
        refine Ops.one' 11 (fun h0 e0 => (str_ix (T := T) h0 9 a0 0 v145 ev145 (by kernel_rfl))) (by kernel_rfl) (by kernel_rfl) ?_
        refine Ops.seg' 2 13 (by kernel_rfl) ?_
        refine Ops.st ⟨(.v (.str a0)) :: u1 ((dB false) :: u2 ((.v (.str a0)) :: (dI ((a0.size : Int))) :: (dB v6) :: (dB v6) :: d3 :: d4 :: d5 :: (dB false) :: (dB false) :: (.v (.str a0)) :: (.v (.int .u8 v145)) :: (dB (decide (v145 < 97))) :: (dB (decide (v145 < 97))) :: u37 [])), []⟩ (by kernel_rfl) ?_
        exact J22j16 _ _ _ _ _ (some_sub (fun v15 => f22_r7 m a0 v15 = some o) ev15 h)
      · have ev15 := cnd_t ev15
        refine Ops.seg' 4 13 (by kernel_rfl) ?_
        refine Ops.st ⟨(.v (.str a0)) :: u1 ((dB false) :: u2 ((.v (.str a0)) :: (dI ((a0.size : Int))) :: (dB v6) :: (dB v6) :: d3 :: d4 :: d5 :: (dB true) :: (dB true) :: u3 ((dB true) :: u37 []))), []⟩ (by kernel_rfl) ?_
        exact J22j16 _ _ _ _ _ (some_sub (fun v15 => f22_r7 m a0 v15 = some o) ev15 h)
    exact Ops.st ⟨(.v (.str a0)) :: u1 ((dB false) :: u2 ((.v (.str a0)) :: (dI ((a0.size : Int))) :: (dB v6) :: (dB v6) :: d3 :: d4 :: d5 :: (dB v7) :: (dB v7) :: u40 (u1 []))), []⟩ (by kernel_rfl) (G22g10 v7 ev15)
  have G22g2 : ∀ v1 : Bool, f22_r8 m a0 ((v1 || (decide ((a0.size : Int) > 30)))) = some o → Ops (X22 n) (opl (cL (cL (cR C22)))) 4 ⟨(.v (.str a0)) :: u1 ((dB false) :: u2 ((.v (.str a0)) :: (dI ((a0.size : Int))) :: (dB v1) :: (dB v1) :: u40 (u6 []))), []⟩ ((seqQ (X22 n) (cR (cL (cR C22))) (seqQ (X22 n) (cR (cR C22)) (fnQ (X22 n).E.T (resOf Proofs.Tryd.prog 22) (eB o)))) .normal) := by
    intro v1 h
    cases v1
    · refine Ops.seg' 4 8 (by kernel_rfl) ?_
      refine Ops.st ⟨(.v (.str a0)) :: u1 ((dB false) :: u2 ((.v (.str a0)) :: (dI ((a0.size : Int))) :: (dB false) :: (dB false) :: (.v (.str a0)) :: (dI ((a0.size : Int))) :: (dB (decide ((a0.size : Int) > 30))) :: (dB (decide ((a0.size : Int) > 30))) :: u40 (u2 []))), []⟩ (by kernel_rfl) ?_
      exact J22j8 _ _ _ _ _ h
    · refine Ops.seg' 4 8 (by kernel_rfl) ?_
      refine Ops.st ⟨(.v (.str a0)) :: u1 ((dB false) :: u2 ((.v (.str a0)) :: (dI ((a0.size : Int))) :: (dB true) :: (dB true) :: u3 ((dB true) :: u40 (u2 [])))), []⟩ (by kernel_rfl) ?_
      exact J22j8 _ _ _ _ _ h
  exact Ops.st ⟨(.v (.str a0)) :: u1 ((dB false) :: u2 ((.v (.str a0)) :: (dI ((a0.size : Int))) :: (dB ((((a0.size : Int)) == 0))) :: (dB ((((a0.size : Int)) == 0))) :: u40 (u6 []))), []⟩ (by kernel_rfl) (G22g2 (((a0.size : Int)) == 0) h)

/-! ### 11 glosswright/glosswrightlaw6.samplesFault -/
def f11_B1 (m : Nat) (a0 : (List S39)) (v8 : Int) : Option (Stp S27 (Int)) :=
  cnd (decide (v8 < (a0.length : Int)))
  (bnd (idx a0 v8) fun v18 =>
  bnd (f13 m v18.fWord) fun v19 =>
  cnd (!v19)
  (some (.ret ((⟨5, v8⟩ : S27))))
  (bnd (f22 m v18.fTag) fun v20 =>
  cnd (!v20)
  (some (.ret ((⟨10, v8⟩ : S27))))
  (some (.nxt (w64 (v8 + 1))))))
  (some (.brk v8))
def f11 (m : Nat) (a0 : (List S39)) : Option S27 :=
  cnd (decide ((a0.length : Int) > 300))
  (some ((⟨2, (-1)⟩ : S27)))
  (brk (iter (fun (y : Int) => f11_B1 m a0 y) m 0) some fun y22 =>
  some ((⟨0, 0⟩ : S27)))
noncomputable abbrev X11 (n : Nat) : Cx := cxOf Proofs.Tryd.prog EG 11 n
noncomputable def C11 : Code := bodyOf Proofs.Tryd.prog 11
theorem ok11 (m : Nat) (a0 : (List S39)) (o : S27) (h : f11 m a0 = some o) (n : Nat) (hn : m + 5 ≤ n) : Fn Proofs.Tryd.prog EG n 11 [.v ((eL e39) a0)] (e27 o) := by
  obtain ⟨n, rfl⟩ : ∃ q, n = q + 1 := ⟨n - 1, by omega⟩
  unfold f11 at h
  refine Fn.of (by kernel_rfl) (by kernel_rfl) (by kernel_rfl) ⟨(dP e39 a0) :: u29 [], []⟩ (by kernel_rfl) ?_
  refine Wp.seq' (by kernel_rfl) ?_
  refine Wp.region (by kernel_rfl) ?_
  refine Ops.seg' 1 1 (by kernel_rfl) ?_
  refine Ops.done (by kernel_rfl) ?_
  refine seqQ.n ?_
  refine Wp.seq' (by kernel_rfl) ?_
  refine Wp.seq' (by kernel_rfl) ?_
  refine Wp.region (by kernel_rfl) ?_
  refine Ops.seg' 1 1 (by kernel_rfl) ?_
  refine Ops.one' 2 (fun h0 e0 => (len_r (T := T) h0 22 40 .plain e39 a0 (by kernel_rfl))) (by kernel_rfl) (by kernel_rfl) ?_
  refine Ops.seg' 1 3 (by kernel_rfl) ?_
  refine Ops.done (by kernel_rfl) ?_
  refine seqQ.n ?_
  refine Wp.cnd h [0, 2] 1 (by kernel_rfl) (fun h => ?_) (fun h => ?_)
  · refine Wp.seq' (by kernel_rfl) ?_
    refine Wp.region (by kernel_rfl) ?_
    refine Ops.seg' 2 2 (by kernel_rfl) ?_
    refine Ops.done (by kernel_rfl) ?_
    refine seqQ.n ?_
    refine Wp.ret (by kernel_rfl) ?_
    refine sqQ.r ?_
    refine seqQ.r ?_
    exact fnQ.r' (X11 n) (fun z => (e27 z)) h (RetOk.mk' (.v (.agg [(vI 2), (vI ((-1)))])) (by kernel_rfl) (by kernel_rfl))
  · refine Wp.skip (by kernel_rfl) ?_
    refine sqQ.n' ?_
    refine seqQ.n ?_
    refine Wp.seq' (by kernel_rfl) ?_
    refine Wp.seq' (by kernel_rfl) ?_
    refine Wp.region (by kernel_rfl) ?_
    refine Ops.seg' 1 1 (by kernel_rfl) ?_
    refine Ops.one' 2 (fun h0 e0 => (len_r (T := T) h0 22 40 .plain e39 a0 (by kernel_rfl))) (by kernel_rfl) (by kernel_rfl) ?_
    refine Ops.seg' 1 3 (by kernel_rfl) ?_
    refine Ops.done (by kernel_rfl) ?_
    refine seqQ.n ?_
    refine Wp.block' 0 [2] 1 (by kernel_rfl) ?_
    have hLx21 : ∀ (kx10 : Nat) (v8 : Int)  (ox9 : S27 ⊕ (Int)), iter (fun (y : Int) => f11_B1 m a0 y) kx10 v8 = some ox9 → ∀ nx11, kx10 ≤ nx11 → (∀ r, ox9 = .inl r → ∀ σ, RetOk (X11 n) (resOf Proofs.Tryd.prog 11) (e27 r) σ → (seqQ (X11 n) (cR (cR (cR C11))) (fnQ (X11 n).E.T (resOf Proofs.Tryd.prog 11) (e27 o))) .ret σ) → (∀ (y : Int) , ox9 = .inr y → (seqQ (X11 n) (cR (cR (cR C11))) (fnQ (X11 n).E.T (resOf Proofs.Tryd.prog 11) (e27 o))) .normal ⟨q2 ((.ptr 0 0) :: q6 ((dP e39 a0) :: (dI ((a0.length : Int))) :: (dI y) :: q18 [])), [(.cells [(dI 0), (dI 0)])]⟩) → Lp (X11 n) [2, 9, 10, 11] 1 (cL (cL (cR (cL (cR (cR C11)))))) nx11 ⟨q2 ((.ptr 0 0) :: q6 ((dP e39 a0) :: (dI ((a0.length : Int))) :: (dI v8) :: q18 [])), [(.cells [(dI 0), (dI 0)])]⟩ (blkQ (X11 n) 0 [2] 1 (seqQ (X11 n) (cR (cR (cR C11))) (fnQ (X11 n).E.T (resOf Proofs.Tryd.prog 11) (e27 o)))) := by
      intro kx10
      induction kx10 with
      | zero => intro v8  ox9 h; exact (iter_zero h).elim
      | succ kx10 ihx12 =>
        intro v8  ox9 h nx11 hnx15 hrx13 hxx14
        obtain ⟨nx11, rfl⟩ : ∃ q, nx11 = q + 1 := ⟨nx11 - 1, by omega⟩
        obtain ⟨sx16, h, hsx17⟩ := iter_some h
        have h : f11_B1 m a0 v8 = some sx16 := h
        unfold f11_B1 at h
        refine Lp.succ ?_
        refine Wp.seq' (by kernel_rfl) ?_
        refine Wp.region (by kernel_rfl) ?_
        refine Ops.seg' 1 1 (by kernel_rfl) ?_
        refine Ops.done (by kernel_rfl) ?_
        refine seqQ.n ?_
        refine Wp.seq' (by kernel_rfl) ?_
        refine Wp.cnd h [2, 9, 10, 11] 1 (by kernel_rfl) (fun h => ?_) (fun h => ?_)
        · refine Wp.skip (by kernel_rfl) ?_
          refine sqQ.n' ?_
          refine seqQ.n ?_
          refine Wp.seq' (by kernel_rfl) ?_
          refine Wp.block' 1 [2, 9, 10, 11] 1 (by kernel_rfl) ?_
          refine Wp.seq' (by kernel_rfl) ?_
          refine Wp.region (by kernel_rfl) ?_
          refine Ops.seg' 1 1 (by kernel_rfl) ?_
          obtain ⟨v18, ev18, h⟩ := bnd_some h
          refine Ops.one' 2 (fun h0 e0 => (ix_r (T := T) h0 22 40 2 .plain e39 a0 v8 v18 ev18 (by kernel_rfl) (by kernel_rfl) (fun _ => rfl))) (by kernel_rfl) (by kernel_rfl) ?_
          refine Ops.seg' 4 6 (by kernel_rfl) ?_
          refine Ops.done (by kernel_rfl) ?_
          refine seqQ.n ?_
          refine Wp.seq' (by kernel_rfl) ?_
          refine Wp.seq' (by kernel_rfl) ?_
          refine Wp.region (by kernel_rfl) ?_
          refine Ops.seg' 2 2 (by kernel_rfl) ?_
          obtain ⟨v19, ev19, h⟩ := bnd_some h
          refine Ops.one' 3 (fun h0 e0 => (call_ok (E' := EG) (h := h0) (by kernel_rfl) (Args.v (.str v18.fWord) (eS v18.fWord) (by kernel_rfl) Args.nil) (ok13 m v18.fWord v19 ev19 n (by omega)))) (by kernel_rfl) (by kernel_rfl) ?_
          refine Ops.seg' 1 4 (by kernel_rfl) ?_
          refine Ops.done (by kernel_rfl) ?_
          refine seqQ.n ?_
          refine Wp.cnd h [2, 3, 4, 9, 10, 11] 2 (by kernel_rfl) (fun h => ?_) (fun h => ?_)
          · refine Wp.seq' (by kernel_rfl) ?_
            refine Wp.region (by kernel_rfl) ?_
            refine Ops.seg' 3 3 (by kernel_rfl) ?_
            refine Ops.done (by kernel_rfl) ?_
            refine seqQ.n ?_
            refine Wp.ret (by kernel_rfl) ?_
            refine sqQ.r ?_
            refine seqQ.r ?_
            refine blkQ.r ?_
            refine seqQ.r ?_
            cases h
            refine lpQ.r ?_
            refine blkQ.r ?_
            exact hrx13 _ hsx17 _ (RetOk.forget [2, 9, 10, 11] (by kernel_rfl) (RetOk.mk' (.v (.agg [(vI 5), (vI v8)])) (by kernel_rfl) (by kernel_rfl)))
          · refine Wp.skip (by kernel_rfl) ?_
            refine sqQ.n' ?_
            refine seqQ.n ?_
            refine Wp.seq' (by kernel_rfl) ?_
            refine Wp.region (by kernel_rfl) ?_
            refine Ops.seg' 2 2 (by kernel_rfl) ?_
            obtain ⟨v20, ev20, h⟩ := bnd_some h
            refine Ops.one' 3 (fun h0 e0 => (call_ok (E' := EG) (h := h0) (by kernel_rfl) (Args.v (.str v18.fTag) (eS v18.fTag) (by kernel_rfl) Args.nil) (ok22 m v18.fTag v20 ev20 n (by omega)))) (by kernel_rfl) (by kernel_rfl) ?_
            refine Ops.seg' 1 4 (by kernel_rfl) ?_
            refine Ops.done (by kernel_rfl) ?_
            refine seqQ.n ?_
            refine Wp.cnd h [2, 9, 10, 11] 2 (by kernel_rfl) (fun h => ?_) (fun h => ?_)
            · refine Wp.seq' (by kernel_rfl) ?_
              refine Wp.region (by kernel_rfl) ?_
              refine Ops.seg' 3 3 (by kernel_rfl) ?_
              refine Ops.done (by kernel_rfl) ?_
              refine seqQ.n ?_
              refine Wp.ret (by kernel_rfl) ?_
              refine sqQ.r ?_
              refine blkQ.r ?_
              refine seqQ.r ?_
              cases h
              refine lpQ.r ?_
              refine blkQ.r ?_
              exact hrx13 _ hsx17 _ (RetOk.forget [2, 9, 10, 11] (by kernel_rfl) (RetOk.mk' (.v (.agg [(vI 10), (vI v8)])) (by kernel_rfl) (by kernel_rfl)))
            · refine Wp.skip (by kernel_rfl) ?_
              refine sqQ.n' ?_
              refine blkQ.n' ?_
              refine seqQ.n ?_
              refine Wp.region (by kernel_rfl) ?_
              refine Ops.seg' 2 2 (by kernel_rfl) ?_
              refine Ops.done (by kernel_rfl) ?_
              refine lpQ.n ⟨q2 ((.ptr 0 0) :: q6 ((dP e39 a0) :: (dI ((a0.length : Int))) :: (dI (w64 (v8 + 1))) :: q18 [])), [(.cells [(dI 0), (dI 0)])]⟩ (by kernel_rfl) ?_
              cases h
              exact ihx12 (w64 (v8 + 1))  _ hsx17 _ (by omega) hrx13 hxx14
        · refine Wp.exit (id := 0) (by kernel_rfl) ?_
          refine sqQ.x ?_
          refine seqQ.x ?_
          cases h
          refine lpQ.x ?_
          refine blkQ.x ⟨q2 ((.ptr 0 0) :: q6 ((dP e39 a0) :: (dI ((a0.length : Int))) :: (dI v8) :: q18 [])), [(.cells [(dI 0), (dI 0)])]⟩ (by kernel_rfl) ?_
          exact hxx14 v8  hsx17
    refine Wp.loop' [2, 9, 10, 11] 1 (by kernel_rfl) ⟨q2 ((.ptr 0 0) :: q6 ((dP e39 a0) :: (dI ((a0.length : Int))) :: (dI 0) :: q18 [])), [(.cells [(dI 0), (dI 0)])]⟩ (by kernel_rfl) ?_
    rcases brk_some h with ⟨r23, er23, h⟩ | ⟨y22, ey22, h⟩
    · refine hLx21 _ 0  _ er23 n (by omega) (fun r er σ hσ => ?_) (fun y  ey => by cases ey)
      cases er
      refine seqQ.r ?_
      exact fnQ.r' (X11 n) (fun z => (e27 z)) h hσ
    · refine hLx21 _ 0  _ ey22 n (by omega) (fun r er => by cases er) (fun y  ey => ?_)
      cases ey
      refine seqQ.n ?_
      refine Wp.seq' (by kernel_rfl) ?_
      refine Wp.region (by kernel_rfl) ?_
      refine Ops.seg' 2 2 (by kernel_rfl) ?_
      refine Ops.done (by kernel_rfl) ?_
      refine seqQ.n ?_
      refine Wp.ret (by kernel_rfl) ?_
      exact fnQ.r' (X11 n) (fun z => (e27 z)) h (RetOk.mk' (.v (.agg [(vI 0), (vI 0)])) (by kernel_rfl) (by kernel_rfl))

/-! ### 28 glosswright/glosswrightref6.has -/
def f28_B1 (m : Nat) (a0 : (List Int)) (a1 : Int) (a2 : (List Int)) (v18 : Int) : Option (Stp Bool (Int)) :=
  cnd (decide (v18 < (a2.length : Int)))
  (bnd (idx a2 v18) fun v28 =>
  bnd (idx a0 (w64 (a1 + v18))) fun v29 =>
  cnd (v29 != v28)
  (some (.ret false))
  (some (.nxt (w64 (v18 + 1)))))
  (some (.brk v18))
def f28_r2 (m : Nat) (a0 : (List Int)) (a1 : Int) (a2 : (List Int)) (v11 : Bool) : Option Bool :=
  cnd v11
  (some false)
  (brk (iter (fun (y : Int) => f28_B1 m a0 a1 a2 y) m 0) some fun y31 =>
  some true)
def f28 (m : Nat) (a0 : (List Int)) (a1 : Int) (a2 : (List Int)) : Option Bool :=
  f28_r2 m a0 a1 a2 (((decide (a1 < 0)) || (decide (w64 (a1 + (a2.length : Int)) > (a0.length : Int)))))
noncomputable abbrev X28 (n : Nat) : Cx := cxOf Proofs.Tryd.prog EG 28 n
noncomputable def C28 : Code := bodyOf Proofs.Tryd.prog 28
theorem ok28 (m : Nat) (a0 : (List Int)) (a1 : Int) (a2 : (List Int)) (o : Bool) (h : f28 m a0 a1 a2 = some o) (n : Nat) (hn : m + 1 ≤ n) : Fn Proofs.Tryd.prog EG n 28 [.v ((eL eI) a0), .v (eI a1), .v ((eL eI) a2)] (eB o) := by
  obtain ⟨n, rfl⟩ : ∃ q, n = q + 1 := ⟨n - 1, by omega⟩
  unfold f28 at h
  refine Fn.of (by kernel_rfl) (by kernel_rfl) (by kernel_rfl) ⟨(dP eI a0) :: (dI a1) :: (dP eI a2) :: u33 [], []⟩ (by kernel_rfl) ?_
  refine Wp.seq' (by kernel_rfl) ?_
  refine Wp.region (by kernel_rfl) ?_
  refine Ops.seg' 1 1 (by kernel_rfl) ?_
  refine Ops.done (by kernel_rfl) ?_
  refine seqQ.n ?_
  refine Wp.seq' (by kernel_rfl) ?_
  refine Wp.seq' (by kernel_rfl) ?_
  refine Wp.region (by kernel_rfl) ?_
  refine Ops.seg' 3 3 (by kernel_rfl) ?_
  have J28j12 : ∀ (d3 d4 d5 d6 d7 d8 d9 : D) (v10 : Bool) (v11 : Bool), f28_r2 m a0 a1 a2 v11 = some o → Ops (X28 n) (opl (cL (cL (cR C28)))) 11 ⟨(dP eI a0) :: (dI a1) :: (dP eI a2) :: u3 ((dB false) :: u2 ((dI a1) :: (dB v10) :: (dB v10) :: d3 :: d4 :: d5 :: d6 :: d7 :: d8 :: d9 :: (dB v11) :: u16 [])), []⟩ ((seqQ (X28 n) (cR (cL (cR C28))) (seqQ (X28 n) (cR (cR C28)) (fnQ (X28 n).E.T (resOf Proofs.Tryd.prog 28) (eB o)))) .normal) := by
    intro d3 d4 d5 d6 d7 d8 d9 v10 v11 h
    unfold f28_r2 at h
    refine Ops.done (by kernel_rfl) ?_
    refine seqQ.n ?_
    refine Wp.cnd h [0, 1, 2, 6] 0 (by kernel_rfl) (fun h => ?_) (fun h => ?_)
    · refine Wp.seq' (by kernel_rfl) ?_
      refine Wp.region (by kernel_rfl) ?_
      refine Ops.seg' 1 1 (by kernel_rfl) ?_
      refine Ops.done (by kernel_rfl) ?_
      refine seqQ.n ?_
      refine Wp.ret (by kernel_rfl) ?_
      refine sqQ.r ?_
      refine seqQ.r ?_
      exact fnQ.r' (X28 n) (fun z => (eB z)) h (RetOk.mk' (dB false) (by kernel_rfl) (by kernel_rfl))
    · refine Wp.skip (by kernel_rfl) ?_
      refine sqQ.n' ?_
      refine seqQ.n ?_
      refine Wp.seq' (by kernel_rfl) ?_
      refine Wp.seq' (by kernel_rfl) ?_
      refine Wp.region (by kernel_rfl) ?_
      refine Ops.seg' 1 1 (by kernel_rfl) ?_
      refine Ops.one' 2 (fun h0 e0 => (len_r (T := T) h0 41 3 .plain eI a2 (by kernel_rfl))) (by kernel_rfl) (by kernel_rfl) ?_
      refine Ops.seg' 1 3 (by kernel_rfl) ?_
      refine Ops.done (by kernel_rfl) ?_
      refine seqQ.n ?_
      refine Wp.block' 0 [6] 0 (by kernel_rfl) ?_
      have hLx30 : ∀ (kx20 : Nat) (v18 : Int)  (ox19 : Bool ⊕ (Int)), iter (fun (y : Int) => f28_B1 m a0 a1 a2 y) kx20 v18 = some ox19 → ∀ nx21, kx20 ≤ nx21 → (∀ r, ox19 = .inl r → ∀ σ, RetOk (X28 n) (resOf Proofs.Tryd.prog 28) (eB r) σ → (seqQ (X28 n) (cR (cR (cR C28))) (fnQ (X28 n).E.T (resOf Proofs.Tryd.prog 28) (eB o))) .ret σ) → (∀ (y : Int) , ox19 = .inr y → (seqQ (X28 n) (cR (cR (cR C28))) (fnQ (X28 n).E.T (resOf Proofs.Tryd.prog 28) (eB o))) .normal ⟨(dP eI a0) :: (dI a1) :: q4 ((dB false) :: q13 ((dP eI a2) :: (dI ((a2.length : Int))) :: (dI y) :: q13 [])), []⟩) → Lp (X28 n) [0, 1, 6, 20, 21, 22] 0 (cL (cL (cR (cL (cR (cR C28)))))) nx21 ⟨(dP eI a0) :: (dI a1) :: q4 ((dB false) :: q13 ((dP eI a2) :: (dI ((a2.length : Int))) :: (dI v18) :: q13 [])), []⟩ (blkQ (X28 n) 0 [6] 0 (seqQ (X28 n) (cR (cR (cR C28))) (fnQ (X28 n).E.T (resOf Proofs.Tryd.prog 28) (eB o)))) := by
        intro kx20
        induction kx20 with
        | zero => intro v18  ox19 h; exact (iter_zero h).elim
        | succ kx20 ihx22 =>
          intro v18  ox19 h nx21 hnx25 hrx23 hxx24
          obtain ⟨nx21, rfl⟩ : ∃ q, nx21 = q + 1 := ⟨nx21 - 1, by omega⟩
          obtain ⟨sx26, h, hsx27⟩ := iter_some h
          have h : f28_B1 m a0 a1 a2 v18 = some sx26 := h
          unfold f28_B1 at h
          refine Lp.succ ?_
          refine Wp.seq' (by kernel_rfl) ?_
          refine Wp.region (by kernel_rfl) ?_
          refine Ops.seg' 1 1 (by kernel_rfl) ?_
          refine Ops.done (by kernel_rfl) ?_
          refine seqQ.n ?_
          refine Wp.seq' (by kernel_rfl) ?_
          refine Wp.cnd h [0, 1, 6, 20, 21, 22] 0 (by kernel_rfl) (fun h => ?_) (fun h => ?_)
          · refine Wp.skip (by kernel_rfl) ?_
            refine sqQ.n' ?_
            refine seqQ.n ?_
            refine Wp.seq' (by kernel_rfl) ?_
            refine Wp.block' 1 [0, 1, 6, 20, 21, 22] 0 (by kernel_rfl) ?_
            refine Wp.seq' (by kernel_rfl) ?_
            refine Wp.region (by kernel_rfl) ?_
            refine Ops.seg' 1 1 (by kernel_rfl) ?_
            obtain ⟨v28, ev28, h⟩ := bnd_some h
            refine Ops.one' 2 (fun h0 e0 => (ix_r (T := T) h0 41 3 1 .plain eI a2 v18 v28 ev28 (by kernel_rfl) (by kernel_rfl) (fun _ => rfl))) (by kernel_rfl) (by kernel_rfl) ?_
            refine Ops.seg' 3 5 (by kernel_rfl) ?_
            refine Ops.done (by kernel_rfl) ?_
            refine seqQ.n ?_
            refine Wp.seq' (by kernel_rfl) ?_
            refine Wp.region (by kernel_rfl) ?_
            refine Ops.seg' 4 4 (by kernel_rfl) ?_
            obtain ⟨v29, ev29, h⟩ := bnd_some h
            refine Ops.one' 5 (fun h0 e0 => (ix_r (T := T) h0 41 3 1 .plain eI a0 (w64 (a1 + v18)) v29 ev29 (by kernel_rfl) (by kernel_rfl) (fun _ => rfl))) (by kernel_rfl) (by kernel_rfl) ?_
            refine Ops.seg' 3 8 (by kernel_rfl) ?_
            refine Ops.done (by kernel_rfl) ?_
            refine seqQ.n ?_
            refine Wp.cnd h [0, 1, 6, 20, 21, 22] 0 (by kernel_rfl) (fun h => ?_) (fun h => ?_)
            · refine Wp.seq' (by kernel_rfl) ?_
              refine Wp.region (by kernel_rfl) ?_
              refine Ops.seg' 1 1 (by kernel_rfl) ?_
              refine Ops.done (by kernel_rfl) ?_
              refine seqQ.n ?_
              refine Wp.ret (by kernel_rfl) ?_
              refine sqQ.r ?_
              refine blkQ.r ?_
              refine seqQ.r ?_
              cases h
              refine lpQ.r ?_
              refine blkQ.r ?_
              exact hrx23 _ hsx27 _ (RetOk.forget [0, 1, 6, 20, 21, 22] (by kernel_rfl) (RetOk.mk' (dB false) (by kernel_rfl) (by kernel_rfl)))
            · refine Wp.skip (by kernel_rfl) ?_
              refine sqQ.n' ?_
              refine blkQ.n' ?_
              refine seqQ.n ?_
              refine Wp.region (by kernel_rfl) ?_
              refine Ops.seg' 2 2 (by kernel_rfl) ?_
              refine Ops.done (by kernel_rfl) ?_
              refine lpQ.n ⟨(dP eI a0) :: (dI a1) :: q4 ((dB false) :: q13 ((dP eI a2) :: (dI ((a2.length : Int))) :: (dI (w64 (v18 + 1))) :: q13 [])), []⟩ (by kernel_rfl) ?_
              cases h
              exact ihx22 (w64 (v18 + 1))  _ hsx27 _ (by omega) hrx23 hxx24
          · refine Wp.exit (id := 0) (by kernel_rfl) ?_
            refine sqQ.x ?_
            refine seqQ.x ?_
            cases h
            refine lpQ.x ?_
            refine blkQ.x ⟨(dP eI a0) :: (dI a1) :: q4 ((dB false) :: q13 ((dP eI a2) :: (dI ((a2.length : Int))) :: (dI v18) :: q13 [])), []⟩ (by kernel_rfl) ?_
            exact hxx24 v18  hsx27
      refine Wp.loop' [0, 1, 6, 20, 21, 22] 0 (by kernel_rfl) ⟨(dP eI a0) :: (dI a1) :: q4 ((dB false) :: q13 ((dP eI a2) :: (dI ((a2.length : Int))) :: (dI 0) :: q13 [])), []⟩ (by kernel_rfl) ?_
      rcases brk_some h with ⟨r32, er32, h⟩ | ⟨y31, ey31, h⟩
      · refine hLx30 _ 0  _ er32 n (by omega) (fun r er σ hσ => ?_) (fun y  ey => by cases ey)
        cases er
        refine seqQ.r ?_
        exact fnQ.r' (X28 n) (fun z => (eB z)) h hσ
      · refine hLx30 _ 0  _ ey31 n (by omega) (fun r er => by cases er) (fun y  ey => ?_)
        cases ey
        refine seqQ.n ?_
        refine Wp.seq' (by kernel_rfl) ?_
        refine Wp.region (by kernel_rfl) ?_
        refine Ops.seg' 1 1 (by kernel_rfl) ?_
        refine Ops.done (by kernel_rfl) ?_
        refine seqQ.n ?_
        refine Wp.ret (by kernel_rfl) ?_
        exact fnQ.r' (X28 n) (fun z => (eB z)) h (RetOk.mk' (dB true) (by kernel_rfl) (by kernel_rfl))
  have G28g2 : ∀ v1 : Bool, f28_r2 m a0 a1 a2 ((v1 || (decide (w64 (a1 + (a2.length : Int)) > (a0.length : Int))))) = some o → Ops (X28 n) (opl (cL (cL (cR C28)))) 3 ⟨(dP eI a0) :: (dI a1) :: (dP eI a2) :: u3 ((dB false) :: u2 ((dI a1) :: (dB v1) :: (dB v1) :: u24 [])), []⟩ ((seqQ (X28 n) (cR (cL (cR C28))) (seqQ (X28 n) (cR (cR C28)) (fnQ (X28 n).E.T (resOf Proofs.Tryd.prog 28) (eB o)))) .normal) := by
    intro v1 h
    cases v1
    · refine Ops.seg' 2 5 (by kernel_rfl) ?_
      refine Ops.one' 6 (fun h0 e0 => (len_r (T := T) h0 41 3 .plain eI a2 (by kernel_rfl))) (by kernel_rfl) (by kernel_rfl) ?_
      refine Ops.seg' 2 8 (by kernel_rfl) ?_
      refine Ops.one' 9 (fun h0 e0 => (len_r (T := T) h0 41 3 .plain eI a0 (by kernel_rfl))) (by kernel_rfl) (by kernel_rfl) ?_
      refine Ops.seg' 2 11 (by kernel_rfl) ?_
      refine Ops.st ⟨(dP eI a0) :: (dI a1) :: (dP eI a2) :: u3 ((dB false) :: u2 ((dI a1) :: (dB false) :: (dB false) :: (dI a1) :: (dP eI a2) :: (dI ((a2.length : Int))) :: (dI (w64 (a1 + (a2.length : Int)))) :: (dP eI a0) :: (dI ((a0.length : Int))) :: (dB (decide (w64 (a1 + (a2.length : Int)) > (a0.length : Int)))) :: (dB (decide (w64 (a1 + (a2.length : Int)) > (a0.length : Int)))) :: u16 [])), []⟩ (by kernel_rfl) ?_
      exact J28j12 _ _ _ _ _ _ _ _ _ h
    · refine Ops.seg' 8 11 (by kernel_rfl) ?_
      refine Ops.st ⟨(dP eI a0) :: (dI a1) :: (dP eI a2) :: u3 ((dB false) :: u2 ((dI a1) :: (dB true) :: (dB true) :: u7 ((dB true) :: u16 []))), []⟩ (by kernel_rfl) ?_
      exact J28j12 _ _ _ _ _ _ _ _ _ h
  exact Ops.st ⟨(dP eI a0) :: (dI a1) :: (dP eI a2) :: u3 ((dB false) :: u2 ((dI a1) :: (dB ((decide (a1 < 0)))) :: (dB ((decide (a1 < 0)))) :: u24 [])), []⟩ (by kernel_rfl) (G28g2 (decide (a1 < 0)) h)

/-! ### 29 glosswright/glosswrightref6.ahead -/
def f29 (m : Nat) (a0 : S44) (a1 : S44) : Option Bool :=
  cnd (a0.fLength != a1.fLength)
  (some (decide (a0.fLength > a1.fLength)))
  (cnd (a0.fCount != a1.fCount)
  (some (decide (a0.fCount > a1.fCount)))
  (some (Op.bytesLess a0.fTag.toList a1.fTag.toList)))
noncomputable abbrev X29 (n : Nat) : Cx := cxOf Proofs.Tryd.prog EG 29 n
noncomputable def C29 : Code := bodyOf Proofs.Tryd.prog 29
theorem ok29 (m : Nat) (a0 : S44) (a1 : S44) (o : Bool) (h : f29 m a0 a1 = some o) (n : Nat) (hn : m + 1 ≤ n) : Fn Proofs.Tryd.prog EG n 29 [.v (e44 a0), .v (e44 a1)] (eB o) := by
  obtain ⟨n, rfl⟩ : ∃ q, n = q + 1 := ⟨n - 1, by omega⟩
  unfold f29 at h
  refine Fn.of (by kernel_rfl) (by kernel_rfl) (by kernel_rfl) ⟨(.v (.agg [(.str a0.fTag), (vI a0.fLength), (vI a0.fCount)])) :: (.v (.agg [(.str a1.fTag), (vI a1.fLength), (vI a1.fCount)])) :: u28 [], []⟩ (by kernel_rfl) ?_
  refine Wp.seq' (by kernel_rfl) ?_
  refine Wp.region (by kernel_rfl) ?_
  refine Ops.seg' 3 3 (by kernel_rfl) ?_
  refine Ops.done (by kernel_rfl) ?_
  refine seqQ.n ?_
  refine Wp.seq' (by kernel_rfl) ?_
  refine Wp.seq' (by kernel_rfl) ?_
  refine Wp.region (by kernel_rfl) ?_
  refine Ops.seg' 5 5 (by kernel_rfl) ?_
  refine Ops.done (by kernel_rfl) ?_
  refine seqQ.n ?_
  refine Wp.cnd h [2, 3, 4] 2 (by kernel_rfl) (fun h => ?_) (fun h => ?_)
  · refine Wp.seq' (by kernel_rfl) ?_
    refine Wp.region (by kernel_rfl) ?_
    refine Ops.seg' 6 6 (by kernel_rfl) ?_
    refine Ops.done (by kernel_rfl) ?_
    refine seqQ.n ?_
    refine Wp.ret (by kernel_rfl) ?_
    refine sqQ.r ?_
    refine seqQ.r ?_
    exact fnQ.r' (X29 n) (fun z => (eB z)) h (RetOk.mk' (dB (decide (a0.fLength > a1.fLength))) (by kernel_rfl) (by kernel_rfl))
  · refine Wp.skip (by kernel_rfl) ?_
    refine sqQ.n' ?_
    refine seqQ.n ?_
    refine Wp.seq' (by kernel_rfl) ?_
    refine Wp.seq' (by kernel_rfl) ?_
    refine Wp.region (by kernel_rfl) ?_
    refine Ops.seg' 5 5 (by kernel_rfl) ?_
    refine Ops.done (by kernel_rfl) ?_
    refine seqQ.n ?_
    refine Wp.cnd h [2, 3, 4] 2 (by kernel_rfl) (fun h => ?_) (fun h => ?_)
    · refine Wp.seq' (by kernel_rfl) ?_
      refine Wp.region (by kernel_rfl) ?_
      refine Ops.seg' 6 6 (by kernel_rfl) ?_
      refine Ops.done (by kernel_rfl) ?_
      refine seqQ.n ?_
      refine Wp.ret (by kernel_rfl) ?_
      refine sqQ.r ?_
      refine seqQ.r ?_
      exact fnQ.r' (X29 n) (fun z => (eB z)) h (RetOk.mk' (dB (decide (a0.fCount > a1.fCount))) (by kernel_rfl) (by kernel_rfl))
    · refine Wp.skip (by kernel_rfl) ?_
      refine sqQ.n' ?_
      refine seqQ.n ?_
      refine Wp.seq' (by kernel_rfl) ?_
      refine Wp.region (by kernel_rfl) ?_
      refine Ops.seg' 6 6 (by kernel_rfl) ?_
      refine Ops.done (by kernel_rfl) ?_
      refine seqQ.n ?_
      refine Wp.ret (by kernel_rfl) ?_
      exact fnQ.r' (X29 n) (fun z => (eB z)) h (RetOk.mk' (dB (Op.bytesLess a0.fTag.toList a1.fTag.toList)) (by kernel_rfl) (by kernel_rfl))

/-! ### 15 glosswright/glosswrightref6.RankOf -/
def f15_j1 (m : Nat) (v1309 : Int) (v1319 : (List S44)) : Option (Stp ((List S44)) ((List S44) × Int)) :=
  some (.nxt (v1319, w64 (v1309 + 1)))
def f15_r2 (m : Nat) (v1338 : Int) (v1357 : Bool) : Option (Stp ((List S44)) (Bool × Int)) :=
  some (.nxt (v1357, w64 (v1338 + 1)))
def f15_B3 (m : Nat) (v1307 : (List S44)) (v1322 : S39) (v1337 : Bool) (v1338 : Int) : Option (Stp ((List S44)) (Bool × Int)) :=
  cnd (decide (v1338 < (v1307.length : Int)))
  (bnd (idx v1307 v1338) fun v1348 =>
  f15_r2 m v1338 ((v1337 || ((v1348.fTag.toList == v1322.fTag.toList)))))
  (some (.brk (v1337, v1338)))
def f15_j4 (m : Nat) (v1764 : Int) (v1785 : Int) (v1786 : Int) : Option (Stp ((List S44)) (Int × Int × Int)) :=
  some (.nxt (w64 (v1764 + 1), v1785, v1786))
def f15_j5 (m : Nat) (v1859 : Int) (v1869 : Int) : Option (Stp ((List S44)) (Int × Int)) :=
  some (.nxt (v1869, w64 (v1859 + 1)))
def f15_j6 (m : Nat) (v1859 : Int) (v1899 : Int) : Option (Stp ((List S44)) (Int × Int)) :=
  f15_j5 m v1859 v1899
def f15_r7 (m : Nat) (v1858 : Int) (v1859 : Int) (v1897 : Bool) : Option (Stp ((List S44)) (Int × Int)) :=
  cnd v1897
  (f15_j6 m v1859 (w64 (v1858 + 1)))
  (f15_j6 m v1859 v1858)
def f15_r8 (m : Nat) (v1 : ((List Int) × S27)) (v1764 : Int) (v1858 : Int) (v1859 : Int) (v1872 : ((List Int) × S27)) (v1880 : Bool) : Option (Stp ((List S44)) (Int × Int)) :=
  bnd (cnd v1880
  (bnd (sub v1.1 (w64 ((v1.1.length : Int) - v1764)) (v1.1.length : Int)) fun v1901 =>
  bnd (f28 m v1872.1 (w64 ((v1872.1.length : Int) - v1764)) v1901) fun v1902 =>
  some v1902)
  (some false)) fun v1897 =>
  f15_r7 m v1858 v1859 v1897
def f15_B9 (m : Nat) (a0 : (List S39)) (v1 : ((List Int) × S27)) (v1322 : S39) (v1764 : Int) (v1858 : Int) (v1859 : Int) : Option (Stp ((List S44)) (Int × Int)) :=
  cnd (decide (v1859 < (a0.length : Int)))
  (bnd (idx a0 v1859) fun v1871 =>
  bnd (f16 m v1871.fWord) fun v1872 =>
  f15_r8 m v1 v1764 v1858 v1859 v1872 ((((v1871.fTag.toList == v1322.fTag.toList)) && (decide ((v1872.1.length : Int) ≥ v1764)))))
  (some (.brk (v1858, v1859)))
def f15_j10 (m : Nat) (v1764 : Int) (v1906 : Int) (v1907 : Int) : Option (Stp ((List S44)) (Int × Int × Int)) :=
  f15_j4 m v1764 v1906 v1907
def f15_r11 (m : Nat) (a0 : (List S39)) (v1 : ((List Int) × S27)) (v1322 : S39) (v1764 : Int) (v1765 : Int) (v1766 : Int) (v1783 : Bool) : Option (Stp ((List S44)) (Int × Int × Int)) :=
  cnd v1783
  (brk (iter (fun (y : Int × Int) => f15_B9 m a0 v1 v1322 v1764 y.1 y.2) m (0, 0)) (fun r => some (.ret r)) fun y1904 =>
  cnd (decide (y1904.1 > 0))
  (f15_j10 m v1764 v1764 y1904.1)
  (f15_j10 m v1764 v1765 v1766))
  (some (.brk (v1764, v1765, v1766)))
def f15_B12 (m : Nat) (a0 : (List S39)) (v1 : ((List Int) × S27)) (v1322 : S39) (v1764 : Int) (v1765 : Int) (v1766 : Int) : Option (Stp ((List S44)) (Int × Int × Int)) :=
  f15_r11 m a0 v1 v1322 v1764 v1765 v1766 (((decide (v1764 ≤ 5)) && (decide (v1764 ≤ (v1.1.length : Int)))))
def f15_r13 (m : Nat) (v1939 : Int) (v1958 : Bool) : Option (Stp ((List S44)) (Int)) :=
  cnd v1958
  (some (.nxt (w64 (v1939 + 1))))
  (some (.brk v1939))
def f15_B14 (m : Nat) (v1307 : (List S44)) (v1322 : S39) (y1910 : Int × Int × Int) (v1939 : Int) : Option (Stp ((List S44)) (Int)) :=
  bnd (cnd (decide (v1939 < (v1307.length : Int)))
  (bnd (idx v1307 v1939) fun v1960 =>
  bnd (f29 m v1960 ((⟨v1322.fTag, y1910.2.1, y1910.2.2⟩ : S44))) fun v1961 =>
  some v1961)
  (some false)) fun v1958 =>
  f15_r13 m v1939 v1958
def f15_B15 (m : Nat) (a0 : (List S39)) (v1 : ((List Int) × S27)) (v1307 : (List S44)) (v1309 : Int) : Option (Stp ((List S44)) ((List S44) × Int)) :=
  cnd (decide (v1309 < (a0.length : Int)))
  (bnd (idx a0 v1309) fun v1322 =>
  brk (iter (fun (y : Bool × Int) => f15_B3 m v1307 v1322 y.1 y.2) m (false, 0)) (fun r => some (.ret r)) fun y1360 =>
  cnd y1360.1
  (f15_j1 m v1309 v1307)
  (brk (iter (fun (y : Int × Int × Int) => f15_B12 m a0 v1 v1322 y.1 y.2.1 y.2.2) m (0, 0, 0)) (fun r => some (.ret r)) fun y1910 =>
  brk (iter (fun (y : Int) => f15_B14 m v1307 v1322 y1910 y) m 0) (fun r => some (.ret r)) fun y1963 =>
  bnd (sub v1307 0 y1963) fun v1965 =>
  bnd (app 32 [] v1965) fun v1966 =>
  bnd (app 32 v1966 ([(⟨v1322.fTag, y1910.2.1, y1910.2.2⟩ : S44)])) fun v1967 =>
  bnd (sub v1307 y1963 (v1307.length : Int)) fun v1968 =>
  bnd (app 32 v1967 v1968) fun v1969 =>
  f15_j1 m v1309 v1969))
  (some (.brk (v1307, v1309)))
def f15 (m : Nat) (a0 : (List S39)) (a1 : ByteArray) : Option (List S44) :=
  bnd (f16 m a1) fun v1 =>
  brk (iter (fun (y : (List S44) × Int) => f15_B15 m a0 v1 y.1 y.2) m ([], 0)) some fun y1971 =>
  some y1971.1
noncomputable abbrev X15 (n : Nat) : Cx := cxOf Proofs.Tryd.prog EG 15 n
noncomputable def C15 : Code := bodyOf Proofs.Tryd.prog 15
theorem f15_hLx1962 (m : Nat) (a0 : (List S39)) (a1 : ByteArray) (o : (List S44)) (n : Nat) (hn : m + 4 ≤ n + 1) (v1307 : (List S44)) (v1322 : S39) (y1910 : Int × Int × Int) (nx1312 : Nat) (v1 : ((List Int) × S27)) (ag1308 : AG) (v1309 : Int) : ∀ (kx1941 : Nat) (v1939 : Int)  (ox1940 : (List S44) ⊕ (Int)), iter (fun (y : Int) => f15_B14 m v1307 v1322 y1910 y) kx1941 v1939 = some ox1940 → ∀ nx1942, kx1941 ≤ nx1942 → (∀ r, ox1940 = .inl r → ∀ σ, RetOk (X15 n) (resOf Proofs.Tryd.prog 15) ((eL e44) r) σ → (seqQ (X15 n) (cR (cR (cR (cR (cR (cR (cR (cR (cL (cL (cR (cR (cL (cL (cR (cL (cR (cR (cR C15))))))))))))))))))) (blkQ (X15 n) 1 [0, 4, 5, 7, 26, 27, 28] 3 (seqQ (X15 n) (cR (cR (cR (cL (cL (cR (cL (cR (cR (cR C15)))))))))) (lpQ (X15 n) [0, 4, 5, 7, 26, 27, 28] 1 (cL (cL (cR (cL (cR (cR (cR C15))))))) nx1312 (blkQ (X15 n) 0 [4, 7] 1 (seqQ (X15 n) (cR (cR (cR (cR C15)))) (fnQ (X15 n).E.T (resOf Proofs.Tryd.prog 15) ((eL e44) o)))))))) .ret σ) → (∀ (y : Int) , ox1940 = .inr y → (seqQ (X15 n) (cR (cR (cR (cR (cR (cR (cR (cR (cL (cL (cR (cR (cL (cL (cR (cL (cR (cR (cR C15))))))))))))))))))) (blkQ (X15 n) 1 [0, 4, 5, 7, 26, 27, 28] 3 (seqQ (X15 n) (cR (cR (cR (cL (cL (cR (cL (cR (cR (cR C15)))))))))) (lpQ (X15 n) [0, 4, 5, 7, 26, 27, 28] 1 (cL (cL (cR (cL (cR (cR (cR C15))))))) nx1312 (blkQ (X15 n) 0 [4, 7] 1 (seqQ (X15 n) (cR (cR (cR (cR C15)))) (fnQ (X15 n).E.T (resOf Proofs.Tryd.prog 15) ((eL e44) o)))))))) .normal ⟨(dP e39 a0) :: q3 ((.v (.sl .nil (List.map e44 []))) :: (dP eI v1.1) :: q1 ((AG.d ag1308 8 (List.map e44 v1307)) :: q5 ((.ptr 6 0) :: q6 ((dI y) :: q5 ((dP e39 a0) :: (dI ((a0.length : Int))) :: (dI v1309) :: q40 (q40 (q26 []))))))), [(.cells [(dI v1.2.fCode), (dI v1.2.fIndex)]), .dead, .dead, (.cells [(.v (.str v1322.fWord)), (.v (.str v1322.fTag))]), .dead, .dead, (.cells [(.v (.str v1322.fTag)), (dI y1910.2.1), (dI y1910.2.2)]), .dead, (AG.o ag1308 3 (List.map e44 v1307))]⟩) → Lp (X15 n) [0, 4, 5, 7, 13, 20, 26, 27, 28] 8 (cL (cL (cL (cR (cR (cR (cR (cR (cR (cR (cL (cL (cR (cR (cL (cL (cR (cL (cR (cR (cR C15))))))))))))))))))))) nx1942 ⟨(dP e39 a0) :: q3 ((.v (.sl .nil (List.map e44 []))) :: (dP eI v1.1) :: q1 ((AG.d ag1308 8 (List.map e44 v1307)) :: q5 ((.ptr 6 0) :: q6 ((dI v1939) :: q5 ((dP e39 a0) :: (dI ((a0.length : Int))) :: (dI v1309) :: q40 (q40 (q26 []))))))), [(.cells [(dI v1.2.fCode), (dI v1.2.fIndex)]), .dead, .dead, (.cells [(.v (.str v1322.fWord)), (.v (.str v1322.fTag))]), .dead, .dead, (.cells [(.v (.str v1322.fTag)), (dI y1910.2.1), (dI y1910.2.2)]), .dead, (AG.o ag1308 3 (List.map e44 v1307))]⟩ (blkQ (X15 n) 8 [0, 4, 5, 7, 13, 20, 26, 27, 28] 8 (seqQ (X15 n) (cR (cR (cR (cR (cR (cR (cR (cR (cL (cL (cR (cR (cL (cL (cR (cL (cR (cR (cR C15))))))))))))))))))) (blkQ (X15 n) 1 [0, 4, 5, 7, 26, 27, 28] 3 (seqQ (X15 n) (cR (cR (cR (cL (cL (cR (cL (cR (cR (cR C15)))))))))) (lpQ (X15 n) [0, 4, 5, 7, 26, 27, 28] 1 (cL (cL (cR (cL (cR (cR (cR C15))))))) nx1312 (blkQ (X15 n) 0 [4, 7] 1 (seqQ (X15 n) (cR (cR (cR (cR C15)))) (fnQ (X15 n).E.T (resOf Proofs.Tryd.prog 15) ((eL e44) o))))))))) := by
  intro kx1941
  induction kx1941 with
  | zero => intro v1939  ox1940 h; exact (iter_zero h).elim
  | succ kx1941 ihx1943 =>
    intro v1939  ox1940 h nx1942 hnx1946 hrx1944 hxx1945
    obtain ⟨nx1942, rfl⟩ : ∃ q, nx1942 = q + 1 := ⟨nx1942 - 1, by omega⟩
    obtain ⟨sx1947, h, hsx1948⟩ := iter_some h
    have h : f15_B14 m v1307 v1322 y1910 v1939 = some sx1947 := h
    unfold f15_B14 at h
    refine Lp.succ ?_
    refine Wp.seq' (by kernel_rfl) ?_
    refine Wp.seq' (by kernel_rfl) ?_
    refine Wp.region (by kernel_rfl) ?_
    refine Ops.seg' 2 2 (by kernel_rfl) ?_
    refine Ops.one' 3 (fun h0 e0 => (len_g (T := T) h0 32 45 8 ag1308 e44 v1307 (by kernel_rfl))) (by kernel_rfl) (by kernel_rfl) ?_
    refine Ops.seg' 2 5 (by kernel_rfl) ?_
    have J15j1959 : ∀ (d1951 d1952 d1953 d1954 d1955 d1956 : D) (v1957 : Bool) (v1958 : Bool), f15_r13 m v1939 v1958 = some sx1947 → Ops (X15 n) (opl (cL (cL (cL (cL (cL (cR (cR (cR (cR (cR (cR (cR (cL (cL (cR (cR (cL (cL (cR (cL (cR (cR (cR C15)))))))))))))))))))))))) 12 ⟨(dP e39 a0) :: q3 ((.v (.sl .nil (List.map e44 []))) :: (dP eI v1.1) :: q1 ((AG.d ag1308 8 (List.map e44 v1307)) :: q5 ((.ptr 6 0) :: q6 ((dI v1939) :: q5 ((dP e39 a0) :: (dI ((a0.length : Int))) :: (dI v1309) :: q40 (q38 ((dI v1939) :: (AG.d ag1308 8 (List.map e44 v1307)) :: (dI ((v1307.length : Int))) :: (dB v1957) :: (dB v1957) :: d1951 :: d1952 :: d1953 :: d1954 :: d1955 :: d1956 :: (dB v1958) :: q16 []))))))), [(.cells [(dI v1.2.fCode), (dI v1.2.fIndex)]), .dead, .dead, (.cells [(.v (.str v1322.fWord)), (.v (.str v1322.fTag))]), .dead, .dead, (.cells [(.v (.str v1322.fTag)), (dI y1910.2.1), (dI y1910.2.2)]), .dead, (AG.o ag1308 3 (List.map e44 v1307))]⟩ ((seqQ (X15 n) (cR (cL (cL (cL (cL (cR (cR (cR (cR (cR (cR (cR (cL (cL (cR (cR (cL (cL (cR (cL (cR (cR (cR C15))))))))))))))))))))))) (seqQ (X15 n) (cR (cL (cL (cL (cR (cR (cR (cR (cR (cR (cR (cL (cL (cR (cR (cL (cL (cR (cL (cR (cR (cR C15)))))))))))))))))))))) (lpQ (X15 n) [0, 4, 5, 7, 13, 20, 26, 27, 28] 8 (cL (cL (cL (cR (cR (cR (cR (cR (cR (cR (cL (cL (cR (cR (cL (cL (cR (cL (cR (cR (cR C15))))))))))))))))))))) nx1942 (blkQ (X15 n) 8 [0, 4, 5, 7, 13, 20, 26, 27, 28] 8 (seqQ (X15 n) (cR (cR (cR (cR (cR (cR (cR (cR (cL (cL (cR (cR (cL (cL (cR (cL (cR (cR (cR C15))))))))))))))))))) (blkQ (X15 n) 1 [0, 4, 5, 7, 26, 27, 28] 3 (seqQ (X15 n) (cR (cR (cR (cL (cL (cR (cL (cR (cR (cR C15)))))))))) (lpQ (X15 n) [0, 4, 5, 7, 26, 27, 28] 1 (cL (cL (cR (cL (cR (cR (cR C15))))))) nx1312 (blkQ (X15 n) 0 [4, 7] 1 (seqQ (X15 n) (cR (cR (cR (cR C15)))) (fnQ (X15 n).E.T (resOf Proofs.Tryd.prog 15) ((eL e44) o)))))))))))) .normal) := by
      intro d1951 d1952 d1953 d1954 d1955 d1956 v1957 v1958 h
      unfold f15_r13 at h
      refine Ops.done (by kernel_rfl) ?_
      refine seqQ.n ?_
      refine Wp.cnd h [0, 4, 5, 7, 13, 20, 26, 27, 28] 9 (by kernel_rfl) (fun h => ?_) (fun h => ?_)
      · refine Wp.skip (by kernel_rfl) ?_
        refine sqQ.n ⟨(dP e39 a0) :: q3 ((.v (.sl .nil (List.map e44 []))) :: (dP eI v1.1) :: q1 ((AG.d ag1308 9 (List.map e44 v1307)) :: q5 ((.ptr 6 0) :: q6 ((dI v1939) :: q5 ((dP e39 a0) :: (dI ((a0.length : Int))) :: (dI v1309) :: q40 (q40 (q26 []))))))), [(.cells [(dI v1.2.fCode), (dI v1.2.fIndex)]), .dead, .dead, (.cells [(.v (.str v1322.fWord)), (.v (.str v1322.fTag))]), .dead, .dead, (.cells [(.v (.str v1322.fTag)), (dI y1910.2.1), (dI y1910.2.2)]), .dead, .dead, (AG.o ag1308 3 (List.map e44 v1307))]⟩ (by cases ag1308 <;> kernel_rfl) ?_
        refine seqQ.n ?_
        refine Wp.block' 9 [0, 4, 5, 7, 13, 20, 26, 27, 28] 10 (by kernel_rfl) ?_
        refine Wp.region (by kernel_rfl) ?_
        refine Ops.seg' 3 3 (by kernel_rfl) ?_
        refine Ops.done (by kernel_rfl) ?_
        refine blkQ.n ⟨(dP e39 a0) :: q3 ((.v (.sl .nil (List.map e44 []))) :: (dP eI v1.1) :: q1 ((AG.d ag1308 10 (List.map e44 v1307)) :: q5 ((.ptr 6 0) :: q6 ((dI (w64 (v1939 + 1))) :: q5 ((dP e39 a0) :: (dI ((a0.length : Int))) :: (dI v1309) :: q40 (q40 (q26 []))))))), [(.cells [(dI v1.2.fCode), (dI v1.2.fIndex)]), .dead, .dead, (.cells [(.v (.str v1322.fWord)), (.v (.str v1322.fTag))]), .dead, .dead, (.cells [(.v (.str v1322.fTag)), (dI y1910.2.1), (dI y1910.2.2)]), .dead, .dead, .dead, (AG.o ag1308 3 (List.map e44 v1307))]⟩ (by cases ag1308 <;> kernel_rfl) ?_
        refine lpQ.n ⟨(dP e39 a0) :: q3 ((.v (.sl .nil (List.map e44 []))) :: (dP eI v1.1) :: q1 ((AG.d ag1308 8 (List.map e44 v1307)) :: q5 ((.ptr 6 0) :: q6 ((dI (w64 (v1939 + 1))) :: q5 ((dP e39 a0) :: (dI ((a0.length : Int))) :: (dI v1309) :: q40 (q40 (q26 []))))))), [(.cells [(dI v1.2.fCode), (dI v1.2.fIndex)]), .dead, .dead, (.cells [(.v (.str v1322.fWord)), (.v (.str v1322.fTag))]), .dead, .dead, (.cells [(.v (.str v1322.fTag)), (dI y1910.2.1), (dI y1910.2.2)]), .dead, (AG.o ag1308 3 (List.map e44 v1307))]⟩ (by cases ag1308 <;> kernel_rfl) ?_
        cases h
        exact ihx1943 (w64 (v1939 + 1))  _ hsx1948 _ (by omega) hrx1944 hxx1945
      · refine Wp.exit (id := 8) (by kernel_rfl) ?_
        refine sqQ.x ?_
        refine seqQ.x ?_
        cases h
        refine lpQ.x ?_
        refine blkQ.x ⟨(dP e39 a0) :: q3 ((.v (.sl .nil (List.map e44 []))) :: (dP eI v1.1) :: q1 ((AG.d ag1308 8 (List.map e44 v1307)) :: q5 ((.ptr 6 0) :: q6 ((dI v1939) :: q5 ((dP e39 a0) :: (dI ((a0.length : Int))) :: (dI v1309) :: q40 (q40 (q26 []))))))), [(.cells [(dI v1.2.fCode), (dI v1.2.fIndex)]), .dead, .dead, (.cells [(.v (.str v1322.fWord)), (.v (.str v1322.fTag))]), .dead, .dead, (.cells [(.v (.str v1322.fTag)), (dI y1910.2.1), (dI y1910.2.2)]), .dead, (AG.o ag1308 3 (List.map e44 v1307))]⟩ (by cases ag1308 <;> kernel_rfl) ?_
        exact hxx1945 v1939  hsx1948
    obtain ⟨v1958, ev1958, h⟩ := bnd_some h
    have G15g1950 : ∀ v1949 : Bool, (cnd v1949 (bnd (idx v1307 v1939) fun v1960 => bnd (f29 m v1960 ((⟨v1322.fTag, y1910.2.1, y1910.2.2⟩ : S44))) fun v1961 => some v1961) (some false)) = some v1958 → Ops (X15 n) (opl (cL (cL (cL (cL (cL (cR (cR (cR (cR (cR (cR (cR (cL (cL (cR (cR (cL (cL (cR (cL (cR (cR (cR C15)))))))))))))))))))))))) 5 ⟨(dP e39 a0) :: q3 ((.v (.sl .nil (List.map e44 []))) :: (dP eI v1.1) :: q1 ((AG.d ag1308 8 (List.map e44 v1307)) :: q5 ((.ptr 6 0) :: q6 ((dI v1939) :: q5 ((dP e39 a0) :: (dI ((a0.length : Int))) :: (dI v1309) :: q40 (q38 ((dI v1939) :: (AG.d ag1308 8 (List.map e44 v1307)) :: (dI ((v1307.length : Int))) :: (dB v1949) :: (dB v1949) :: q23 []))))))), [(.cells [(dI v1.2.fCode), (dI v1.2.fIndex)]), .dead, .dead, (.cells [(.v (.str v1322.fWord)), (.v (.str v1322.fTag))]), .dead, .dead, (.cells [(.v (.str v1322.fTag)), (dI y1910.2.1), (dI y1910.2.2)]), .dead, (AG.o ag1308 3 (List.map e44 v1307))]⟩ ((seqQ (X15 n) (cR (cL (cL (cL (cL (cR (cR (cR (cR (cR (cR (cR (cL (cL (cR (cR (cL (cL (cR (cL (cR (cR (cR C15))))))))))))))))))))))) (seqQ (X15 n) (cR (cL (cL (cL (cR (cR (cR (cR (cR (cR (cR (cL (cL (cR (cR (cL (cL (cR (cL (cR (cR (cR C15)))))))))))))))))))))) (lpQ (X15 n) [0, 4, 5, 7, 13, 20, 26, 27, 28] 8 (cL (cL (cL (cR (cR (cR (cR (cR (cR (cR (cL (cL (cR (cR (cL (cL (cR (cL (cR (cR (cR C15))))))))))))))))))))) nx1942 (blkQ (X15 n) 8 [0, 4, 5, 7, 13, 20, 26, 27, 28] 8 (seqQ (X15 n) (cR (cR (cR (cR (cR (cR (cR (cR (cL (cL (cR (cR (cL (cL (cR (cL (cR (cR (cR C15))))))))))))))))))) (blkQ (X15 n) 1 [0, 4, 5, 7, 26, 27, 28] 3 (seqQ (X15 n) (cR (cR (cR (cL (cL (cR (cL (cR (cR (cR C15)))))))))) (lpQ (X15 n) [0, 4, 5, 7, 26, 27, 28] 1 (cL (cL (cR (cL (cR (cR (cR C15))))))) nx1312 (blkQ (X15 n) 0 [4, 7] 1 (seqQ (X15 n) (cR (cR (cR (cR C15)))) (fnQ (X15 n).E.T (resOf Proofs.Tryd.prog 15) ((eL e44) o)))))))))))) .normal) := by
      intro v1949 ev1958
      cases v1949
      · have ev1958 := cnd_f ev1958
        refine Ops.seg' 7 12 (by kernel_rfl) ?_
        refine Ops.st ⟨(dP e39 a0) :: q3 ((.v (.sl .nil (List.map e44 []))) :: (dP eI v1.1) :: q1 ((AG.d ag1308 8 (List.map e44 v1307)) :: q5 ((.ptr 6 0) :: q6 ((dI v1939) :: q5 ((dP e39 a0) :: (dI ((a0.length : Int))) :: (dI v1309) :: q40 (q38 ((dI v1939) :: (AG.d ag1308 8 (List.map e44 v1307)) :: (dI ((v1307.length : Int))) :: (dB false) :: (dB false) :: u6 ((dB false) :: q16 [])))))))), [(.cells [(dI v1.2.fCode), (dI v1.2.fIndex)]), .dead, .dead, (.cells [(.v (.str v1322.fWord)), (.v (.str v1322.fTag))]), .dead, .dead, (.cells [(.v (.str v1322.fTag)), (dI y1910.2.1), (dI y1910.2.2)]), .dead, (AG.o ag1308 3 (List.map e44 v1307))]⟩ (by kernel_rfl) ?_
        exact J15j1959 _ _ _ _ _ _ _ _ (some_sub (fun v1958 => f15_r13 m v1939 v1958 = some sx1947) ev1958 h)
      · have ev1958 := cnd_t ev1958
        refine Ops.seg' 2 7 (by kernel_rfl) ?_
        obtain ⟨v1960, ev1960, ev1958⟩ := bnd_some ev1958
        refine Ops.one' 8 (fun h0 e0 => (ix_g (T := T) h0 32 45 3 8 ag1308 e44 v1307 v1939 v1960 ev1960 (by kernel_rfl) (by kernel_rfl) (fun _ => rfl))) (by kernel_rfl) (by kernel_rfl) ?_
        refine Ops.seg' 2 10 (by kernel_rfl) ?_
        obtain ⟨v1961, ev1961, ev1958⟩ := bnd_some ev1958
        refine Ops.one' 11 (fun h0 e0 => (call_ok (E' := EG) (h := h0) (by kernel_rfl) (Args.v (.agg [(.str v1960.fTag), (vI v1960.fLength), (vI v1960.fCount)]) (e44 v1960) (by kernel_rfl) (Args.v (.agg [(.str v1322.fTag), (vI y1910.2.1), (vI y1910.2.2)]) (e44 ((⟨v1322.fTag, y1910.2.1, y1910.2.2⟩ : S44))) (by kernel_rfl) Args.nil)) (ok29 m v1960 ((⟨v1322.fTag, y1910.2.1, y1910.2.2⟩ : S44)) v1961 ev1961 n (by omega)))) (by kernel_rfl) (by kernel_rfl) ?_
        refine Ops.seg' 1 12 (by kernel_rfl) ?_
        refine Ops.st ⟨(dP e39 a0) :: q3 ((.v (.sl .nil (List.map e44 []))) :: (dP eI v1.1) :: q1 ((AG.d ag1308 8 (List.map e44 v1307)) :: q5 ((.ptr 6 0) :: q6 ((dI v1939) :: q5 ((dP e39 a0) :: (dI ((a0.length : Int))) :: (dI v1309) :: q40 (q38 ((dI v1939) :: (AG.d ag1308 8 (List.map e44 v1307)) :: (dI ((v1307.length : Int))) :: (dB true) :: (dB true) :: (AG.d ag1308 8 (List.map e44 v1307)) :: (dI v1939) :: (.vptr [(.str v1960.fTag), (vI v1960.fLength), (vI v1960.fCount)]) :: (.v (.agg [(.str v1960.fTag), (vI v1960.fLength), (vI v1960.fCount)])) :: (.v (.agg [(.str v1322.fTag), (vI y1910.2.1), (vI y1910.2.2)])) :: (dB v1961) :: (dB v1961) :: q16 []))))))), [(.cells [(dI v1.2.fCode), (dI v1.2.fIndex)]), .dead, .dead, (.cells [(.v (.str v1322.fWord)), (.v (.str v1322.fTag))]), .dead, .dead, (.cells [(.v (.str v1322.fTag)), (dI y1910.2.1), (dI y1910.2.2)]), .dead, (AG.o ag1308 3 (List.map e44 v1307))]⟩ (by kernel_rfl) ?_
        exact J15j1959 _ _ _ _ _ _ _ _ (some_sub (fun v1958 => f15_r13 m v1939 v1958 = some sx1947) ev1958 h)
    exact Ops.st ⟨(dP e39 a0) :: q3 ((.v (.sl .nil (List.map e44 []))) :: (dP eI v1.1) :: q1 ((AG.d ag1308 8 (List.map e44 v1307)) :: q5 ((.ptr 6 0) :: q6 ((dI v1939) :: q5 ((dP e39 a0) :: (dI ((a0.length : Int))) :: (dI v1309) :: q40 (q38 ((dI v1939) :: (AG.d ag1308 8 (List.map e44 v1307)) :: (dI ((v1307.length : Int))) :: (dB ((decide (v1939 < (v1307.length : Int))))) :: (dB ((decide (v1939 < (v1307.length : Int))))) :: q23 []))))))), [(.cells [(dI v1.2.fCode), (dI v1.2.fIndex)]), .dead, .dead, (.cells [(.v (.str v1322.fWord)), (.v (.str v1322.fTag))]), .dead, .dead, (.cells [(.v (.str v1322.fTag)), (dI y1910.2.1), (dI y1910.2.2)]), .dead, (AG.o ag1308 3 (List.map e44 v1307))]⟩ (by kernel_rfl) (G15g1950 (decide (v1939 < (v1307.length : Int))) ev1958)
theorem f15_hLx1903 (m : Nat) (a0 : (List S39)) (a1 : ByteArray) (o : (List S44)) (n : Nat) (hn : m + 4 ≤ n + 1) (v1 : ((List Int) × S27)) (v1322 : S39) (v1764 : Int) (nx1769 : Nat) (nx1312 : Nat) (ag1308 : AG) (v1307 : (List S44)) (v1309 : Int) (v1765 : Int) (v1766 : Int) : ∀ (kx1861 : Nat) (v1858 : Int) (v1859 : Int)  (ox1860 : (List S44) ⊕ (Int × Int)), iter (fun (y : Int × Int) => f15_B9 m a0 v1 v1322 v1764 y.1 y.2) kx1861 (v1858, v1859) = some ox1860 → ∀ nx1862, kx1861 ≤ nx1862 → (∀ r, ox1860 = .inl r → ∀ σ, RetOk (X15 n) (resOf Proofs.Tryd.prog 15) ((eL e44) r) σ → (seqQ (X15 n) (cR (cR (cL (cL (cR (cL (cL (cR (cL (cR (cR (cR (cR (cR (cL (cL (cR (cR (cL (cL (cR (cL (cR (cR (cR C15))))))))))))))))))))))))) (blkQ (X15 n) 5 [0, 4, 5, 7, 9, 13, 14, 26, 27, 28] 9 (seqQ (X15 n) (cR (cR (cL (cL (cR (cL (cR (cR (cR (cR (cR (cL (cL (cR (cR (cL (cL (cR (cL (cR (cR (cR C15)))))))))))))))))))))) (lpQ (X15 n) [0, 4, 5, 7, 9, 13, 14, 26, 27, 28] 7 (cL (cL (cR (cL (cR (cR (cR (cR (cR (cL (cL (cR (cR (cL (cL (cR (cL (cR (cR (cR C15)))))))))))))))))))) nx1769 (blkQ (X15 n) 4 [0, 4, 5, 7, 13, 26, 27, 28] 7 (seqQ (X15 n) (cR (cR (cR (cR (cR (cR (cL (cL (cR (cR (cL (cL (cR (cL (cR (cR (cR C15))))))))))))))))) (blkQ (X15 n) 1 [0, 4, 5, 7, 26, 27, 28] 3 (seqQ (X15 n) (cR (cR (cR (cL (cL (cR (cL (cR (cR (cR C15)))))))))) (lpQ (X15 n) [0, 4, 5, 7, 26, 27, 28] 1 (cL (cL (cR (cL (cR (cR (cR C15))))))) nx1312 (blkQ (X15 n) 0 [4, 7] 1 (seqQ (X15 n) (cR (cR (cR (cR C15)))) (fnQ (X15 n).E.T (resOf Proofs.Tryd.prog 15) ((eL e44) o))))))))))))) .ret σ) → (∀ (y : Int × Int) , ox1860 = .inr y → (seqQ (X15 n) (cR (cR (cL (cL (cR (cL (cL (cR (cL (cR (cR (cR (cR (cR (cL (cL (cR (cR (cL (cL (cR (cL (cR (cR (cR C15))))))))))))))))))))))))) (blkQ (X15 n) 5 [0, 4, 5, 7, 9, 13, 14, 26, 27, 28] 9 (seqQ (X15 n) (cR (cR (cL (cL (cR (cL (cR (cR (cR (cR (cR (cL (cL (cR (cR (cL (cL (cR (cL (cR (cR (cR C15)))))))))))))))))))))) (lpQ (X15 n) [0, 4, 5, 7, 9, 13, 14, 26, 27, 28] 7 (cL (cL (cR (cL (cR (cR (cR (cR (cR (cL (cL (cR (cR (cL (cL (cR (cL (cR (cR (cR C15)))))))))))))))))))) nx1769 (blkQ (X15 n) 4 [0, 4, 5, 7, 13, 26, 27, 28] 7 (seqQ (X15 n) (cR (cR (cR (cR (cR (cR (cL (cL (cR (cR (cL (cL (cR (cL (cR (cR (cR C15))))))))))))))))) (blkQ (X15 n) 1 [0, 4, 5, 7, 26, 27, 28] 3 (seqQ (X15 n) (cR (cR (cR (cL (cL (cR (cL (cR (cR (cR C15)))))))))) (lpQ (X15 n) [0, 4, 5, 7, 26, 27, 28] 1 (cL (cL (cR (cL (cR (cR (cR C15))))))) nx1312 (blkQ (X15 n) 0 [4, 7] 1 (seqQ (X15 n) (cR (cR (cR (cR C15)))) (fnQ (X15 n).E.T (resOf Proofs.Tryd.prog 15) ((eL e44) o))))))))))))) .normal ⟨(dP e39 a0) :: q3 ((.v (.sl .nil (List.map e44 []))) :: (dP eI v1.1) :: q1 ((AG.d ag1308 9 (List.map e44 v1307)) :: q1 ((.ptr 3 0) :: q3 ((.ptr 6 0) :: (dI v1764) :: (dI y.1) :: q10 ((dP e39 a0) :: (dI ((a0.length : Int))) :: (dI v1309) :: q40 (q40 (q26 []))))))), [(.cells [(dI v1.2.fCode), (dI v1.2.fIndex)]), .dead, .dead, (.cells [(.v (.str v1322.fWord)), (.v (.str v1322.fTag))]), .dead, .dead, (.cells [(.v (.str v1322.fTag)), (dI v1765), (dI v1766)]), .dead, .dead, (AG.o ag1308 3 (List.map e44 v1307))]⟩) → Lp (X15 n) [0, 4, 5, 7, 9, 13, 14, 15, 26, 27, 28, 61, 62, 63] 9 (cL (cL (cR (cL (cR (cL (cL (cR (cL (cL (cR (cL (cR (cR (cR (cR (cR (cL (cL (cR (cR (cL (cL (cR (cL (cR (cR (cR C15)))))))))))))))))))))))))))) nx1862 ⟨(dP e39 a0) :: q3 ((.v (.sl .nil (List.map e44 []))) :: (dP eI v1.1) :: q1 ((AG.d ag1308 9 (List.map e44 v1307)) :: q1 ((.ptr 3 0) :: q3 ((.ptr 6 0) :: (dI v1764) :: (dI v1858) :: q10 ((dP e39 a0) :: (dI ((a0.length : Int))) :: (dI v1309) :: q32 ((dP e39 a0) :: (dI ((a0.length : Int))) :: (dI v1859) :: q40 (q31 []))))))), [(.cells [(dI v1.2.fCode), (dI v1.2.fIndex)]), .dead, .dead, (.cells [(.v (.str v1322.fWord)), (.v (.str v1322.fTag))]), .dead, .dead, (.cells [(.v (.str v1322.fTag)), (dI v1765), (dI v1766)]), .dead, .dead, (AG.o ag1308 3 (List.map e44 v1307))]⟩ (blkQ (X15 n) 6 [0, 4, 5, 7, 9, 13, 14, 15, 26, 27, 28] 9 (seqQ (X15 n) (cR (cR (cL (cL (cR (cL (cL (cR (cL (cR (cR (cR (cR (cR (cL (cL (cR (cR (cL (cL (cR (cL (cR (cR (cR C15))))))))))))))))))))))))) (blkQ (X15 n) 5 [0, 4, 5, 7, 9, 13, 14, 26, 27, 28] 9 (seqQ (X15 n) (cR (cR (cL (cL (cR (cL (cR (cR (cR (cR (cR (cL (cL (cR (cR (cL (cL (cR (cL (cR (cR (cR C15)))))))))))))))))))))) (lpQ (X15 n) [0, 4, 5, 7, 9, 13, 14, 26, 27, 28] 7 (cL (cL (cR (cL (cR (cR (cR (cR (cR (cL (cL (cR (cR (cL (cL (cR (cL (cR (cR (cR C15)))))))))))))))))))) nx1769 (blkQ (X15 n) 4 [0, 4, 5, 7, 13, 26, 27, 28] 7 (seqQ (X15 n) (cR (cR (cR (cR (cR (cR (cL (cL (cR (cR (cL (cL (cR (cL (cR (cR (cR C15))))))))))))))))) (blkQ (X15 n) 1 [0, 4, 5, 7, 26, 27, 28] 3 (seqQ (X15 n) (cR (cR (cR (cL (cL (cR (cL (cR (cR (cR C15)))))))))) (lpQ (X15 n) [0, 4, 5, 7, 26, 27, 28] 1 (cL (cL (cR (cL (cR (cR (cR C15))))))) nx1312 (blkQ (X15 n) 0 [4, 7] 1 (seqQ (X15 n) (cR (cR (cR (cR C15)))) (fnQ (X15 n).E.T (resOf Proofs.Tryd.prog 15) ((eL e44) o)))))))))))))) := by
  intro kx1861
  induction kx1861 with
  | zero => intro v1858 v1859  ox1860 h; exact (iter_zero h).elim
  | succ kx1861 ihx1863 =>
    intro v1858 v1859  ox1860 h nx1862 hnx1866 hrx1864 hxx1865
    obtain ⟨nx1862, rfl⟩ : ∃ q, nx1862 = q + 1 := ⟨nx1862 - 1, by omega⟩
    obtain ⟨sx1867, h, hsx1868⟩ := iter_some h
    have h : f15_B9 m a0 v1 v1322 v1764 v1858 v1859 = some sx1867 := h
    unfold f15_B9 at h
    refine Lp.succ ?_
    refine Wp.seq' (by kernel_rfl) ?_
    refine Wp.region (by kernel_rfl) ?_
    refine Ops.seg' 1 1 (by kernel_rfl) ?_
    refine Ops.done (by kernel_rfl) ?_
    refine seqQ.n ?_
    refine Wp.seq' (by kernel_rfl) ?_
    refine Wp.cnd h [0, 4, 5, 7, 9, 13, 14, 15, 26, 27, 28, 61, 62, 63] 10 (by kernel_rfl) (fun h => ?_) (fun h => ?_)
    · refine Wp.skip (by kernel_rfl) ?_
      refine sqQ.n ⟨(dP e39 a0) :: q3 ((.v (.sl .nil (List.map e44 []))) :: (dP eI v1.1) :: q1 ((AG.d ag1308 10 (List.map e44 v1307)) :: q1 ((.ptr 3 0) :: q3 ((.ptr 6 0) :: (dI v1764) :: (dI v1858) :: q10 ((dP e39 a0) :: (dI ((a0.length : Int))) :: (dI v1309) :: q32 ((dP e39 a0) :: (dI ((a0.length : Int))) :: (dI v1859) :: q40 (q31 []))))))), [(.cells [(dI v1.2.fCode), (dI v1.2.fIndex)]), .dead, .dead, (.cells [(.v (.str v1322.fWord)), (.v (.str v1322.fTag))]), .dead, .dead, (.cells [(.v (.str v1322.fTag)), (dI v1765), (dI v1766)]), .dead, .dead, .dead, (AG.o ag1308 3 (List.map e44 v1307))]⟩ (by cases ag1308 <;> kernel_rfl) ?_
      refine seqQ.n ?_
      refine Wp.seq' (by kernel_rfl) ?_
      have J15j1870 : ∀ (v1869 : Int) , f15_j5 m v1859 v1869 = some sx1867 → (seqQ (X15 n) (cR (cR (cR (cL (cL (cR (cL (cR (cL (cL (cR (cL (cL (cR (cL (cR (cR (cR (cR (cR (cL (cL (cR (cR (cL (cL (cR (cL (cR (cR (cR C15))))))))))))))))))))))))))))))) (lpQ (X15 n) [0, 4, 5, 7, 9, 13, 14, 15, 26, 27, 28, 61, 62, 63] 9 (cL (cL (cR (cL (cR (cL (cL (cR (cL (cL (cR (cL (cR (cR (cR (cR (cR (cL (cL (cR (cR (cL (cL (cR (cL (cR (cR (cR C15)))))))))))))))))))))))))))) nx1862 (blkQ (X15 n) 6 [0, 4, 5, 7, 9, 13, 14, 15, 26, 27, 28] 9 (seqQ (X15 n) (cR (cR (cL (cL (cR (cL (cL (cR (cL (cR (cR (cR (cR (cR (cL (cL (cR (cR (cL (cL (cR (cL (cR (cR (cR C15))))))))))))))))))))))))) (blkQ (X15 n) 5 [0, 4, 5, 7, 9, 13, 14, 26, 27, 28] 9 (seqQ (X15 n) (cR (cR (cL (cL (cR (cL (cR (cR (cR (cR (cR (cL (cL (cR (cR (cL (cL (cR (cL (cR (cR (cR C15)))))))))))))))))))))) (lpQ (X15 n) [0, 4, 5, 7, 9, 13, 14, 26, 27, 28] 7 (cL (cL (cR (cL (cR (cR (cR (cR (cR (cL (cL (cR (cR (cL (cL (cR (cL (cR (cR (cR C15)))))))))))))))))))) nx1769 (blkQ (X15 n) 4 [0, 4, 5, 7, 13, 26, 27, 28] 7 (seqQ (X15 n) (cR (cR (cR (cR (cR (cR (cL (cL (cR (cR (cL (cL (cR (cL (cR (cR (cR C15))))))))))))))))) (blkQ (X15 n) 1 [0, 4, 5, 7, 26, 27, 28] 3 (seqQ (X15 n) (cR (cR (cR (cL (cL (cR (cL (cR (cR (cR C15)))))))))) (lpQ (X15 n) [0, 4, 5, 7, 26, 27, 28] 1 (cL (cL (cR (cL (cR (cR (cR C15))))))) nx1312 (blkQ (X15 n) 0 [4, 7] 1 (seqQ (X15 n) (cR (cR (cR (cR C15)))) (fnQ (X15 n).E.T (resOf Proofs.Tryd.prog 15) ((eL e44) o)))))))))))))))) .normal ⟨(dP e39 a0) :: q3 ((.v (.sl .nil (List.map e44 []))) :: (dP eI v1.1) :: q1 ((AG.d ag1308 11 (List.map e44 v1307)) :: q1 ((.ptr 3 0) :: q3 ((.ptr 6 0) :: (dI v1764) :: (dI v1869) :: q10 ((dP e39 a0) :: (dI ((a0.length : Int))) :: (dI v1309) :: q32 ((dP e39 a0) :: (dI ((a0.length : Int))) :: (dI v1859) :: q40 (q31 []))))))), [(.cells [(dI v1.2.fCode), (dI v1.2.fIndex)]), .dead, .dead, (.cells [(.v (.str v1322.fWord)), (.v (.str v1322.fTag))]), .dead, .dead, (.cells [(.v (.str v1322.fTag)), (dI v1765), (dI v1766)]), .dead, .dead, .dead, .dead, (AG.o ag1308 3 (List.map e44 v1307))]⟩ := by
        intro v1869  h
        unfold f15_j5 at h
        refine seqQ.n ?_
        refine Wp.region (by kernel_rfl) ?_
        refine Ops.seg' 2 2 (by kernel_rfl) ?_
        refine Ops.done (by kernel_rfl) ?_
        refine lpQ.n ⟨(dP e39 a0) :: q3 ((.v (.sl .nil (List.map e44 []))) :: (dP eI v1.1) :: q1 ((AG.d ag1308 9 (List.map e44 v1307)) :: q1 ((.ptr 3 0) :: q3 ((.ptr 6 0) :: (dI v1764) :: (dI v1869) :: q10 ((dP e39 a0) :: (dI ((a0.length : Int))) :: (dI v1309) :: q32 ((dP e39 a0) :: (dI ((a0.length : Int))) :: (dI (w64 (v1859 + 1))) :: q40 (q31 []))))))), [(.cells [(dI v1.2.fCode), (dI v1.2.fIndex)]), .dead, .dead, (.cells [(.v (.str v1322.fWord)), (.v (.str v1322.fTag))]), .dead, .dead, (.cells [(.v (.str v1322.fTag)), (dI v1765), (dI v1766)]), .dead, .dead, (AG.o ag1308 3 (List.map e44 v1307))]⟩ (by cases ag1308 <;> kernel_rfl) ?_
        cases h
        exact ihx1863 v1869 (w64 (v1859 + 1))  _ hsx1868 _ (by omega) hrx1864 hxx1865
      refine Wp.block' 7 [0, 4, 5, 7, 9, 13, 14, 15, 26, 27, 28, 61, 62, 63] 11 (by kernel_rfl) ?_
      refine Wp.seq' (by kernel_rfl) ?_
      refine Wp.region (by kernel_rfl) ?_
      obtain ⟨v1871, ev1871, h⟩ := bnd_some h
      refine Ops.one' 1 (fun h0 e0 => (ix_r (T := T) h0 22 40 2 .plain e39 a0 v1859 v1871 ev1871 (by kernel_rfl) (by kernel_rfl) (fun _ => rfl))) (by kernel_rfl) (by kernel_rfl) ?_
      refine Ops.seg' 3 4 (by kernel_rfl) ?_
      refine Ops.done (by kernel_rfl) ?_
      refine seqQ.n ?_
      refine Wp.seq' (by kernel_rfl) ?_
      refine Wp.region (by kernel_rfl) ?_
      refine Ops.seg' 2 2 (by kernel_rfl) ?_
      obtain ⟨v1872, ev1872, h⟩ := bnd_some h
      refine Ops.one' 3 (fun h0 e0 => (call_ok (E' := EG) (h := h0) (by kernel_rfl) (Args.v (.str v1871.fWord) (eS v1871.fWord) (by kernel_rfl) Args.nil) (ok16 m v1871.fWord v1872 ev1872 n (by omega)))) (by kernel_rfl) (by kernel_rfl) ?_
      refine Ops.seg' 6 9 (by kernel_rfl) ?_
      refine Ops.done (by kernel_rfl) ?_
      refine seqQ.n ?_
      refine Wp.seq' (by kernel_rfl) ?_
      refine Wp.region (by kernel_rfl) ?_
      refine Ops.seg' 6 6 (by kernel_rfl) ?_
      have J15j1881 : ∀ (d1875 d1876 d1877 d1878 : D) (v1879 : Bool) (v1880 : Bool), f15_r8 m v1 v1764 v1858 v1859 v1872 v1880 = some sx1867 → Ops (X15 n) (opl (cL (cR (cR (cL (cL (cR (cR (cL (cL (cR (cL (cR (cL (cL (cR (cL (cL (cR (cL (cR (cR (cR (cR (cR (cL (cL (cR (cR (cL (cL (cR (cL (cR (cR (cR C15)))))))))))))))))))))))))))))))))))) 11 ⟨(dP e39 a0) :: q3 ((.v (.sl .nil (List.map e44 []))) :: (dP eI v1.1) :: q1 ((AG.d ag1308 10 (List.map e44 v1307)) :: q1 ((.ptr 3 0) :: q3 ((.ptr 6 0) :: (dI v1764) :: (dI v1858) :: q1 ((.ptr 11 0) :: (dP eI v1872.1) :: (.ptr 12 0) :: q6 ((dP e39 a0) :: (dI ((a0.length : Int))) :: (dI v1309) :: q32 ((dP e39 a0) :: (dI ((a0.length : Int))) :: (dI v1859) :: q1 ((.vptr [(.str v1871.fWord), (.str v1871.fTag)]) :: (.v (.agg [(.str v1871.fWord), (.str v1871.fTag)])) :: (.v (.tuple [(vP eI v1872.1), (.agg [(vI v1872.2.fCode), (vI v1872.2.fIndex)])])) :: (.ptr 11 0) :: (.v (.str v1871.fWord)) :: (.v (.tuple [(vP eI v1872.1), (.agg [(vI v1872.2.fCode), (vI v1872.2.fIndex)])])) :: (dP eI v1872.1) :: (.v (.agg [(vI v1872.2.fCode), (vI v1872.2.fIndex)])) :: (.ptr 11 1) :: (.v (.str v1871.fTag)) :: (.ptr 3 1) :: (.v (.str v1322.fTag)) :: (dB v1879) :: (dB v1879) :: d1875 :: d1876 :: d1877 :: d1878 :: (dB v1880) :: q40 (q11 []))))))))), [(.cells [(dI v1.2.fCode), (dI v1.2.fIndex)]), .dead, .dead, (.cells [(.v (.str v1322.fWord)), (.v (.str v1322.fTag))]), .dead, .dead, (.cells [(.v (.str v1322.fTag)), (dI v1765), (dI v1766)]), .dead, .dead, .dead, (AG.o ag1308 3 (List.map e44 v1307)), (.cells [(.v (.str v1871.fWord)), (.v (.str v1871.fTag))]), (.cells [(dI v1872.2.fCode), (dI v1872.2.fIndex)])]⟩ ((seqQ (X15 n) (cR (cR (cR (cL (cL (cR (cR (cL (cL (cR (cL (cR (cL (cL (cR (cL (cL (cR (cL (cR (cR (cR (cR (cR (cL (cL (cR (cR (cL (cL (cR (cL (cR (cR (cR C15))))))))))))))))))))))))))))))))))) (blkQ (X15 n) 7 [0, 4, 5, 7, 9, 13, 14, 15, 26, 27, 28, 61, 62, 63] 11 (seqQ (X15 n) (cR (cR (cR (cL (cL (cR (cL (cR (cL (cL (cR (cL (cL (cR (cL (cR (cR (cR (cR (cR (cL (cL (cR (cR (cL (cL (cR (cL (cR (cR (cR C15))))))))))))))))))))))))))))))) (lpQ (X15 n) [0, 4, 5, 7, 9, 13, 14, 15, 26, 27, 28, 61, 62, 63] 9 (cL (cL (cR (cL (cR (cL (cL (cR (cL (cL (cR (cL (cR (cR (cR (cR (cR (cL (cL (cR (cR (cL (cL (cR (cL (cR (cR (cR C15)))))))))))))))))))))))))))) nx1862 (blkQ (X15 n) 6 [0, 4, 5, 7, 9, 13, 14, 15, 26, 27, 28] 9 (seqQ (X15 n) (cR (cR (cL (cL (cR (cL (cL (cR (cL (cR (cR (cR (cR (cR (cL (cL (cR (cR (cL (cL (cR (cL (cR (cR (cR C15))))))))))))))))))))))))) (blkQ (X15 n) 5 [0, 4, 5, 7, 9, 13, 14, 26, 27, 28] 9 (seqQ (X15 n) (cR (cR (cL (cL (cR (cL (cR (cR (cR (cR (cR (cL (cL (cR (cR (cL (cL (cR (cL (cR (cR (cR C15)))))))))))))))))))))) (lpQ (X15 n) [0, 4, 5, 7, 9, 13, 14, 26, 27, 28] 7 (cL (cL (cR (cL (cR (cR (cR (cR (cR (cL (cL (cR (cR (cL (cL (cR (cL (cR (cR (cR C15)))))))))))))))))))) nx1769 (blkQ (X15 n) 4 [0, 4, 5, 7, 13, 26, 27, 28] 7 (seqQ (X15 n) (cR (cR (cR (cR (cR (cR (cL (cL (cR (cR (cL (cL (cR (cL (cR (cR (cR C15))))))))))))))))) (blkQ (X15 n) 1 [0, 4, 5, 7, 26, 27, 28] 3 (seqQ (X15 n) (cR (cR (cR (cL (cL (cR (cL (cR (cR (cR C15)))))))))) (lpQ (X15 n) [0, 4, 5, 7, 26, 27, 28] 1 (cL (cL (cR (cL (cR (cR (cR C15))))))) nx1312 (blkQ (X15 n) 0 [4, 7] 1 (seqQ (X15 n) (cR (cR (cR (cR C15)))) (fnQ (X15 n).E.T (resOf Proofs.Tryd.prog 15) ((eL e44) o)))))))))))))))))) .normal) := by
        intro d1875 d1876 d1877 d1878 v1879 v1880 h
        unfold f15_r8 at h
        refine Ops.seg' 1 12 (by kernel_rfl) ?_
        have J15j1898 : ∀ (d1884 d1885 d1886 d1887 d1888 d1889 d1890 d1891 d1892 d1893 d1894 d1895 : D) (v1896 : Bool) (v1897 : Bool), f15_r7 m v1858 v1859 v1897 = some sx1867 → Ops (X15 n) (opl (cL (cR (cR (cL (cL (cR (cR (cL (cL (cR (cL (cR (cL (cL (cR (cL (cL (cR (cL (cR (cR (cR (cR (cR (cL (cL (cR (cR (cL (cL (cR (cL (cR (cR (cR C15)))))))))))))))))))))))))))))))))))) 25 ⟨(dP e39 a0) :: q3 ((.v (.sl .nil (List.map e44 []))) :: (dP eI v1.1) :: q1 ((AG.d ag1308 10 (List.map e44 v1307)) :: q1 ((.ptr 3 0) :: q3 ((.ptr 6 0) :: (dI v1764) :: (dI v1858) :: q1 ((.ptr 11 0) :: (dP eI v1872.1) :: (.ptr 12 0) :: q6 ((dP e39 a0) :: (dI ((a0.length : Int))) :: (dI v1309) :: q32 ((dP e39 a0) :: (dI ((a0.length : Int))) :: (dI v1859) :: q1 ((.vptr [(.str v1871.fWord), (.str v1871.fTag)]) :: (.v (.agg [(.str v1871.fWord), (.str v1871.fTag)])) :: (.v (.tuple [(vP eI v1872.1), (.agg [(vI v1872.2.fCode), (vI v1872.2.fIndex)])])) :: (.ptr 11 0) :: (.v (.str v1871.fWord)) :: (.v (.tuple [(vP eI v1872.1), (.agg [(vI v1872.2.fCode), (vI v1872.2.fIndex)])])) :: (dP eI v1872.1) :: (.v (.agg [(vI v1872.2.fCode), (vI v1872.2.fIndex)])) :: (.ptr 11 1) :: (.v (.str v1871.fTag)) :: (.ptr 3 1) :: (.v (.str v1322.fTag)) :: (dB v1879) :: (dB v1879) :: d1875 :: d1876 :: d1877 :: d1878 :: (dB v1896) :: (dB v1896) :: d1884 :: d1885 :: d1886 :: d1887 :: d1888 :: d1889 :: d1890 :: d1891 :: d1892 :: d1893 :: d1894 :: d1895 :: (dB v1897) :: q37 [])))))))), [(.cells [(dI v1.2.fCode), (dI v1.2.fIndex)]), .dead, .dead, (.cells [(.v (.str v1322.fWord)), (.v (.str v1322.fTag))]), .dead, .dead, (.cells [(.v (.str v1322.fTag)), (dI v1765), (dI v1766)]), .dead, .dead, .dead, (AG.o ag1308 3 (List.map e44 v1307)), (.cells [(.v (.str v1871.fWord)), (.v (.str v1871.fTag))]), (.cells [(dI v1872.2.fCode), (dI v1872.2.fIndex)])]⟩ ((seqQ (X15 n) (cR (cR (cR (cL (cL (cR (cR (cL (cL (cR (cL (cR (cL (cL (cR (cL (cL (cR (cL (cR (cR (cR (cR (cR (cL (cL (cR (cR (cL (cL (cR (cL (cR (cR (cR C15))))))))))))))))))))))))))))))))))) (blkQ (X15 n) 7 [0, 4, 5, 7, 9, 13, 14, 15, 26, 27, 28, 61, 62, 63] 11 (seqQ (X15 n) (cR (cR (cR (cL (cL (cR (cL (cR (cL (cL (cR (cL (cL (cR (cL (cR (cR (cR (cR (cR (cL (cL (cR (cR (cL (cL (cR (cL (cR (cR (cR C15))))))))))))))))))))))))))))))) (lpQ (X15 n) [0, 4, 5, 7, 9, 13, 14, 15, 26, 27, 28, 61, 62, 63] 9 (cL (cL (cR (cL (cR (cL (cL (cR (cL (cL (cR (cL (cR (cR (cR (cR (cR (cL (cL (cR (cR (cL (cL (cR (cL (cR (cR (cR C15)))))))))))))))))))))))))))) nx1862 (blkQ (X15 n) 6 [0, 4, 5, 7, 9, 13, 14, 15, 26, 27, 28] 9 (seqQ (X15 n) (cR (cR (cL (cL (cR (cL (cL (cR (cL (cR (cR (cR (cR (cR (cL (cL (cR (cR (cL (cL (cR (cL (cR (cR (cR C15))))))))))))))))))))))))) (blkQ (X15 n) 5 [0, 4, 5, 7, 9, 13, 14, 26, 27, 28] 9 (seqQ (X15 n) (cR (cR (cL (cL (cR (cL (cR (cR (cR (cR (cR (cL (cL (cR (cR (cL (cL (cR (cL (cR (cR (cR C15)))))))))))))))))))))) (lpQ (X15 n) [0, 4, 5, 7, 9, 13, 14, 26, 27, 28] 7 (cL (cL (cR (cL (cR (cR (cR (cR (cR (cL (cL (cR (cR (cL (cL (cR (cL (cR (cR (cR C15)))))))))))))))))))) nx1769 (blkQ (X15 n) 4 [0, 4, 5, 7, 13, 26, 27, 28] 7 (seqQ (X15 n) (cR (cR (cR (cR (cR (cR (cL (cL (cR (cR (cL (cL (cR (cL (cR (cR (cR C15))))))))))))))))) (blkQ (X15 n) 1 [0, 4, 5, 7, 26, 27, 28] 3 (seqQ (X15 n) (cR (cR (cR (cL (cL (cR (cL (cR (cR (cR C15)))))))))) (lpQ (X15 n) [0, 4, 5, 7, 26, 27, 28] 1 (cL (cL (cR (cL (cR (cR (cR C15))))))) nx1312 (blkQ (X15 n) 0 [4, 7] 1 (seqQ (X15 n) (cR (cR (cR (cR C15)))) (fnQ (X15 n).E.T (resOf Proofs.Tryd.prog 15) ((eL e44) o)))))))))))))))))) .normal) := by
          intro d1884 d1885 d1886 d1887 d1888 d1889 d1890 d1891 d1892 d1893 d1894 d1895 v1896 v1897 h
          unfold f15_r7 at h
          refine Ops.done (by kernel_rfl) ?_
          refine seqQ.n ?_
          have J15j1900 : ∀ (v1899 : Int) , f15_j6 m v1859 v1899 = some sx1867 → (blkQ (X15 n) 7 [0, 4, 5, 7, 9, 13, 14, 15, 26, 27, 28, 61, 62, 63] 11 (seqQ (X15 n) (cR (cR (cR (cL (cL (cR (cL (cR (cL (cL (cR (cL (cL (cR (cL (cR (cR (cR (cR (cR (cL (cL (cR (cR (cL (cL (cR (cL (cR (cR (cR C15))))))))))))))))))))))))))))))) (lpQ (X15 n) [0, 4, 5, 7, 9, 13, 14, 15, 26, 27, 28, 61, 62, 63] 9 (cL (cL (cR (cL (cR (cL (cL (cR (cL (cL (cR (cL (cR (cR (cR (cR (cR (cL (cL (cR (cR (cL (cL (cR (cL (cR (cR (cR C15)))))))))))))))))))))))))))) nx1862 (blkQ (X15 n) 6 [0, 4, 5, 7, 9, 13, 14, 15, 26, 27, 28] 9 (seqQ (X15 n) (cR (cR (cL (cL (cR (cL (cL (cR (cL (cR (cR (cR (cR (cR (cL (cL (cR (cR (cL (cL (cR (cL (cR (cR (cR C15))))))))))))))))))))))))) (blkQ (X15 n) 5 [0, 4, 5, 7, 9, 13, 14, 26, 27, 28] 9 (seqQ (X15 n) (cR (cR (cL (cL (cR (cL (cR (cR (cR (cR (cR (cL (cL (cR (cR (cL (cL (cR (cL (cR (cR (cR C15)))))))))))))))))))))) (lpQ (X15 n) [0, 4, 5, 7, 9, 13, 14, 26, 27, 28] 7 (cL (cL (cR (cL (cR (cR (cR (cR (cR (cL (cL (cR (cR (cL (cL (cR (cL (cR (cR (cR C15)))))))))))))))))))) nx1769 (blkQ (X15 n) 4 [0, 4, 5, 7, 13, 26, 27, 28] 7 (seqQ (X15 n) (cR (cR (cR (cR (cR (cR (cL (cL (cR (cR (cL (cL (cR (cL (cR (cR (cR C15))))))))))))))))) (blkQ (X15 n) 1 [0, 4, 5, 7, 26, 27, 28] 3 (seqQ (X15 n) (cR (cR (cR (cL (cL (cR (cL (cR (cR (cR C15)))))))))) (lpQ (X15 n) [0, 4, 5, 7, 26, 27, 28] 1 (cL (cL (cR (cL (cR (cR (cR C15))))))) nx1312 (blkQ (X15 n) 0 [4, 7] 1 (seqQ (X15 n) (cR (cR (cR (cR C15)))) (fnQ (X15 n).E.T (resOf Proofs.Tryd.prog 15) ((eL e44) o))))))))))))))))) .normal ⟨(dP e39 a0) :: q3 ((.v (.sl .nil (List.map e44 []))) :: (dP eI v1.1) :: q1 ((AG.d ag1308 13 (List.map e44 v1307)) :: q1 ((.ptr 3 0) :: q3 ((.ptr 6 0) :: (dI v1764) :: (dI v1899) :: q10 ((dP e39 a0) :: (dI ((a0.length : Int))) :: (dI v1309) :: q32 ((dP e39 a0) :: (dI ((a0.length : Int))) :: (dI v1859) :: q40 (q31 []))))))), [(.cells [(dI v1.2.fCode), (dI v1.2.fIndex)]), .dead, .dead, (.cells [(.v (.str v1322.fWord)), (.v (.str v1322.fTag))]), .dead, .dead, (.cells [(.v (.str v1322.fTag)), (dI v1765), (dI v1766)]), .dead, .dead, .dead, .dead, (.cells [(.v (.str v1871.fWord)), (.v (.str v1871.fTag))]), (.cells [(dI v1872.2.fCode), (dI v1872.2.fIndex)]), (AG.o ag1308 3 (List.map e44 v1307))]⟩ := by
            intro v1899  h
            unfold f15_j6 at h
            refine blkQ.n ⟨(dP e39 a0) :: q3 ((.v (.sl .nil (List.map e44 []))) :: (dP eI v1.1) :: q1 ((AG.d ag1308 11 (List.map e44 v1307)) :: q1 ((.ptr 3 0) :: q3 ((.ptr 6 0) :: (dI v1764) :: (dI v1899) :: q10 ((dP e39 a0) :: (dI ((a0.length : Int))) :: (dI v1309) :: q32 ((dP e39 a0) :: (dI ((a0.length : Int))) :: (dI v1859) :: q40 (q31 []))))))), [(.cells [(dI v1.2.fCode), (dI v1.2.fIndex)]), .dead, .dead, (.cells [(.v (.str v1322.fWord)), (.v (.str v1322.fTag))]), .dead, .dead, (.cells [(.v (.str v1322.fTag)), (dI v1765), (dI v1766)]), .dead, .dead, .dead, .dead, (AG.o ag1308 3 (List.map e44 v1307))]⟩ (by cases ag1308 <;> kernel_rfl) ?_
            exact J15j1870 v1899  h
          refine Wp.cnd h [0, 4, 5, 7, 9, 13, 14, 15, 26, 27, 28, 61, 62, 63] 13 (by kernel_rfl) (fun h => ?_) (fun h => ?_)
          · refine Wp.region (by kernel_rfl) ?_
            refine Ops.seg' 3 3 (by kernel_rfl) ?_
            refine Ops.done (by kernel_rfl) ?_
            refine sqQ.n ⟨(dP e39 a0) :: q3 ((.v (.sl .nil (List.map e44 []))) :: (dP eI v1.1) :: q1 ((AG.d ag1308 13 (List.map e44 v1307)) :: q1 ((.ptr 3 0) :: q3 ((.ptr 6 0) :: (dI v1764) :: (dI (w64 (v1858 + 1))) :: q10 ((dP e39 a0) :: (dI ((a0.length : Int))) :: (dI v1309) :: q32 ((dP e39 a0) :: (dI ((a0.length : Int))) :: (dI v1859) :: q40 (q31 []))))))), [(.cells [(dI v1.2.fCode), (dI v1.2.fIndex)]), .dead, .dead, (.cells [(.v (.str v1322.fWord)), (.v (.str v1322.fTag))]), .dead, .dead, (.cells [(.v (.str v1322.fTag)), (dI v1765), (dI v1766)]), .dead, .dead, .dead, .dead, (.cells [(.v (.str v1871.fWord)), (.v (.str v1871.fTag))]), (.cells [(dI v1872.2.fCode), (dI v1872.2.fIndex)]), (AG.o ag1308 3 (List.map e44 v1307))]⟩ (by cases ag1308 <;> kernel_rfl) ?_
            exact J15j1900 (w64 (v1858 + 1))  h
          · refine Wp.skip (by kernel_rfl) ?_
            refine sqQ.n ⟨(dP e39 a0) :: q3 ((.v (.sl .nil (List.map e44 []))) :: (dP eI v1.1) :: q1 ((AG.d ag1308 13 (List.map e44 v1307)) :: q1 ((.ptr 3 0) :: q3 ((.ptr 6 0) :: (dI v1764) :: (dI v1858) :: q10 ((dP e39 a0) :: (dI ((a0.length : Int))) :: (dI v1309) :: q32 ((dP e39 a0) :: (dI ((a0.length : Int))) :: (dI v1859) :: q40 (q31 []))))))), [(.cells [(dI v1.2.fCode), (dI v1.2.fIndex)]), .dead, .dead, (.cells [(.v (.str v1322.fWord)), (.v (.str v1322.fTag))]), .dead, .dead, (.cells [(.v (.str v1322.fTag)), (dI v1765), (dI v1766)]), .dead, .dead, .dead, .dead, (.cells [(.v (.str v1871.fWord)), (.v (.str v1871.fTag))]), (.cells [(dI v1872.2.fCode), (dI v1872.2.fIndex)]), (AG.o ag1308 3 (List.map e44 v1307))]⟩ (by cases ag1308 <;> kernel_rfl) ?_
            exact J15j1900 v1858  h
        obtain ⟨v1897, ev1897, h⟩ := bnd_some h
        have G15g1883 : ∀ v1882 : Bool, (cnd v1882 (bnd (sub v1.1 (w64 ((v1.1.length : Int) - v1764)) (v1.1.length : Int)) fun v1901 => bnd (f28 m v1872.1 (w64 ((v1872.1.length : Int) - v1764)) v1901) fun v1902 => some v1902) (some false)) = some v1897 → Ops (X15 n) (opl (cL (cR (cR (cL (cL (cR (cR (cL (cL (cR (cL (cR (cL (cL (cR (cL (cL (cR (cL (cR (cR (cR (cR (cR (cL (cL (cR (cR (cL (cL (cR (cL (cR (cR (cR C15)))))))))))))))))))))))))))))))))))) 12 ⟨(dP e39 a0) :: q3 ((.v (.sl .nil (List.map e44 []))) :: (dP eI v1.1) :: q1 ((AG.d ag1308 10 (List.map e44 v1307)) :: q1 ((.ptr 3 0) :: q3 ((.ptr 6 0) :: (dI v1764) :: (dI v1858) :: q1 ((.ptr 11 0) :: (dP eI v1872.1) :: (.ptr 12 0) :: q6 ((dP e39 a0) :: (dI ((a0.length : Int))) :: (dI v1309) :: q32 ((dP e39 a0) :: (dI ((a0.length : Int))) :: (dI v1859) :: q1 ((.vptr [(.str v1871.fWord), (.str v1871.fTag)]) :: (.v (.agg [(.str v1871.fWord), (.str v1871.fTag)])) :: (.v (.tuple [(vP eI v1872.1), (.agg [(vI v1872.2.fCode), (vI v1872.2.fIndex)])])) :: (.ptr 11 0) :: (.v (.str v1871.fWord)) :: (.v (.tuple [(vP eI v1872.1), (.agg [(vI v1872.2.fCode), (vI v1872.2.fIndex)])])) :: (dP eI v1872.1) :: (.v (.agg [(vI v1872.2.fCode), (vI v1872.2.fIndex)])) :: (.ptr 11 1) :: (.v (.str v1871.fTag)) :: (.ptr 3 1) :: (.v (.str v1322.fTag)) :: (dB v1879) :: (dB v1879) :: d1875 :: d1876 :: d1877 :: d1878 :: (dB v1882) :: (dB v1882) :: q40 (q10 []))))))))), [(.cells [(dI v1.2.fCode), (dI v1.2.fIndex)]), .dead, .dead, (.cells [(.v (.str v1322.fWord)), (.v (.str v1322.fTag))]), .dead, .dead, (.cells [(.v (.str v1322.fTag)), (dI v1765), (dI v1766)]), .dead, .dead, .dead, (AG.o ag1308 3 (List.map e44 v1307)), (.cells [(.v (.str v1871.fWord)), (.v (.str v1871.fTag))]), (.cells [(dI v1872.2.fCode), (dI v1872.2.fIndex)])]⟩ ((seqQ (X15 n) (cR (cR (cR (cL (cL (cR (cR (cL (cL (cR (cL (cR (cL (cL (cR (cL (cL (cR (cL (cR (cR (cR (cR (cR (cL (cL (cR (cR (cL (cL (cR (cL (cR (cR (cR C15))))))))))))))))))))))))))))))))))) (blkQ (X15 n) 7 [0, 4, 5, 7, 9, 13, 14, 15, 26, 27, 28, 61, 62, 63] 11 (seqQ (X15 n) (cR (cR (cR (cL (cL (cR (cL (cR (cL (cL (cR (cL (cL (cR (cL (cR (cR (cR (cR (cR (cL (cL (cR (cR (cL (cL (cR (cL (cR (cR (cR C15))))))))))))))))))))))))))))))) (lpQ (X15 n) [0, 4, 5, 7, 9, 13, 14, 15, 26, 27, 28, 61, 62, 63] 9 (cL (cL (cR (cL (cR (cL (cL (cR (cL (cL (cR (cL (cR (cR (cR (cR (cR (cL (cL (cR (cR (cL (cL (cR (cL (cR (cR (cR C15)))))))))))))))))))))))))))) nx1862 (blkQ (X15 n) 6 [0, 4, 5, 7, 9, 13, 14, 15, 26, 27, 28] 9 (seqQ (X15 n) (cR (cR (cL (cL (cR (cL (cL (cR (cL (cR (cR (cR (cR (cR (cL (cL (cR (cR (cL (cL (cR (cL (cR (cR (cR C15))))))))))))))))))))))))) (blkQ (X15 n) 5 [0, 4, 5, 7, 9, 13, 14, 26, 27, 28] 9 (seqQ (X15 n) (cR (cR (cL (cL (cR (cL (cR (cR (cR (cR (cR (cL (cL (cR (cR (cL (cL (cR (cL (cR (cR (cR C15)))))))))))))))))))))) (lpQ (X15 n) [0, 4, 5, 7, 9, 13, 14, 26, 27, 28] 7 (cL (cL (cR (cL (cR (cR (cR (cR (cR (cL (cL (cR (cR (cL (cL (cR (cL (cR (cR (cR C15)))))))))))))))))))) nx1769 (blkQ (X15 n) 4 [0, 4, 5, 7, 13, 26, 27, 28] 7 (seqQ (X15 n) (cR (cR (cR (cR (cR (cR (cL (cL (cR (cR (cL (cL (cR (cL (cR (cR (cR C15))))))))))))))))) (blkQ (X15 n) 1 [0, 4, 5, 7, 26, 27, 28] 3 (seqQ (X15 n) (cR (cR (cR (cL (cL (cR (cL (cR (cR (cR C15)))))))))) (lpQ (X15 n) [0, 4, 5, 7, 26, 27, 28] 1 (cL (cL (cR (cL (cR (cR (cR C15))))))) nx1312 (blkQ (X15 n) 0 [4, 7] 1 (seqQ (X15 n) (cR (cR (cR (cR C15)))) (fnQ (X15 n).E.T (resOf Proofs.Tryd.prog 15) ((eL e44) o)))))))))))))))))) .normal) := by
          intro v1882 ev1897
          cases v1882
          · have ev1897 := cnd_f ev1897
            refine Ops.seg' 13 25 (by kernel_rfl) ?_
            refine Ops.st ⟨(dP e39 a0) :: q3 ((.v (.sl .nil (List.map e44 []))) :: (dP eI v1.1) :: q1 ((AG.d ag1308 10 (List.map e44 v1307)) :: q1 ((.ptr 3 0) :: q3 ((.ptr 6 0) :: (dI v1764) :: (dI v1858) :: q1 ((.ptr 11 0) :: (dP eI v1872.1) :: (.ptr 12 0) :: q6 ((dP e39 a0) :: (dI ((a0.length : Int))) :: (dI v1309) :: q32 ((dP e39 a0) :: (dI ((a0.length : Int))) :: (dI v1859) :: q1 ((.vptr [(.str v1871.fWord), (.str v1871.fTag)]) :: (.v (.agg [(.str v1871.fWord), (.str v1871.fTag)])) :: (.v (.tuple [(vP eI v1872.1), (.agg [(vI v1872.2.fCode), (vI v1872.2.fIndex)])])) :: (.ptr 11 0) :: (.v (.str v1871.fWord)) :: (.v (.tuple [(vP eI v1872.1), (.agg [(vI v1872.2.fCode), (vI v1872.2.fIndex)])])) :: (dP eI v1872.1) :: (.v (.agg [(vI v1872.2.fCode), (vI v1872.2.fIndex)])) :: (.ptr 11 1) :: (.v (.str v1871.fTag)) :: (.ptr 3 1) :: (.v (.str v1322.fTag)) :: (dB v1879) :: (dB v1879) :: d1875 :: d1876 :: d1877 :: d1878 :: (dB false) :: (dB false) :: u12 ((dB false) :: q37 []))))))))), [(.cells [(dI v1.2.fCode), (dI v1.2.fIndex)]), .dead, .dead, (.cells [(.v (.str v1322.fWord)), (.v (.str v1322.fTag))]), .dead, .dead, (.cells [(.v (.str v1322.fTag)), (dI v1765), (dI v1766)]), .dead, .dead, .dead, (AG.o ag1308 3 (List.map e44 v1307)), (.cells [(.v (.str v1871.fWord)), (.v (.str v1871.fTag))]), (.cells [(dI v1872.2.fCode), (dI v1872.2.fIndex)])]⟩ (by kernel_rfl) ?_
            exact J15j1898 _ _ _ _ _ _ _ _ _ _ _ _ _ _ (some_sub (fun v1897 => f15_r7 m v1858 v1859 v1897 = some sx1867) ev1897 h)
          · have ev1897 := cnd_t ev1897
            refine Ops.seg' 2 14 (by kernel_rfl) ?_
            refine Ops.one' 15 (fun h0 e0 => (len_r (T := T) h0 41 3 .plain eI v1872.1 (by kernel_rfl))) (by kernel_rfl) (by kernel_rfl) ?_
            refine Ops.seg' 4 19 (by kernel_rfl) ?_
            refine Ops.one' 20 (fun h0 e0 => (len_r (T := T) h0 41 3 .plain eI v1.1 (by kernel_rfl))) (by kernel_rfl) (by kernel_rfl) ?_
            refine Ops.seg' 2 22 (by kernel_rfl) ?_
            obtain ⟨v1901, ev1901, ev1897⟩ := bnd_some ev1897
            refine Ops.one' 23 (fun h0 e0 => (sub_r (T := T) h0 41 3 1 .plain eI v1.1 v1901 (some (w64 ((v1.1.length : Int) - v1764))) none rfl ev1901 (by kernel_rfl) (by kernel_rfl) (fun _ => rfl))) (by kernel_rfl) (by kernel_rfl) ?_
            obtain ⟨v1902, ev1902, ev1897⟩ := bnd_some ev1897
            refine Ops.one' 24 (fun h0 e0 => (call_ok (E' := EG) (h := h0) (by kernel_rfl) (Args.v (vP eI v1872.1) ((eL eI) v1872.1) (by kernel_rfl) (Args.v (vI (w64 ((v1872.1.length : Int) - v1764))) (eI (w64 ((v1872.1.length : Int) - v1764))) (by kernel_rfl) (Args.v (vP eI v1901) ((eL eI) v1901) (by kernel_rfl) Args.nil))) (ok28 m v1872.1 (w64 ((v1872.1.length : Int) - v1764)) v1901 v1902 ev1902 n (by omega)))) (by kernel_rfl) (by kernel_rfl) ?_
            refine Ops.seg' 1 25 (by kernel_rfl) ?_
            refine Ops.st ⟨(dP e39 a0) :: q3 ((.v (.sl .nil (List.map e44 []))) :: (dP eI v1.1) :: q1 ((AG.d ag1308 10 (List.map e44 v1307)) :: q1 ((.ptr 3 0) :: q3 ((.ptr 6 0) :: (dI v1764) :: (dI v1858) :: q1 ((.ptr 11 0) :: (dP eI v1872.1) :: (.ptr 12 0) :: q6 ((dP e39 a0) :: (dI ((a0.length : Int))) :: (dI v1309) :: q32 ((dP e39 a0) :: (dI ((a0.length : Int))) :: (dI v1859) :: q1 ((.vptr [(.str v1871.fWord), (.str v1871.fTag)]) :: (.v (.agg [(.str v1871.fWord), (.str v1871.fTag)])) :: (.v (.tuple [(vP eI v1872.1), (.agg [(vI v1872.2.fCode), (vI v1872.2.fIndex)])])) :: (.ptr 11 0) :: (.v (.str v1871.fWord)) :: (.v (.tuple [(vP eI v1872.1), (.agg [(vI v1872.2.fCode), (vI v1872.2.fIndex)])])) :: (dP eI v1872.1) :: (.v (.agg [(vI v1872.2.fCode), (vI v1872.2.fIndex)])) :: (.ptr 11 1) :: (.v (.str v1871.fTag)) :: (.ptr 3 1) :: (.v (.str v1322.fTag)) :: (dB v1879) :: (dB v1879) :: d1875 :: d1876 :: d1877 :: d1878 :: (dB true) :: (dB true) :: (dP eI v1872.1) :: (dP eI v1872.1) :: (dI ((v1872.1.length : Int))) :: (dI v1764) :: (dI (w64 ((v1872.1.length : Int) - v1764))) :: (dP eI v1.1) :: (dP eI v1.1) :: (dI ((v1.1.length : Int))) :: (dI v1764) :: (dI (w64 ((v1.1.length : Int) - v1764))) :: (dP eI v1901) :: (dB v1902) :: (dB v1902) :: q37 [])))))))), [(.cells [(dI v1.2.fCode), (dI v1.2.fIndex)]), .dead, .dead, (.cells [(.v (.str v1322.fWord)), (.v (.str v1322.fTag))]), .dead, .dead, (.cells [(.v (.str v1322.fTag)), (dI v1765), (dI v1766)]), .dead, .dead, .dead, (AG.o ag1308 3 (List.map e44 v1307)), (.cells [(.v (.str v1871.fWord)), (.v (.str v1871.fTag))]), (.cells [(dI v1872.2.fCode), (dI v1872.2.fIndex)])]⟩ (by kernel_rfl) ?_
            exact J15j1898 _ _ _ _ _ _ _ _ _ _ _ _ _ _ (some_sub (fun v1897 => f15_r7 m v1858 v1859 v1897 = some sx1867) ev1897 h)
        exact Ops.st ⟨(dP e39 a0) :: q3 ((.v (.sl .nil (List.map e44 []))) :: (dP eI v1.1) :: q1 ((AG.d ag1308 10 (List.map e44 v1307)) :: q1 ((.ptr 3 0) :: q3 ((.ptr 6 0) :: (dI v1764) :: (dI v1858) :: q1 ((.ptr 11 0) :: (dP eI v1872.1) :: (.ptr 12 0) :: q6 ((dP e39 a0) :: (dI ((a0.length : Int))) :: (dI v1309) :: q32 ((dP e39 a0) :: (dI ((a0.length : Int))) :: (dI v1859) :: q1 ((.vptr [(.str v1871.fWord), (.str v1871.fTag)]) :: (.v (.agg [(.str v1871.fWord), (.str v1871.fTag)])) :: (.v (.tuple [(vP eI v1872.1), (.agg [(vI v1872.2.fCode), (vI v1872.2.fIndex)])])) :: (.ptr 11 0) :: (.v (.str v1871.fWord)) :: (.v (.tuple [(vP eI v1872.1), (.agg [(vI v1872.2.fCode), (vI v1872.2.fIndex)])])) :: (dP eI v1872.1) :: (.v (.agg [(vI v1872.2.fCode), (vI v1872.2.fIndex)])) :: (.ptr 11 1) :: (.v (.str v1871.fTag)) :: (.ptr 3 1) :: (.v (.str v1322.fTag)) :: (dB v1879) :: (dB v1879) :: d1875 :: d1876 :: d1877 :: d1878 :: (dB v1880) :: (dB v1880) :: q40 (q10 []))))))))), [(.cells [(dI v1.2.fCode), (dI v1.2.fIndex)]), .dead, .dead, (.cells [(.v (.str v1322.fWord)), (.v (.str v1322.fTag))]), .dead, .dead, (.cells [(.v (.str v1322.fTag)), (dI v1765), (dI v1766)]), .dead, .dead, .dead, (AG.o ag1308 3 (List.map e44 v1307)), (.cells [(.v (.str v1871.fWord)), (.v (.str v1871.fTag))]), (.cells [(dI v1872.2.fCode), (dI v1872.2.fIndex)])]⟩ (by kernel_rfl) (G15g1883 v1880 ev1897)
      have G15g1874 : ∀ v1873 : Bool, f15_r8 m v1 v1764 v1858 v1859 v1872 ((v1873 && (decide ((v1872.1.length : Int) ≥ v1764)))) = some sx1867 → Ops (X15 n) (opl (cL (cR (cR (cL (cL (cR (cR (cL (cL (cR (cL (cR (cL (cL (cR (cL (cL (cR (cL (cR (cR (cR (cR (cR (cL (cL (cR (cR (cL (cL (cR (cL (cR (cR (cR C15)))))))))))))))))))))))))))))))))))) 6 ⟨(dP e39 a0) :: q3 ((.v (.sl .nil (List.map e44 []))) :: (dP eI v1.1) :: q1 ((AG.d ag1308 10 (List.map e44 v1307)) :: q1 ((.ptr 3 0) :: q3 ((.ptr 6 0) :: (dI v1764) :: (dI v1858) :: q1 ((.ptr 11 0) :: (dP eI v1872.1) :: (.ptr 12 0) :: q6 ((dP e39 a0) :: (dI ((a0.length : Int))) :: (dI v1309) :: q32 ((dP e39 a0) :: (dI ((a0.length : Int))) :: (dI v1859) :: q1 ((.vptr [(.str v1871.fWord), (.str v1871.fTag)]) :: (.v (.agg [(.str v1871.fWord), (.str v1871.fTag)])) :: (.v (.tuple [(vP eI v1872.1), (.agg [(vI v1872.2.fCode), (vI v1872.2.fIndex)])])) :: (.ptr 11 0) :: (.v (.str v1871.fWord)) :: (.v (.tuple [(vP eI v1872.1), (.agg [(vI v1872.2.fCode), (vI v1872.2.fIndex)])])) :: (dP eI v1872.1) :: (.v (.agg [(vI v1872.2.fCode), (vI v1872.2.fIndex)])) :: (.ptr 11 1) :: (.v (.str v1871.fTag)) :: (.ptr 3 1) :: (.v (.str v1322.fTag)) :: (dB v1873) :: (dB v1873) :: q40 (q16 []))))))))), [(.cells [(dI v1.2.fCode), (dI v1.2.fIndex)]), .dead, .dead, (.cells [(.v (.str v1322.fWord)), (.v (.str v1322.fTag))]), .dead, .dead, (.cells [(.v (.str v1322.fTag)), (dI v1765), (dI v1766)]), .dead, .dead, .dead, (AG.o ag1308 3 (List.map e44 v1307)), (.cells [(.v (.str v1871.fWord)), (.v (.str v1871.fTag))]), (.cells [(dI v1872.2.fCode), (dI v1872.2.fIndex)])]⟩ ((seqQ (X15 n) (cR (cR (cR (cL (cL (cR (cR (cL (cL (cR (cL (cR (cL (cL (cR (cL (cL (cR (cL (cR (cR (cR (cR (cR (cL (cL (cR (cR (cL (cL (cR (cL (cR (cR (cR C15))))))))))))))))))))))))))))))))))) (blkQ (X15 n) 7 [0, 4, 5, 7, 9, 13, 14, 15, 26, 27, 28, 61, 62, 63] 11 (seqQ (X15 n) (cR (cR (cR (cL (cL (cR (cL (cR (cL (cL (cR (cL (cL (cR (cL (cR (cR (cR (cR (cR (cL (cL (cR (cR (cL (cL (cR (cL (cR (cR (cR C15))))))))))))))))))))))))))))))) (lpQ (X15 n) [0, 4, 5, 7, 9, 13, 14, 15, 26, 27, 28, 61, 62, 63] 9 (cL (cL (cR (cL (cR (cL (cL (cR (cL (cL (cR (cL (cR (cR (cR (cR (cR (cL (cL (cR (cR (cL (cL (cR (cL (cR (cR (cR C15)))))))))))))))))))))))))))) nx1862 (blkQ (X15 n) 6 [0, 4, 5, 7, 9, 13, 14, 15, 26, 27, 28] 9 (seqQ (X15 n) (cR (cR (cL (cL (cR (cL (cL (cR (cL (cR (cR (cR (cR (cR (cL (cL (cR (cR (cL (cL (cR (cL (cR (cR (cR C15))))))))))))))))))))))))) (blkQ (X15 n) 5 [0, 4, 5, 7, 9, 13, 14, 26, 27, 28] 9 (seqQ (X15 n) (cR (cR (cL (cL (cR (cL (cR (cR (cR (cR (cR (cL (cL (cR (cR (cL (cL (cR (cL (cR (cR (cR C15)))))))))))))))))))))) (lpQ (X15 n) [0, 4, 5, 7, 9, 13, 14, 26, 27, 28] 7 (cL (cL (cR (cL (cR (cR (cR (cR (cR (cL (cL (cR (cR (cL (cL (cR (cL (cR (cR (cR C15)))))))))))))))))))) nx1769 (blkQ (X15 n) 4 [0, 4, 5, 7, 13, 26, 27, 28] 7 (seqQ (X15 n) (cR (cR (cR (cR (cR (cR (cL (cL (cR (cR (cL (cL (cR (cL (cR (cR (cR C15))))))))))))))))) (blkQ (X15 n) 1 [0, 4, 5, 7, 26, 27, 28] 3 (seqQ (X15 n) (cR (cR (cR (cL (cL (cR (cL (cR (cR (cR C15)))))))))) (lpQ (X15 n) [0, 4, 5, 7, 26, 27, 28] 1 (cL (cL (cR (cL (cR (cR (cR C15))))))) nx1312 (blkQ (X15 n) 0 [4, 7] 1 (seqQ (X15 n) (cR (cR (cR (cR C15)))) (fnQ (X15 n).E.T (resOf Proofs.Tryd.prog 15) ((eL e44) o)))))))))))))))))) .normal) := by
        intro v1873 h
        cases v1873
        · refine Ops.seg' 5 11 (by kernel_rfl) ?_
          refine Ops.st ⟨(dP e39 a0) :: q3 ((.v (.sl .nil (List.map e44 []))) :: (dP eI v1.1) :: q1 ((AG.d ag1308 10 (List.map e44 v1307)) :: q1 ((.ptr 3 0) :: q3 ((.ptr 6 0) :: (dI v1764) :: (dI v1858) :: q1 ((.ptr 11 0) :: (dP eI v1872.1) :: (.ptr 12 0) :: q6 ((dP e39 a0) :: (dI ((a0.length : Int))) :: (dI v1309) :: q32 ((dP e39 a0) :: (dI ((a0.length : Int))) :: (dI v1859) :: q1 ((.vptr [(.str v1871.fWord), (.str v1871.fTag)]) :: (.v (.agg [(.str v1871.fWord), (.str v1871.fTag)])) :: (.v (.tuple [(vP eI v1872.1), (.agg [(vI v1872.2.fCode), (vI v1872.2.fIndex)])])) :: (.ptr 11 0) :: (.v (.str v1871.fWord)) :: (.v (.tuple [(vP eI v1872.1), (.agg [(vI v1872.2.fCode), (vI v1872.2.fIndex)])])) :: (dP eI v1872.1) :: (.v (.agg [(vI v1872.2.fCode), (vI v1872.2.fIndex)])) :: (.ptr 11 1) :: (.v (.str v1871.fTag)) :: (.ptr 3 1) :: (.v (.str v1322.fTag)) :: (dB false) :: (dB false) :: u4 ((dB false) :: q40 (q11 [])))))))))), [(.cells [(dI v1.2.fCode), (dI v1.2.fIndex)]), .dead, .dead, (.cells [(.v (.str v1322.fWord)), (.v (.str v1322.fTag))]), .dead, .dead, (.cells [(.v (.str v1322.fTag)), (dI v1765), (dI v1766)]), .dead, .dead, .dead, (AG.o ag1308 3 (List.map e44 v1307)), (.cells [(.v (.str v1871.fWord)), (.v (.str v1871.fTag))]), (.cells [(dI v1872.2.fCode), (dI v1872.2.fIndex)])]⟩ (by kernel_rfl) ?_
          exact J15j1881 _ _ _ _ _ _ h
        · refine Ops.seg' 1 7 (by kernel_rfl) ?_
          refine Ops.one' 8 (fun h0 e0 => (len_r (T := T) h0 41 3 .plain eI v1872.1 (by kernel_rfl))) (by kernel_rfl) (by kernel_rfl) ?_
          refine Ops.seg' 3 11 (by kernel_rfl) ?_
          refine Ops.st ⟨(dP e39 a0) :: q3 ((.v (.sl .nil (List.map e44 []))) :: (dP eI v1.1) :: q1 ((AG.d ag1308 10 (List.map e44 v1307)) :: q1 ((.ptr 3 0) :: q3 ((.ptr 6 0) :: (dI v1764) :: (dI v1858) :: q1 ((.ptr 11 0) :: (dP eI v1872.1) :: (.ptr 12 0) :: q6 ((dP e39 a0) :: (dI ((a0.length : Int))) :: (dI v1309) :: q32 ((dP e39 a0) :: (dI ((a0.length : Int))) :: (dI v1859) :: q1 ((.vptr [(.str v1871.fWord), (.str v1871.fTag)]) :: (.v (.agg [(.str v1871.fWord), (.str v1871.fTag)])) :: (.v (.tuple [(vP eI v1872.1), (.agg [(vI v1872.2.fCode), (vI v1872.2.fIndex)])])) :: (.ptr 11 0) :: (.v (.str v1871.fWord)) :: (.v (.tuple [(vP eI v1872.1), (.agg [(vI v1872.2.fCode), (vI v1872.2.fIndex)])])) :: (dP eI v1872.1) :: (.v (.agg [(vI v1872.2.fCode), (vI v1872.2.fIndex)])) :: (.ptr 11 1) :: (.v (.str v1871.fTag)) :: (.ptr 3 1) :: (.v (.str v1322.fTag)) :: (dB true) :: (dB true) :: (dP eI v1872.1) :: (dI ((v1872.1.length : Int))) :: (dI v1764) :: (dB (decide ((v1872.1.length : Int) ≥ v1764))) :: (dB (decide ((v1872.1.length : Int) ≥ v1764))) :: q40 (q11 []))))))))), [(.cells [(dI v1.2.fCode), (dI v1.2.fIndex)]), .dead, .dead, (.cells [(.v (.str v1322.fWord)), (.v (.str v1322.fTag))]), .dead, .dead, (.cells [(.v (.str v1322.fTag)), (dI v1765), (dI v1766)]), .dead, .dead, .dead, (AG.o ag1308 3 (List.map e44 v1307)), (.cells [(.v (.str v1871.fWord)), (.v (.str v1871.fTag))]), (.cells [(dI v1872.2.fCode), (dI v1872.2.fIndex)])]⟩ (by kernel_rfl) ?_
          exact J15j1881 _ _ _ _ _ _ h
      exact Ops.st ⟨(dP e39 a0) :: q3 ((.v (.sl .nil (List.map e44 []))) :: (dP eI v1.1) :: q1 ((AG.d ag1308 10 (List.map e44 v1307)) :: q1 ((.ptr 3 0) :: q3 ((.ptr 6 0) :: (dI v1764) :: (dI v1858) :: q1 ((.ptr 11 0) :: (dP eI v1872.1) :: (.ptr 12 0) :: q6 ((dP e39 a0) :: (dI ((a0.length : Int))) :: (dI v1309) :: q32 ((dP e39 a0) :: (dI ((a0.length : Int))) :: (dI v1859) :: q1 ((.vptr [(.str v1871.fWord), (.str v1871.fTag)]) :: (.v (.agg [(.str v1871.fWord), (.str v1871.fTag)])) :: (.v (.tuple [(vP eI v1872.1), (.agg [(vI v1872.2.fCode), (vI v1872.2.fIndex)])])) :: (.ptr 11 0) :: (.v (.str v1871.fWord)) :: (.v (.tuple [(vP eI v1872.1), (.agg [(vI v1872.2.fCode), (vI v1872.2.fIndex)])])) :: (dP eI v1872.1) :: (.v (.agg [(vI v1872.2.fCode), (vI v1872.2.fIndex)])) :: (.ptr 11 1) :: (.v (.str v1871.fTag)) :: (.ptr 3 1) :: (.v (.str v1322.fTag)) :: (dB (((v1871.fTag.toList == v1322.fTag.toList)))) :: (dB (((v1871.fTag.toList == v1322.fTag.toList)))) :: q40 (q16 []))))))))), [(.cells [(dI v1.2.fCode), (dI v1.2.fIndex)]), .dead, .dead, (.cells [(.v (.str v1322.fWord)), (.v (.str v1322.fTag))]), .dead, .dead, (.cells [(.v (.str v1322.fTag)), (dI v1765), (dI v1766)]), .dead, .dead, .dead, (AG.o ag1308 3 (List.map e44 v1307)), (.cells [(.v (.str v1871.fWord)), (.v (.str v1871.fTag))]), (.cells [(dI v1872.2.fCode), (dI v1872.2.fIndex)])]⟩ (by kernel_rfl) (G15g1874 ((v1871.fTag.toList == v1322.fTag.toList)) h)
    · refine Wp.exit (id := 6) (by kernel_rfl) ?_
      refine sqQ.x ?_
      refine seqQ.x ?_
      cases h
      refine lpQ.x ?_
      refine blkQ.x ⟨(dP e39 a0) :: q3 ((.v (.sl .nil (List.map e44 []))) :: (dP eI v1.1) :: q1 ((AG.d ag1308 9 (List.map e44 v1307)) :: q1 ((.ptr 3 0) :: q3 ((.ptr 6 0) :: (dI v1764) :: (dI v1858) :: q10 ((dP e39 a0) :: (dI ((a0.length : Int))) :: (dI v1309) :: q40 (q40 (q26 []))))))), [(.cells [(dI v1.2.fCode), (dI v1.2.fIndex)]), .dead, .dead, (.cells [(.v (.str v1322.fWord)), (.v (.str v1322.fTag))]), .dead, .dead, (.cells [(.v (.str v1322.fTag)), (dI v1765), (dI v1766)]), .dead, .dead, (AG.o ag1308 3 (List.map e44 v1307))]⟩ (by cases ag1308 <;> kernel_rfl) ?_
      exact hxx1865 (v1858, v1859)  hsx1868
theorem f15_hLx1909 (m : Nat) (a0 : (List S39)) (a1 : ByteArray) (o : (List S44)) (n : Nat) (hn : m + 4 ≤ n + 1) (v1 : ((List Int) × S27)) (v1322 : S39) (nx1312 : Nat) (ag1308 : AG) (v1307 : (List S44)) (v1309 : Int) : ∀ (kx1768 : Nat) (v1764 : Int) (v1765 : Int) (v1766 : Int)  (ox1767 : (List S44) ⊕ (Int × Int × Int)), iter (fun (y : Int × Int × Int) => f15_B12 m a0 v1 v1322 y.1 y.2.1 y.2.2) kx1768 (v1764, v1765, v1766) = some ox1767 → ∀ nx1769, kx1768 ≤ nx1769 → (∀ r, ox1767 = .inl r → ∀ σ, RetOk (X15 n) (resOf Proofs.Tryd.prog 15) ((eL e44) r) σ → (seqQ (X15 n) (cR (cR (cR (cR (cR (cR (cL (cL (cR (cR (cL (cL (cR (cL (cR (cR (cR C15))))))))))))))))) (blkQ (X15 n) 1 [0, 4, 5, 7, 26, 27, 28] 3 (seqQ (X15 n) (cR (cR (cR (cL (cL (cR (cL (cR (cR (cR C15)))))))))) (lpQ (X15 n) [0, 4, 5, 7, 26, 27, 28] 1 (cL (cL (cR (cL (cR (cR (cR C15))))))) nx1312 (blkQ (X15 n) 0 [4, 7] 1 (seqQ (X15 n) (cR (cR (cR (cR C15)))) (fnQ (X15 n).E.T (resOf Proofs.Tryd.prog 15) ((eL e44) o)))))))) .ret σ) → (∀ (y : Int × Int × Int) , ox1767 = .inr y → (seqQ (X15 n) (cR (cR (cR (cR (cR (cR (cL (cL (cR (cR (cL (cL (cR (cL (cR (cR (cR C15))))))))))))))))) (blkQ (X15 n) 1 [0, 4, 5, 7, 26, 27, 28] 3 (seqQ (X15 n) (cR (cR (cR (cL (cL (cR (cL (cR (cR (cR C15)))))))))) (lpQ (X15 n) [0, 4, 5, 7, 26, 27, 28] 1 (cL (cL (cR (cL (cR (cR (cR C15))))))) nx1312 (blkQ (X15 n) 0 [4, 7] 1 (seqQ (X15 n) (cR (cR (cR (cR C15)))) (fnQ (X15 n).E.T (resOf Proofs.Tryd.prog 15) ((eL e44) o)))))))) .normal ⟨(dP e39 a0) :: q3 ((.v (.sl .nil (List.map e44 []))) :: (dP eI v1.1) :: q1 ((AG.d ag1308 7 (List.map e44 v1307)) :: q5 ((.ptr 6 0) :: q12 ((dP e39 a0) :: (dI ((a0.length : Int))) :: (dI v1309) :: q40 (q40 (q26 [])))))), [(.cells [(dI v1.2.fCode), (dI v1.2.fIndex)]), .dead, .dead, (.cells [(.v (.str v1322.fWord)), (.v (.str v1322.fTag))]), .dead, .dead, (.cells [(.v (.str v1322.fTag)), (dI y.2.1), (dI y.2.2)]), (AG.o ag1308 3 (List.map e44 v1307))]⟩) → Lp (X15 n) [0, 4, 5, 7, 9, 13, 14, 26, 27, 28] 7 (cL (cL (cR (cL (cR (cR (cR (cR (cR (cL (cL (cR (cR (cL (cL (cR (cL (cR (cR (cR C15)))))))))))))))))))) nx1769 ⟨(dP e39 a0) :: q3 ((.v (.sl .nil (List.map e44 []))) :: (dP eI v1.1) :: q1 ((AG.d ag1308 7 (List.map e44 v1307)) :: q1 ((.ptr 3 0) :: q3 ((.ptr 6 0) :: (dI v1764) :: q11 ((dP e39 a0) :: (dI ((a0.length : Int))) :: (dI v1309) :: q40 (q40 (q26 []))))))), [(.cells [(dI v1.2.fCode), (dI v1.2.fIndex)]), .dead, .dead, (.cells [(.v (.str v1322.fWord)), (.v (.str v1322.fTag))]), .dead, .dead, (.cells [(.v (.str v1322.fTag)), (dI v1765), (dI v1766)]), (AG.o ag1308 3 (List.map e44 v1307))]⟩ (blkQ (X15 n) 4 [0, 4, 5, 7, 13, 26, 27, 28] 7 (seqQ (X15 n) (cR (cR (cR (cR (cR (cR (cL (cL (cR (cR (cL (cL (cR (cL (cR (cR (cR C15))))))))))))))))) (blkQ (X15 n) 1 [0, 4, 5, 7, 26, 27, 28] 3 (seqQ (X15 n) (cR (cR (cR (cL (cL (cR (cL (cR (cR (cR C15)))))))))) (lpQ (X15 n) [0, 4, 5, 7, 26, 27, 28] 1 (cL (cL (cR (cL (cR (cR (cR C15))))))) nx1312 (blkQ (X15 n) 0 [4, 7] 1 (seqQ (X15 n) (cR (cR (cR (cR C15)))) (fnQ (X15 n).E.T (resOf Proofs.Tryd.prog 15) ((eL e44) o))))))))) := by
  intro kx1768
  induction kx1768 with
  | zero => intro v1764 v1765 v1766  ox1767 h; exact (iter_zero h).elim
  | succ kx1768 ihx1770 =>
    intro v1764 v1765 v1766  ox1767 h nx1769 hnx1773 hrx1771 hxx1772
    obtain ⟨nx1769, rfl⟩ : ∃ q, nx1769 = q + 1 := ⟨nx1769 - 1, by omega⟩
    obtain ⟨sx1774, h, hsx1775⟩ := iter_some h
    have h : f15_B12 m a0 v1 v1322 v1764 v1765 v1766 = some sx1774 := h
    unfold f15_B12 at h
    refine Lp.succ ?_
    refine Wp.seq' (by kernel_rfl) ?_
    refine Wp.seq' (by kernel_rfl) ?_
    refine Wp.region (by kernel_rfl) ?_
    refine Ops.seg' 3 3 (by kernel_rfl) ?_
    have J15j1784 : ∀ (d1778 d1779 d1780 d1781 : D) (v1782 : Bool) (v1783 : Bool), f15_r11 m a0 v1 v1322 v1764 v1765 v1766 v1783 = some sx1774 → Ops (X15 n) (opl (cL (cL (cL (cL (cR (cL (cR (cR (cR (cR (cR (cL (cL (cR (cR (cL (cL (cR (cL (cR (cR (cR C15))))))))))))))))))))))) 8 ⟨(dP e39 a0) :: q3 ((.v (.sl .nil (List.map e44 []))) :: (dP eI v1.1) :: q1 ((AG.d ag1308 7 (List.map e44 v1307)) :: q1 ((.ptr 3 0) :: q3 ((.ptr 6 0) :: (dI v1764) :: q11 ((dP e39 a0) :: (dI ((a0.length : Int))) :: (dI v1309) :: q22 ((dI v1764) :: (dB v1782) :: (dB v1782) :: d1778 :: d1779 :: d1780 :: d1781 :: (dB v1783) :: q40 (q36 []))))))), [(.cells [(dI v1.2.fCode), (dI v1.2.fIndex)]), .dead, .dead, (.cells [(.v (.str v1322.fWord)), (.v (.str v1322.fTag))]), .dead, .dead, (.cells [(.v (.str v1322.fTag)), (dI v1765), (dI v1766)]), (AG.o ag1308 3 (List.map e44 v1307))]⟩ ((seqQ (X15 n) (cR (cL (cL (cL (cR (cL (cR (cR (cR (cR (cR (cL (cL (cR (cR (cL (cL (cR (cL (cR (cR (cR C15)))))))))))))))))))))) (seqQ (X15 n) (cR (cL (cL (cR (cL (cR (cR (cR (cR (cR (cL (cL (cR (cR (cL (cL (cR (cL (cR (cR (cR C15))))))))))))))))))))) (lpQ (X15 n) [0, 4, 5, 7, 9, 13, 14, 26, 27, 28] 7 (cL (cL (cR (cL (cR (cR (cR (cR (cR (cL (cL (cR (cR (cL (cL (cR (cL (cR (cR (cR C15)))))))))))))))))))) nx1769 (blkQ (X15 n) 4 [0, 4, 5, 7, 13, 26, 27, 28] 7 (seqQ (X15 n) (cR (cR (cR (cR (cR (cR (cL (cL (cR (cR (cL (cL (cR (cL (cR (cR (cR C15))))))))))))))))) (blkQ (X15 n) 1 [0, 4, 5, 7, 26, 27, 28] 3 (seqQ (X15 n) (cR (cR (cR (cL (cL (cR (cL (cR (cR (cR C15)))))))))) (lpQ (X15 n) [0, 4, 5, 7, 26, 27, 28] 1 (cL (cL (cR (cL (cR (cR (cR C15))))))) nx1312 (blkQ (X15 n) 0 [4, 7] 1 (seqQ (X15 n) (cR (cR (cR (cR C15)))) (fnQ (X15 n).E.T (resOf Proofs.Tryd.prog 15) ((eL e44) o)))))))))))) .normal) := by
      intro d1778 d1779 d1780 d1781 v1782 v1783 h
      unfold f15_r11 at h
      refine Ops.done (by kernel_rfl) ?_
      refine seqQ.n ?_
      refine Wp.cnd h [0, 4, 5, 7, 9, 13, 14, 26, 27, 28] 8 (by kernel_rfl) (fun h => ?_) (fun h => ?_)
      · refine Wp.skip (by kernel_rfl) ?_
        refine sqQ.n ⟨(dP e39 a0) :: q3 ((.v (.sl .nil (List.map e44 []))) :: (dP eI v1.1) :: q1 ((AG.d ag1308 8 (List.map e44 v1307)) :: q1 ((.ptr 3 0) :: q3 ((.ptr 6 0) :: (dI v1764) :: q11 ((dP e39 a0) :: (dI ((a0.length : Int))) :: (dI v1309) :: q40 (q40 (q26 []))))))), [(.cells [(dI v1.2.fCode), (dI v1.2.fIndex)]), .dead, .dead, (.cells [(.v (.str v1322.fWord)), (.v (.str v1322.fTag))]), .dead, .dead, (.cells [(.v (.str v1322.fTag)), (dI v1765), (dI v1766)]), .dead, (AG.o ag1308 3 (List.map e44 v1307))]⟩ (by cases ag1308 <;> kernel_rfl) ?_
        refine seqQ.n ?_
        refine Wp.seq' (by kernel_rfl) ?_
        have J15j1787 : ∀ (v1785 : Int) (v1786 : Int) , f15_j4 m v1764 v1785 v1786 = some sx1774 → (seqQ (X15 n) (cR (cR (cL (cL (cR (cL (cR (cR (cR (cR (cR (cL (cL (cR (cR (cL (cL (cR (cL (cR (cR (cR C15)))))))))))))))))))))) (lpQ (X15 n) [0, 4, 5, 7, 9, 13, 14, 26, 27, 28] 7 (cL (cL (cR (cL (cR (cR (cR (cR (cR (cL (cL (cR (cR (cL (cL (cR (cL (cR (cR (cR C15)))))))))))))))))))) nx1769 (blkQ (X15 n) 4 [0, 4, 5, 7, 13, 26, 27, 28] 7 (seqQ (X15 n) (cR (cR (cR (cR (cR (cR (cL (cL (cR (cR (cL (cL (cR (cL (cR (cR (cR C15))))))))))))))))) (blkQ (X15 n) 1 [0, 4, 5, 7, 26, 27, 28] 3 (seqQ (X15 n) (cR (cR (cR (cL (cL (cR (cL (cR (cR (cR C15)))))))))) (lpQ (X15 n) [0, 4, 5, 7, 26, 27, 28] 1 (cL (cL (cR (cL (cR (cR (cR C15))))))) nx1312 (blkQ (X15 n) 0 [4, 7] 1 (seqQ (X15 n) (cR (cR (cR (cR C15)))) (fnQ (X15 n).E.T (resOf Proofs.Tryd.prog 15) ((eL e44) o))))))))))) .normal ⟨(dP e39 a0) :: q3 ((.v (.sl .nil (List.map e44 []))) :: (dP eI v1.1) :: q1 ((AG.d ag1308 9 (List.map e44 v1307)) :: q1 ((.ptr 3 0) :: q3 ((.ptr 6 0) :: (dI v1764) :: q11 ((dP e39 a0) :: (dI ((a0.length : Int))) :: (dI v1309) :: q40 (q40 (q26 []))))))), [(.cells [(dI v1.2.fCode), (dI v1.2.fIndex)]), .dead, .dead, (.cells [(.v (.str v1322.fWord)), (.v (.str v1322.fTag))]), .dead, .dead, (.cells [(.v (.str v1322.fTag)), (dI v1785), (dI v1786)]), .dead, .dead, (AG.o ag1308 3 (List.map e44 v1307))]⟩ := by
          intro v1785 v1786  h
          unfold f15_j4 at h
          refine seqQ.n ?_
          refine Wp.region (by kernel_rfl) ?_
          refine Ops.seg' 3 3 (by kernel_rfl) ?_
          refine Ops.done (by kernel_rfl) ?_
          refine lpQ.n ⟨(dP e39 a0) :: q3 ((.v (.sl .nil (List.map e44 []))) :: (dP eI v1.1) :: q1 ((AG.d ag1308 7 (List.map e44 v1307)) :: q1 ((.ptr 3 0) :: q3 ((.ptr 6 0) :: (dI (w64 (v1764 + 1))) :: q11 ((dP e39 a0) :: (dI ((a0.length : Int))) :: (dI v1309) :: q40 (q40 (q26 []))))))), [(.cells [(dI v1.2.fCode), (dI v1.2.fIndex)]), .dead, .dead, (.cells [(.v (.str v1322.fWord)), (.v (.str v1322.fTag))]), .dead, .dead, (.cells [(.v (.str v1322.fTag)), (dI v1785), (dI v1786)]), (AG.o ag1308 3 (List.map e44 v1307))]⟩ (by cases ag1308 <;> kernel_rfl) ?_
          cases h
          exact ihx1770 (w64 (v1764 + 1)) v1785 v1786  _ hsx1775 _ (by omega) hrx1771 hxx1772
        refine Wp.block' 5 [0, 4, 5, 7, 9, 13, 14, 26, 27, 28] 9 (by kernel_rfl) ?_
        refine Wp.seq' (by kernel_rfl) ?_
        refine Wp.region (by kernel_rfl) ?_
        refine Ops.seg' 1 1 (by kernel_rfl) ?_
        refine Ops.done (by kernel_rfl) ?_
        refine seqQ.n ?_
        refine Wp.seq' (by kernel_rfl) ?_
        refine Wp.seq' (by kernel_rfl) ?_
        refine Wp.region (by kernel_rfl) ?_
        refine Ops.seg' 1 1 (by kernel_rfl) ?_
        refine Ops.one' 2 (fun h0 e0 => (len_r (T := T) h0 22 40 .plain e39 a0 (by kernel_rfl))) (by kernel_rfl) (by kernel_rfl) ?_
        refine Ops.seg' 1 3 (by kernel_rfl) ?_
        refine Ops.done (by kernel_rfl) ?_
        refine seqQ.n ?_
        refine Wp.block' 6 [0, 4, 5, 7, 9, 13, 14, 15, 26, 27, 28] 9 (by kernel_rfl) ?_
        have hLx1903 := f15_hLx1903 m a0 a1 o n hn v1 v1322 v1764 nx1769 nx1312 ag1308 v1307 v1309 v1765 v1766
        refine Wp.loop' [0, 4, 5, 7, 9, 13, 14, 15, 26, 27, 28, 61, 62, 63] 9 (by kernel_rfl) ⟨(dP e39 a0) :: q3 ((.v (.sl .nil (List.map e44 []))) :: (dP eI v1.1) :: q1 ((AG.d ag1308 9 (List.map e44 v1307)) :: q1 ((.ptr 3 0) :: q3 ((.ptr 6 0) :: (dI v1764) :: (dI 0) :: q10 ((dP e39 a0) :: (dI ((a0.length : Int))) :: (dI v1309) :: q32 ((dP e39 a0) :: (dI ((a0.length : Int))) :: (dI 0) :: q40 (q31 []))))))), [(.cells [(dI v1.2.fCode), (dI v1.2.fIndex)]), .dead, .dead, (.cells [(.v (.str v1322.fWord)), (.v (.str v1322.fTag))]), .dead, .dead, (.cells [(.v (.str v1322.fTag)), (dI v1765), (dI v1766)]), .dead, .dead, (AG.o ag1308 3 (List.map e44 v1307))]⟩ (by cases ag1308 <;> kernel_rfl) ?_
        rcases brk_some h with ⟨r1905, er1905, h⟩ | ⟨y1904, ey1904, h⟩
        · refine hLx1903 _ 0 0  _ er1905 n (by omega) (fun r er σ hσ => ?_) (fun y  ey => by cases ey)
          cases er
          refine seqQ.r ?_
          refine blkQ.r ?_
          refine seqQ.r ?_
          refine lpQ.r ?_
          cases h
          refine blkQ.r ?_
          exact hrx1771 _ hsx1775 _ (RetOk.forget [0, 4, 5, 7, 9, 13, 14, 26, 27, 28] (by kernel_rfl) hσ)
        · refine hLx1903 _ 0 0  _ ey1904 n (by omega) (fun r er => by cases er) (fun y  ey => ?_)
          cases ey
          refine seqQ.n ?_
          refine Wp.seq' (by kernel_rfl) ?_
          refine Wp.region (by kernel_rfl) ?_
          refine Ops.seg' 2 2 (by kernel_rfl) ?_
          refine Ops.done (by kernel_rfl) ?_
          refine seqQ.n ?_
          have J15j1908 : ∀ (v1906 : Int) (v1907 : Int) , f15_j10 m v1764 v1906 v1907 = some sx1774 → (blkQ (X15 n) 5 [0, 4, 5, 7, 9, 13, 14, 26, 27, 28] 9 (seqQ (X15 n) (cR (cR (cL (cL (cR (cL (cR (cR (cR (cR (cR (cL (cL (cR (cR (cL (cL (cR (cL (cR (cR (cR C15)))))))))))))))))))))) (lpQ (X15 n) [0, 4, 5, 7, 9, 13, 14, 26, 27, 28] 7 (cL (cL (cR (cL (cR (cR (cR (cR (cR (cL (cL (cR (cR (cL (cL (cR (cL (cR (cR (cR C15)))))))))))))))))))) nx1769 (blkQ (X15 n) 4 [0, 4, 5, 7, 13, 26, 27, 28] 7 (seqQ (X15 n) (cR (cR (cR (cR (cR (cR (cL (cL (cR (cR (cL (cL (cR (cL (cR (cR (cR C15))))))))))))))))) (blkQ (X15 n) 1 [0, 4, 5, 7, 26, 27, 28] 3 (seqQ (X15 n) (cR (cR (cR (cL (cL (cR (cL (cR (cR (cR C15)))))))))) (lpQ (X15 n) [0, 4, 5, 7, 26, 27, 28] 1 (cL (cL (cR (cL (cR (cR (cR C15))))))) nx1312 (blkQ (X15 n) 0 [4, 7] 1 (seqQ (X15 n) (cR (cR (cR (cR C15)))) (fnQ (X15 n).E.T (resOf Proofs.Tryd.prog 15) ((eL e44) o)))))))))))) .normal ⟨(dP e39 a0) :: q3 ((.v (.sl .nil (List.map e44 []))) :: (dP eI v1.1) :: q1 ((AG.d ag1308 10 (List.map e44 v1307)) :: q1 ((.ptr 3 0) :: q3 ((.ptr 6 0) :: (dI v1764) :: q11 ((dP e39 a0) :: (dI ((a0.length : Int))) :: (dI v1309) :: q40 (q40 (q26 []))))))), [(.cells [(dI v1.2.fCode), (dI v1.2.fIndex)]), .dead, .dead, (.cells [(.v (.str v1322.fWord)), (.v (.str v1322.fTag))]), .dead, .dead, (.cells [(.v (.str v1322.fTag)), (dI v1906), (dI v1907)]), .dead, .dead, .dead, (AG.o ag1308 3 (List.map e44 v1307))]⟩ := by
            intro v1906 v1907  h
            unfold f15_j10 at h
            refine blkQ.n ⟨(dP e39 a0) :: q3 ((.v (.sl .nil (List.map e44 []))) :: (dP eI v1.1) :: q1 ((AG.d ag1308 9 (List.map e44 v1307)) :: q1 ((.ptr 3 0) :: q3 ((.ptr 6 0) :: (dI v1764) :: q11 ((dP e39 a0) :: (dI ((a0.length : Int))) :: (dI v1309) :: q40 (q40 (q26 []))))))), [(.cells [(dI v1.2.fCode), (dI v1.2.fIndex)]), .dead, .dead, (.cells [(.v (.str v1322.fWord)), (.v (.str v1322.fTag))]), .dead, .dead, (.cells [(.v (.str v1322.fTag)), (dI v1906), (dI v1907)]), .dead, .dead, (AG.o ag1308 3 (List.map e44 v1307))]⟩ (by cases ag1308 <;> kernel_rfl) ?_
            exact J15j1787 v1906 v1907  h
          refine Wp.cnd h [0, 4, 5, 7, 9, 13, 14, 26, 27, 28] 10 (by kernel_rfl) (fun h => ?_) (fun h => ?_)
          · refine Wp.region (by kernel_rfl) ?_
            refine Ops.seg' 6 6 (by kernel_rfl) ?_
            refine Ops.done (by kernel_rfl) ?_
            refine sqQ.n ⟨(dP e39 a0) :: q3 ((.v (.sl .nil (List.map e44 []))) :: (dP eI v1.1) :: q1 ((AG.d ag1308 10 (List.map e44 v1307)) :: q1 ((.ptr 3 0) :: q3 ((.ptr 6 0) :: (dI v1764) :: q11 ((dP e39 a0) :: (dI ((a0.length : Int))) :: (dI v1309) :: q40 (q40 (q26 []))))))), [(.cells [(dI v1.2.fCode), (dI v1.2.fIndex)]), .dead, .dead, (.cells [(.v (.str v1322.fWord)), (.v (.str v1322.fTag))]), .dead, .dead, (.cells [(.v (.str v1322.fTag)), (dI v1764), (dI y1904.1)]), .dead, .dead, .dead, (AG.o ag1308 3 (List.map e44 v1307))]⟩ (by cases ag1308 <;> kernel_rfl) ?_
            exact J15j1908 v1764 y1904.1  h
          · refine Wp.skip (by kernel_rfl) ?_
            refine sqQ.n ⟨(dP e39 a0) :: q3 ((.v (.sl .nil (List.map e44 []))) :: (dP eI v1.1) :: q1 ((AG.d ag1308 10 (List.map e44 v1307)) :: q1 ((.ptr 3 0) :: q3 ((.ptr 6 0) :: (dI v1764) :: q11 ((dP e39 a0) :: (dI ((a0.length : Int))) :: (dI v1309) :: q40 (q40 (q26 []))))))), [(.cells [(dI v1.2.fCode), (dI v1.2.fIndex)]), .dead, .dead, (.cells [(.v (.str v1322.fWord)), (.v (.str v1322.fTag))]), .dead, .dead, (.cells [(.v (.str v1322.fTag)), (dI v1765), (dI v1766)]), .dead, .dead, .dead, (AG.o ag1308 3 (List.map e44 v1307))]⟩ (by cases ag1308 <;> kernel_rfl) ?_
            exact J15j1908 v1765 v1766  h
      · refine Wp.exit (id := 4) (by kernel_rfl) ?_
        refine sqQ.x ?_
        refine seqQ.x ?_
        cases h
        refine lpQ.x ?_
        refine blkQ.x ⟨(dP e39 a0) :: q3 ((.v (.sl .nil (List.map e44 []))) :: (dP eI v1.1) :: q1 ((AG.d ag1308 7 (List.map e44 v1307)) :: q5 ((.ptr 6 0) :: q12 ((dP e39 a0) :: (dI ((a0.length : Int))) :: (dI v1309) :: q40 (q40 (q26 [])))))), [(.cells [(dI v1.2.fCode), (dI v1.2.fIndex)]), .dead, .dead, (.cells [(.v (.str v1322.fWord)), (.v (.str v1322.fTag))]), .dead, .dead, (.cells [(.v (.str v1322.fTag)), (dI v1765), (dI v1766)]), (AG.o ag1308 3 (List.map e44 v1307))]⟩ (by cases ag1308 <;> kernel_rfl) ?_
        exact hxx1772 (v1764, v1765, v1766)  hsx1775
    have G15g1777 : ∀ v1776 : Bool, f15_r11 m a0 v1 v1322 v1764 v1765 v1766 ((v1776 && (decide (v1764 ≤ (v1.1.length : Int))))) = some sx1774 → Ops (X15 n) (opl (cL (cL (cL (cL (cR (cL (cR (cR (cR (cR (cR (cL (cL (cR (cR (cL (cL (cR (cL (cR (cR (cR C15))))))))))))))))))))))) 3 ⟨(dP e39 a0) :: q3 ((.v (.sl .nil (List.map e44 []))) :: (dP eI v1.1) :: q1 ((AG.d ag1308 7 (List.map e44 v1307)) :: q1 ((.ptr 3 0) :: q3 ((.ptr 6 0) :: (dI v1764) :: q11 ((dP e39 a0) :: (dI ((a0.length : Int))) :: (dI v1309) :: q22 ((dI v1764) :: (dB v1776) :: (dB v1776) :: q40 (q40 (q1 [])))))))), [(.cells [(dI v1.2.fCode), (dI v1.2.fIndex)]), .dead, .dead, (.cells [(.v (.str v1322.fWord)), (.v (.str v1322.fTag))]), .dead, .dead, (.cells [(.v (.str v1322.fTag)), (dI v1765), (dI v1766)]), (AG.o ag1308 3 (List.map e44 v1307))]⟩ ((seqQ (X15 n) (cR (cL (cL (cL (cR (cL (cR (cR (cR (cR (cR (cL (cL (cR (cR (cL (cL (cR (cL (cR (cR (cR C15)))))))))))))))))))))) (seqQ (X15 n) (cR (cL (cL (cR (cL (cR (cR (cR (cR (cR (cL (cL (cR (cR (cL (cL (cR (cL (cR (cR (cR C15))))))))))))))))))))) (lpQ (X15 n) [0, 4, 5, 7, 9, 13, 14, 26, 27, 28] 7 (cL (cL (cR (cL (cR (cR (cR (cR (cR (cL (cL (cR (cR (cL (cL (cR (cL (cR (cR (cR C15)))))))))))))))))))) nx1769 (blkQ (X15 n) 4 [0, 4, 5, 7, 13, 26, 27, 28] 7 (seqQ (X15 n) (cR (cR (cR (cR (cR (cR (cL (cL (cR (cR (cL (cL (cR (cL (cR (cR (cR C15))))))))))))))))) (blkQ (X15 n) 1 [0, 4, 5, 7, 26, 27, 28] 3 (seqQ (X15 n) (cR (cR (cR (cL (cL (cR (cL (cR (cR (cR C15)))))))))) (lpQ (X15 n) [0, 4, 5, 7, 26, 27, 28] 1 (cL (cL (cR (cL (cR (cR (cR C15))))))) nx1312 (blkQ (X15 n) 0 [4, 7] 1 (seqQ (X15 n) (cR (cR (cR (cR C15)))) (fnQ (X15 n).E.T (resOf Proofs.Tryd.prog 15) ((eL e44) o)))))))))))) .normal) := by
      intro v1776 h
      cases v1776
      · refine Ops.seg' 5 8 (by kernel_rfl) ?_
        refine Ops.st ⟨(dP e39 a0) :: q3 ((.v (.sl .nil (List.map e44 []))) :: (dP eI v1.1) :: q1 ((AG.d ag1308 7 (List.map e44 v1307)) :: q1 ((.ptr 3 0) :: q3 ((.ptr 6 0) :: (dI v1764) :: q11 ((dP e39 a0) :: (dI ((a0.length : Int))) :: (dI v1309) :: q22 ((dI v1764) :: (dB false) :: (dB false) :: u4 ((dB false) :: q40 (q36 [])))))))), [(.cells [(dI v1.2.fCode), (dI v1.2.fIndex)]), .dead, .dead, (.cells [(.v (.str v1322.fWord)), (.v (.str v1322.fTag))]), .dead, .dead, (.cells [(.v (.str v1322.fTag)), (dI v1765), (dI v1766)]), (AG.o ag1308 3 (List.map e44 v1307))]⟩ (by kernel_rfl) ?_
        exact J15j1784 _ _ _ _ _ _ h
      · refine Ops.seg' 2 5 (by kernel_rfl) ?_
        refine Ops.one' 6 (fun h0 e0 => (len_r (T := T) h0 41 3 .plain eI v1.1 (by kernel_rfl))) (by kernel_rfl) (by kernel_rfl) ?_
        refine Ops.seg' 2 8 (by kernel_rfl) ?_
        refine Ops.st ⟨(dP e39 a0) :: q3 ((.v (.sl .nil (List.map e44 []))) :: (dP eI v1.1) :: q1 ((AG.d ag1308 7 (List.map e44 v1307)) :: q1 ((.ptr 3 0) :: q3 ((.ptr 6 0) :: (dI v1764) :: q11 ((dP e39 a0) :: (dI ((a0.length : Int))) :: (dI v1309) :: q22 ((dI v1764) :: (dB true) :: (dB true) :: (dI v1764) :: (dP eI v1.1) :: (dI ((v1.1.length : Int))) :: (dB (decide (v1764 ≤ (v1.1.length : Int)))) :: (dB (decide (v1764 ≤ (v1.1.length : Int)))) :: q40 (q36 []))))))), [(.cells [(dI v1.2.fCode), (dI v1.2.fIndex)]), .dead, .dead, (.cells [(.v (.str v1322.fWord)), (.v (.str v1322.fTag))]), .dead, .dead, (.cells [(.v (.str v1322.fTag)), (dI v1765), (dI v1766)]), (AG.o ag1308 3 (List.map e44 v1307))]⟩ (by kernel_rfl) ?_
        exact J15j1784 _ _ _ _ _ _ h
    exact Ops.st ⟨(dP e39 a0) :: q3 ((.v (.sl .nil (List.map e44 []))) :: (dP eI v1.1) :: q1 ((AG.d ag1308 7 (List.map e44 v1307)) :: q1 ((.ptr 3 0) :: q3 ((.ptr 6 0) :: (dI v1764) :: q11 ((dP e39 a0) :: (dI ((a0.length : Int))) :: (dI v1309) :: q22 ((dI v1764) :: (dB ((decide (v1764 ≤ 5)))) :: (dB ((decide (v1764 ≤ 5)))) :: q40 (q40 (q1 [])))))))), [(.cells [(dI v1.2.fCode), (dI v1.2.fIndex)]), .dead, .dead, (.cells [(.v (.str v1322.fWord)), (.v (.str v1322.fTag))]), .dead, .dead, (.cells [(.v (.str v1322.fTag)), (dI v1765), (dI v1766)]), (AG.o ag1308 3 (List.map e44 v1307))]⟩ (by kernel_rfl) (G15g1777 (decide (v1764 ≤ 5)) h)
theorem f15_hLx1359 (m : Nat) (a0 : (List S39)) (a1 : ByteArray) (o : (List S44)) (n : Nat) (hn : m + 4 ≤ n + 1) (v1307 : (List S44)) (v1322 : S39) (nx1312 : Nat) (v1 : ((List Int) × S27)) (ag1308 : AG) (v1309 : Int) : ∀ (kx1340 : Nat) (v1337 : Bool) (v1338 : Int)  (ox1339 : (List S44) ⊕ (Bool × Int)), iter (fun (y : Bool × Int) => f15_B3 m v1307 v1322 y.1 y.2) kx1340 (v1337, v1338) = some ox1339 → ∀ nx1341, kx1340 ≤ nx1341 → (∀ r, ox1339 = .inl r → ∀ σ, RetOk (X15 n) (resOf Proofs.Tryd.prog 15) ((eL e44) r) σ → (seqQ (X15 n) (cR (cR (cR (cL (cL (cR (cR (cL (cL (cR (cL (cR (cR (cR C15)))))))))))))) (blkQ (X15 n) 1 [0, 4, 5, 7, 26, 27, 28] 3 (seqQ (X15 n) (cR (cR (cR (cL (cL (cR (cL (cR (cR (cR C15)))))))))) (lpQ (X15 n) [0, 4, 5, 7, 26, 27, 28] 1 (cL (cL (cR (cL (cR (cR (cR C15))))))) nx1312 (blkQ (X15 n) 0 [4, 7] 1 (seqQ (X15 n) (cR (cR (cR (cR C15)))) (fnQ (X15 n).E.T (resOf Proofs.Tryd.prog 15) ((eL e44) o)))))))) .ret σ) → (∀ (y : Bool × Int) , ox1339 = .inr y → (seqQ (X15 n) (cR (cR (cR (cL (cL (cR (cR (cL (cL (cR (cL (cR (cR (cR C15)))))))))))))) (blkQ (X15 n) 1 [0, 4, 5, 7, 26, 27, 28] 3 (seqQ (X15 n) (cR (cR (cR (cL (cL (cR (cL (cR (cR (cR C15)))))))))) (lpQ (X15 n) [0, 4, 5, 7, 26, 27, 28] 1 (cL (cL (cR (cL (cR (cR (cR C15))))))) nx1312 (blkQ (X15 n) 0 [4, 7] 1 (seqQ (X15 n) (cR (cR (cR (cR C15)))) (fnQ (X15 n).E.T (resOf Proofs.Tryd.prog 15) ((eL e44) o)))))))) .normal ⟨(dP e39 a0) :: q3 ((.v (.sl .nil (List.map e44 []))) :: (dP eI v1.1) :: q1 ((AG.d ag1308 4 (List.map e44 v1307)) :: q1 ((.ptr 3 0) :: (dB y.1) :: q15 ((dP e39 a0) :: (dI ((a0.length : Int))) :: (dI v1309) :: q40 (q40 (q26 [])))))), [(.cells [(dI v1.2.fCode), (dI v1.2.fIndex)]), .dead, .dead, (.cells [(.v (.str v1322.fWord)), (.v (.str v1322.fTag))]), (AG.o ag1308 3 (List.map e44 v1307))]⟩) → Lp (X15 n) [0, 4, 5, 7, 9, 10, 26, 27, 28, 32, 33, 34] 4 (cL (cL (cR (cL (cR (cR (cL (cL (cR (cR (cL (cL (cR (cL (cR (cR (cR C15))))))))))))))))) nx1341 ⟨(dP e39 a0) :: q3 ((.v (.sl .nil (List.map e44 []))) :: (dP eI v1.1) :: q1 ((AG.d ag1308 4 (List.map e44 v1307)) :: q1 ((.ptr 3 0) :: (dB v1337) :: q15 ((dP e39 a0) :: (dI ((a0.length : Int))) :: (dI v1309) :: q3 ((AG.d ag1308 2 (List.map e44 v1307)) :: (dI ((v1307.length : Int))) :: (dI v1338) :: q40 (q40 (q20 []))))))), [(.cells [(dI v1.2.fCode), (dI v1.2.fIndex)]), .dead, .dead, (.cells [(.v (.str v1322.fWord)), (.v (.str v1322.fTag))]), (AG.o ag1308 3 (List.map e44 v1307))]⟩ (blkQ (X15 n) 2 [0, 4, 5, 7, 9, 10, 26, 27, 28] 4 (seqQ (X15 n) (cR (cR (cR (cL (cL (cR (cR (cL (cL (cR (cL (cR (cR (cR C15)))))))))))))) (blkQ (X15 n) 1 [0, 4, 5, 7, 26, 27, 28] 3 (seqQ (X15 n) (cR (cR (cR (cL (cL (cR (cL (cR (cR (cR C15)))))))))) (lpQ (X15 n) [0, 4, 5, 7, 26, 27, 28] 1 (cL (cL (cR (cL (cR (cR (cR C15))))))) nx1312 (blkQ (X15 n) 0 [4, 7] 1 (seqQ (X15 n) (cR (cR (cR (cR C15)))) (fnQ (X15 n).E.T (resOf Proofs.Tryd.prog 15) ((eL e44) o))))))))) := by
  intro kx1340
  induction kx1340 with
  | zero => intro v1337 v1338  ox1339 h; exact (iter_zero h).elim
  | succ kx1340 ihx1342 =>
    intro v1337 v1338  ox1339 h nx1341 hnx1345 hrx1343 hxx1344
    obtain ⟨nx1341, rfl⟩ : ∃ q, nx1341 = q + 1 := ⟨nx1341 - 1, by omega⟩
    obtain ⟨sx1346, h, hsx1347⟩ := iter_some h
    have h : f15_B3 m v1307 v1322 v1337 v1338 = some sx1346 := h
    unfold f15_B3 at h
    refine Lp.succ ?_
    refine Wp.seq' (by kernel_rfl) ?_
    refine Wp.region (by kernel_rfl) ?_
    refine Ops.seg' 1 1 (by kernel_rfl) ?_
    refine Ops.done (by kernel_rfl) ?_
    refine seqQ.n ?_
    refine Wp.seq' (by kernel_rfl) ?_
    refine Wp.cnd h [0, 4, 5, 7, 9, 10, 26, 27, 28, 32, 33, 34] 5 (by kernel_rfl) (fun h => ?_) (fun h => ?_)
    · refine Wp.skip (by kernel_rfl) ?_
      refine sqQ.n ⟨(dP e39 a0) :: q3 ((.v (.sl .nil (List.map e44 []))) :: (dP eI v1.1) :: q1 ((AG.d ag1308 5 (List.map e44 v1307)) :: q1 ((.ptr 3 0) :: (dB v1337) :: q15 ((dP e39 a0) :: (dI ((a0.length : Int))) :: (dI v1309) :: q3 ((AG.d ag1308 2 (List.map e44 v1307)) :: (dI ((v1307.length : Int))) :: (dI v1338) :: q40 (q40 (q20 []))))))), [(.cells [(dI v1.2.fCode), (dI v1.2.fIndex)]), .dead, .dead, (.cells [(.v (.str v1322.fWord)), (.v (.str v1322.fTag))]), .dead, (AG.o ag1308 3 (List.map e44 v1307))]⟩ (by cases ag1308 <;> kernel_rfl) ?_
      refine seqQ.n ?_
      refine Wp.seq' (by kernel_rfl) ?_
      refine Wp.block' 3 [0, 4, 5, 7, 9, 10, 26, 27, 28, 32, 33, 34] 6 (by kernel_rfl) ?_
      refine Wp.seq' (by kernel_rfl) ?_
      refine Wp.region (by kernel_rfl) ?_
      obtain ⟨v1348, ev1348, h⟩ := bnd_some h
      refine Ops.one' 1 (fun h0 e0 => (ix_g (T := T) h0 32 45 3 2 ag1308 e44 v1307 v1338 v1348 ev1348 (by kernel_rfl) (by kernel_rfl) (fun _ => rfl))) (by kernel_rfl) (by kernel_rfl) ?_
      refine Ops.seg' 3 4 (by kernel_rfl) ?_
      refine Ops.done (by kernel_rfl) ?_
      refine seqQ.n ?_
      refine Wp.region (by kernel_rfl) ?_
      refine Ops.seg' 2 2 (by kernel_rfl) ?_
      have J15j1358 : ∀ (d1351 d1352 d1353 d1354 d1355 : D) (v1356 : Bool) (v1357 : Bool), f15_r2 m v1338 v1357 = some sx1346 → Ops (X15 n) (opl (cR (cL (cL (cR (cR (cL (cL (cR (cL (cR (cR (cL (cL (cR (cR (cL (cL (cR (cL (cR (cR (cR C15))))))))))))))))))))))) 8 ⟨(dP e39 a0) :: q3 ((.v (.sl .nil (List.map e44 []))) :: (dP eI v1.1) :: q1 ((AG.d ag1308 5 (List.map e44 v1307)) :: q1 ((.ptr 3 0) :: (dB v1356) :: q1 ((.ptr 6 0) :: q13 ((dP e39 a0) :: (dI ((a0.length : Int))) :: (dI v1309) :: q3 ((AG.d ag1308 2 (List.map e44 v1307)) :: (dI ((v1307.length : Int))) :: (dI v1338) :: q1 ((.vptr [(.str v1348.fTag), (vI v1348.fLength), (vI v1348.fCount)]) :: (.v (.agg [(.str v1348.fTag), (vI v1348.fLength), (vI v1348.fCount)])) :: (dB v1356) :: (dB v1356) :: d1351 :: d1352 :: d1353 :: d1354 :: d1355 :: (dB v1357) :: q40 (q40 (q9 []))))))))), [(.cells [(dI v1.2.fCode), (dI v1.2.fIndex)]), .dead, .dead, (.cells [(.v (.str v1322.fWord)), (.v (.str v1322.fTag))]), .dead, (AG.o ag1308 3 (List.map e44 v1307)), (.cells [(.v (.str v1348.fTag)), (dI v1348.fLength), (dI v1348.fCount)])]⟩ ((blkQ (X15 n) 3 [0, 4, 5, 7, 9, 10, 26, 27, 28, 32, 33, 34] 6 (seqQ (X15 n) (cR (cR (cR (cL (cL (cR (cL (cR (cR (cL (cL (cR (cR (cL (cL (cR (cL (cR (cR (cR C15)))))))))))))))))))) (lpQ (X15 n) [0, 4, 5, 7, 9, 10, 26, 27, 28, 32, 33, 34] 4 (cL (cL (cR (cL (cR (cR (cL (cL (cR (cR (cL (cL (cR (cL (cR (cR (cR C15))))))))))))))))) nx1341 (blkQ (X15 n) 2 [0, 4, 5, 7, 9, 10, 26, 27, 28] 4 (seqQ (X15 n) (cR (cR (cR (cL (cL (cR (cR (cL (cL (cR (cL (cR (cR (cR C15)))))))))))))) (blkQ (X15 n) 1 [0, 4, 5, 7, 26, 27, 28] 3 (seqQ (X15 n) (cR (cR (cR (cL (cL (cR (cL (cR (cR (cR C15)))))))))) (lpQ (X15 n) [0, 4, 5, 7, 26, 27, 28] 1 (cL (cL (cR (cL (cR (cR (cR C15))))))) nx1312 (blkQ (X15 n) 0 [4, 7] 1 (seqQ (X15 n) (cR (cR (cR (cR C15)))) (fnQ (X15 n).E.T (resOf Proofs.Tryd.prog 15) ((eL e44) o)))))))))))) .normal) := by
        intro d1351 d1352 d1353 d1354 d1355 v1356 v1357 h
        unfold f15_r2 at h
        refine Ops.seg' 1 9 (by kernel_rfl) ?_
        refine Ops.done (by kernel_rfl) ?_
        refine blkQ.n ⟨(dP e39 a0) :: q3 ((.v (.sl .nil (List.map e44 []))) :: (dP eI v1.1) :: q1 ((AG.d ag1308 6 (List.map e44 v1307)) :: q1 ((.ptr 3 0) :: (dB v1357) :: q15 ((dP e39 a0) :: (dI ((a0.length : Int))) :: (dI v1309) :: q3 ((AG.d ag1308 2 (List.map e44 v1307)) :: (dI ((v1307.length : Int))) :: (dI v1338) :: q40 (q40 (q20 []))))))), [(.cells [(dI v1.2.fCode), (dI v1.2.fIndex)]), .dead, .dead, (.cells [(.v (.str v1322.fWord)), (.v (.str v1322.fTag))]), .dead, .dead, (AG.o ag1308 3 (List.map e44 v1307))]⟩ (by cases ag1308 <;> kernel_rfl) ?_
        refine seqQ.n ?_
        refine Wp.region (by kernel_rfl) ?_
        refine Ops.seg' 2 2 (by kernel_rfl) ?_
        refine Ops.done (by kernel_rfl) ?_
        refine lpQ.n ⟨(dP e39 a0) :: q3 ((.v (.sl .nil (List.map e44 []))) :: (dP eI v1.1) :: q1 ((AG.d ag1308 4 (List.map e44 v1307)) :: q1 ((.ptr 3 0) :: (dB v1357) :: q15 ((dP e39 a0) :: (dI ((a0.length : Int))) :: (dI v1309) :: q3 ((AG.d ag1308 2 (List.map e44 v1307)) :: (dI ((v1307.length : Int))) :: (dI (w64 (v1338 + 1))) :: q40 (q40 (q20 []))))))), [(.cells [(dI v1.2.fCode), (dI v1.2.fIndex)]), .dead, .dead, (.cells [(.v (.str v1322.fWord)), (.v (.str v1322.fTag))]), (AG.o ag1308 3 (List.map e44 v1307))]⟩ (by cases ag1308 <;> kernel_rfl) ?_
        cases h
        exact ihx1342 v1357 (w64 (v1338 + 1))  _ hsx1347 _ (by omega) hrx1343 hxx1344
      have G15g1350 : ∀ v1349 : Bool, f15_r2 m v1338 ((v1349 || ((v1348.fTag.toList == v1322.fTag.toList)))) = some sx1346 → Ops (X15 n) (opl (cR (cL (cL (cR (cR (cL (cL (cR (cL (cR (cR (cL (cL (cR (cR (cL (cL (cR (cL (cR (cR (cR C15))))))))))))))))))))))) 2 ⟨(dP e39 a0) :: q3 ((.v (.sl .nil (List.map e44 []))) :: (dP eI v1.1) :: q1 ((AG.d ag1308 5 (List.map e44 v1307)) :: q1 ((.ptr 3 0) :: (dB v1349) :: q1 ((.ptr 6 0) :: q13 ((dP e39 a0) :: (dI ((a0.length : Int))) :: (dI v1309) :: q3 ((AG.d ag1308 2 (List.map e44 v1307)) :: (dI ((v1307.length : Int))) :: (dI v1338) :: q1 ((.vptr [(.str v1348.fTag), (vI v1348.fLength), (vI v1348.fCount)]) :: (.v (.agg [(.str v1348.fTag), (vI v1348.fLength), (vI v1348.fCount)])) :: (dB v1349) :: (dB v1349) :: q40 (q40 (q15 []))))))))), [(.cells [(dI v1.2.fCode), (dI v1.2.fIndex)]), .dead, .dead, (.cells [(.v (.str v1322.fWord)), (.v (.str v1322.fTag))]), .dead, (AG.o ag1308 3 (List.map e44 v1307)), (.cells [(.v (.str v1348.fTag)), (dI v1348.fLength), (dI v1348.fCount)])]⟩ ((blkQ (X15 n) 3 [0, 4, 5, 7, 9, 10, 26, 27, 28, 32, 33, 34] 6 (seqQ (X15 n) (cR (cR (cR (cL (cL (cR (cL (cR (cR (cL (cL (cR (cR (cL (cL (cR (cL (cR (cR (cR C15)))))))))))))))))))) (lpQ (X15 n) [0, 4, 5, 7, 9, 10, 26, 27, 28, 32, 33, 34] 4 (cL (cL (cR (cL (cR (cR (cL (cL (cR (cR (cL (cL (cR (cL (cR (cR (cR C15))))))))))))))))) nx1341 (blkQ (X15 n) 2 [0, 4, 5, 7, 9, 10, 26, 27, 28] 4 (seqQ (X15 n) (cR (cR (cR (cL (cL (cR (cR (cL (cL (cR (cL (cR (cR (cR C15)))))))))))))) (blkQ (X15 n) 1 [0, 4, 5, 7, 26, 27, 28] 3 (seqQ (X15 n) (cR (cR (cR (cL (cL (cR (cL (cR (cR (cR C15)))))))))) (lpQ (X15 n) [0, 4, 5, 7, 26, 27, 28] 1 (cL (cL (cR (cL (cR (cR (cR C15))))))) nx1312 (blkQ (X15 n) 0 [4, 7] 1 (seqQ (X15 n) (cR (cR (cR (cR C15)))) (fnQ (X15 n).E.T (resOf Proofs.Tryd.prog 15) ((eL e44) o)))))))))))) .normal) := by
        intro v1349 h
        cases v1349
        · refine Ops.seg' 6 8 (by kernel_rfl) ?_
          refine Ops.st ⟨(dP e39 a0) :: q3 ((.v (.sl .nil (List.map e44 []))) :: (dP eI v1.1) :: q1 ((AG.d ag1308 5 (List.map e44 v1307)) :: q1 ((.ptr 3 0) :: (dB false) :: q1 ((.ptr 6 0) :: q13 ((dP e39 a0) :: (dI ((a0.length : Int))) :: (dI v1309) :: q3 ((AG.d ag1308 2 (List.map e44 v1307)) :: (dI ((v1307.length : Int))) :: (dI v1338) :: q1 ((.vptr [(.str v1348.fTag), (vI v1348.fLength), (vI v1348.fCount)]) :: (.v (.agg [(.str v1348.fTag), (vI v1348.fLength), (vI v1348.fCount)])) :: (dB false) :: (dB false) :: (.ptr 6 0) :: (.v (.str v1348.fTag)) :: (.ptr 3 1) :: (.v (.str v1322.fTag)) :: (dB ((v1348.fTag.toList == v1322.fTag.toList))) :: (dB ((v1348.fTag.toList == v1322.fTag.toList))) :: q40 (q40 (q9 []))))))))), [(.cells [(dI v1.2.fCode), (dI v1.2.fIndex)]), .dead, .dead, (.cells [(.v (.str v1322.fWord)), (.v (.str v1322.fTag))]), .dead, (AG.o ag1308 3 (List.map e44 v1307)), (.cells [(.v (.str v1348.fTag)), (dI v1348.fLength), (dI v1348.fCount)])]⟩ (by kernel_rfl) ?_
          exact J15j1358 _ _ _ _ _ _ _ h
        · refine Ops.seg' 6 8 (by kernel_rfl) ?_
          refine Ops.st ⟨(dP e39 a0) :: q3 ((.v (.sl .nil (List.map e44 []))) :: (dP eI v1.1) :: q1 ((AG.d ag1308 5 (List.map e44 v1307)) :: q1 ((.ptr 3 0) :: (dB true) :: q1 ((.ptr 6 0) :: q13 ((dP e39 a0) :: (dI ((a0.length : Int))) :: (dI v1309) :: q3 ((AG.d ag1308 2 (List.map e44 v1307)) :: (dI ((v1307.length : Int))) :: (dI v1338) :: q1 ((.vptr [(.str v1348.fTag), (vI v1348.fLength), (vI v1348.fCount)]) :: (.v (.agg [(.str v1348.fTag), (vI v1348.fLength), (vI v1348.fCount)])) :: (dB true) :: (dB true) :: u5 ((dB true) :: q40 (q40 (q9 [])))))))))), [(.cells [(dI v1.2.fCode), (dI v1.2.fIndex)]), .dead, .dead, (.cells [(.v (.str v1322.fWord)), (.v (.str v1322.fTag))]), .dead, (AG.o ag1308 3 (List.map e44 v1307)), (.cells [(.v (.str v1348.fTag)), (dI v1348.fLength), (dI v1348.fCount)])]⟩ (by kernel_rfl) ?_
          exact J15j1358 _ _ _ _ _ _ _ h
      exact Ops.st ⟨(dP e39 a0) :: q3 ((.v (.sl .nil (List.map e44 []))) :: (dP eI v1.1) :: q1 ((AG.d ag1308 5 (List.map e44 v1307)) :: q1 ((.ptr 3 0) :: (dB v1337) :: q1 ((.ptr 6 0) :: q13 ((dP e39 a0) :: (dI ((a0.length : Int))) :: (dI v1309) :: q3 ((AG.d ag1308 2 (List.map e44 v1307)) :: (dI ((v1307.length : Int))) :: (dI v1338) :: q1 ((.vptr [(.str v1348.fTag), (vI v1348.fLength), (vI v1348.fCount)]) :: (.v (.agg [(.str v1348.fTag), (vI v1348.fLength), (vI v1348.fCount)])) :: (dB v1337) :: (dB v1337) :: q40 (q40 (q15 []))))))))), [(.cells [(dI v1.2.fCode), (dI v1.2.fIndex)]), .dead, .dead, (.cells [(.v (.str v1322.fWord)), (.v (.str v1322.fTag))]), .dead, (AG.o ag1308 3 (List.map e44 v1307)), (.cells [(.v (.str v1348.fTag)), (dI v1348.fLength), (dI v1348.fCount)])]⟩ (by kernel_rfl) (G15g1350 v1337 h)
    · refine Wp.exit (id := 2) (by kernel_rfl) ?_
      refine sqQ.x ?_
      refine seqQ.x ?_
      cases h
      refine lpQ.x ?_
      refine blkQ.x ⟨(dP e39 a0) :: q3 ((.v (.sl .nil (List.map e44 []))) :: (dP eI v1.1) :: q1 ((AG.d ag1308 4 (List.map e44 v1307)) :: q1 ((.ptr 3 0) :: (dB v1337) :: q15 ((dP e39 a0) :: (dI ((a0.length : Int))) :: (dI v1309) :: q40 (q40 (q26 [])))))), [(.cells [(dI v1.2.fCode), (dI v1.2.fIndex)]), .dead, .dead, (.cells [(.v (.str v1322.fWord)), (.v (.str v1322.fTag))]), (AG.o ag1308 3 (List.map e44 v1307))]⟩ (by cases ag1308 <;> kernel_rfl) ?_
      exact hxx1344 (v1337, v1338)  hsx1347
theorem f15_hLx1970 (m : Nat) (a0 : (List S39)) (a1 : ByteArray) (o : (List S44)) (n : Nat) (hn : m + 4 ≤ n + 1) (v1 : ((List Int) × S27)) : ∀ (kx1311 : Nat) (v1307 : (List S44)) (v1309 : Int) (ag1308 : AG) (ox1310 : (List S44) ⊕ ((List S44) × Int)), iter (fun (y : (List S44) × Int) => f15_B15 m a0 v1 y.1 y.2) kx1311 (v1307, v1309) = some ox1310 → ∀ nx1312, kx1311 ≤ nx1312 → (∀ r, ox1310 = .inl r → ∀ σ, RetOk (X15 n) (resOf Proofs.Tryd.prog 15) ((eL e44) r) σ → (seqQ (X15 n) (cR (cR (cR (cR C15)))) (fnQ (X15 n).E.T (resOf Proofs.Tryd.prog 15) ((eL e44) o))) .ret σ) → (∀ (y : (List S44) × Int) (ag1308 : AG), ox1310 = .inr y → (seqQ (X15 n) (cR (cR (cR (cR C15)))) (fnQ (X15 n).E.T (resOf Proofs.Tryd.prog 15) ((eL e44) o))) .normal ⟨q4 ((.v (.sl .nil (List.map e44 []))) :: q2 ((AG.d ag1308 1 (List.map e44 y.1)) :: q40 (q40 (q40 (q7 []))))), [(.cells [(dI v1.2.fCode), (dI v1.2.fIndex)]), (AG.o ag1308 3 (List.map e44 y.1))]⟩) → Lp (X15 n) [0, 4, 5, 7, 26, 27, 28] 1 (cL (cL (cR (cL (cR (cR (cR C15))))))) nx1312 ⟨(dP e39 a0) :: q3 ((.v (.sl .nil (List.map e44 []))) :: (dP eI v1.1) :: q1 ((AG.d ag1308 1 (List.map e44 v1307)) :: q18 ((dP e39 a0) :: (dI ((a0.length : Int))) :: (dI v1309) :: q40 (q40 (q26 []))))), [(.cells [(dI v1.2.fCode), (dI v1.2.fIndex)]), (AG.o ag1308 3 (List.map e44 v1307))]⟩ (blkQ (X15 n) 0 [4, 7] 1 (seqQ (X15 n) (cR (cR (cR (cR C15)))) (fnQ (X15 n).E.T (resOf Proofs.Tryd.prog 15) ((eL e44) o)))) := by
  intro kx1311
  induction kx1311 with
  | zero => intro v1307 v1309 ag1308 ox1310 h; exact (iter_zero h).elim
  | succ kx1311 ihx1313 =>
    intro v1307 v1309 ag1308 ox1310 h nx1312 hnx1316 hrx1314 hxx1315
    obtain ⟨nx1312, rfl⟩ : ∃ q, nx1312 = q + 1 := ⟨nx1312 - 1, by omega⟩
    obtain ⟨sx1317, h, hsx1318⟩ := iter_some h
    have h : f15_B15 m a0 v1 v1307 v1309 = some sx1317 := h
    unfold f15_B15 at h
    refine Lp.succ ?_
    refine Wp.seq' (by kernel_rfl) ?_
    refine Wp.region (by kernel_rfl) ?_
    refine Ops.seg' 1 1 (by kernel_rfl) ?_
    refine Ops.done (by kernel_rfl) ?_
    refine seqQ.n ?_
    refine Wp.seq' (by kernel_rfl) ?_
    refine Wp.cnd h [0, 4, 5, 7, 26, 27, 28] 2 (by kernel_rfl) (fun h => ?_) (fun h => ?_)
    · refine Wp.skip (by kernel_rfl) ?_
      refine sqQ.n ⟨(dP e39 a0) :: q3 ((.v (.sl .nil (List.map e44 []))) :: (dP eI v1.1) :: q1 ((AG.d ag1308 2 (List.map e44 v1307)) :: q18 ((dP e39 a0) :: (dI ((a0.length : Int))) :: (dI v1309) :: q40 (q40 (q26 []))))), [(.cells [(dI v1.2.fCode), (dI v1.2.fIndex)]), .dead, (AG.o ag1308 3 (List.map e44 v1307))]⟩ (by cases ag1308 <;> kernel_rfl) ?_
      refine seqQ.n ?_
      refine Wp.seq' (by kernel_rfl) ?_
      have J15j1321 : ∀ (v1319 : (List S44)) (ag1320 : AG), f15_j1 m v1309 v1319 = some sx1317 → (seqQ (X15 n) (cR (cR (cR (cL (cL (cR (cL (cR (cR (cR C15)))))))))) (lpQ (X15 n) [0, 4, 5, 7, 26, 27, 28] 1 (cL (cL (cR (cL (cR (cR (cR C15))))))) nx1312 (blkQ (X15 n) 0 [4, 7] 1 (seqQ (X15 n) (cR (cR (cR (cR C15)))) (fnQ (X15 n).E.T (resOf Proofs.Tryd.prog 15) ((eL e44) o)))))) .normal ⟨(dP e39 a0) :: q3 ((.v (.sl .nil (List.map e44 []))) :: (dP eI v1.1) :: q1 ((AG.d ag1320 3 (List.map e44 v1319)) :: q18 ((dP e39 a0) :: (dI ((a0.length : Int))) :: (dI v1309) :: q40 (q40 (q26 []))))), [(.cells [(dI v1.2.fCode), (dI v1.2.fIndex)]), .dead, .dead, (AG.o ag1320 3 (List.map e44 v1319))]⟩ := by
        intro v1319 ag1320 h
        unfold f15_j1 at h
        refine seqQ.n ?_
        refine Wp.region (by kernel_rfl) ?_
        refine Ops.seg' 2 2 (by kernel_rfl) ?_
        refine Ops.done (by kernel_rfl) ?_
        refine lpQ.n ⟨(dP e39 a0) :: q3 ((.v (.sl .nil (List.map e44 []))) :: (dP eI v1.1) :: q1 ((AG.d ag1320 1 (List.map e44 v1319)) :: q18 ((dP e39 a0) :: (dI ((a0.length : Int))) :: (dI (w64 (v1309 + 1))) :: q40 (q40 (q26 []))))), [(.cells [(dI v1.2.fCode), (dI v1.2.fIndex)]), (AG.o ag1320 3 (List.map e44 v1319))]⟩ (by cases ag1320 <;> kernel_rfl) ?_
        cases h
        exact ihx1313 v1319 (w64 (v1309 + 1)) _ _ hsx1318 _ (by omega) hrx1314 hxx1315
      refine Wp.block' 1 [0, 4, 5, 7, 26, 27, 28] 3 (by kernel_rfl) ?_
      refine Wp.seq' (by kernel_rfl) ?_
      refine Wp.region (by kernel_rfl) ?_
      obtain ⟨v1322, ev1322, h⟩ := bnd_some h
      refine Ops.one' 1 (fun h0 e0 => (ix_r (T := T) h0 22 40 2 .plain e39 a0 v1309 v1322 ev1322 (by kernel_rfl) (by kernel_rfl) (fun _ => rfl))) (by kernel_rfl) (by kernel_rfl) ?_
      refine Ops.seg' 3 4 (by kernel_rfl) ?_
      refine Ops.done (by kernel_rfl) ?_
      refine seqQ.n ?_
      refine Wp.seq' (by kernel_rfl) ?_
      refine Wp.region (by kernel_rfl) ?_
      refine Ops.seg' 1 1 (by kernel_rfl) ?_
      refine Ops.done (by kernel_rfl) ?_
      refine seqQ.n ?_
      refine Wp.seq' (by kernel_rfl) ?_
      refine Wp.seq' (by kernel_rfl) ?_
      refine Wp.region (by kernel_rfl) ?_
      refine Ops.seg' 1 1 (by kernel_rfl) ?_
      refine Ops.one' 2 (fun h0 e0 => (len_g (T := T) h0 32 45 2 ag1308 e44 v1307 (by kernel_rfl))) (by kernel_rfl) (by kernel_rfl) ?_
      refine Ops.seg' 1 3 (by kernel_rfl) ?_
      refine Ops.done (by kernel_rfl) ?_
      refine seqQ.n ?_
      refine Wp.block' 2 [0, 4, 5, 7, 9, 10, 26, 27, 28] 4 (by kernel_rfl) ?_
      have hLx1359 := f15_hLx1359 m a0 a1 o n hn v1307 v1322 nx1312 v1 ag1308 v1309
      refine Wp.loop' [0, 4, 5, 7, 9, 10, 26, 27, 28, 32, 33, 34] 4 (by kernel_rfl) ⟨(dP e39 a0) :: q3 ((.v (.sl .nil (List.map e44 []))) :: (dP eI v1.1) :: q1 ((AG.d ag1308 4 (List.map e44 v1307)) :: q1 ((.ptr 3 0) :: (dB false) :: q15 ((dP e39 a0) :: (dI ((a0.length : Int))) :: (dI v1309) :: q3 ((AG.d ag1308 2 (List.map e44 v1307)) :: (dI ((v1307.length : Int))) :: (dI 0) :: q40 (q40 (q20 []))))))), [(.cells [(dI v1.2.fCode), (dI v1.2.fIndex)]), .dead, .dead, (.cells [(.v (.str v1322.fWord)), (.v (.str v1322.fTag))]), (AG.o ag1308 3 (List.map e44 v1307))]⟩ (by cases ag1308 <;> kernel_rfl) ?_
      rcases brk_some h with ⟨r1361, er1361, h⟩ | ⟨y1360, ey1360, h⟩
      · refine hLx1359 _ false 0  _ er1361 n (by omega) (fun r er σ hσ => ?_) (fun y  ey => by cases ey)
        cases er
        refine seqQ.r ?_
        refine blkQ.r ?_
        refine seqQ.r ?_
        refine lpQ.r ?_
        cases h
        refine blkQ.r ?_
        exact hrx1314 _ hsx1318 _ (RetOk.forget [0, 4, 5, 7, 26, 27, 28] (by kernel_rfl) hσ)
      · refine hLx1359 _ false 0  _ ey1360 n (by omega) (fun r er => by cases er) (fun y  ey => ?_)
        cases ey
        refine seqQ.n ?_
        refine Wp.seq' (by kernel_rfl) ?_
        refine Wp.seq' (by kernel_rfl) ?_
        refine Wp.region (by kernel_rfl) ?_
        refine Ops.seg' 1 1 (by kernel_rfl) ?_
        refine Ops.done (by kernel_rfl) ?_
        refine seqQ.n ?_
        refine Wp.cnd h [0, 4, 5, 7, 9, 26, 27, 28] 5 (by kernel_rfl) (fun h => ?_) (fun h => ?_)
        · refine Wp.exit (id := 1) (by kernel_rfl) ?_
          refine sqQ.x ?_
          refine seqQ.x ?_
          refine blkQ.x ⟨(dP e39 a0) :: q3 ((.v (.sl .nil (List.map e44 []))) :: (dP eI v1.1) :: q1 ((AG.d ag1308 3 (List.map e44 v1307)) :: q18 ((dP e39 a0) :: (dI ((a0.length : Int))) :: (dI v1309) :: q40 (q40 (q26 []))))), [(.cells [(dI v1.2.fCode), (dI v1.2.fIndex)]), .dead, .dead, (AG.o ag1308 3 (List.map e44 v1307))]⟩ (by cases ag1308 <;> kernel_rfl) ?_
          exact J15j1321 v1307 _ h
        · refine Wp.skip (by kernel_rfl) ?_
          refine sqQ.n ⟨(dP e39 a0) :: q3 ((.v (.sl .nil (List.map e44 []))) :: (dP eI v1.1) :: q1 ((AG.d ag1308 5 (List.map e44 v1307)) :: q1 ((.ptr 3 0) :: q16 ((dP e39 a0) :: (dI ((a0.length : Int))) :: (dI v1309) :: q40 (q40 (q26 [])))))), [(.cells [(dI v1.2.fCode), (dI v1.2.fIndex)]), .dead, .dead, (.cells [(.v (.str v1322.fWord)), (.v (.str v1322.fTag))]), .dead, (AG.o ag1308 3 (List.map e44 v1307))]⟩ (by cases ag1308 <;> kernel_rfl) ?_
          refine seqQ.n ?_
          refine Wp.seq' (by kernel_rfl) ?_
          refine Wp.region (by kernel_rfl) ?_
          refine Ops.seg' 5 5 (by kernel_rfl) ?_
          refine Ops.done (by kernel_rfl) ?_
          refine seqQ.n ?_
          refine Wp.seq' (by kernel_rfl) ?_
          refine Wp.seq' (by kernel_rfl) ?_
          refine Wp.region (by kernel_rfl) ?_
          refine Ops.seg' 1 1 (by kernel_rfl) ?_
          refine Ops.done (by kernel_rfl) ?_
          refine seqQ.n ?_
          refine Wp.block' 4 [0, 4, 5, 7, 13, 26, 27, 28] 7 (by kernel_rfl) ?_
          have hLx1909 := f15_hLx1909 m a0 a1 o n hn v1 v1322 nx1312 ag1308 v1307 v1309
          refine Wp.loop' [0, 4, 5, 7, 9, 13, 14, 26, 27, 28] 7 (by kernel_rfl) ⟨(dP e39 a0) :: q3 ((.v (.sl .nil (List.map e44 []))) :: (dP eI v1.1) :: q1 ((AG.d ag1308 7 (List.map e44 v1307)) :: q1 ((.ptr 3 0) :: q3 ((.ptr 6 0) :: (dI 0) :: q11 ((dP e39 a0) :: (dI ((a0.length : Int))) :: (dI v1309) :: q40 (q40 (q26 []))))))), [(.cells [(dI v1.2.fCode), (dI v1.2.fIndex)]), .dead, .dead, (.cells [(.v (.str v1322.fWord)), (.v (.str v1322.fTag))]), .dead, .dead, (.cells [(.v (.str v1322.fTag)), (dI 0), (dI 0)]), (AG.o ag1308 3 (List.map e44 v1307))]⟩ (by cases ag1308 <;> kernel_rfl) ?_
          rcases brk_some h with ⟨r1911, er1911, h⟩ | ⟨y1910, ey1910, h⟩
          · refine hLx1909 _ 0 0 0  _ er1911 n (by omega) (fun r er σ hσ => ?_) (fun y  ey => by cases ey)
            cases er
            refine seqQ.r ?_
            refine blkQ.r ?_
            refine seqQ.r ?_
            refine lpQ.r ?_
            cases h
            refine blkQ.r ?_
            exact hrx1314 _ hsx1318 _ (RetOk.forget [0, 4, 5, 7, 26, 27, 28] (by kernel_rfl) hσ)
          · refine hLx1909 _ 0 0 0  _ ey1910 n (by omega) (fun r er => by cases er) (fun y  ey => ?_)
            cases ey
            refine seqQ.n ?_
            refine Wp.seq' (by kernel_rfl) ?_
            refine Wp.region (by kernel_rfl) ?_
            refine Ops.seg' 1 1 (by kernel_rfl) ?_
            refine Ops.done (by kernel_rfl) ?_
            refine seqQ.n ?_
            refine Wp.seq' (by kernel_rfl) ?_
            refine Wp.block' 8 [0, 4, 5, 7, 13, 20, 26, 27, 28] 8 (by kernel_rfl) ?_
            have hLx1962 := f15_hLx1962 m a0 a1 o n hn v1307 v1322 y1910 nx1312 v1 ag1308 v1309
            refine Wp.loop' [0, 4, 5, 7, 13, 20, 26, 27, 28] 8 (by kernel_rfl) ⟨(dP e39 a0) :: q3 ((.v (.sl .nil (List.map e44 []))) :: (dP eI v1.1) :: q1 ((AG.d ag1308 8 (List.map e44 v1307)) :: q5 ((.ptr 6 0) :: q6 ((dI 0) :: q5 ((dP e39 a0) :: (dI ((a0.length : Int))) :: (dI v1309) :: q40 (q40 (q26 []))))))), [(.cells [(dI v1.2.fCode), (dI v1.2.fIndex)]), .dead, .dead, (.cells [(.v (.str v1322.fWord)), (.v (.str v1322.fTag))]), .dead, .dead, (.cells [(.v (.str v1322.fTag)), (dI y1910.2.1), (dI y1910.2.2)]), .dead, (AG.o ag1308 3 (List.map e44 v1307))]⟩ (by cases ag1308 <;> kernel_rfl) ?_
            rcases brk_some h with ⟨r1964, er1964, h⟩ | ⟨y1963, ey1963, h⟩
            · refine hLx1962 _ 0  _ er1964 n (by omega) (fun r er σ hσ => ?_) (fun y  ey => by cases ey)
              cases er
              refine seqQ.r ?_
              refine blkQ.r ?_
              refine seqQ.r ?_
              refine lpQ.r ?_
              cases h
              refine blkQ.r ?_
              exact hrx1314 _ hsx1318 _ (RetOk.forget [0, 4, 5, 7, 26, 27, 28] (by kernel_rfl) hσ)
            · refine hLx1962 _ 0  _ ey1963 n (by omega) (fun r er => by cases er) (fun y  ey => ?_)
              cases ey
              refine seqQ.n ?_
              refine Wp.region (by kernel_rfl) ?_
              refine Ops.seg' 3 3 (by kernel_rfl) ?_
              obtain ⟨v1965, ev1965, h⟩ := bnd_some h
              refine Ops.one' 4 (fun h0 e0 => (sub_x (T := T) h0 32 45 3 (AG.d ag1308 8 (List.map e44 v1307)) e44 v1307 v1965 none (some y1963) (AG.hd _ _ _) ev1965 (by kernel_rfl) (by kernel_rfl) (fun _ => rfl))) (by kernel_rfl) (by kernel_rfl) ?_
              obtain ⟨v1966, ev1966, h⟩ := bnd_some h
              refine Ops.one' 5 (fun h0 e0 => (app_n (T := T) (g := .nonfull) h0 32 45 3 ti45 (sfl (dfl (AG.d ag1308 8 (List.map e44 v1307))) v1307.length (some y1963)) e44 v1965 v1966 ev1966 (by kernel_rfl) (by kernel_rfl) (by kernel_rfl) (by kernel_rfl) (fun _ => rfl))) (by kernel_rfl) (by kernel_rfl) ?_
              refine Ops.seg' 2 7 (by kernel_rfl) ?_
              obtain ⟨v1967, ev1967, h⟩ := bnd_some h
              refine Ops.one' 8 (fun h0 e0 => (app_r (T := T) (g := .nonfull) h0 32 45 9 3 ti45 .nonfull e44 v1966 ([(⟨v1322.fTag, y1910.2.1, y1910.2.2⟩ : S44)]) v1967 ev1967 (by kernel_rfl) (by kernel_rfl) (by kernel_rfl) (by kernel_rfl) (fun _ => rfl) (hq_of e0 (by kernel_rfl)))) (by kernel_rfl) (by kernel_rfl) ?_
              refine Ops.seg' 2 10 (by kernel_rfl) ?_
              obtain ⟨v1968, ev1968, h⟩ := bnd_some h
              refine Ops.one' 11 (fun h0 e0 => (sub_x (T := T) h0 32 45 3 (AG.d ag1308 8 (List.map e44 v1307)) e44 v1307 v1968 (some y1963) none (AG.hd _ _ _) ev1968 (by kernel_rfl) (by kernel_rfl) (fun _ => rfl))) (by kernel_rfl) (by kernel_rfl) ?_
              obtain ⟨v1969, ev1969, h⟩ := bnd_some h
              refine Ops.one' 12 (fun h0 e0 => (app_r (T := T) (g := .nonfull) h0 32 45 10 3 ti45 (sfl (dfl (AG.d ag1308 8 (List.map e44 v1307))) v1307.length none) e44 v1967 v1968 v1969 ev1969 (by kernel_rfl) (by kernel_rfl) (by kernel_rfl) (by kernel_rfl) (fun _ => rfl) (hq_of e0 (by kernel_rfl)))) (by kernel_rfl) (by kernel_rfl) ?_
              refine Ops.seg' 1 13 (by kernel_rfl) ?_
              refine Ops.done (by kernel_rfl) ?_
              refine blkQ.n ⟨(dP e39 a0) :: q3 ((.v (.sl .nil (List.map e44 []))) :: (dP eI v1.1) :: q1 ((AG.d ((AG.of .nonfull (List.map e44 v1969))) 3 (List.map e44 v1969)) :: q18 ((dP e39 a0) :: (dI ((a0.length : Int))) :: (dI v1309) :: q40 (q40 (q26 []))))), [(.cells [(dI v1.2.fCode), (dI v1.2.fIndex)]), .dead, .dead, (AG.o ((AG.of .nonfull (List.map e44 v1969))) 3 (List.map e44 v1969))]⟩ (by generalize v1969 = z0; cases z0 <;> kernel_rfl) ?_
              exact J15j1321 v1969 _ h
    · refine Wp.exit (id := 0) (by kernel_rfl) ?_
      refine sqQ.x ?_
      refine seqQ.x ?_
      cases h
      refine lpQ.x ?_
      refine blkQ.x ⟨q4 ((.v (.sl .nil (List.map e44 []))) :: q2 ((AG.d ag1308 1 (List.map e44 v1307)) :: q40 (q40 (q40 (q7 []))))), [(.cells [(dI v1.2.fCode), (dI v1.2.fIndex)]), (AG.o ag1308 3 (List.map e44 v1307))]⟩ (by cases ag1308 <;> kernel_rfl) ?_
      exact hxx1315 (v1307, v1309) _ hsx1318
theorem ok15 (m : Nat) (a0 : (List S39)) (a1 : ByteArray) (o : (List S44)) (h : f15 m a0 a1 = some o) (n : Nat) (hn : m + 4 ≤ n) : Fn Proofs.Tryd.prog EG n 15 [.v ((eL e39) a0), .v (eS a1)] ((eL e44) o) := by
  obtain ⟨n, rfl⟩ : ∃ q, n = q + 1 := ⟨n - 1, by omega⟩
  unfold f15 at h
  refine Fn.of (by kernel_rfl) (by kernel_rfl) (by kernel_rfl) ⟨(dP e39 a0) :: (.v (.str a1)) :: u40 (u40 (u40 (u13 []))), []⟩ (by kernel_rfl) ?_
  refine Wp.seq' (by kernel_rfl) ?_
  refine Wp.region (by kernel_rfl) ?_
  refine Ops.seg' 1 1 (by kernel_rfl) ?_
  refine Ops.done (by kernel_rfl) ?_
  refine seqQ.n ?_
  refine Wp.seq' (by kernel_rfl) ?_
  refine Wp.region (by kernel_rfl) ?_
  refine Ops.seg' 1 1 (by kernel_rfl) ?_
  obtain ⟨v1, ev1, h⟩ := bnd_some h
  refine Ops.one' 2 (fun h0 e0 => (call_ok (E' := EG) (h := h0) (by kernel_rfl) (Args.v (.str a1) (eS a1) (by kernel_rfl) Args.nil) (ok16 m a1 v1 ev1 n (by omega)))) (by kernel_rfl) (by kernel_rfl) ?_
  refine Ops.seg' 6 8 (by kernel_rfl) ?_
  refine Ops.done (by kernel_rfl) ?_
  refine seqQ.n ?_
  refine Wp.seq' (by kernel_rfl) ?_
  refine Wp.region (by kernel_rfl) ?_
  refine Ops.seg' 1 1 (by kernel_rfl) ?_
  refine Ops.done (by kernel_rfl) ?_
  refine seqQ.n ?_
  refine Wp.seq' (by kernel_rfl) ?_
  refine Wp.seq' (by kernel_rfl) ?_
  refine Wp.region (by kernel_rfl) ?_
  refine Ops.seg' 1 1 (by kernel_rfl) ?_
  refine Ops.one' 2 (fun h0 e0 => (len_r (T := T) h0 22 40 .plain e39 a0 (by kernel_rfl))) (by kernel_rfl) (by kernel_rfl) ?_
  refine Ops.seg' 1 3 (by kernel_rfl) ?_
  refine Ops.done (by kernel_rfl) ?_
  refine seqQ.n ?_
  refine Wp.block' 0 [4, 7] 1 (by kernel_rfl) ?_
  have hLx1970 := f15_hLx1970 m a0 a1 o n hn v1
  refine Wp.loop' [0, 4, 5, 7, 26, 27, 28] 1 (by kernel_rfl) ⟨(dP e39 a0) :: q3 ((.v (.sl .nil (List.map e44 []))) :: (dP eI v1.1) :: q1 ((AG.d ((AG.of .nil (List.map e44 []))) 1 (List.map e44 [])) :: q18 ((dP e39 a0) :: (dI ((a0.length : Int))) :: (dI 0) :: q40 (q40 (q26 []))))), [(.cells [(dI v1.2.fCode), (dI v1.2.fIndex)]), (AG.o ((AG.of .nil (List.map e44 []))) 3 (List.map e44 []))]⟩ (by kernel_rfl) ?_
  rcases brk_some h with ⟨r1972, er1972, h⟩ | ⟨y1971, ey1971, h⟩
  · refine hLx1970 _ [] 0 _ _ er1972 n (by omega) (fun r er σ hσ => ?_) (fun y ag1308 ey => by cases ey)
    cases er
    refine seqQ.r ?_
    exact fnQ.r' (X15 n) (fun z => ((eL e44) z)) h hσ
  · refine hLx1970 _ [] 0 _ _ ey1971 n (by omega) (fun r er => by cases er) (fun y ag1308 ey => ?_)
    cases ey
    refine seqQ.n ?_
    refine Wp.seq' (by kernel_rfl) ?_
    refine Wp.region (by kernel_rfl) ?_
    refine Ops.seg' 2 2 (by kernel_rfl) ?_
    refine Ops.done (by kernel_rfl) ?_
    refine seqQ.n ?_
    refine Wp.ret (by kernel_rfl) ?_
    exact fnQ.r' (X15 n) (fun z => ((eL e44) z)) h (RetOk.mk' (AG.d ag1308 1 (List.map e44 y1971.1)) (by kernel_rfl) (AG.frz _ _ _ _ _))

end Go.Abs
