import Derived.Test.YtbeegandhppniaaWEnv
namespace Go.Abs
set_option linter.unusedVariables false
set_option linter.unusedSimpArgs false
set_option linter.unnecessarySimpa false
set_option maxRecDepth 100000
set_option maxHeartbeats 4000000
def f32_r1 (m : Nat) (a0 : S45) (v28 : Int) (v48 : Bool) : Option (Stp Int (Int)) :=
 cnd v48
 (some (.ret (w64 (v28 - (a0.fR.fLeft.length : Int)))))
 (bnd (idx a0.fBack v28) fun v50 =>
 some (.nxt v50))
def f32_B2 (m : Nat) (a0 : S45) (a1 : S75) (v28 : Int) : Option (Stp Int (Int)) :=
 cnd (decide (v28 > (a0.fR.fLeft.length : Int)))
 (f32_r1 m a0 v28 ((decide (w64 (v28 - (a0.fR.fLeft.length : Int)) ≤ a1.fSince)) && (decide (v28 < (a0.fWhole.length : Int)))))
 (some (.brk v28))
def f32 (m : Nat) (a0 : S45) (a1 : S75) : Option Int :=
 brk (iter (fun (y : Int) => f32_B2 m a0 a1 y) m a1.fFit) some fun y52 =>
 some 0
noncomputable abbrev X32 (n : Nat) : Cx := cxOf Proofs.Try.prog E 32 n
noncomputable def C32 : Code := bodyOf Proofs.Try.prog 32
abbrev b32_0 (w0 : S75) : AObj := .cells [(dI w0.fFit), (dI w0.fSince)]
theorem ok32 (m : Nat) (a0 : S45) (a1 : S75) (o : Int) (h : f32 m a0 a1 = some o) (n : Nat) (hn : m + 1 ≤ n) : Fn Proofs.Try.prog E n 32 [.vptr [(vP eI a0.fR.fFrom), (vP eI a0.fR.fTo), (vP eI a0.fR.fLeft), (vP eI a0.fR.fRight), (vP eI a0.fWhole), (vP eI a0.fBack)], .v (e75 a1)] (eI o) := by
 obtain ⟨n, rfl⟩ : ∃ q, n = q + 1 := ⟨n - 1, by omega⟩
 unfold f32 at h
 refine Fn.of (by kernel_rfl) (by kernel_rfl) (by kernel_rfl) ⟨(.vptr [(vP eI a0.fR.fFrom), (vP eI a0.fR.fTo), (vP eI a0.fR.fLeft), (vP eI a0.fR.fRight), (vP eI a0.fWhole), (vP eI a0.fBack)]) :: (.v (.agg [(vI a1.fFit), (vI a1.fSince)])) :: u40 (u4 []), []⟩ (by kernel_rfl) ?_
 refine Wp.sq ?_
 refine Wp.rg ?_
 refine Ops.sg 2 2 ?_
 refine Ops.dn ?_
 refine seqQ.n ?_
 refine Wp.sq ?_
 refine Wp.sq ?_
 refine Wp.rg ?_
 refine Ops.sg 3 3 ?_
 refine Ops.dn ?_
 refine seqQ.n ?_
 refine Wp.block' 0 [4] 1 (by kernel_rfl) ?_
 have hLx51 : ∀ (kx30 : Nat) (v28 : Int)  (ox29 : Int ⊕ (Int)), iter (fun (y : Int) => f32_B2 m a0 a1 y) kx30 v28 = some ox29 → ∀ nx31, kx30 ≤ nx31 → (∀ r, ox29 = .inl r → ∀ σ, RetOk (X32 n) (resOf Proofs.Try.prog 32) (eI r) σ → (seqQ (X32 n) (cR (cR C32)) (fnQ (X32 n).E.T (resOf Proofs.Try.prog 32) (eI o))) .ret σ) → (∀ (y : Int) , ox29 = .inr y → (seqQ (X32 n) (cR (cR C32)) (fnQ (X32 n).E.T (resOf Proofs.Try.prog 32) (eI o))) .normal ⟨(.vptr [(vP eI a0.fR.fFrom), (vP eI a0.fR.fTo), (vP eI a0.fR.fLeft), (vP eI a0.fR.fRight), (vP eI a0.fWhole), (vP eI a0.fBack)]) :: q2 ((.ptr 0 0) :: (dI 0) :: (dI y) :: q40 []), [(b32_0 a1)]⟩) → Lp (X32 n) [0, 3, 4, 5] 1 (cL (cL (cR (cL (cR C32))))) nx31 ⟨(.vptr [(vP eI a0.fR.fFrom), (vP eI a0.fR.fTo), (vP eI a0.fR.fLeft), (vP eI a0.fR.fRight), (vP eI a0.fWhole), (vP eI a0.fBack)]) :: q2 ((.ptr 0 0) :: (dI 0) :: (dI v28) :: q40 []), [(b32_0 a1)]⟩ (blkQ (X32 n) 0 [4] 1 (seqQ (X32 n) (cR (cR C32)) (fnQ (X32 n).E.T (resOf Proofs.Try.prog 32) (eI o)))) := by
  intro kx30
  induction kx30 with
  | zero => intro v28  ox29 h; exact (iter_zero h).elim
  | succ kx30 ihx32 =>
   intro v28  ox29 h nx31 hnx35 hrx33 hxx34
   obtain ⟨nx31, rfl⟩ : ∃ q, nx31 = q + 1 := ⟨nx31 - 1, by omega⟩
   obtain ⟨sx36, h, hsx37⟩ := iter_some h
   have h : f32_B2 m a0 a1 v28 = some sx36 := h
   unfold f32_B2 at h
   refine Lp.succ ?_
   refine Wp.sq ?_
   refine Wp.sq ?_
   refine Wp.rg ?_
   refine Ops.sg 6 6 ?_
   refine Ops.on 7 (fun h0 e0 => (len_r (T := T) h0 22 3 .plain eI a0.fR.fLeft (by kernel_rfl))) ?_
   refine Ops.sg 1 8 ?_
   refine Ops.dn ?_
   refine seqQ.n ?_
   refine Wp.cnd h [0, 3, 4, 5] 1 (by kernel_rfl) (fun h => ?_) (fun h => ?_)
   ·refine Wp.sk ?_
    refine sqQ.n' ?_
    refine seqQ.n ?_
    refine Wp.sq ?_
    refine Wp.block' 1 [0, 3, 4, 5] 1 (by kernel_rfl) ?_
    refine Wp.sq ?_
    refine Wp.rg ?_
    refine Ops.sg 6 6 ?_
    refine Ops.on 7 (fun h0 e0 => (len_r (T := T) h0 22 3 .plain eI a0.fR.fLeft (by kernel_rfl))) ?_
    refine Ops.sg 2 9 ?_
    refine Ops.dn ?_
    refine seqQ.n ?_
    refine Wp.sq ?_
    refine Wp.rg ?_
    refine Ops.sg 5 5 ?_
    refine Ops.hv (fun KQ => ∀ (d40 d41 d42 d43 d44 d45 d46 : D) (v47 : Bool) (v48 : Bool), f32_r1 m a0 v28 v48 = some sx36 → KQ 13 ⟨(.vptr [(vP eI a0.fR.fFrom), (vP eI a0.fR.fTo), (vP eI a0.fR.fLeft), (vP eI a0.fR.fRight), (vP eI a0.fWhole), (vP eI a0.fBack)]) :: q2 ((.ptr 0 0) :: (dI 0) :: (dI v28) :: (dI (w64 (v28 - (a0.fR.fLeft.length : Int)))) :: q2 ((dI v28) :: (.vptr [(vP eI a0.fR.fFrom), (vP eI a0.fR.fTo), (vP eI a0.fR.fLeft), (vP eI a0.fR.fRight), (vP eI a0.fWhole), (vP eI a0.fBack)]) :: (.vptr [(vP eI a0.fR.fFrom), (vP eI a0.fR.fTo), (vP eI a0.fR.fLeft), (vP eI a0.fR.fRight), (vP eI a0.fWhole), (vP eI a0.fBack)]) :: (.vptr [(vP eI a0.fR.fFrom), (vP eI a0.fR.fTo), (vP eI a0.fR.fLeft), (vP eI a0.fR.fRight), (vP eI a0.fWhole), (vP eI a0.fBack)]) :: (.vptr [(vP eI a0.fR.fLeft), (vP eI a0.fR.fRight), (vP eI a0.fWhole), (vP eI a0.fBack)]) :: (dP eI a0.fR.fLeft) :: (dI (a0.fR.fLeft.length : Int)) :: (dB (decide (v28 > (a0.fR.fLeft.length : Int)))) :: q7 ((dI v28) :: (.vptr [(vP eI a0.fR.fFrom), (vP eI a0.fR.fTo), (vP eI a0.fR.fLeft), (vP eI a0.fR.fRight), (vP eI a0.fWhole), (vP eI a0.fBack)]) :: (.vptr [(vP eI a0.fR.fFrom), (vP eI a0.fR.fTo), (vP eI a0.fR.fLeft), (vP eI a0.fR.fRight), (vP eI a0.fWhole), (vP eI a0.fBack)]) :: (.vptr [(vP eI a0.fR.fFrom), (vP eI a0.fR.fTo), (vP eI a0.fR.fLeft), (vP eI a0.fR.fRight), (vP eI a0.fWhole), (vP eI a0.fBack)]) :: (.vptr [(vP eI a0.fR.fLeft), (vP eI a0.fR.fRight), (vP eI a0.fWhole), (vP eI a0.fBack)]) :: (dP eI a0.fR.fLeft) :: (dI (a0.fR.fLeft.length : Int)) :: (dI (w64 (v28 - (a0.fR.fLeft.length : Int)))) :: (dI (w64 (v28 - (a0.fR.fLeft.length : Int)))) :: (.ptr 0 1) :: (dI a1.fSince) :: (dB v47) :: (dB v47) :: d40 :: d41 :: d42 :: d43 :: d44 :: d45 :: d46 :: (dB v48) :: q1 []))), [(b32_0 a1)]⟩) ?_ fun J32j49 => ?_
    ·intro d40 d41 d42 d43 d44 d45 d46 v47 v48 h
     unfold f32_r1 at h
     refine Ops.dn ?_
     refine seqQ.n ?_
     refine Wp.cnd h [0, 3, 4, 5] 1 (by kernel_rfl) (fun h => ?_) (fun h => ?_)
     ·refine Wp.sq ?_
      refine Wp.rg ?_
      refine Ops.sg 2 2 ?_
      refine Ops.dn ?_
      refine seqQ.n ?_
      refine Wp.ret (by kernel_rfl) ?_
      refine sqQ.r ?_
      refine blkQ.r ?_
      refine seqQ.r ?_
      cases h
      refine lpQ.r ?_
      refine blkQ.r ?_
      exact hrx33 _ hsx37 _ (RetOk.forget [0, 3, 4, 5] (by kernel_rfl) (RetOk.mk' (dI (w64 (v28 - (a0.fR.fLeft.length : Int)))) (by kernel_rfl) (by kernel_rfl)))
     ·refine Wp.sk ?_
      refine sqQ.n' ?_
      refine blkQ.n' ?_
      refine seqQ.n ?_
      refine Wp.rg ?_
      refine Ops.sg 5 5 ?_
      obtain ⟨v50, ev50, h⟩ := bnd_some h
      refine Ops.on 6 (fun h0 e0 => (ix_r (T := T) h0 22 3 1 .plain eI a0.fBack v28 v50 ev50 (by kernel_rfl) (by kernel_rfl) (fun _ => rfl))) ?_
      refine Ops.sg 2 8 ?_
      refine Ops.dn ?_
      refine lpQ.n ⟨(.vptr [(vP eI a0.fR.fFrom), (vP eI a0.fR.fTo), (vP eI a0.fR.fLeft), (vP eI a0.fR.fRight), (vP eI a0.fWhole), (vP eI a0.fBack)]) :: q2 ((.ptr 0 0) :: (dI 0) :: (dI v50) :: q40 []), [(b32_0 a1)]⟩ (by kernel_rfl) ?_
      cases h
      exact ihx32 v50  _ hsx37 _ (by omega) hrx33 hxx34
    refine Ops.hv (fun KQ => ∀ v38 : Bool, f32_r1 m a0 v28 (v38 && (decide (v28 < (a0.fWhole.length : Int)))) = some sx36 → KQ 5 ⟨(.vptr [(vP eI a0.fR.fFrom), (vP eI a0.fR.fTo), (vP eI a0.fR.fLeft), (vP eI a0.fR.fRight), (vP eI a0.fWhole), (vP eI a0.fBack)]) :: q2 ((.ptr 0 0) :: (dI 0) :: (dI v28) :: (dI (w64 (v28 - (a0.fR.fLeft.length : Int)))) :: q2 ((dI v28) :: (.vptr [(vP eI a0.fR.fFrom), (vP eI a0.fR.fTo), (vP eI a0.fR.fLeft), (vP eI a0.fR.fRight), (vP eI a0.fWhole), (vP eI a0.fBack)]) :: (.vptr [(vP eI a0.fR.fFrom), (vP eI a0.fR.fTo), (vP eI a0.fR.fLeft), (vP eI a0.fR.fRight), (vP eI a0.fWhole), (vP eI a0.fBack)]) :: (.vptr [(vP eI a0.fR.fFrom), (vP eI a0.fR.fTo), (vP eI a0.fR.fLeft), (vP eI a0.fR.fRight), (vP eI a0.fWhole), (vP eI a0.fBack)]) :: (.vptr [(vP eI a0.fR.fLeft), (vP eI a0.fR.fRight), (vP eI a0.fWhole), (vP eI a0.fBack)]) :: (dP eI a0.fR.fLeft) :: (dI (a0.fR.fLeft.length : Int)) :: (dB (decide (v28 > (a0.fR.fLeft.length : Int)))) :: q7 ((dI v28) :: (.vptr [(vP eI a0.fR.fFrom), (vP eI a0.fR.fTo), (vP eI a0.fR.fLeft), (vP eI a0.fR.fRight), (vP eI a0.fWhole), (vP eI a0.fBack)]) :: (.vptr [(vP eI a0.fR.fFrom), (vP eI a0.fR.fTo), (vP eI a0.fR.fLeft), (vP eI a0.fR.fRight), (vP eI a0.fWhole), (vP eI a0.fBack)]) :: (.vptr [(vP eI a0.fR.fFrom), (vP eI a0.fR.fTo), (vP eI a0.fR.fLeft), (vP eI a0.fR.fRight), (vP eI a0.fWhole), (vP eI a0.fBack)]) :: (.vptr [(vP eI a0.fR.fLeft), (vP eI a0.fR.fRight), (vP eI a0.fWhole), (vP eI a0.fBack)]) :: (dP eI a0.fR.fLeft) :: (dI (a0.fR.fLeft.length : Int)) :: (dI (w64 (v28 - (a0.fR.fLeft.length : Int)))) :: (dI (w64 (v28 - (a0.fR.fLeft.length : Int)))) :: (.ptr 0 1) :: (dI a1.fSince) :: (dB v38) :: (dB v38) :: q9 []))), [(b32_0 a1)]⟩) ?_ fun G32g39 => Ops.st _ (by kernel_rfl) (G32g39 (decide (w64 (v28 - (a0.fR.fLeft.length : Int)) ≤ a1.fSince)) h)
    intro v38 h
    cases v38
    ·refine Ops.sg 8 13 ?_
     exact Ops.st _ (by kernel_rfl) (J32j49 U U U U U U U false false h)
    ·refine Ops.sg 5 10 ?_
     refine Ops.on 11 (fun h0 e0 => (len_r (T := T) h0 22 3 .plain eI a0.fWhole (by kernel_rfl))) ?_
     refine Ops.sg 2 13 ?_
     exact Ops.st _ (by kernel_rfl) (J32j49 (dI v28) ((.vptr [(vP eI a0.fR.fFrom), (vP eI a0.fR.fTo), (vP eI a0.fR.fLeft), (vP eI a0.fR.fRight), (vP eI a0.fWhole), (vP eI a0.fBack)])) ((.vptr [(vP eI a0.fR.fFrom), (vP eI a0.fR.fTo), (vP eI a0.fR.fLeft), (vP eI a0.fR.fRight), (vP eI a0.fWhole), (vP eI a0.fBack)])) ((.vptr [(vP eI a0.fWhole), (vP eI a0.fBack)])) (dP eI a0.fWhole) (dI (a0.fWhole.length : Int)) (dB (decide (v28 < (a0.fWhole.length : Int)))) true (decide (v28 < (a0.fWhole.length : Int))) h)
   ·refine Wp.exit (id := 0) (by kernel_rfl) ?_
    refine sqQ.x ?_
    refine seqQ.x ?_
    cases h
    refine lpQ.x ?_
    refine blkQ.x ⟨(.vptr [(vP eI a0.fR.fFrom), (vP eI a0.fR.fTo), (vP eI a0.fR.fLeft), (vP eI a0.fR.fRight), (vP eI a0.fWhole), (vP eI a0.fBack)]) :: q2 ((.ptr 0 0) :: (dI 0) :: (dI v28) :: q40 []), [(b32_0 a1)]⟩ (by kernel_rfl) ?_
    exact hxx34 v28  hsx37
 refine Wp.loop' [0, 3, 4, 5] 1 (by kernel_rfl) ⟨(.vptr [(vP eI a0.fR.fFrom), (vP eI a0.fR.fTo), (vP eI a0.fR.fLeft), (vP eI a0.fR.fRight), (vP eI a0.fWhole), (vP eI a0.fBack)]) :: q2 ((.ptr 0 0) :: (dI 0) :: (dI a1.fFit) :: q40 []), [(b32_0 a1)]⟩ (by kernel_rfl) ?_
 rcases brk_some h with ⟨r53, er53, h⟩ | ⟨y52, ey52, h⟩
 ·refine hLx51 _ a1.fFit  _ er53 n (by omega) (fun r er σ hσ => ?_) (fun y  ey => by cases ey)
  cases er
  refine seqQ.r ?_
  exact fnQ.r' (X32 n) (fun z => (eI z)) h hσ
 ·refine hLx51 _ a1.fFit  _ ey52 n (by omega) (fun r er => by cases er) (fun y  ey => ?_)
  cases ey
  refine seqQ.n ?_
  refine Wp.sq ?_
  refine Wp.rg ?_
  refine Ops.sg 1 1 ?_
  refine Ops.dn ?_
  refine seqQ.n ?_
  refine Wp.ret (by kernel_rfl) ?_
  exact fnQ.r' (X32 n) (fun z => (eI z)) h (RetOk.mk' (dI 0) (by kernel_rfl) (by kernel_rfl))
def f31 (m : Nat) (a0 : S45) (a1 : S75) (a2 : Int) : Option (List Int) :=
 bnd (sub a0.fWhole (w64 (a1.fFit - a2)) a1.fFit) fun v1 =>
 some v1
noncomputable abbrev X31 (n : Nat) : Cx := cxOf Proofs.Try.prog E 31 n
theorem ok31 (m : Nat) (a0 : S45) (a1 : S75) (a2 : Int) (o : (List Int)) (h : f31 m a0 a1 a2 = some o) (n : Nat) (hn : m + 1 ≤ n) : Fn Proofs.Try.prog E n 31 [.vptr [(vP eI a0.fR.fFrom), (vP eI a0.fR.fTo), (vP eI a0.fR.fLeft), (vP eI a0.fR.fRight), (vP eI a0.fWhole), (vP eI a0.fBack)], .v (e75 a1), .v (eI a2)] ((eL eI) o) := by
 obtain ⟨n, rfl⟩ : ∃ q, n = q + 1 := ⟨n - 1, by omega⟩
 unfold f31 at h
 refine Fn.of (by kernel_rfl) (by kernel_rfl) (by kernel_rfl) ⟨(.vptr [(vP eI a0.fR.fFrom), (vP eI a0.fR.fTo), (vP eI a0.fR.fLeft), (vP eI a0.fR.fRight), (vP eI a0.fWhole), (vP eI a0.fBack)]) :: (.v (.agg [(vI a1.fFit), (vI a1.fSince)])) :: (dI a2) :: u15 [], []⟩ (by kernel_rfl) ?_
 refine Wp.sq ?_
 refine Wp.rg ?_
 refine Ops.sg 2 2 ?_
 refine Ops.dn ?_
 refine seqQ.n ?_
 refine Wp.sq ?_
 refine Wp.rg ?_
 refine Ops.sg 10 10 ?_
 obtain ⟨v1, ev1, h⟩ := bnd_some h
 refine Ops.on 11 (fun h0 e0 => (sub_r (T := T) h0 22 3 1 .plain eI a0.fWhole v1 (some (w64 (a1.fFit - a2))) (some a1.fFit) rfl ev1 (by kernel_rfl) (by kernel_rfl) (fun _ => rfl))) ?_
 refine Ops.sg 1 12 ?_
 refine Ops.dn ?_
 refine seqQ.n ?_
 refine Wp.ret (by kernel_rfl) ?_
 exact fnQ.r' (X31 n) (fun z => ((eL eI) z)) h (RetOk.mk' (dP eI v1) (by kernel_rfl) (by kernel_rfl))
def f52_r1 (m : Nat) (a0 : S45) (v26 : Int) (v48 : Bool) : Option (Stp Int (Int)) :=
 cnd v48
 (bnd (idx a0.fBack v26) fun v50 =>
 some (.nxt v50))
 (some (.brk v26))
def f52_B2 (m : Nat) (a0 : S45) (a2 : Int) (v26 : Int) : Option (Stp Int (Int)) :=
 bnd (cnd (decide (v26 > 0))
 (bnd (idx a0.fWhole v26) fun v51 =>
 some (v51 != a2))
 (some false)) fun v48 =>
 f52_r1 m a0 v26 v48
def f52_j3 (m : Nat) (v56 : Int) : Option Int :=
 some v56
def f52_j4 (m : Nat) (a0 : S45) (a2 : Int) (v1 : Int) : Option Int :=
 brk (iter (fun (y : Int) => f52_B2 m a0 a2 y) m v1) some fun y53 =>
 bnd (idx a0.fWhole y53) fun v55 =>
 cnd (v55 == a2)
 (f52_j3 m (w64 (y53 + 1)))
 (f52_j3 m y53)
def f52 (m : Nat) (a0 : S45) (a1 : Int) (a2 : Int) : Option Int :=
 cnd (a1 == (a0.fWhole.length : Int))
 (bnd (idx a0.fBack a1) fun v60 =>
 f52_j4 m a0 a2 v60)
 (f52_j4 m a0 a2 a1)
noncomputable abbrev X52 (n : Nat) : Cx := cxOf Proofs.Try.prog E 52 n
noncomputable def C52 : Code := bodyOf Proofs.Try.prog 52
theorem ok52 (m : Nat) (a0 : S45) (a1 : Int) (a2 : Int) (o : Int) (h : f52 m a0 a1 a2 = some o) (n : Nat) (hn : m + 1 ≤ n) : Fn Proofs.Try.prog E n 52 [.vptr [(vP eI a0.fR.fFrom), (vP eI a0.fR.fTo), (vP eI a0.fR.fLeft), (vP eI a0.fR.fRight), (vP eI a0.fWhole), (vP eI a0.fBack)], .v (eI a1), .v (eI a2)] (eI o) := by
 obtain ⟨n, rfl⟩ : ∃ q, n = q + 1 := ⟨n - 1, by omega⟩
 unfold f52 at h
 refine Fn.of (by kernel_rfl) (by kernel_rfl) (by kernel_rfl) ⟨(.vptr [(vP eI a0.fR.fFrom), (vP eI a0.fR.fTo), (vP eI a0.fR.fLeft), (vP eI a0.fR.fRight), (vP eI a0.fWhole), (vP eI a0.fBack)]) :: (dI a1) :: (dI a2) :: u40 (u10 []), []⟩ (by kernel_rfl) ?_
 refine Wp.sq ?_
 refine Wp.rg ?_
 refine Ops.sg 1 1 ?_
 refine Ops.dn ?_
 refine seqQ.n ?_
 refine Wp.sq ?_
 refine Wp.sq ?_
 refine Wp.rg ?_
 refine Ops.sg 5 5 ?_
 refine Ops.on 6 (fun h0 e0 => (len_r (T := T) h0 22 3 .plain eI a0.fWhole (by kernel_rfl))) ?_
 refine Ops.sg 1 7 ?_
 refine Ops.dn ?_
 refine seqQ.n ?_
 have J52j9 : ∀ (v1 : Int) (d2 : D) (d3 : D) (d4 : D) (d5 : D) (d6 : D) (d7 : D) (d8 : D), f52_j4 m a0 a2 v1 = some o → (seqQ (X52 n) (cR (cR C52)) (fnQ (X52 n).E.T (resOf Proofs.Try.prog 52) (eI o))) .normal ⟨(.vptr [(vP eI a0.fR.fFrom), (vP eI a0.fR.fTo), (vP eI a0.fR.fLeft), (vP eI a0.fR.fRight), (vP eI a0.fWhole), (vP eI a0.fBack)]) :: (dI v1) :: (dI a2) :: u3 ((dI 0) :: (dI a1) :: (.vptr [(vP eI a0.fR.fFrom), (vP eI a0.fR.fTo), (vP eI a0.fR.fLeft), (vP eI a0.fR.fRight), (vP eI a0.fWhole), (vP eI a0.fBack)]) :: (.vptr [(vP eI a0.fR.fFrom), (vP eI a0.fR.fTo), (vP eI a0.fR.fLeft), (vP eI a0.fR.fRight), (vP eI a0.fWhole), (vP eI a0.fBack)]) :: (.vptr [(vP eI a0.fWhole), (vP eI a0.fBack)]) :: (dP eI a0.fWhole) :: (dI (a0.fWhole.length : Int)) :: (dB (a1 == (a0.fWhole.length : Int))) :: d2 :: d3 :: d4 :: d5 :: d6 :: d7 :: d8 :: u32 []), []⟩ := by
  intro v1 d2 d3 d4 d5 d6 d7 d8 h
  unfold f52_j4 at h
  refine seqQ.n ?_
  refine Wp.sq ?_
  refine Wp.block' 0 [0, 1, 2, 6] 0 (by kernel_rfl) ?_
  have hLx52 : ∀ (kx28 : Nat) (v26 : Int)  (ox27 : Int ⊕ (Int)), iter (fun (y : Int) => f52_B2 m a0 a2 y) kx28 v26 = some ox27 → ∀ nx29, kx28 ≤ nx29 → (∀ r, ox27 = .inl r → ∀ σ, RetOk (X52 n) (resOf Proofs.Try.prog 52) (eI r) σ → (seqQ (X52 n) (cR (cR (cR C52))) (fnQ (X52 n).E.T (resOf Proofs.Try.prog 52) (eI o))) .ret σ) → (∀ (y : Int) , ox27 = .inr y → (seqQ (X52 n) (cR (cR (cR C52))) (fnQ (X52 n).E.T (resOf Proofs.Try.prog 52) (eI o))) .normal ⟨(.vptr [(vP eI a0.fR.fFrom), (vP eI a0.fR.fTo), (vP eI a0.fR.fLeft), (vP eI a0.fR.fRight), (vP eI a0.fWhole), (vP eI a0.fBack)]) :: (dI y) :: (dI a2) :: q3 ((dI 0) :: q40 (q6 [])), []⟩) → Lp (X52 n) [0, 1, 2, 6] 0 (cL (cL (cL (cR (cR C52))))) nx29 ⟨(.vptr [(vP eI a0.fR.fFrom), (vP eI a0.fR.fTo), (vP eI a0.fR.fLeft), (vP eI a0.fR.fRight), (vP eI a0.fWhole), (vP eI a0.fBack)]) :: (dI v26) :: (dI a2) :: q3 ((dI 0) :: q40 (q6 [])), []⟩ (blkQ (X52 n) 0 [0, 1, 2, 6] 0 (seqQ (X52 n) (cR (cR (cR C52))) (fnQ (X52 n).E.T (resOf Proofs.Try.prog 52) (eI o)))) := by
   intro kx28
   induction kx28 with
   | zero => intro v26  ox27 h; exact (iter_zero h).elim
   | succ kx28 ihx30 =>
    intro v26  ox27 h nx29 hnx33 hrx31 hxx32
    obtain ⟨nx29, rfl⟩ : ∃ q, nx29 = q + 1 := ⟨nx29 - 1, by omega⟩
    obtain ⟨sx34, h, hsx35⟩ := iter_some h
    have h : f52_B2 m a0 a2 v26 = some sx34 := h
    unfold f52_B2 at h
    refine Lp.succ ?_
    refine Wp.sq ?_
    refine Wp.sq ?_
    refine Wp.rg ?_
    refine Ops.sg 3 3 ?_
    refine Ops.hv (fun KQ => ∀ (d38 d39 d40 d41 d42 d43 d44 d45 d46 : D) (v47 : Bool) (v48 : Bool), f52_r1 m a0 v26 v48 = some sx34 → KQ 13 ⟨(.vptr [(vP eI a0.fR.fFrom), (vP eI a0.fR.fTo), (vP eI a0.fR.fLeft), (vP eI a0.fR.fRight), (vP eI a0.fWhole), (vP eI a0.fBack)]) :: (dI v26) :: (dI a2) :: q3 ((dI 0) :: q14 ((dI v26) :: (dB v47) :: (dB v47) :: d38 :: d39 :: d40 :: d41 :: d42 :: d43 :: d44 :: d45 :: d46 :: (dB v48) :: q19 [])), []⟩) ?_ fun J52j49 => ?_
    ·intro d38 d39 d40 d41 d42 d43 d44 d45 d46 v47 v48 h
     unfold f52_r1 at h
     refine Ops.dn ?_
     refine seqQ.n ?_
     refine Wp.cnd h [0, 1, 2, 6] 0 (by kernel_rfl) (fun h => ?_) (fun h => ?_)
     ·refine Wp.sk ?_
      refine sqQ.n' ?_
      refine seqQ.n ?_
      refine Wp.block' 1 [0, 1, 2, 6] 0 (by kernel_rfl) ?_
      refine Wp.rg ?_
      refine Ops.sg 5 5 ?_
      obtain ⟨v50, ev50, h⟩ := bnd_some h
      refine Ops.on 6 (fun h0 e0 => (ix_r (T := T) h0 22 3 1 .plain eI a0.fBack v26 v50 ev50 (by kernel_rfl) (by kernel_rfl) (fun _ => rfl))) ?_
      refine Ops.sg 2 8 ?_
      refine Ops.dn ?_
      refine blkQ.n' ?_
      refine lpQ.n ⟨(.vptr [(vP eI a0.fR.fFrom), (vP eI a0.fR.fTo), (vP eI a0.fR.fLeft), (vP eI a0.fR.fRight), (vP eI a0.fWhole), (vP eI a0.fBack)]) :: (dI v50) :: (dI a2) :: q3 ((dI 0) :: q40 (q6 [])), []⟩ (by kernel_rfl) ?_
      cases h
      exact ihx30 v50  _ hsx35 _ (by omega) hrx31 hxx32
     ·refine Wp.exit (id := 0) (by kernel_rfl) ?_
      refine sqQ.x ?_
      refine seqQ.x ?_
      cases h
      refine lpQ.x ?_
      refine blkQ.x ⟨(.vptr [(vP eI a0.fR.fFrom), (vP eI a0.fR.fTo), (vP eI a0.fR.fLeft), (vP eI a0.fR.fRight), (vP eI a0.fWhole), (vP eI a0.fBack)]) :: (dI v26) :: (dI a2) :: q3 ((dI 0) :: q40 (q6 [])), []⟩ (by kernel_rfl) ?_
      exact hxx32 v26  hsx35
    obtain ⟨v48, ev48, h⟩ := bnd_some h
    refine Ops.hv (fun KQ => ∀ v36 : Bool, (cnd v36 (bnd (idx a0.fWhole v26) fun v51 => some (v51 != a2)) (some false)) = some v48 → KQ 3 ⟨(.vptr [(vP eI a0.fR.fFrom), (vP eI a0.fR.fTo), (vP eI a0.fR.fLeft), (vP eI a0.fR.fRight), (vP eI a0.fWhole), (vP eI a0.fBack)]) :: (dI v26) :: (dI a2) :: q3 ((dI 0) :: q14 ((dI v26) :: (dB v36) :: (dB v36) :: q29 [])), []⟩) ?_ fun G52g37 => Ops.st _ (by kernel_rfl) (G52g37 (decide (v26 > 0)) ev48)
    intro v36 ev48
    cases v36
    ·have ev48 := cnd_f ev48
     refine Ops.sg 10 13 ?_
     exact Ops.st _ (by kernel_rfl) (J52j49 U U U U U U U U U false false (some_sub (fun v48 => f52_r1 m a0 v26 v48 = some sx34) ev48 h))
    ·have ev48 := cnd_t ev48
     refine Ops.sg 5 8 ?_
     obtain ⟨v51, ev51, ev48⟩ := bnd_some ev48
     refine Ops.on 9 (fun h0 e0 => (ix_r (T := T) h0 22 3 1 .plain eI a0.fWhole v26 v51 ev51 (by kernel_rfl) (by kernel_rfl) (fun _ => rfl))) ?_
     refine Ops.sg 4 13 ?_
     exact Ops.st _ (by kernel_rfl) (J52j49 ((.vptr [(vP eI a0.fR.fFrom), (vP eI a0.fR.fTo), (vP eI a0.fR.fLeft), (vP eI a0.fR.fRight), (vP eI a0.fWhole), (vP eI a0.fBack)])) ((.vptr [(vP eI a0.fR.fFrom), (vP eI a0.fR.fTo), (vP eI a0.fR.fLeft), (vP eI a0.fR.fRight), (vP eI a0.fWhole), (vP eI a0.fBack)])) ((.vptr [(vP eI a0.fWhole), (vP eI a0.fBack)])) (dP eI a0.fWhole) (dI v26) (.vptr [(vI v51)]) (dI v51) (dI a2) (dB (v51 != a2)) true (v51 != a2) (some_sub (fun v48 => f52_r1 m a0 v26 v48 = some sx34) ev48 h))
  refine Wp.loop' [0, 1, 2, 6] 0 (by kernel_rfl) ⟨(.vptr [(vP eI a0.fR.fFrom), (vP eI a0.fR.fTo), (vP eI a0.fR.fLeft), (vP eI a0.fR.fRight), (vP eI a0.fWhole), (vP eI a0.fBack)]) :: (dI v1) :: (dI a2) :: q3 ((dI 0) :: q40 (q6 [])), []⟩ (by kernel_rfl) ?_
  rcases brk_some h with ⟨r54, er54, h⟩ | ⟨y53, ey53, h⟩
  ·refine hLx52 _ v1  _ er54 n (by omega) (fun r er σ hσ => ?_) (fun y  ey => by cases ey)
   cases er
   refine seqQ.r ?_
   exact fnQ.r' (X52 n) (fun z => (eI z)) h hσ
  ·refine hLx52 _ v1  _ ey53 n (by omega) (fun r er => by cases er) (fun y  ey => ?_)
   cases ey
   refine seqQ.n ?_
   refine Wp.sq ?_
   refine Wp.sq ?_
   refine Wp.rg ?_
   refine Ops.sg 5 5 ?_
   obtain ⟨v55, ev55, h⟩ := bnd_some h
   refine Ops.on 6 (fun h0 e0 => (ix_r (T := T) h0 22 3 1 .plain eI a0.fWhole y53 v55 ev55 (by kernel_rfl) (by kernel_rfl) (fun _ => rfl))) ?_
   refine Ops.sg 3 9 ?_
   refine Ops.dn ?_
   refine seqQ.n ?_
   have J52j59 : ∀ (v56 : Int) (d57 : D) (d58 : D), f52_j3 m v56 = some o → (seqQ (X52 n) (cR (cR (cR (cR C52)))) (fnQ (X52 n).E.T (resOf Proofs.Try.prog 52) (eI o))) .normal ⟨(.vptr [(vP eI a0.fR.fFrom), (vP eI a0.fR.fTo), (vP eI a0.fR.fLeft), (vP eI a0.fR.fRight), (vP eI a0.fWhole), (vP eI a0.fBack)]) :: (dI v56) :: (dI a2) :: q3 ((dI 0) :: q34 ((.vptr [(vP eI a0.fR.fFrom), (vP eI a0.fR.fTo), (vP eI a0.fR.fLeft), (vP eI a0.fR.fRight), (vP eI a0.fWhole), (vP eI a0.fBack)]) :: (.vptr [(vP eI a0.fR.fFrom), (vP eI a0.fR.fTo), (vP eI a0.fR.fLeft), (vP eI a0.fR.fRight), (vP eI a0.fWhole), (vP eI a0.fBack)]) :: (.vptr [(vP eI a0.fWhole), (vP eI a0.fBack)]) :: (dP eI a0.fWhole) :: (dI y53) :: (.vptr [(vI v55)]) :: (dI v55) :: (dI a2) :: (dB (v55 == a2)) :: d57 :: d58 :: q1 [])), []⟩ := by
    intro v56 d57 d58 h
    unfold f52_j3 at h
    refine seqQ.n ?_
    refine Wp.sq ?_
    refine Wp.rg ?_
    refine Ops.sg 2 2 ?_
    refine Ops.dn ?_
    refine seqQ.n ?_
    refine Wp.ret (by kernel_rfl) ?_
    exact fnQ.r' (X52 n) (fun z => (eI z)) h (RetOk.mk' (dI v56) (by kernel_rfl) (by kernel_rfl))
   refine Wp.cnd h [1, 6] 0 (by kernel_rfl) (fun h => ?_) (fun h => ?_)
   ·refine Wp.rg ?_
    refine Ops.sg 3 3 ?_
    refine Ops.dn ?_
    refine sqQ.n ⟨(.vptr [(vP eI a0.fR.fFrom), (vP eI a0.fR.fTo), (vP eI a0.fR.fLeft), (vP eI a0.fR.fRight), (vP eI a0.fWhole), (vP eI a0.fBack)]) :: (dI (w64 (y53 + 1))) :: (dI a2) :: q3 ((dI 0) :: q34 ((.vptr [(vP eI a0.fR.fFrom), (vP eI a0.fR.fTo), (vP eI a0.fR.fLeft), (vP eI a0.fR.fRight), (vP eI a0.fWhole), (vP eI a0.fBack)]) :: (.vptr [(vP eI a0.fR.fFrom), (vP eI a0.fR.fTo), (vP eI a0.fR.fLeft), (vP eI a0.fR.fRight), (vP eI a0.fWhole), (vP eI a0.fBack)]) :: (.vptr [(vP eI a0.fWhole), (vP eI a0.fBack)]) :: (dP eI a0.fWhole) :: (dI y53) :: (.vptr [(vI v55)]) :: (dI v55) :: (dI a2) :: (dB (v55 == a2)) :: (dI y53) :: (dI (w64 (y53 + 1))) :: q1 [])), []⟩ (by kernel_rfl) ?_
    exact J52j59 (w64 (y53 + 1)) _ _ h
   ·refine Wp.sk ?_
    refine sqQ.n ⟨(.vptr [(vP eI a0.fR.fFrom), (vP eI a0.fR.fTo), (vP eI a0.fR.fLeft), (vP eI a0.fR.fRight), (vP eI a0.fWhole), (vP eI a0.fBack)]) :: (dI y53) :: (dI a2) :: q3 ((dI 0) :: q34 ((.vptr [(vP eI a0.fR.fFrom), (vP eI a0.fR.fTo), (vP eI a0.fR.fLeft), (vP eI a0.fR.fRight), (vP eI a0.fWhole), (vP eI a0.fBack)]) :: (.vptr [(vP eI a0.fR.fFrom), (vP eI a0.fR.fTo), (vP eI a0.fR.fLeft), (vP eI a0.fR.fRight), (vP eI a0.fWhole), (vP eI a0.fBack)]) :: (.vptr [(vP eI a0.fWhole), (vP eI a0.fBack)]) :: (dP eI a0.fWhole) :: (dI y53) :: (.vptr [(vI v55)]) :: (dI v55) :: (dI a2) :: (dB (v55 == a2)) :: q3 [])), []⟩ (by kernel_rfl) ?_
    exact J52j59 y53 _ _ h
 refine Wp.cnd h [0, 1, 2, 6] 0 (by kernel_rfl) (fun h => ?_) (fun h => ?_)
 ·refine Wp.rg ?_
  refine Ops.sg 5 5 ?_
  obtain ⟨v60, ev60, h⟩ := bnd_some h
  refine Ops.on 6 (fun h0 e0 => (ix_r (T := T) h0 22 3 1 .plain eI a0.fBack a1 v60 ev60 (by kernel_rfl) (by kernel_rfl) (fun _ => rfl))) ?_
  refine Ops.sg 2 8 ?_
  refine Ops.dn ?_
  refine sqQ.n ⟨(.vptr [(vP eI a0.fR.fFrom), (vP eI a0.fR.fTo), (vP eI a0.fR.fLeft), (vP eI a0.fR.fRight), (vP eI a0.fWhole), (vP eI a0.fBack)]) :: (dI v60) :: (dI a2) :: u3 ((dI 0) :: (dI a1) :: (.vptr [(vP eI a0.fR.fFrom), (vP eI a0.fR.fTo), (vP eI a0.fR.fLeft), (vP eI a0.fR.fRight), (vP eI a0.fWhole), (vP eI a0.fBack)]) :: (.vptr [(vP eI a0.fR.fFrom), (vP eI a0.fR.fTo), (vP eI a0.fR.fLeft), (vP eI a0.fR.fRight), (vP eI a0.fWhole), (vP eI a0.fBack)]) :: (.vptr [(vP eI a0.fWhole), (vP eI a0.fBack)]) :: (dP eI a0.fWhole) :: (dI (a0.fWhole.length : Int)) :: (dB (a1 == (a0.fWhole.length : Int))) :: (.vptr [(vP eI a0.fR.fFrom), (vP eI a0.fR.fTo), (vP eI a0.fR.fLeft), (vP eI a0.fR.fRight), (vP eI a0.fWhole), (vP eI a0.fBack)]) :: (.vptr [(vP eI a0.fR.fFrom), (vP eI a0.fR.fTo), (vP eI a0.fR.fLeft), (vP eI a0.fR.fRight), (vP eI a0.fWhole), (vP eI a0.fBack)]) :: (.vptr [(vP eI a0.fBack)]) :: (dP eI a0.fBack) :: (dI a1) :: (.vptr [(vI v60)]) :: (dI v60) :: u32 []), []⟩ (by kernel_rfl) ?_
  exact J52j9 v60 _ _ _ _ _ _ _ h
 ·refine Wp.sk ?_
  refine sqQ.n ⟨(.vptr [(vP eI a0.fR.fFrom), (vP eI a0.fR.fTo), (vP eI a0.fR.fLeft), (vP eI a0.fR.fRight), (vP eI a0.fWhole), (vP eI a0.fBack)]) :: (dI a1) :: (dI a2) :: u3 ((dI 0) :: (dI a1) :: (.vptr [(vP eI a0.fR.fFrom), (vP eI a0.fR.fTo), (vP eI a0.fR.fLeft), (vP eI a0.fR.fRight), (vP eI a0.fWhole), (vP eI a0.fBack)]) :: (.vptr [(vP eI a0.fR.fFrom), (vP eI a0.fR.fTo), (vP eI a0.fR.fLeft), (vP eI a0.fR.fRight), (vP eI a0.fWhole), (vP eI a0.fBack)]) :: (.vptr [(vP eI a0.fWhole), (vP eI a0.fBack)]) :: (dP eI a0.fWhole) :: (dI (a0.fWhole.length : Int)) :: (dB (a1 == (a0.fWhole.length : Int))) :: u39 []), []⟩ (by kernel_rfl) ?_
  exact J52j9 a1 _ _ _ _ _ _ _ h
def f39_j1 (m : Nat) (a0 : S45) (v5 : Int) (v26 : (List Int)) (v28 : (List Int)) (v30 : Int) : Option (S75 × (List Int)) :=
 bnd (f32 m a0 ((⟨v5, (if (if w64 (v5 - (a0.fR.fLeft.length : Int)) > 0 then w64 (v5 - (a0.fR.fLeft.length : Int)) else 0) < v30 then (if w64 (v5 - (a0.fR.fLeft.length : Int)) > 0 then w64 (v5 - (a0.fR.fLeft.length : Int)) else 0) else v30)⟩ : S75))) fun v32 =>
 bnd (sub v26 0 (w64 ((v26.length : Int) - v32))) fun v33 =>
 bnd (app 8 v28 v33) fun v34 =>
 some (((⟨v5, (if (if w64 (v5 - (a0.fR.fLeft.length : Int)) > 0 then w64 (v5 - (a0.fR.fLeft.length : Int)) else 0) < v30 then (if w64 (v5 - (a0.fR.fLeft.length : Int)) > 0 then w64 (v5 - (a0.fR.fLeft.length : Int)) else 0) else v30)⟩ : S75), v34))
def f39_r2 (m : Nat) (a0 : S45) (a1 : S75) (v4 : (List Int)) (v5 : Int) (v24 : Bool) : Option (S75 × (List Int)) :=
 cnd v24
 (bnd (app 8 [] a0.fR.fTo) fun v35 =>
 bnd (sub v4 (w64 ((v4.length : Int) - (a0.fR.fRight.length : Int))) (v4.length : Int)) fun v36 =>
 f39_j1 m a0 v5 v36 v35 (a0.fR.fRight.length : Int))
 (f39_j1 m a0 v5 v4 [] (w64 (a1.fSince + 1)))
def f39 (m : Nat) (a0 : S45) (a1 : S75) (a2 : Int) : Option (S75 × (List Int)) :=
 bnd (f32 m a0 a1) fun v1 =>
 bnd (f31 m a0 a1 v1) fun v2 =>
 bnd (cln 8 v2.length) fun v3 =>
 bnd (app 8 v2 [a2]) fun v4 =>
 bnd (f52 m a0 a1.fFit a2) fun v5 =>
 f39_r2 m a0 a1 v4 v5 ((v5 == (a0.fWhole.length : Int)) && (decide (w64 ((a0.fWhole.length : Int) - (a0.fR.fLeft.length : Int)) ≤ w64 (a1.fSince + 1))))
noncomputable abbrev X39 (n : Nat) : Cx := cxOf Proofs.Try.prog E 39 n
noncomputable def C39 : Code := bodyOf Proofs.Try.prog 39
abbrev b39_0 (w0 : S75) : AObj := .cells [(dI w0.fFit), (dI w0.fSince)]
theorem ok39 (m : Nat) (a0 : S45) (a1 : S75) (a2 : Int) (o : (S75 × (List Int))) (h : f39 m a0 a1 a2 = some o) (n : Nat) (hn : m + 2 ≤ n) : Fn Proofs.Try.prog E n 39 [.vptr [(vP eI a0.fR.fFrom), (vP eI a0.fR.fTo), (vP eI a0.fR.fLeft), (vP eI a0.fR.fRight), (vP eI a0.fWhole), (vP eI a0.fBack)], .v (e75 a1), .v (eI a2)] (.tuple [e75 o.1, (eL eI) o.2]) := by
 obtain ⟨n, rfl⟩ : ∃ q, n = q + 1 := ⟨n - 1, by omega⟩
 unfold f39 at h
 refine Fn.of (by kernel_rfl) (by kernel_rfl) (by kernel_rfl) ⟨(.vptr [(vP eI a0.fR.fFrom), (vP eI a0.fR.fTo), (vP eI a0.fR.fLeft), (vP eI a0.fR.fRight), (vP eI a0.fWhole), (vP eI a0.fBack)]) :: (.v (.agg [(vI a1.fFit), (vI a1.fSince)])) :: (dI a2) :: u40 (u40 (u26 [])), []⟩ (by kernel_rfl) ?_
 refine Wp.sq ?_
 refine Wp.rg ?_
 refine Ops.sg 3 3 ?_
 refine Ops.dn ?_
 refine seqQ.n ?_
 refine Wp.sq ?_
 refine Wp.rg ?_
 refine Ops.sg 2 2 ?_
 obtain ⟨v1, ev1, h⟩ := bnd_some h
 refine Ops.on 3 (fun h0 e0 => (call_ok (E' := E) (h := h0) (by kernel_rfl) (Args.vp [(vP eI a0.fR.fFrom), (vP eI a0.fR.fTo), (vP eI a0.fR.fLeft), (vP eI a0.fR.fRight), (vP eI a0.fWhole), (vP eI a0.fBack)] (Args.v (.agg [(vI a1.fFit), (vI a1.fSince)]) (e75 a1) (by kernel_rfl) Args.nil)) (ok32 m a0 a1 v1 ev1 n (by omega)))) ?_
 refine Ops.sg 1 4 ?_
 refine Ops.dn ?_
 refine seqQ.n ?_
 refine Wp.sq ?_
 refine Wp.rg ?_
 refine Ops.sg 3 3 ?_
 obtain ⟨v2, ev2, h⟩ := bnd_some h
 refine Ops.on 4 (fun h0 e0 => (call_ok (E' := E) (h := h0) (by kernel_rfl) (Args.vp [(vP eI a0.fR.fFrom), (vP eI a0.fR.fTo), (vP eI a0.fR.fLeft), (vP eI a0.fR.fRight), (vP eI a0.fWhole), (vP eI a0.fBack)] (Args.v (.agg [(vI a1.fFit), (vI a1.fSince)]) (e75 a1) (by kernel_rfl) (Args.v (vI v1) (eI v1) (by kernel_rfl) Args.nil))) (ok31 m a0 a1 v1 v2 ev2 n (by omega)))) ?_
 obtain ⟨v3, ev3, h⟩ := bnd_some h
 refine Ops.on 5 (fun h0 e0 => (callD_own (P := Proofs.Try.prog) (E := E) (E' := E) (n := n) (f := 34) (by kernel_rfl) (by kernel_rfl) (by kernel_rfl) (row_clone h0 1 8 .plain eI v2 v3 ev3 (fun _ => rfl)) (by omega))) ?_
 refine Ops.sg 2 7 ?_
 obtain ⟨v4, ev4, h⟩ := bnd_some h
 refine Ops.on 8 (fun h0 e0 => (app_g (T := T) h0 22 3 2 1 ti3 (AG.of .full (v2.map eI)) .nonfull eI v2 [a2] v4 ev4 (by kernel_rfl) (by kernel_rfl) (by kernel_rfl) (by kernel_rfl) (fun _ => rfl) (hq_of e0 (by kernel_rfl)))) ?_
 refine Ops.sg 1 9 ?_
 refine Ops.dn ?_
 refine seqQ.n ?_
 refine Wp.sq ?_
 refine Wp.rg ?_
 refine Ops.sg 4 4 ?_
 obtain ⟨v5, ev5, h⟩ := bnd_some h
 refine Ops.on 5 (fun h0 e0 => (call_ok (E' := E) (h := h0) (by kernel_rfl) (Args.vp [(vP eI a0.fR.fFrom), (vP eI a0.fR.fTo), (vP eI a0.fR.fLeft), (vP eI a0.fR.fRight), (vP eI a0.fWhole), (vP eI a0.fBack)] (Args.v (vI a1.fFit) (eI a1.fFit) (by kernel_rfl) (Args.v (vI a2) (eI a2) (by kernel_rfl) Args.nil))) (ok52 m a0 a1.fFit a2 v5 ev5 n (by omega)))) ?_
 refine Ops.sg 6 11 ?_
 refine Ops.dn ?_
 refine seqQ.n ?_
 refine Wp.sq ?_
 refine Wp.rg ?_
 refine Ops.sg 1 1 ?_
 refine Ops.dn ?_
 refine seqQ.n ?_
 refine Wp.sq ?_
 refine Wp.sq ?_
 refine Wp.rg ?_
 refine Ops.sg 6 6 ?_
 refine Ops.on 7 (fun h0 e0 => (len_r (T := T) h0 22 3 .plain eI a0.fWhole (by kernel_rfl))) ?_
 refine Ops.seg 2 9 (by kernel_rfl) ⟨(.vptr [(vP eI a0.fR.fFrom), (vP eI a0.fR.fTo), (vP eI a0.fR.fLeft), (vP eI a0.fR.fRight), (vP eI a0.fWhole), (vP eI a0.fBack)]) :: (.v (.agg [(vI a1.fFit), (vI a1.fSince)])) :: (dI a2) :: u1 ((.ptr 0 0) :: u1 ((.ptr 1 0) :: (.v (.sl .nil (List.map eI []))) :: (dI v1) :: (AG.d (AG.app (AG.of .full (v2.map eI)) (List.map eI [a2])) 3 (List.map eI v4)) :: (.ptr 4 0) :: (.v (.sl .nil (List.map eI []))) :: u1 ((.vptr [(vP eI a0.fR.fFrom), (vP eI a0.fR.fTo), (vP eI a0.fR.fLeft), (vP eI a0.fR.fRight), (vP eI a0.fWhole), (vP eI a0.fBack)]) :: (.v (.agg [(vI a1.fFit), (vI a1.fSince)])) :: (dI v1) :: (.vptr [(vP eI a0.fR.fFrom), (vP eI a0.fR.fTo), (vP eI a0.fR.fLeft), (vP eI a0.fR.fRight), (vP eI a0.fWhole), (vP eI a0.fBack)]) :: (.v (.agg [(vI a1.fFit), (vI a1.fSince)])) :: (dI v1) :: (dP eI v2) :: (AG.d (AG.of .full (v2.map eI)) 2 (List.map eI v2)) :: (dI a2) :: (.v (.sl .nonfull (List.map eI [a2]))) :: (AG.d (AG.app (AG.of .full (v2.map eI)) (List.map eI [a2])) 3 (List.map eI v4)) :: (.vptr [(vP eI a0.fR.fFrom), (vP eI a0.fR.fTo), (vP eI a0.fR.fLeft), (vP eI a0.fR.fRight), (vP eI a0.fWhole), (vP eI a0.fBack)]) :: (.ptr 0 0) :: (dI a1.fFit) :: (dI a2) :: (dI v5) :: (.ptr 0 1) :: (dI a1.fSince) :: (dI (w64 (a1.fSince + 1))) :: (.v (.agg [(vI v5), (vI (w64 (a1.fSince + 1)))])) :: (.ptr 4 0) :: (dI v5) :: (.vptr [(vP eI a0.fR.fFrom), (vP eI a0.fR.fTo), (vP eI a0.fR.fLeft), (vP eI a0.fR.fRight), (vP eI a0.fWhole), (vP eI a0.fBack)]) :: (.vptr [(vP eI a0.fR.fFrom), (vP eI a0.fR.fTo), (vP eI a0.fR.fLeft), (vP eI a0.fR.fRight), (vP eI a0.fWhole), (vP eI a0.fBack)]) :: (.vptr [(vP eI a0.fWhole), (vP eI a0.fBack)]) :: (dP eI a0.fWhole) :: (dI (a0.fWhole.length : Int)) :: (dB (v5 == (a0.fWhole.length : Int))) :: (dB (v5 == (a0.fWhole.length : Int))) :: u40 (u27 [])))), [(b39_0 a1), (.cells [(dI 0), (dI 0)]), .dead, (AG.o (AG.app (AG.of .full (v2.map eI)) (List.map eI [a2])) 1 (List.map eI v4)), (.cells [(dI v5), (dI (w64 (a1.fSince + 1)))])]⟩ (by kernel_rfl) ?_
 refine Ops.hv (fun KQ => ∀ (d8 d9 d10 d11 d12 d13 d14 d15 d16 d17 d18 d19 d20 d21 d22 : D) (v23 : Bool) (v24 : Bool), f39_r2 m a0 a1 v4 v5 v24 = some o → KQ 25 ⟨(.vptr [(vP eI a0.fR.fFrom), (vP eI a0.fR.fTo), (vP eI a0.fR.fLeft), (vP eI a0.fR.fRight), (vP eI a0.fWhole), (vP eI a0.fBack)]) :: (.v (.agg [(vI a1.fFit), (vI a1.fSince)])) :: (dI a2) :: u1 ((.ptr 0 0) :: u1 ((.ptr 1 0) :: (.v (.sl .nil (List.map eI []))) :: (dI v1) :: (AG.d (AG.app (AG.of .full (v2.map eI)) (List.map eI [a2])) 3 (List.map eI v4)) :: (.ptr 4 0) :: (.v (.sl .nil (List.map eI []))) :: u1 ((.vptr [(vP eI a0.fR.fFrom), (vP eI a0.fR.fTo), (vP eI a0.fR.fLeft), (vP eI a0.fR.fRight), (vP eI a0.fWhole), (vP eI a0.fBack)]) :: (.v (.agg [(vI a1.fFit), (vI a1.fSince)])) :: (dI v1) :: (.vptr [(vP eI a0.fR.fFrom), (vP eI a0.fR.fTo), (vP eI a0.fR.fLeft), (vP eI a0.fR.fRight), (vP eI a0.fWhole), (vP eI a0.fBack)]) :: (.v (.agg [(vI a1.fFit), (vI a1.fSince)])) :: (dI v1) :: (dP eI v2) :: (AG.d (AG.of .full (v2.map eI)) 2 (List.map eI v2)) :: (dI a2) :: (.v (.sl .nonfull (List.map eI [a2]))) :: (AG.d (AG.app (AG.of .full (v2.map eI)) (List.map eI [a2])) 3 (List.map eI v4)) :: (.vptr [(vP eI a0.fR.fFrom), (vP eI a0.fR.fTo), (vP eI a0.fR.fLeft), (vP eI a0.fR.fRight), (vP eI a0.fWhole), (vP eI a0.fBack)]) :: (.ptr 0 0) :: (dI a1.fFit) :: (dI a2) :: (dI v5) :: (.ptr 0 1) :: (dI a1.fSince) :: (dI (w64 (a1.fSince + 1))) :: (.v (.agg [(vI v5), (vI (w64 (a1.fSince + 1)))])) :: (.ptr 4 0) :: (dI v5) :: (.vptr [(vP eI a0.fR.fFrom), (vP eI a0.fR.fTo), (vP eI a0.fR.fLeft), (vP eI a0.fR.fRight), (vP eI a0.fWhole), (vP eI a0.fBack)]) :: (.vptr [(vP eI a0.fR.fFrom), (vP eI a0.fR.fTo), (vP eI a0.fR.fLeft), (vP eI a0.fR.fRight), (vP eI a0.fWhole), (vP eI a0.fBack)]) :: (.vptr [(vP eI a0.fWhole), (vP eI a0.fBack)]) :: (dP eI a0.fWhole) :: (dI (a0.fWhole.length : Int)) :: (dB v23) :: (dB v23) :: d8 :: d9 :: d10 :: d11 :: d12 :: d13 :: d14 :: d15 :: d16 :: d17 :: d18 :: d19 :: d20 :: d21 :: d22 :: (dB v24) :: u40 (u11 [])))), [(b39_0 a1), (.cells [(dI 0), (dI 0)]), .dead, (AG.o (AG.app (AG.of .full (v2.map eI)) (List.map eI [a2])) 1 (List.map eI v4)), (.cells [(dI v5), (dI (w64 (a1.fSince + 1)))])]⟩) ?_ fun J39j25 => ?_
 ·intro d8 d9 d10 d11 d12 d13 d14 d15 d16 d17 d18 d19 d20 d21 d22 v23 v24 h
  unfold f39_r2 at h
  refine Ops.dn ?_
  refine seqQ.n ?_
  have J39j31 : ∀ (v26 : (List Int)) (v28 : (List Int)) (v30 : Int) (ar27 : AR) (ag29 : AG), f39_j1 m a0 v5 v26 v28 v30 = some o → (seqQ (X39 n) (cR (cR (cR (cR (cR (cR C39)))))) (fnQ (X39 n).E.T (resOf Proofs.Try.prog 39) (.tuple [e75 o.1, (eL eI) o.2]))) .normal ⟨(.vptr [(vP eI a0.fR.fFrom), (vP eI a0.fR.fTo), (vP eI a0.fR.fLeft), (vP eI a0.fR.fRight), (vP eI a0.fWhole), (vP eI a0.fBack)]) :: q5 ((.ptr 1 0) :: (.v (.sl .nil (List.map eI []))) :: q1 ((AR.d ar27 3 (List.map eI v26)) :: (.ptr 4 0) :: (AG.d ag29 5 (List.map eI v28)) :: q40 (q40 (q17 [])))), [(b39_0 a1), (.cells [(dI 0), (dI 0)]), .dead, (AG.o (AG.app (AG.of .full (v2.map eI)) (List.map eI [a2])) 1 (List.map eI v4)), (.cells [(dI v5), (dI v30)]), (AG.o ag29 1 (List.map eI v28))]⟩ := by
   intro v26 v28 v30 ar27 ag29 h
   unfold f39_j1 at h
   refine seqQ.n ?_
   refine Wp.sq ?_
   refine Wp.rg ?_
   refine Ops.sg 9 9 ?_
   refine Ops.on 10 (fun h0 e0 => (len_r (T := T) h0 22 3 .plain eI a0.fR.fLeft (by kernel_rfl))) ?_
   refine Ops.sg 5 15 ?_
   refine Ops.dn ?_
   refine seqQ.n ?_
   refine Wp.sq ?_
   refine Wp.rg ?_
   refine Ops.sg 2 2 ?_
   obtain ⟨v32, ev32, h⟩ := bnd_some h
   refine Ops.on 3 (fun h0 e0 => (call_ok (E' := E) (h := h0) (by kernel_rfl) (Args.vp [(vP eI a0.fR.fFrom), (vP eI a0.fR.fTo), (vP eI a0.fR.fLeft), (vP eI a0.fR.fRight), (vP eI a0.fWhole), (vP eI a0.fBack)] (Args.v (.agg [(vI v5), (vI (if (if w64 (v5 - (a0.fR.fLeft.length : Int)) > 0 then w64 (v5 - (a0.fR.fLeft.length : Int)) else 0) < v30 then (if w64 (v5 - (a0.fR.fLeft.length : Int)) > 0 then w64 (v5 - (a0.fR.fLeft.length : Int)) else 0) else v30))]) (e75 ((⟨v5, (if (if w64 (v5 - (a0.fR.fLeft.length : Int)) > 0 then w64 (v5 - (a0.fR.fLeft.length : Int)) else 0) < v30 then (if w64 (v5 - (a0.fR.fLeft.length : Int)) > 0 then w64 (v5 - (a0.fR.fLeft.length : Int)) else 0) else v30)⟩ : S75))) (by kernel_rfl) Args.nil)) (ok32 m a0 ((⟨v5, (if (if w64 (v5 - (a0.fR.fLeft.length : Int)) > 0 then w64 (v5 - (a0.fR.fLeft.length : Int)) else 0) < v30 then (if w64 (v5 - (a0.fR.fLeft.length : Int)) > 0 then w64 (v5 - (a0.fR.fLeft.length : Int)) else 0) else v30)⟩ : S75)) v32 ev32 n (by omega)))) ?_
   refine Ops.sg 1 4 ?_
   refine Ops.dn ?_
   refine seqQ.n ?_
   refine Wp.sq ?_
   refine Wp.rg ?_
   refine Ops.sg 4 4 ?_
   refine Ops.on 5 (fun h0 e0 => (len_d (T := T) h0 22 3 (AR.d ar27 3 (List.map eI v26)) eI v26 (AR.hd _ _ _) (by kernel_rfl))) ?_
   refine Ops.sg 2 7 ?_
   obtain ⟨v33, ev33, h⟩ := bnd_some h
   refine Ops.on 8 (fun h0 e0 => (sub_x (T := T) h0 22 3 1 (AR.d ar27 3 (List.map eI v26)) eI v26 v33 none (some (w64 ((v26.length : Int) - v32))) (AR.hd _ _ _) ev33 (by kernel_rfl) (by kernel_rfl) (fun _ => rfl))) ?_
   obtain ⟨v34, ev34, h⟩ := bnd_some h
   refine Ops.on 9 (fun h0 e0 => (app_g (T := T) h0 22 3 5 1 ti3 ag29 (sfl (dfl (AR.d ar27 3 (List.map eI v26))) v26.length (some (w64 ((v26.length : Int) - v32)))) eI v28 v33 v34 ev34 (by kernel_rfl) (by kernel_rfl) (by kernel_rfl) (by kernel_rfl) (fun _ => rfl) (hq_of e0 (by kernel_rfl)))) ?_
   refine Ops.sg 2 11 ?_
   refine Ops.dn ?_
   refine seqQ.n ?_
   refine Wp.ret (by kernel_rfl) ?_
   exact fnQ.r' (X39 n) (fun z => (.tuple [e75 z.1, (eL eI) z.2])) h (RetOk.tup [(.v (.agg [(vI v5), (vI (if (if w64 (v5 - (a0.fR.fLeft.length : Int)) > 0 then w64 (v5 - (a0.fR.fLeft.length : Int)) else 0) < v30 then (if w64 (v5 - (a0.fR.fLeft.length : Int)) > 0 then w64 (v5 - (a0.fR.fLeft.length : Int)) else 0) else v30))])), (AG.d (AG.app ag29 (List.map eI v33)) 6 (List.map eI v34))] (by kernel_rfl) (.v (.agg [(vI v5), (vI (if (if w64 (v5 - (a0.fR.fLeft.length : Int)) > 0 then w64 (v5 - (a0.fR.fLeft.length : Int)) else 0) < v30 then (if w64 (v5 - (a0.fR.fLeft.length : Int)) > 0 then w64 (v5 - (a0.fR.fLeft.length : Int)) else 0) else v30))]) _ (by kernel_rfl) (by kernel_rfl) (.d (AG.d (AG.app ag29 (List.map eI v33)) 6 (List.map eI v34)) _ (AG.frz _ _ _ _ _) (AG.nt _ _ _) .nil)))
  refine Wp.cnd h [0, 6, 7, 9, 10, 11] 5 (by kernel_rfl) (fun h => ?_) (fun h => ?_)
  ·refine Wp.sq ?_
   refine Wp.rg ?_
   refine Ops.sg 6 6 ?_
   obtain ⟨v35, ev35, h⟩ := bnd_some h
   refine Ops.on 7 (fun h0 e0 => (app_n (T := T) (g := .nil) h0 22 3 1 ti3 .plain eI a0.fR.fTo v35 ev35 (by kernel_rfl) (by kernel_rfl) (by kernel_rfl) (by kernel_rfl) (fun _ => rfl))) ?_
   refine Ops.sg 1 8 ?_
   refine Ops.dn ?_
   refine seqQ.n ?_
   refine Wp.sq ?_
   refine Wp.rg ?_
   refine Ops.sg 2 2 ?_
   refine Ops.on 3 (fun h0 e0 => (len_g (T := T) h0 22 3 3 (AG.app (AG.of .full (v2.map eI)) (List.map eI [a2])) eI v4 (by kernel_rfl))) ?_
   refine Ops.sg 5 8 ?_
   refine Ops.on 9 (fun h0 e0 => (len_r (T := T) h0 22 3 .plain eI a0.fR.fRight (by kernel_rfl))) ?_
   refine Ops.sg 1 10 ?_
   obtain ⟨v36, ev36, h⟩ := bnd_some h
   refine Ops.on 11 (fun h0 e0 => (sub_x (T := T) h0 22 3 1 (AG.d (AG.app (AG.of .full (v2.map eI)) (List.map eI [a2])) 3 (List.map eI v4)) eI v4 v36 (some (w64 ((v4.length : Int) - (a0.fR.fRight.length : Int)))) none (AG.hd _ _ _) ev36 (by kernel_rfl) (by kernel_rfl) (fun _ => rfl))) ?_
   refine Ops.sg 1 12 ?_
   refine Ops.dn ?_
   refine seqQ.n ?_
   refine Wp.rg ?_
   refine Ops.sg 5 5 ?_
   refine Ops.on 6 (fun h0 e0 => (len_r (T := T) h0 22 3 .plain eI a0.fR.fRight (by kernel_rfl))) ?_
   refine Ops.sg 2 8 ?_
   refine Ops.dn ?_
   refine sqQ.n ⟨(.vptr [(vP eI a0.fR.fFrom), (vP eI a0.fR.fTo), (vP eI a0.fR.fLeft), (vP eI a0.fR.fRight), (vP eI a0.fWhole), (vP eI a0.fBack)]) :: q5 ((.ptr 1 0) :: (.v (.sl .nil (List.map eI []))) :: q1 ((AR.d (AR.fl (sfl (dfl (AG.d (AG.app (AG.of .full (v2.map eI)) (List.map eI [a2])) 3 (List.map eI v4))) v4.length none)) 3 (List.map eI v36)) :: (.ptr 4 0) :: (AG.d (AG.of .nil (List.map eI v35)) 5 (List.map eI v35)) :: q40 (q40 (q17 [])))), [(b39_0 a1), (.cells [(dI 0), (dI 0)]), .dead, (AG.o (AG.app (AG.of .full (v2.map eI)) (List.map eI [a2])) 1 (List.map eI v4)), (.cells [(dI v5), (dI (a0.fR.fRight.length : Int))]), (AG.o (AG.of .nil (List.map eI v35)) 1 (List.map eI v35))]⟩ (by generalize (AG.app (AG.of .full (v2.map eI)) (List.map eI [a2])) = g0; generalize v35 = z0; cases g0 <;> cases z0 <;> (as_aux_lemma => kernel_rfl)) ?_
   exact J39j31 v36 v35 (a0.fR.fRight.length : Int) _ _ h
  ·refine Wp.sk ?_
   refine sqQ.n ⟨(.vptr [(vP eI a0.fR.fFrom), (vP eI a0.fR.fTo), (vP eI a0.fR.fLeft), (vP eI a0.fR.fRight), (vP eI a0.fWhole), (vP eI a0.fBack)]) :: q5 ((.ptr 1 0) :: (.v (.sl .nil (List.map eI []))) :: q1 ((AR.d (AR.ag (AG.app (AG.of .full (v2.map eI)) (List.map eI [a2]))) 3 (List.map eI v4)) :: (.ptr 4 0) :: (AG.d (AG.fl .nil) 5 (List.map eI [])) :: q40 (q40 (q17 [])))), [(b39_0 a1), (.cells [(dI 0), (dI 0)]), .dead, (AG.o (AG.app (AG.of .full (v2.map eI)) (List.map eI [a2])) 1 (List.map eI v4)), (.cells [(dI v5), (dI (w64 (a1.fSince + 1)))]), (AG.o (AG.fl .nil) 1 (List.map eI []))]⟩ (by generalize (AG.app (AG.of .full (v2.map eI)) (List.map eI [a2])) = g0; cases g0 <;> kernel_rfl) ?_
   exact J39j31 v4 [] (w64 (a1.fSince + 1)) _ _ h
 refine Ops.hv (fun KQ => ∀ v6 : Bool, f39_r2 m a0 a1 v4 v5 (v6 && (decide (w64 ((a0.fWhole.length : Int) - (a0.fR.fLeft.length : Int)) ≤ w64 (a1.fSince + 1)))) = some o → KQ 9 ⟨(.vptr [(vP eI a0.fR.fFrom), (vP eI a0.fR.fTo), (vP eI a0.fR.fLeft), (vP eI a0.fR.fRight), (vP eI a0.fWhole), (vP eI a0.fBack)]) :: (.v (.agg [(vI a1.fFit), (vI a1.fSince)])) :: (dI a2) :: u1 ((.ptr 0 0) :: u1 ((.ptr 1 0) :: (.v (.sl .nil (List.map eI []))) :: (dI v1) :: (AG.d (AG.app (AG.of .full (v2.map eI)) (List.map eI [a2])) 3 (List.map eI v4)) :: (.ptr 4 0) :: (.v (.sl .nil (List.map eI []))) :: u1 ((.vptr [(vP eI a0.fR.fFrom), (vP eI a0.fR.fTo), (vP eI a0.fR.fLeft), (vP eI a0.fR.fRight), (vP eI a0.fWhole), (vP eI a0.fBack)]) :: (.v (.agg [(vI a1.fFit), (vI a1.fSince)])) :: (dI v1) :: (.vptr [(vP eI a0.fR.fFrom), (vP eI a0.fR.fTo), (vP eI a0.fR.fLeft), (vP eI a0.fR.fRight), (vP eI a0.fWhole), (vP eI a0.fBack)]) :: (.v (.agg [(vI a1.fFit), (vI a1.fSince)])) :: (dI v1) :: (dP eI v2) :: (AG.d (AG.of .full (v2.map eI)) 2 (List.map eI v2)) :: (dI a2) :: (.v (.sl .nonfull (List.map eI [a2]))) :: (AG.d (AG.app (AG.of .full (v2.map eI)) (List.map eI [a2])) 3 (List.map eI v4)) :: (.vptr [(vP eI a0.fR.fFrom), (vP eI a0.fR.fTo), (vP eI a0.fR.fLeft), (vP eI a0.fR.fRight), (vP eI a0.fWhole), (vP eI a0.fBack)]) :: (.ptr 0 0) :: (dI a1.fFit) :: (dI a2) :: (dI v5) :: (.ptr 0 1) :: (dI a1.fSince) :: (dI (w64 (a1.fSince + 1))) :: (.v (.agg [(vI v5), (vI (w64 (a1.fSince + 1)))])) :: (.ptr 4 0) :: (dI v5) :: (.vptr [(vP eI a0.fR.fFrom), (vP eI a0.fR.fTo), (vP eI a0.fR.fLeft), (vP eI a0.fR.fRight), (vP eI a0.fWhole), (vP eI a0.fBack)]) :: (.vptr [(vP eI a0.fR.fFrom), (vP eI a0.fR.fTo), (vP eI a0.fR.fLeft), (vP eI a0.fR.fRight), (vP eI a0.fWhole), (vP eI a0.fBack)]) :: (.vptr [(vP eI a0.fWhole), (vP eI a0.fBack)]) :: (dP eI a0.fWhole) :: (dI (a0.fWhole.length : Int)) :: (dB v6) :: (dB v6) :: u40 (u27 [])))), [(b39_0 a1), (.cells [(dI 0), (dI 0)]), .dead, (AG.o (AG.app (AG.of .full (v2.map eI)) (List.map eI [a2])) 1 (List.map eI v4)), (.cells [(dI v5), (dI (w64 (a1.fSince + 1)))])]⟩) ?_ fun G39g7 => Ops.st _ (by kernel_rfl) (G39g7 (v5 == (a0.fWhole.length : Int)) h)
 intro v6 h
 cases v6
 ·refine Ops.sg 16 25 ?_
  exact Ops.st _ (by kernel_rfl) (J39j25 U U U U U U U U U U U U U U U false false h)
 ·refine Ops.sg 4 13 ?_
  refine Ops.on 14 (fun h0 e0 => (len_r (T := T) h0 22 3 .plain eI a0.fWhole (by kernel_rfl))) ?_
  refine Ops.sg 5 19 ?_
  refine Ops.on 20 (fun h0 e0 => (len_r (T := T) h0 22 3 .plain eI a0.fR.fLeft (by kernel_rfl))) ?_
  refine Ops.sg 5 25 ?_
  exact Ops.st _ (by kernel_rfl) (J39j25 ((.vptr [(vP eI a0.fR.fFrom), (vP eI a0.fR.fTo), (vP eI a0.fR.fLeft), (vP eI a0.fR.fRight), (vP eI a0.fWhole), (vP eI a0.fBack)])) ((.vptr [(vP eI a0.fR.fFrom), (vP eI a0.fR.fTo), (vP eI a0.fR.fLeft), (vP eI a0.fR.fRight), (vP eI a0.fWhole), (vP eI a0.fBack)])) ((.vptr [(vP eI a0.fWhole), (vP eI a0.fBack)])) (dP eI a0.fWhole) (dI (a0.fWhole.length : Int)) ((.vptr [(vP eI a0.fR.fFrom), (vP eI a0.fR.fTo), (vP eI a0.fR.fLeft), (vP eI a0.fR.fRight), (vP eI a0.fWhole), (vP eI a0.fBack)])) ((.vptr [(vP eI a0.fR.fFrom), (vP eI a0.fR.fTo), (vP eI a0.fR.fLeft), (vP eI a0.fR.fRight), (vP eI a0.fWhole), (vP eI a0.fBack)])) ((.vptr [(vP eI a0.fR.fFrom), (vP eI a0.fR.fTo), (vP eI a0.fR.fLeft), (vP eI a0.fR.fRight), (vP eI a0.fWhole), (vP eI a0.fBack)])) ((.vptr [(vP eI a0.fR.fLeft), (vP eI a0.fR.fRight), (vP eI a0.fWhole), (vP eI a0.fBack)])) (dP eI a0.fR.fLeft) (dI (a0.fR.fLeft.length : Int)) (dI (w64 ((a0.fWhole.length : Int) - (a0.fR.fLeft.length : Int)))) (.ptr 4 1) (dI (w64 (a1.fSince + 1))) (dB (decide (w64 ((a0.fWhole.length : Int) - (a0.fR.fLeft.length : Int)) ≤ w64 (a1.fSince + 1)))) true (decide (w64 ((a0.fWhole.length : Int) - (a0.fR.fLeft.length : Int)) ≤ w64 (a1.fSince + 1))) h)
def f28_B1 (m : Nat) (a0 : (List (List Int))) (v5 : Int) (v6 : Int) : Option (Stp (List Int) (Int × Int)) :=
 cnd (decide (v6 < (a0.length : Int)))
 (bnd (idx a0 v6) fun v16 =>
 cnd (decide (w64 (v5 + (v16.length : Int)) < 0))
 (none)
 (some (.nxt (w64 (v5 + (v16.length : Int)), w64 (v6 + 1)))))
 (some (.brk (v5, v6)))
def f28_B2 (m : Nat) (a0 : (List (List Int))) (v28 : (List Int)) (v30 : Int) : Option (Stp (List Int) ((List Int) × Int)) :=
 cnd (decide (v30 < (a0.length : Int)))
 (bnd (idx a0 v30) fun v40 =>
 bnd (app 8 v28 v40) fun v41 =>
 some (.nxt (v41, w64 (v30 + 1))))
 (some (.brk (v28, v30)))
def f28 (m : Nat) (a0 : (List (List Int))) : Option (List Int) :=
 brk (iter (fun (y : Int × Int) => f28_B1 m a0 y.1 y.2) m (0, 0)) some fun y18 =>
 bnd (grw 8 y18.1) fun v20 =>
 brk (iter (fun (y : (List Int) × Int) => f28_B2 m a0 y.1 y.2) m ([], 0)) some fun y43 =>
 some y43.1
noncomputable abbrev X28 (n : Nat) : Cx := cxOf Proofs.Try.prog E 28 n
noncomputable def C28 : Code := bodyOf Proofs.Try.prog 28
theorem ok28 (m : Nat) (a0 : (List (List Int))) (o : (List Int)) (h : f28 m a0 = some o) (n : Nat) (hn : m + 2 ≤ n) : Fn Proofs.Try.prog E n 28 [.v ((eL (eL eI)) a0)] ((eL eI) o) := by
 obtain ⟨n, rfl⟩ : ∃ q, n = q + 1 := ⟨n - 1, by omega⟩
 unfold f28 at h
 refine Fn.of (by kernel_rfl) (by kernel_rfl) (by kernel_rfl) ⟨(dP (eL eI) a0) :: u35 [], []⟩ (by kernel_rfl) ?_
 refine Wp.sq ?_
 refine Wp.rg ?_
 refine Ops.sg 1 1 ?_
 refine Ops.dn ?_
 refine seqQ.n ?_
 refine Wp.sq ?_
 refine Wp.rg ?_
 refine Ops.sg 1 1 ?_
 refine Ops.dn ?_
 refine seqQ.n ?_
 refine Wp.sq ?_
 refine Wp.sq ?_
 refine Wp.rg ?_
 refine Ops.sg 1 1 ?_
 refine Ops.on 2 (fun h0 e0 => (len_r (T := T) h0 100 22 .plain (eL eI) a0 (by kernel_rfl))) ?_
 refine Ops.sg 1 3 ?_
 refine Ops.dn ?_
 refine seqQ.n ?_
 refine Wp.block' 0 [0, 2, 3] 0 (by kernel_rfl) ?_
 have hLx17 : ∀ (kx8 : Nat) (v5 : Int) (v6 : Int)  (ox7 : (List Int) ⊕ (Int × Int)), iter (fun (y : Int × Int) => f28_B1 m a0 y.1 y.2) kx8 (v5, v6) = some ox7 → ∀ nx9, kx8 ≤ nx9 → (∀ r, ox7 = .inl r → ∀ σ, RetOk (X28 n) (resOf Proofs.Try.prog 28) ((eL eI) r) σ → (seqQ (X28 n) (cR (cR (cR C28))) (fnQ (X28 n).E.T (resOf Proofs.Try.prog 28) ((eL eI) o))) .ret σ) → (∀ (y : Int × Int) , ox7 = .inr y → (seqQ (X28 n) (cR (cR (cR C28))) (fnQ (X28 n).E.T (resOf Proofs.Try.prog 28) ((eL eI) o))) .normal ⟨(dP (eL eI) a0) :: q1 ((.v (.sl .nil (List.map eI []))) :: (dI y.1) :: q32 []), [.dead]⟩) → Lp (X28 n) [0, 2, 3, 9, 10, 11] 0 (cL (cL (cR (cL (cR (cR C28)))))) nx9 ⟨(dP (eL eI) a0) :: q1 ((.v (.sl .nil (List.map eI []))) :: (dI v5) :: q5 ((dP (eL eI) a0) :: (dI (a0.length : Int)) :: (dI v6) :: q24 [])), [.dead]⟩ (blkQ (X28 n) 0 [0, 2, 3] 0 (seqQ (X28 n) (cR (cR (cR C28))) (fnQ (X28 n).E.T (resOf Proofs.Try.prog 28) ((eL eI) o)))) := by
  intro kx8
  induction kx8 with
  | zero => intro v5 v6  ox7 h; exact (iter_zero h).elim
  | succ kx8 ihx10 =>
   intro v5 v6  ox7 h nx9 hnx13 hrx11 hxx12
   obtain ⟨nx9, rfl⟩ : ∃ q, nx9 = q + 1 := ⟨nx9 - 1, by omega⟩
   obtain ⟨sx14, h, hsx15⟩ := iter_some h
   have h : f28_B1 m a0 v5 v6 = some sx14 := h
   unfold f28_B1 at h
   refine Lp.succ ?_
   refine Wp.sq ?_
   refine Wp.rg ?_
   refine Ops.sg 1 1 ?_
   refine Ops.dn ?_
   refine seqQ.n ?_
   refine Wp.sq ?_
   refine Wp.cnd h [0, 2, 3, 9, 10, 11] 1 (by kernel_rfl) (fun h => ?_) (fun h => ?_)
   ·refine Wp.sk ?_
    refine sqQ.n' ?_
    refine seqQ.n ?_
    refine Wp.sq ?_
    refine Wp.block' 1 [0, 2, 3, 9, 10, 11] 2 (by kernel_rfl) ?_
    refine Wp.sq ?_
    refine Wp.rg ?_
    obtain ⟨v16, ev16, h⟩ := bnd_some h
    refine Ops.on 1 (fun h0 e0 => (ix_r (T := T) h0 100 22 1 .plain (eL eI) a0 v6 v16 ev16 (by kernel_rfl) (by kernel_rfl) (fun _ => rfl))) ?_
    refine Ops.sg 2 3 ?_
    refine Ops.dn ?_
    refine seqQ.n ?_
    refine Wp.sq ?_
    refine Wp.rg ?_
    refine Ops.sg 2 2 ?_
    refine Ops.on 3 (fun h0 e0 => (len_r (T := T) h0 22 3 .plain eI v16 (by kernel_rfl))) ?_
    refine Ops.sg 2 5 ?_
    refine Ops.dn ?_
    refine seqQ.n ?_
    refine Wp.sq ?_
    refine Wp.rg ?_
    refine Ops.sg 2 2 ?_
    refine Ops.dn ?_
    refine seqQ.n ?_
    refine Wp.cnd h [0, 2, 3, 9, 10, 11] 2 (by kernel_rfl) (fun h => ?_) (fun h => ?_)
    ·cases h
    ·refine Wp.sk ?_
     refine sqQ.n' ?_
     refine blkQ.n' ?_
     refine seqQ.n ?_
     refine Wp.rg ?_
     refine Ops.sg 2 2 ?_
     refine Ops.dn ?_
     refine lpQ.n ⟨(dP (eL eI) a0) :: q1 ((.v (.sl .nil (List.map eI []))) :: (dI (w64 (v5 + (v16.length : Int)))) :: q5 ((dP (eL eI) a0) :: (dI (a0.length : Int)) :: (dI (w64 (v6 + 1))) :: q24 [])), [.dead]⟩ (by kernel_rfl) ?_
     cases h
     exact ihx10 (w64 (v5 + (v16.length : Int))) (w64 (v6 + 1))  _ hsx15 _ (by omega) hrx11 hxx12
   ·refine Wp.exit (id := 0) (by kernel_rfl) ?_
    refine sqQ.x ?_
    refine seqQ.x ?_
    cases h
    refine lpQ.x ?_
    refine blkQ.x ⟨(dP (eL eI) a0) :: q1 ((.v (.sl .nil (List.map eI []))) :: (dI v5) :: q32 []), [.dead]⟩ (by kernel_rfl) ?_
    exact hxx12 (v5, v6)  hsx15
 refine Wp.loop' [0, 2, 3, 9, 10, 11] 0 (by kernel_rfl) ⟨(dP (eL eI) a0) :: q1 ((.v (.sl .nil (List.map eI []))) :: (dI 0) :: q5 ((dP (eL eI) a0) :: (dI (a0.length : Int)) :: (dI 0) :: q24 [])), [.dead]⟩ (by kernel_rfl) ?_
 rcases brk_some h with ⟨r19, er19, h⟩ | ⟨y18, ey18, h⟩
 ·refine hLx17 _ 0 0  _ er19 n (by omega) (fun r er σ hσ => ?_) (fun y  ey => by cases ey)
  cases er
  refine seqQ.r ?_
  exact fnQ.r' (X28 n) (fun z => ((eL eI) z)) h hσ
 ·refine hLx17 _ 0 0  _ ey18 n (by omega) (fun r er => by cases er) (fun y  ey => ?_)
  cases ey
  refine seqQ.n ?_
  refine Wp.sq ?_
  refine Wp.rg ?_
  refine Ops.sg 1 1 ?_
  obtain ⟨v20, ev20, h⟩ := bnd_some h
  refine Ops.on 2 (fun h0 e0 => (callD_own (P := Proofs.Try.prog) (E := E) (E' := E) (n := n) (f := 46) (by kernel_rfl) (by kernel_rfl) (by kernel_rfl) (row_growT h0 1 8 y18.1 v20 ev20) (by omega))) ?_
  refine Ops.sg 1 3 ?_
  refine Ops.dn ?_
  refine seqQ.n ?_
  refine Wp.sq ?_
  refine Wp.sq ?_
  refine Wp.rg ?_
  refine Ops.sg 1 1 ?_
  refine Ops.on 2 (fun h0 e0 => (len_r (T := T) h0 100 22 .plain (eL eI) a0 (by kernel_rfl))) ?_
  refine Ops.sg 1 3 ?_
  refine Ops.dn ?_
  refine seqQ.n ?_
  refine Wp.block' 2 [2, 6] 2 (by kernel_rfl) ?_
  have hLx42 : ∀ (kx32 : Nat) (v28 : (List Int)) (v30 : Int) (ag29 : AG) (ox31 : (List Int) ⊕ ((List Int) × Int)), iter (fun (y : (List Int) × Int) => f28_B2 m a0 y.1 y.2) kx32 (v28, v30) = some ox31 → ∀ nx33, kx32 ≤ nx33 → (∀ r, ox31 = .inl r → ∀ σ, RetOk (X28 n) (resOf Proofs.Try.prog 28) ((eL eI) r) σ → (seqQ (X28 n) (cR (cR (cR (cR (cR C28))))) (fnQ (X28 n).E.T (resOf Proofs.Try.prog 28) ((eL eI) o))) .ret σ) → (∀ (y : (List Int) × Int) (ag29 : AG), ox31 = .inr y → (seqQ (X28 n) (cR (cR (cR (cR (cR C28))))) (fnQ (X28 n).E.T (resOf Proofs.Try.prog 28) ((eL eI) o))) .normal ⟨q2 ((.v (.sl .nil (List.map eI []))) :: q3 ((AG.d ag29 2 (List.map eI y.1)) :: q29 [])), [.dead, .dead, (AG.o ag29 1 (List.map eI y.1))]⟩) → Lp (X28 n) [2, 6, 25, 26, 27] 2 (cL (cL (cR (cL (cR (cR (cR (cR C28)))))))) nx33 ⟨q2 ((.v (.sl .nil (List.map eI []))) :: q3 ((AG.d ag29 2 (List.map eI v28)) :: q18 ((dP (eL eI) a0) :: (dI (a0.length : Int)) :: (dI v30) :: q8 []))), [.dead, .dead, (AG.o ag29 1 (List.map eI v28))]⟩ (blkQ (X28 n) 2 [2, 6] 2 (seqQ (X28 n) (cR (cR (cR (cR (cR C28))))) (fnQ (X28 n).E.T (resOf Proofs.Try.prog 28) ((eL eI) o)))) := by
   intro kx32
   induction kx32 with
   | zero => intro v28 v30 ag29 ox31 h; exact (iter_zero h).elim
   | succ kx32 ihx34 =>
    intro v28 v30 ag29 ox31 h nx33 hnx37 hrx35 hxx36
    obtain ⟨nx33, rfl⟩ : ∃ q, nx33 = q + 1 := ⟨nx33 - 1, by omega⟩
    obtain ⟨sx38, h, hsx39⟩ := iter_some h
    have h : f28_B2 m a0 v28 v30 = some sx38 := h
    unfold f28_B2 at h
    refine Lp.succ ?_
    refine Wp.sq ?_
    refine Wp.rg ?_
    refine Ops.sg 1 1 ?_
    refine Ops.dn ?_
    refine seqQ.n ?_
    refine Wp.sq ?_
    refine Wp.cnd h [2, 6, 25, 26, 27] 3 (by kernel_rfl) (fun h => ?_) (fun h => ?_)
    ·refine Wp.sk ?_
     refine sqQ.n ⟨q2 ((.v (.sl .nil (List.map eI []))) :: q3 ((AG.d ag29 3 (List.map eI v28)) :: q18 ((dP (eL eI) a0) :: (dI (a0.length : Int)) :: (dI v30) :: q8 []))), [.dead, .dead, .dead, (AG.o ag29 1 (List.map eI v28))]⟩ (by cases ag29 <;> kernel_rfl) ?_
     refine seqQ.n ?_
     refine Wp.sq ?_
     refine Wp.block' 3 [2, 6, 25, 26, 27] 4 (by kernel_rfl) ?_
     refine Wp.sq ?_
     refine Wp.rg ?_
     obtain ⟨v40, ev40, h⟩ := bnd_some h
     refine Ops.on 1 (fun h0 e0 => (ix_r (T := T) h0 100 22 1 .plain (eL eI) a0 v30 v40 ev40 (by kernel_rfl) (by kernel_rfl) (fun _ => rfl))) ?_
     refine Ops.sg 2 3 ?_
     refine Ops.dn ?_
     refine seqQ.n ?_
     refine Wp.rg ?_
     refine Ops.sg 2 2 ?_
     obtain ⟨v41, ev41, h⟩ := bnd_some h
     refine Ops.on 3 (fun h0 e0 => (app_g (T := T) h0 22 3 3 1 ti3 ag29 .plain eI v28 v40 v41 ev41 (by kernel_rfl) (by kernel_rfl) (by kernel_rfl) (by kernel_rfl) (fun _ => rfl) (hq_of e0 (by kernel_rfl)))) ?_
     refine Ops.sg 1 4 ?_
     refine Ops.dn ?_
     refine blkQ.n ⟨q2 ((.v (.sl .nil (List.map eI []))) :: q3 ((AG.d (AG.app ag29 (List.map eI v40)) 4 (List.map eI v41)) :: q18 ((dP (eL eI) a0) :: (dI (a0.length : Int)) :: (dI v30) :: q8 []))), [.dead, .dead, .dead, .dead, (AG.o (AG.app ag29 (List.map eI v40)) 1 (List.map eI v41))]⟩ (by generalize (AG.app ag29 (List.map eI v40)) = g0; cases g0 <;> kernel_rfl) ?_
     refine seqQ.n ?_
     refine Wp.rg ?_
     refine Ops.sg 2 2 ?_
     refine Ops.dn ?_
     refine lpQ.n ⟨q2 ((.v (.sl .nil (List.map eI []))) :: q3 ((AG.d (AG.app ag29 (List.map eI v40)) 2 (List.map eI v41)) :: q18 ((dP (eL eI) a0) :: (dI (a0.length : Int)) :: (dI (w64 (v30 + 1))) :: q8 []))), [.dead, .dead, (AG.o (AG.app ag29 (List.map eI v40)) 1 (List.map eI v41))]⟩ (by generalize (AG.app ag29 (List.map eI v40)) = g0; cases g0 <;> kernel_rfl) ?_
     cases h
     exact ihx34 v41 (w64 (v30 + 1)) _ _ hsx39 _ (by omega) hrx35 hxx36
    ·refine Wp.exit (id := 2) (by kernel_rfl) ?_
     refine sqQ.x ?_
     refine seqQ.x ?_
     cases h
     refine lpQ.x ?_
     refine blkQ.x ⟨q2 ((.v (.sl .nil (List.map eI []))) :: q3 ((AG.d ag29 2 (List.map eI v28)) :: q29 [])), [.dead, .dead, (AG.o ag29 1 (List.map eI v28))]⟩ (by cases ag29 <;> kernel_rfl) ?_
     exact hxx36 (v28, v30) _ hsx39
  refine Wp.loop' [2, 6, 25, 26, 27] 2 (by kernel_rfl) ⟨q2 ((.v (.sl .nil (List.map eI []))) :: q3 ((AG.d (AG.grown y18.1) 2 (List.map eI [])) :: q18 ((dP (eL eI) a0) :: (dI (a0.length : Int)) :: (dI 0) :: q8 []))), [.dead, .dead, (AG.o (AG.grown y18.1) 1 (List.map eI []))]⟩ (by generalize (AG.grown y18.1) = g0; cases g0 <;> kernel_rfl) ?_
  rcases brk_some h with ⟨r44, er44, h⟩ | ⟨y43, ey43, h⟩
  ·refine hLx42 _ [] 0 _ _ er44 n (by omega) (fun r er σ hσ => ?_) (fun y ag29 ey => by cases ey)
   cases er
   refine seqQ.r ?_
   exact fnQ.r' (X28 n) (fun z => ((eL eI) z)) h hσ
  ·refine hLx42 _ [] 0 _ _ ey43 n (by omega) (fun r er => by cases er) (fun y ag29 ey => ?_)
   cases ey
   refine seqQ.n ?_
   refine Wp.sq ?_
   refine Wp.rg ?_
   refine Ops.sg 2 2 ?_
   refine Ops.dn ?_
   refine seqQ.n ?_
   refine Wp.ret (by kernel_rfl) ?_
   exact fnQ.r' (X28 n) (fun z => ((eL eI) z)) h (RetOk.mk' (AG.d ag29 2 (List.map eI y43.1)) (by kernel_rfl) (AG.frz _ _ _ _ _))
def f27_r1 (m : Nat) (v18 : Int) (v34 : Bool) : Option (Stp Bool (Int)) :=
 cnd v34
 (some (.ret false))
 (some (.nxt (w64 (v18 + 1))))
def f27_B2 (m : Nat) (a0 : (List Int)) (v18 : Int) : Option (Stp Bool (Int)) :=
 cnd (decide (v18 < (a0.length : Int)))
 (bnd (idx a0 v18) fun v28 =>
 f27_r1 m v18 ((decide (v28 < 1)) || (decide (v28 > 1114111))))
 (some (.brk v18))
def f27 (m : Nat) (a0 : (List Int)) : Option Bool :=
 brk (iter (fun (y : Int) => f27_B2 m a0 y) m 0) some fun y37 =>
 some true
noncomputable abbrev X27 (n : Nat) : Cx := cxOf Proofs.Try.prog E 27 n
noncomputable def C27 : Code := bodyOf Proofs.Try.prog 27
theorem ok27 (m : Nat) (a0 : (List Int)) (o : Bool) (h : f27 m a0 = some o) (n : Nat) (hn : m + 1 ≤ n) : Fn Proofs.Try.prog E n 27 [.v ((eL eI) a0)] (eB o) := by
 obtain ⟨n, rfl⟩ : ∃ q, n = q + 1 := ⟨n - 1, by omega⟩
 unfold f27 at h
 refine Fn.of (by kernel_rfl) (by kernel_rfl) (by kernel_rfl) ⟨(dP eI a0) :: u17 [], []⟩ (by kernel_rfl) ?_
 refine Wp.sq ?_
 refine Wp.rg ?_
 refine Ops.sg 1 1 ?_
 refine Ops.dn ?_
 refine seqQ.n ?_
 refine Wp.sq ?_
 refine Wp.sq ?_
 refine Wp.rg ?_
 refine Ops.sg 1 1 ?_
 refine Ops.on 2 (fun h0 e0 => (len_r (T := T) h0 22 3 .plain eI a0 (by kernel_rfl))) ?_
 refine Ops.sg 1 3 ?_
 refine Ops.dn ?_
 refine seqQ.n ?_
 refine Wp.block' 0 [2] 0 (by kernel_rfl) ?_
 have hLx36 : ∀ (kx20 : Nat) (v18 : Int)  (ox19 : Bool ⊕ (Int)), iter (fun (y : Int) => f27_B2 m a0 y) kx20 v18 = some ox19 → ∀ nx21, kx20 ≤ nx21 → (∀ r, ox19 = .inl r → ∀ σ, RetOk (X27 n) (resOf Proofs.Try.prog 27) (eB r) σ → (seqQ (X27 n) (cR (cR C27)) (fnQ (X27 n).E.T (resOf Proofs.Try.prog 27) (eB o))) .ret σ) → (∀ (y : Int) , ox19 = .inr y → (seqQ (X27 n) (cR (cR C27)) (fnQ (X27 n).E.T (resOf Proofs.Try.prog 27) (eB o))) .normal ⟨q2 ((dB false) :: q2 ((dP eI a0) :: (dI (a0.length : Int)) :: (dI y) :: q10 [])), []⟩) → Lp (X27 n) [2, 5, 6, 7] 0 (cL (cL (cR (cL (cR C27))))) nx21 ⟨q2 ((dB false) :: q2 ((dP eI a0) :: (dI (a0.length : Int)) :: (dI v18) :: q10 [])), []⟩ (blkQ (X27 n) 0 [2] 0 (seqQ (X27 n) (cR (cR C27)) (fnQ (X27 n).E.T (resOf Proofs.Try.prog 27) (eB o)))) := by
  intro kx20
  induction kx20 with
  | zero => intro v18  ox19 h; exact (iter_zero h).elim
  | succ kx20 ihx22 =>
   intro v18  ox19 h nx21 hnx25 hrx23 hxx24
   obtain ⟨nx21, rfl⟩ : ∃ q, nx21 = q + 1 := ⟨nx21 - 1, by omega⟩
   obtain ⟨sx26, h, hsx27⟩ := iter_some h
   have h : f27_B2 m a0 v18 = some sx26 := h
   unfold f27_B2 at h
   refine Lp.succ ?_
   refine Wp.sq ?_
   refine Wp.rg ?_
   refine Ops.sg 1 1 ?_
   refine Ops.dn ?_
   refine seqQ.n ?_
   refine Wp.sq ?_
   refine Wp.cnd h [2, 5, 6, 7] 0 (by kernel_rfl) (fun h => ?_) (fun h => ?_)
   ·refine Wp.sk ?_
    refine sqQ.n' ?_
    refine seqQ.n ?_
    refine Wp.sq ?_
    refine Wp.block' 1 [2, 5, 6, 7] 0 (by kernel_rfl) ?_
    refine Wp.sq ?_
    refine Wp.rg ?_
    obtain ⟨v28, ev28, h⟩ := bnd_some h
    refine Ops.on 1 (fun h0 e0 => (ix_r (T := T) h0 22 3 1 .plain eI a0 v18 v28 ev28 (by kernel_rfl) (by kernel_rfl) (fun _ => rfl))) ?_
    refine Ops.sg 2 3 ?_
    refine Ops.dn ?_
    refine seqQ.n ?_
    refine Wp.sq ?_
    refine Wp.rg ?_
    refine Ops.sg 3 3 ?_
    refine Ops.hv (fun KQ => ∀ (d31 d32 : D) (v33 : Bool) (v34 : Bool), f27_r1 m v18 v34 = some sx26 → KQ 6 ⟨q2 ((dB false) :: q1 ((dI v28) :: (dP eI a0) :: (dI (a0.length : Int)) :: (dI v18) :: (dB (decide (v18 < (a0.length : Int)))) :: (.vptr [(vI v28)]) :: (dI v28) :: (dI v28) :: (dB v33) :: (dB v33) :: d31 :: d32 :: (dB v34) :: q1 [])), []⟩) ?_ fun J27j35 => ?_
    ·intro d31 d32 v33 v34 h
     unfold f27_r1 at h
     refine Ops.dn ?_
     refine seqQ.n ?_
     refine Wp.cnd h [2, 5, 6, 7] 0 (by kernel_rfl) (fun h => ?_) (fun h => ?_)
     ·refine Wp.sq ?_
      refine Wp.rg ?_
      refine Ops.sg 1 1 ?_
      refine Ops.dn ?_
      refine seqQ.n ?_
      refine Wp.ret (by kernel_rfl) ?_
      refine sqQ.r ?_
      refine blkQ.r ?_
      refine seqQ.r ?_
      cases h
      refine lpQ.r ?_
      refine blkQ.r ?_
      exact hrx23 _ hsx27 _ (RetOk.forget [2, 5, 6, 7] (by kernel_rfl) (RetOk.mk' (dB false) (by kernel_rfl) (by kernel_rfl)))
     ·refine Wp.sk ?_
      refine sqQ.n' ?_
      refine blkQ.n' ?_
      refine seqQ.n ?_
      refine Wp.rg ?_
      refine Ops.sg 2 2 ?_
      refine Ops.dn ?_
      refine lpQ.n ⟨q2 ((dB false) :: q2 ((dP eI a0) :: (dI (a0.length : Int)) :: (dI (w64 (v18 + 1))) :: q10 [])), []⟩ (by kernel_rfl) ?_
      cases h
      exact ihx22 (w64 (v18 + 1))  _ hsx27 _ (by omega) hrx23 hxx24
    refine Ops.hv (fun KQ => ∀ v29 : Bool, f27_r1 m v18 (v29 || (decide (v28 > 1114111))) = some sx26 → KQ 3 ⟨q2 ((dB false) :: q1 ((dI v28) :: (dP eI a0) :: (dI (a0.length : Int)) :: (dI v18) :: (dB (decide (v18 < (a0.length : Int)))) :: (.vptr [(vI v28)]) :: (dI v28) :: (dI v28) :: (dB v29) :: (dB v29) :: q4 [])), []⟩) ?_ fun G27g30 => Ops.st _ (by kernel_rfl) (G27g30 (decide (v28 < 1)) h)
    intro v29 h
    cases v29
    ·refine Ops.sg 3 6 ?_
     exact Ops.st _ (by kernel_rfl) (J27j35 (dI v28) (dB (decide (v28 > 1114111))) false (decide (v28 > 1114111)) h)
    ·refine Ops.sg 3 6 ?_
     exact Ops.st _ (by kernel_rfl) (J27j35 U U true true h)
   ·refine Wp.exit (id := 0) (by kernel_rfl) ?_
    refine sqQ.x ?_
    refine seqQ.x ?_
    cases h
    refine lpQ.x ?_
    refine blkQ.x ⟨q2 ((dB false) :: q2 ((dP eI a0) :: (dI (a0.length : Int)) :: (dI v18) :: q10 [])), []⟩ (by kernel_rfl) ?_
    exact hxx24 v18  hsx27
 refine Wp.loop' [2, 5, 6, 7] 0 (by kernel_rfl) ⟨q2 ((dB false) :: q2 ((dP eI a0) :: (dI (a0.length : Int)) :: (dI 0) :: q10 [])), []⟩ (by kernel_rfl) ?_
 rcases brk_some h with ⟨r38, er38, h⟩ | ⟨y37, ey37, h⟩
 ·refine hLx36 _ 0  _ er38 n (by omega) (fun r er σ hσ => ?_) (fun y  ey => by cases ey)
  cases er
  refine seqQ.r ?_
  exact fnQ.r' (X27 n) (fun z => (eB z)) h hσ
 ·refine hLx36 _ 0  _ ey37 n (by omega) (fun r er => by cases er) (fun y  ey => ?_)
  cases ey
  refine seqQ.n ?_
  refine Wp.sq ?_
  refine Wp.rg ?_
  refine Ops.sg 1 1 ?_
  refine Ops.dn ?_
  refine seqQ.n ?_
  refine Wp.ret (by kernel_rfl) ?_
  exact fnQ.r' (X27 n) (fun z => (eB z)) h (RetOk.mk' (dB true) (by kernel_rfl) (by kernel_rfl))
def f12_r1 (m : Nat) (v63 : Bool) : Option Int :=
 cnd v63
 (some 3)
 (some 0)
def f12_r2 (m : Nat) (a0 : S23) (v54 : Bool) : Option Int :=
 bnd (cnd v54
 (some true)
 (bnd (f27 m a0.fRight) fun v65 =>
 some (!v65))) fun v63 =>
 f12_r1 m v63
def f12_r3 (m : Nat) (a0 : S23) (v45 : Bool) : Option Int :=
 bnd (cnd v45
 (some true)
 (bnd (f27 m a0.fLeft) fun v66 =>
 some (!v66))) fun v54 =>
 f12_r2 m a0 v54
def f12_r4 (m : Nat) (a0 : S23) (v35 : Bool) : Option Int :=
 cnd v35
 (some 9)
 (bnd (f27 m a0.fFrom) fun v37 =>
 bnd (cnd (!v37)
 (some true)
 (bnd (f27 m a0.fTo) fun v67 =>
 some (!v67))) fun v45 =>
 f12_r3 m a0 v45)
def f12_r5 (m : Nat) (a0 : S23) (v26 : Bool) : Option Int :=
 f12_r4 m a0 (v26 || (decide ((a0.fRight.length : Int) > 3)))
def f12_r6 (m : Nat) (a0 : S23) (v17 : Bool) : Option Int :=
 f12_r5 m a0 (v17 || (decide ((a0.fLeft.length : Int) > 3)))
def f12_r7 (m : Nat) (a0 : S23) (v8 : Bool) : Option Int :=
 f12_r6 m a0 (v8 || (decide ((a0.fTo.length : Int) > 3)))
def f12 (m : Nat) (a0 : S23) : Option Int :=
 f12_r7 m a0 ((decide ((a0.fFrom.length : Int) < 1)) || (decide ((a0.fFrom.length : Int) > 3)))
noncomputable abbrev X12 (n : Nat) : Cx := cxOf Proofs.Try.prog E 12 n
abbrev b12_0 (w0 : S23) : AObj := .cells [(dP eI w0.fFrom), (dP eI w0.fTo), (dP eI w0.fLeft), (dP eI w0.fRight)]
theorem ok12 (m : Nat) (a0 : S23) (o : Int) (h : f12 m a0 = some o) (n : Nat) (hn : m + 2 ≤ n) : Fn Proofs.Try.prog E n 12 [.v (e23 a0)] (eI o) := by
 obtain ⟨n, rfl⟩ : ∃ q, n = q + 1 := ⟨n - 1, by omega⟩
 unfold f12 at h
 refine Fn.of (by kernel_rfl) (by kernel_rfl) (by kernel_rfl) ⟨(.v (.agg [(vP eI a0.fFrom), (vP eI a0.fTo), (vP eI a0.fLeft), (vP eI a0.fRight)])) :: u40 (u12 []), []⟩ (by kernel_rfl) ?_
 refine Wp.sq ?_
 refine Wp.rg ?_
 refine Ops.sg 2 2 ?_
 refine Ops.dn ?_
 refine seqQ.n ?_
 refine Wp.sq ?_
 refine Wp.sq ?_
 refine Wp.rg ?_
 refine Ops.sg 2 2 ?_
 refine Ops.on 3 (fun h0 e0 => (len_r (T := T) h0 22 3 .plain eI a0.fFrom (by kernel_rfl))) ?_
 refine Ops.sg 2 5 ?_
 refine Ops.hv (fun KQ => ∀ (d3 d4 d5 d6 : D) (v7 : Bool) (v8 : Bool), f12_r7 m a0 v8 = some o → KQ 10 ⟨(.v (.agg [(vP eI a0.fFrom), (vP eI a0.fTo), (vP eI a0.fLeft), (vP eI a0.fRight)])) :: (.ptr 0 0) :: (dI 0) :: (.ptr 0 0) :: (dP eI a0.fFrom) :: (dI (a0.fFrom.length : Int)) :: (dB v7) :: (dB v7) :: d3 :: d4 :: d5 :: d6 :: (dB v8) :: u40 [], [(b12_0 a0)]⟩) ?_ fun J12j9 => ?_
 ·intro d3 d4 d5 d6 v7 v8 h
  unfold f12_r7 at h
  refine Ops.sg 1 11 ?_
  refine Ops.hv (fun KQ => ∀ (d12 d13 d14 d15 : D) (v16 : Bool) (v17 : Bool), f12_r6 m a0 v17 = some o → KQ 16 ⟨(.v (.agg [(vP eI a0.fFrom), (vP eI a0.fTo), (vP eI a0.fLeft), (vP eI a0.fRight)])) :: (.ptr 0 0) :: (dI 0) :: (.ptr 0 0) :: (dP eI a0.fFrom) :: (dI (a0.fFrom.length : Int)) :: (dB v7) :: (dB v7) :: d3 :: d4 :: d5 :: d6 :: (dB v16) :: (dB v16) :: d12 :: d13 :: d14 :: d15 :: (dB v17) :: u34 [], [(b12_0 a0)]⟩) ?_ fun J12j18 => ?_
  ·intro d12 d13 d14 d15 v16 v17 h
   unfold f12_r6 at h
   refine Ops.sg 1 17 ?_
   refine Ops.hv (fun KQ => ∀ (d21 d22 d23 d24 : D) (v25 : Bool) (v26 : Bool), f12_r5 m a0 v26 = some o → KQ 22 ⟨(.v (.agg [(vP eI a0.fFrom), (vP eI a0.fTo), (vP eI a0.fLeft), (vP eI a0.fRight)])) :: (.ptr 0 0) :: (dI 0) :: (.ptr 0 0) :: (dP eI a0.fFrom) :: (dI (a0.fFrom.length : Int)) :: (dB v7) :: (dB v7) :: d3 :: d4 :: d5 :: d6 :: (dB v16) :: (dB v16) :: d12 :: d13 :: d14 :: d15 :: (dB v25) :: (dB v25) :: d21 :: d22 :: d23 :: d24 :: (dB v26) :: u28 [], [(b12_0 a0)]⟩) ?_ fun J12j27 => ?_
   ·intro d21 d22 d23 d24 v25 v26 h
    unfold f12_r5 at h
    refine Ops.sg 1 23 ?_
    refine Ops.hv (fun KQ => ∀ (d30 d31 d32 d33 : D) (v34 : Bool) (v35 : Bool), f12_r4 m a0 v35 = some o → KQ 28 ⟨(.v (.agg [(vP eI a0.fFrom), (vP eI a0.fTo), (vP eI a0.fLeft), (vP eI a0.fRight)])) :: (.ptr 0 0) :: (dI 0) :: (.ptr 0 0) :: (dP eI a0.fFrom) :: (dI (a0.fFrom.length : Int)) :: (dB v7) :: (dB v7) :: d3 :: d4 :: d5 :: d6 :: (dB v16) :: (dB v16) :: d12 :: d13 :: d14 :: d15 :: (dB v25) :: (dB v25) :: d21 :: d22 :: d23 :: d24 :: (dB v34) :: (dB v34) :: d30 :: d31 :: d32 :: d33 :: (dB v35) :: u22 [], [(b12_0 a0)]⟩) ?_ fun J12j36 => ?_
    ·intro d30 d31 d32 d33 v34 v35 h
     unfold f12_r4 at h
     refine Ops.dn ?_
     refine seqQ.n ?_
     refine Wp.cnd h [1, 2] 1 (by kernel_rfl) (fun h => ?_) (fun h => ?_)
     ·refine Wp.sq ?_
      refine Wp.rg ?_
      refine Ops.sg 1 1 ?_
      refine Ops.dn ?_
      refine seqQ.n ?_
      refine Wp.ret (by kernel_rfl) ?_
      refine sqQ.r ?_
      refine seqQ.r ?_
      exact fnQ.r' (X12 n) (fun z => (eI z)) h (RetOk.mk' (dI 9) (by kernel_rfl) (by kernel_rfl))
     ·refine Wp.sk ?_
      refine sqQ.n' ?_
      refine seqQ.n ?_
      refine Wp.sq ?_
      refine Wp.sq ?_
      refine Wp.rg ?_
      refine Ops.sg 2 2 ?_
      obtain ⟨v37, ev37, h⟩ := bnd_some h
      refine Ops.on 3 (fun h0 e0 => (call_ok (E' := E) (h := h0) (by kernel_rfl) (Args.v (vP eI a0.fFrom) ((eL eI) a0.fFrom) (by kernel_rfl) Args.nil) (ok27 m a0.fFrom v37 ev37 n (by omega)))) ?_
      refine Ops.sg 2 5 ?_
      refine Ops.hv (fun KQ => ∀ (d40 d41 d42 d43 : D) (v44 : Bool) (v45 : Bool), f12_r3 m a0 v45 = some o → KQ 10 ⟨(.v (.agg [(vP eI a0.fFrom), (vP eI a0.fTo), (vP eI a0.fLeft), (vP eI a0.fRight)])) :: (.ptr 0 0) :: (dI 0) :: (.ptr 0 0) :: (dP eI a0.fFrom) :: (dI (a0.fFrom.length : Int)) :: (dB v7) :: (dB v7) :: d3 :: d4 :: d5 :: d6 :: (dB v16) :: (dB v16) :: d12 :: d13 :: d14 :: d15 :: (dB v25) :: (dB v25) :: d21 :: d22 :: d23 :: d24 :: (dB v34) :: (dB v34) :: d30 :: d31 :: d32 :: d33 :: (dB v35) :: (.ptr 0 0) :: (dP eI a0.fFrom) :: (dB v37) :: (dB v44) :: (dB v44) :: d40 :: d41 :: d42 :: d43 :: (dB v45) :: u12 [], [(b12_0 a0)]⟩) ?_ fun J12j46 => ?_
      ·intro d40 d41 d42 d43 v44 v45 h
       unfold f12_r3 at h
       refine Ops.sg 1 11 ?_
       refine Ops.hv (fun KQ => ∀ (d49 d50 d51 d52 : D) (v53 : Bool) (v54 : Bool), f12_r2 m a0 v54 = some o → KQ 16 ⟨(.v (.agg [(vP eI a0.fFrom), (vP eI a0.fTo), (vP eI a0.fLeft), (vP eI a0.fRight)])) :: (.ptr 0 0) :: (dI 0) :: (.ptr 0 0) :: (dP eI a0.fFrom) :: (dI (a0.fFrom.length : Int)) :: (dB v7) :: (dB v7) :: d3 :: d4 :: d5 :: d6 :: (dB v16) :: (dB v16) :: d12 :: d13 :: d14 :: d15 :: (dB v25) :: (dB v25) :: d21 :: d22 :: d23 :: d24 :: (dB v34) :: (dB v34) :: d30 :: d31 :: d32 :: d33 :: (dB v35) :: (.ptr 0 0) :: (dP eI a0.fFrom) :: (dB v37) :: (dB v44) :: (dB v44) :: d40 :: d41 :: d42 :: d43 :: (dB v53) :: (dB v53) :: d49 :: d50 :: d51 :: d52 :: (dB v54) :: u6 [], [(b12_0 a0)]⟩) ?_ fun J12j55 => ?_
       ·intro d49 d50 d51 d52 v53 v54 h
        unfold f12_r2 at h
        refine Ops.sg 1 17 ?_
        refine Ops.hv (fun KQ => ∀ (d58 d59 d60 d61 : D) (v62 : Bool) (v63 : Bool), f12_r1 m v63 = some o → KQ 22 ⟨(.v (.agg [(vP eI a0.fFrom), (vP eI a0.fTo), (vP eI a0.fLeft), (vP eI a0.fRight)])) :: (.ptr 0 0) :: (dI 0) :: (.ptr 0 0) :: (dP eI a0.fFrom) :: (dI (a0.fFrom.length : Int)) :: (dB v7) :: (dB v7) :: d3 :: d4 :: d5 :: d6 :: (dB v16) :: (dB v16) :: d12 :: d13 :: d14 :: d15 :: (dB v25) :: (dB v25) :: d21 :: d22 :: d23 :: d24 :: (dB v34) :: (dB v34) :: d30 :: d31 :: d32 :: d33 :: (dB v35) :: (.ptr 0 0) :: (dP eI a0.fFrom) :: (dB v37) :: (dB v44) :: (dB v44) :: d40 :: d41 :: d42 :: d43 :: (dB v53) :: (dB v53) :: d49 :: d50 :: d51 :: d52 :: (dB v62) :: (dB v62) :: d58 :: d59 :: d60 :: d61 :: (dB v63) :: [], [(b12_0 a0)]⟩) ?_ fun J12j64 => ?_
        ·intro d58 d59 d60 d61 v62 v63 h
         unfold f12_r1 at h
         refine Ops.dn ?_
         refine seqQ.n ?_
         refine Wp.cnd h [2] 1 (by kernel_rfl) (fun h => ?_) (fun h => ?_)
         ·refine Wp.sq ?_
          refine Wp.rg ?_
          refine Ops.sg 1 1 ?_
          refine Ops.dn ?_
          refine seqQ.n ?_
          refine Wp.ret (by kernel_rfl) ?_
          refine sqQ.r ?_
          refine seqQ.r ?_
          exact fnQ.r' (X12 n) (fun z => (eI z)) h (RetOk.mk' (dI 3) (by kernel_rfl) (by kernel_rfl))
         ·refine Wp.sk ?_
          refine sqQ.n' ?_
          refine seqQ.n ?_
          refine Wp.sq ?_
          refine Wp.rg ?_
          refine Ops.sg 1 1 ?_
          refine Ops.dn ?_
          refine seqQ.n ?_
          refine Wp.ret (by kernel_rfl) ?_
          exact fnQ.r' (X12 n) (fun z => (eI z)) h (RetOk.mk' (dI 0) (by kernel_rfl) (by kernel_rfl))
        obtain ⟨v63, ev63, h⟩ := bnd_some h
        refine Ops.hv (fun KQ => ∀ v56 : Bool, (cnd v56 (some true) (bnd (f27 m a0.fRight) fun v65 => some (!v65))) = some v63 → KQ 17 ⟨(.v (.agg [(vP eI a0.fFrom), (vP eI a0.fTo), (vP eI a0.fLeft), (vP eI a0.fRight)])) :: (.ptr 0 0) :: (dI 0) :: (.ptr 0 0) :: (dP eI a0.fFrom) :: (dI (a0.fFrom.length : Int)) :: (dB v7) :: (dB v7) :: d3 :: d4 :: d5 :: d6 :: (dB v16) :: (dB v16) :: d12 :: d13 :: d14 :: d15 :: (dB v25) :: (dB v25) :: d21 :: d22 :: d23 :: d24 :: (dB v34) :: (dB v34) :: d30 :: d31 :: d32 :: d33 :: (dB v35) :: (.ptr 0 0) :: (dP eI a0.fFrom) :: (dB v37) :: (dB v44) :: (dB v44) :: d40 :: d41 :: d42 :: d43 :: (dB v53) :: (dB v53) :: d49 :: d50 :: d51 :: d52 :: (dB v56) :: (dB v56) :: u5 [], [(b12_0 a0)]⟩) ?_ fun G12g57 => Ops.st _ (by kernel_rfl) (G12g57 v54 ev63)
        intro v56 ev63
        cases v56
        ·have ev63 := cnd_f ev63
         refine Ops.sg 2 19 ?_
         obtain ⟨v65, ev65, ev63⟩ := bnd_some ev63
         refine Ops.on 20 (fun h0 e0 => (call_ok (E' := E) (h := h0) (by kernel_rfl) (Args.v (vP eI a0.fRight) ((eL eI) a0.fRight) (by kernel_rfl) Args.nil) (ok27 m a0.fRight v65 ev65 n (by omega)))) ?_
         refine Ops.sg 2 22 ?_
         exact Ops.st _ (by kernel_rfl) (J12j64 (.ptr 0 3) (dP eI a0.fRight) (dB v65) (dB (!v65)) false (!v65) (some_sub (fun v63 => f12_r1 m v63 = some o) ev63 h))
        ·have ev63 := cnd_t ev63
         refine Ops.sg 5 22 ?_
         exact Ops.st _ (by kernel_rfl) (J12j64 U U U U true true (some_sub (fun v63 => f12_r1 m v63 = some o) ev63 h))
       obtain ⟨v54, ev54, h⟩ := bnd_some h
       refine Ops.hv (fun KQ => ∀ v47 : Bool, (cnd v47 (some true) (bnd (f27 m a0.fLeft) fun v66 => some (!v66))) = some v54 → KQ 11 ⟨(.v (.agg [(vP eI a0.fFrom), (vP eI a0.fTo), (vP eI a0.fLeft), (vP eI a0.fRight)])) :: (.ptr 0 0) :: (dI 0) :: (.ptr 0 0) :: (dP eI a0.fFrom) :: (dI (a0.fFrom.length : Int)) :: (dB v7) :: (dB v7) :: d3 :: d4 :: d5 :: d6 :: (dB v16) :: (dB v16) :: d12 :: d13 :: d14 :: d15 :: (dB v25) :: (dB v25) :: d21 :: d22 :: d23 :: d24 :: (dB v34) :: (dB v34) :: d30 :: d31 :: d32 :: d33 :: (dB v35) :: (.ptr 0 0) :: (dP eI a0.fFrom) :: (dB v37) :: (dB v44) :: (dB v44) :: d40 :: d41 :: d42 :: d43 :: (dB v47) :: (dB v47) :: u11 [], [(b12_0 a0)]⟩) ?_ fun G12g48 => Ops.st _ (by kernel_rfl) (G12g48 v45 ev54)
       intro v47 ev54
       cases v47
       ·have ev54 := cnd_f ev54
        refine Ops.sg 2 13 ?_
        obtain ⟨v66, ev66, ev54⟩ := bnd_some ev54
        refine Ops.on 14 (fun h0 e0 => (call_ok (E' := E) (h := h0) (by kernel_rfl) (Args.v (vP eI a0.fLeft) ((eL eI) a0.fLeft) (by kernel_rfl) Args.nil) (ok27 m a0.fLeft v66 ev66 n (by omega)))) ?_
        refine Ops.sg 2 16 ?_
        exact Ops.st _ (by kernel_rfl) (J12j55 (.ptr 0 2) (dP eI a0.fLeft) (dB v66) (dB (!v66)) false (!v66) (some_sub (fun v54 => f12_r2 m a0 v54 = some o) ev54 h))
       ·have ev54 := cnd_t ev54
        refine Ops.sg 5 16 ?_
        exact Ops.st _ (by kernel_rfl) (J12j55 U U U U true true (some_sub (fun v54 => f12_r2 m a0 v54 = some o) ev54 h))
      obtain ⟨v45, ev45, h⟩ := bnd_some h
      refine Ops.hv (fun KQ => ∀ v38 : Bool, (cnd v38 (some true) (bnd (f27 m a0.fTo) fun v67 => some (!v67))) = some v45 → KQ 5 ⟨(.v (.agg [(vP eI a0.fFrom), (vP eI a0.fTo), (vP eI a0.fLeft), (vP eI a0.fRight)])) :: (.ptr 0 0) :: (dI 0) :: (.ptr 0 0) :: (dP eI a0.fFrom) :: (dI (a0.fFrom.length : Int)) :: (dB v7) :: (dB v7) :: d3 :: d4 :: d5 :: d6 :: (dB v16) :: (dB v16) :: d12 :: d13 :: d14 :: d15 :: (dB v25) :: (dB v25) :: d21 :: d22 :: d23 :: d24 :: (dB v34) :: (dB v34) :: d30 :: d31 :: d32 :: d33 :: (dB v35) :: (.ptr 0 0) :: (dP eI a0.fFrom) :: (dB v37) :: (dB v38) :: (dB v38) :: u17 [], [(b12_0 a0)]⟩) ?_ fun G12g39 => Ops.st _ (by kernel_rfl) (G12g39 (!v37) ev45)
      intro v38 ev45
      cases v38
      ·have ev45 := cnd_f ev45
       refine Ops.sg 2 7 ?_
       obtain ⟨v67, ev67, ev45⟩ := bnd_some ev45
       refine Ops.on 8 (fun h0 e0 => (call_ok (E' := E) (h := h0) (by kernel_rfl) (Args.v (vP eI a0.fTo) ((eL eI) a0.fTo) (by kernel_rfl) Args.nil) (ok27 m a0.fTo v67 ev67 n (by omega)))) ?_
       refine Ops.sg 2 10 ?_
       exact Ops.st _ (by kernel_rfl) (J12j46 (.ptr 0 1) (dP eI a0.fTo) (dB v67) (dB (!v67)) false (!v67) (some_sub (fun v45 => f12_r3 m a0 v45 = some o) ev45 h))
      ·have ev45 := cnd_t ev45
       refine Ops.sg 5 10 ?_
       exact Ops.st _ (by kernel_rfl) (J12j46 U U U U true true (some_sub (fun v45 => f12_r3 m a0 v45 = some o) ev45 h))
    refine Ops.hv (fun KQ => ∀ v28 : Bool, f12_r4 m a0 (v28 || (decide ((a0.fRight.length : Int) > 3))) = some o → KQ 23 ⟨(.v (.agg [(vP eI a0.fFrom), (vP eI a0.fTo), (vP eI a0.fLeft), (vP eI a0.fRight)])) :: (.ptr 0 0) :: (dI 0) :: (.ptr 0 0) :: (dP eI a0.fFrom) :: (dI (a0.fFrom.length : Int)) :: (dB v7) :: (dB v7) :: d3 :: d4 :: d5 :: d6 :: (dB v16) :: (dB v16) :: d12 :: d13 :: d14 :: d15 :: (dB v25) :: (dB v25) :: d21 :: d22 :: d23 :: d24 :: (dB v28) :: (dB v28) :: u27 [], [(b12_0 a0)]⟩) ?_ fun G12g29 => Ops.st _ (by kernel_rfl) (G12g29 v26 h)
    intro v28 h
    cases v28
    ·refine Ops.sg 2 25 ?_
     refine Ops.on 26 (fun h0 e0 => (len_r (T := T) h0 22 3 .plain eI a0.fRight (by kernel_rfl))) ?_
     refine Ops.sg 2 28 ?_
     exact Ops.st _ (by kernel_rfl) (J12j36 (.ptr 0 3) (dP eI a0.fRight) (dI (a0.fRight.length : Int)) (dB (decide ((a0.fRight.length : Int) > 3))) false (decide ((a0.fRight.length : Int) > 3)) h)
    ·refine Ops.sg 5 28 ?_
     exact Ops.st _ (by kernel_rfl) (J12j36 U U U U true true h)
   refine Ops.hv (fun KQ => ∀ v19 : Bool, f12_r5 m a0 (v19 || (decide ((a0.fLeft.length : Int) > 3))) = some o → KQ 17 ⟨(.v (.agg [(vP eI a0.fFrom), (vP eI a0.fTo), (vP eI a0.fLeft), (vP eI a0.fRight)])) :: (.ptr 0 0) :: (dI 0) :: (.ptr 0 0) :: (dP eI a0.fFrom) :: (dI (a0.fFrom.length : Int)) :: (dB v7) :: (dB v7) :: d3 :: d4 :: d5 :: d6 :: (dB v16) :: (dB v16) :: d12 :: d13 :: d14 :: d15 :: (dB v19) :: (dB v19) :: u33 [], [(b12_0 a0)]⟩) ?_ fun G12g20 => Ops.st _ (by kernel_rfl) (G12g20 v17 h)
   intro v19 h
   cases v19
   ·refine Ops.sg 2 19 ?_
    refine Ops.on 20 (fun h0 e0 => (len_r (T := T) h0 22 3 .plain eI a0.fLeft (by kernel_rfl))) ?_
    refine Ops.sg 2 22 ?_
    exact Ops.st _ (by kernel_rfl) (J12j27 (.ptr 0 2) (dP eI a0.fLeft) (dI (a0.fLeft.length : Int)) (dB (decide ((a0.fLeft.length : Int) > 3))) false (decide ((a0.fLeft.length : Int) > 3)) h)
   ·refine Ops.sg 5 22 ?_
    exact Ops.st _ (by kernel_rfl) (J12j27 U U U U true true h)
  refine Ops.hv (fun KQ => ∀ v10 : Bool, f12_r6 m a0 (v10 || (decide ((a0.fTo.length : Int) > 3))) = some o → KQ 11 ⟨(.v (.agg [(vP eI a0.fFrom), (vP eI a0.fTo), (vP eI a0.fLeft), (vP eI a0.fRight)])) :: (.ptr 0 0) :: (dI 0) :: (.ptr 0 0) :: (dP eI a0.fFrom) :: (dI (a0.fFrom.length : Int)) :: (dB v7) :: (dB v7) :: d3 :: d4 :: d5 :: d6 :: (dB v10) :: (dB v10) :: u39 [], [(b12_0 a0)]⟩) ?_ fun G12g11 => Ops.st _ (by kernel_rfl) (G12g11 v8 h)
  intro v10 h
  cases v10
  ·refine Ops.sg 2 13 ?_
   refine Ops.on 14 (fun h0 e0 => (len_r (T := T) h0 22 3 .plain eI a0.fTo (by kernel_rfl))) ?_
   refine Ops.sg 2 16 ?_
   exact Ops.st _ (by kernel_rfl) (J12j18 (.ptr 0 1) (dP eI a0.fTo) (dI (a0.fTo.length : Int)) (dB (decide ((a0.fTo.length : Int) > 3))) false (decide ((a0.fTo.length : Int) > 3)) h)
  ·refine Ops.sg 5 16 ?_
   exact Ops.st _ (by kernel_rfl) (J12j18 U U U U true true h)
 refine Ops.hv (fun KQ => ∀ v1 : Bool, f12_r7 m a0 (v1 || (decide ((a0.fFrom.length : Int) > 3))) = some o → KQ 5 ⟨(.v (.agg [(vP eI a0.fFrom), (vP eI a0.fTo), (vP eI a0.fLeft), (vP eI a0.fRight)])) :: (.ptr 0 0) :: (dI 0) :: (.ptr 0 0) :: (dP eI a0.fFrom) :: (dI (a0.fFrom.length : Int)) :: (dB v1) :: (dB v1) :: u40 (u5 []), [(b12_0 a0)]⟩) ?_ fun G12g2 => Ops.st _ (by kernel_rfl) (G12g2 (decide ((a0.fFrom.length : Int) < 1)) h)
 intro v1 h
 cases v1
 ·refine Ops.sg 2 7 ?_
  refine Ops.on 8 (fun h0 e0 => (len_r (T := T) h0 22 3 .plain eI a0.fFrom (by kernel_rfl))) ?_
  refine Ops.sg 2 10 ?_
  exact Ops.st _ (by kernel_rfl) (J12j9 (.ptr 0 0) (dP eI a0.fFrom) (dI (a0.fFrom.length : Int)) (dB (decide ((a0.fFrom.length : Int) > 3))) false (decide ((a0.fFrom.length : Int) > 3)) h)
 ·refine Ops.sg 5 10 ?_
  exact Ops.st _ (by kernel_rfl) (J12j9 U U U U true true h)
def f17 (m : Nat) (a0 : Int) (a1 : Int) : Option S30 :=
 some ((⟨a0, a1⟩ : S30))
noncomputable abbrev X17 (n : Nat) : Cx := cxOf Proofs.Try.prog E 17 n
theorem ok17 (m : Nat) (a0 : Int) (a1 : Int) (o : S30) (h : f17 m a0 a1 = some o) (n : Nat) (hn : m + 1 ≤ n) : Fn Proofs.Try.prog E n 17 [.v (eI a0), .v (eI a1)] (e30 o) := by
 obtain ⟨n, rfl⟩ : ∃ q, n = q + 1 := ⟨n - 1, by omega⟩
 unfold f17 at h
 refine Fn.of (by kernel_rfl) (by kernel_rfl) (by kernel_rfl) ⟨(dI a0) :: (dI a1) :: u6 [], []⟩ (by kernel_rfl) ?_
 refine Wp.sq ?_
 refine Wp.rg ?_
 refine Ops.sg 1 1 ?_
 refine Ops.dn ?_
 refine seqQ.n ?_
 refine Wp.sq ?_
 refine Wp.rg ?_
 refine Ops.sg 4 4 ?_
 refine Ops.dn ?_
 refine seqQ.n ?_
 refine Wp.ret (by kernel_rfl) ?_
 exact fnQ.r' (X17 n) (fun z => (e30 z)) h (RetOk.mk' (.v (.agg [(vI a0), (vI a1)])) (by kernel_rfl) (by kernel_rfl))
def f21_B1 (m : Nat) (a0 : S53) (a1 : S53) (v10 : Int) : Option (Stp Bool (Int)) :=
 cnd (decide (v10 < (([a0.fFrom, a0.fIn, a0.fOut, a0.fTo, a0.fWeight]).length : Int)))
 (bnd (idx ([a0.fFrom, a0.fIn, a0.fOut, a0.fTo, a0.fWeight]) v10) fun v20 =>
 bnd (idx ([a1.fFrom, a1.fIn, a1.fOut, a1.fTo, a1.fWeight]) v10) fun v21 =>
 cnd (v20 != v21)
 (bnd (idx ([a0.fFrom, a0.fIn, a0.fOut, a0.fTo, a0.fWeight]) v10) fun v22 =>
 bnd (idx ([a1.fFrom, a1.fIn, a1.fOut, a1.fTo, a1.fWeight]) v10) fun v23 =>
 some (.ret (decide (v22 < v23))))
 (some (.nxt (w64 (v10 + 1)))))
 (some (.brk v10))
def f21 (m : Nat) (a0 : S53) (a1 : S53) : Option Bool :=
 brk (iter (fun (y : Int) => f21_B1 m a0 a1 y) m 0) some fun y25 =>
 some false
noncomputable abbrev X21 (n : Nat) : Cx := cxOf Proofs.Try.prog E 21 n
noncomputable def C21 : Code := bodyOf Proofs.Try.prog 21
abbrev b21_0 (w0 : S53) : AObj := .cells [(dI w0.fFrom), (dI w0.fTo), (dI w0.fIn), (dI w0.fOut), (dI w0.fWeight)]
theorem ok21 (m : Nat) (a0 : S53) (a1 : S53) (o : Bool) (h : f21 m a0 a1 = some o) (n : Nat) (hn : m + 1 ≤ n) : Fn Proofs.Try.prog E n 21 [.v (e53 a0), .v (e53 a1)] (eB o) := by
 obtain ⟨n, rfl⟩ : ∃ q, n = q + 1 := ⟨n - 1, by omega⟩
 unfold f21 at h
 refine Fn.of (by kernel_rfl) (by kernel_rfl) (by kernel_rfl) ⟨(.v (.agg [(vI a0.fFrom), (vI a0.fTo), (vI a0.fIn), (vI a0.fOut), (vI a0.fWeight)])) :: (.v (.agg [(vI a1.fFrom), (vI a1.fTo), (vI a1.fIn), (vI a1.fOut), (vI a1.fWeight)])) :: u40 (u12 []), []⟩ (by kernel_rfl) ?_
 refine Wp.sq ?_
 refine Wp.rg ?_
 refine Ops.sg 3 3 ?_
 refine Ops.dn ?_
 refine seqQ.n ?_
 refine Wp.sq ?_
 refine Wp.rg ?_
 refine Ops.sg 12 12 ?_
 refine Ops.dn ?_
 refine seqQ.n ?_
 refine Wp.sq ?_
 refine Wp.rg ?_
 refine Ops.sg 12 12 ?_
 refine Ops.dn ?_
 refine seqQ.n ?_
 refine Wp.sq ?_
 refine Wp.sq ?_
 refine Wp.rg ?_
 refine Ops.sg 1 1 ?_
 refine Ops.on 2 (fun h0 e0 => (len_r (T := T) h0 22 3 .nonfull eI ([a0.fFrom, a0.fIn, a0.fOut, a0.fTo, a0.fWeight]) (by kernel_rfl))) ?_
 refine Ops.sg 1 3 ?_
 refine Ops.dn ?_
 refine seqQ.n ?_
 refine Wp.block' 0 [4] 2 (by kernel_rfl) ?_
 have hLx24 : ∀ (kx12 : Nat) (v10 : Int)  (ox11 : Bool ⊕ (Int)), iter (fun (y : Int) => f21_B1 m a0 a1 y) kx12 v10 = some ox11 → ∀ nx13, kx12 ≤ nx13 → (∀ r, ox11 = .inl r → ∀ σ, RetOk (X21 n) (resOf Proofs.Try.prog 21) (eB r) σ → (seqQ (X21 n) (cR (cR (cR (cR C21)))) (fnQ (X21 n).E.T (resOf Proofs.Try.prog 21) (eB o))) .ret σ) → (∀ (y : Int) , ox11 = .inr y → (seqQ (X21 n) (cR (cR (cR (cR C21)))) (fnQ (X21 n).E.T (resOf Proofs.Try.prog 21) (eB o))) .normal ⟨q4 ((dB false) :: (.v (.sl .nonfull (List.map eI ([a0.fFrom, a0.fIn, a0.fOut, a0.fTo, a0.fWeight])))) :: (.v (.sl .nonfull (List.map eI ([a1.fFrom, a1.fIn, a1.fOut, a1.fTo, a1.fWeight])))) :: q24 ((dI ((([a0.fFrom, a0.fIn, a0.fOut, a0.fTo, a0.fWeight]).length : Int))) :: (dI y) :: q21 [])), [(b21_0 a0), (b21_0 a1)]⟩) → Lp (X21 n) [4, 5, 6, 31, 32] 2 (cL (cL (cR (cL (cR (cR (cR C21))))))) nx13 ⟨q4 ((dB false) :: (.v (.sl .nonfull (List.map eI ([a0.fFrom, a0.fIn, a0.fOut, a0.fTo, a0.fWeight])))) :: (.v (.sl .nonfull (List.map eI ([a1.fFrom, a1.fIn, a1.fOut, a1.fTo, a1.fWeight])))) :: q24 ((dI ((([a0.fFrom, a0.fIn, a0.fOut, a0.fTo, a0.fWeight]).length : Int))) :: (dI v10) :: q21 [])), [(b21_0 a0), (b21_0 a1)]⟩ (blkQ (X21 n) 0 [4] 2 (seqQ (X21 n) (cR (cR (cR (cR C21)))) (fnQ (X21 n).E.T (resOf Proofs.Try.prog 21) (eB o)))) := by
  intro kx12
  induction kx12 with
  | zero => intro v10  ox11 h; exact (iter_zero h).elim
  | succ kx12 ihx14 =>
   intro v10  ox11 h nx13 hnx17 hrx15 hxx16
   obtain ⟨nx13, rfl⟩ : ∃ q, nx13 = q + 1 := ⟨nx13 - 1, by omega⟩
   obtain ⟨sx18, h, hsx19⟩ := iter_some h
   have h : f21_B1 m a0 a1 v10 = some sx18 := h
   unfold f21_B1 at h
   refine Lp.succ ?_
   refine Wp.sq ?_
   refine Wp.rg ?_
   refine Ops.sg 1 1 ?_
   refine Ops.dn ?_
   refine seqQ.n ?_
   refine Wp.sq ?_
   refine Wp.cnd h [4, 5, 6, 31, 32] 2 (by kernel_rfl) (fun h => ?_) (fun h => ?_)
   ·refine Wp.sk ?_
    refine sqQ.n' ?_
    refine seqQ.n ?_
    refine Wp.sq ?_
    refine Wp.block' 1 [4, 5, 6, 31, 32] 2 (by kernel_rfl) ?_
    refine Wp.sq ?_
    refine Wp.rg ?_
    refine Ops.sg 2 2 ?_
    refine Ops.dn ?_
    refine seqQ.n ?_
    refine Wp.sq ?_
    refine Wp.rg ?_
    refine Ops.sg 2 2 ?_
    obtain ⟨v20, ev20, h⟩ := bnd_some h
    refine Ops.on 3 (fun h0 e0 => (ix_r (T := T) h0 22 3 1 .nonfull eI ([a0.fFrom, a0.fIn, a0.fOut, a0.fTo, a0.fWeight]) v10 v20 ev20 (by kernel_rfl) (by kernel_rfl) (fun _ => rfl))) ?_
    refine Ops.sg 3 6 ?_
    obtain ⟨v21, ev21, h⟩ := bnd_some h
    refine Ops.on 7 (fun h0 e0 => (ix_r (T := T) h0 22 3 1 .nonfull eI ([a1.fFrom, a1.fIn, a1.fOut, a1.fTo, a1.fWeight]) v10 v21 ev21 (by kernel_rfl) (by kernel_rfl) (fun _ => rfl))) ?_
    refine Ops.sg 2 9 ?_
    refine Ops.dn ?_
    refine seqQ.n ?_
    refine Wp.cnd h [4, 5, 6, 31, 32] 2 (by kernel_rfl) (fun h => ?_) (fun h => ?_)
    ·refine Wp.sq ?_
     refine Wp.rg ?_
     refine Ops.sg 2 2 ?_
     obtain ⟨v22, ev22, h⟩ := bnd_some h
     refine Ops.on 3 (fun h0 e0 => (ix_r (T := T) h0 22 3 1 .nonfull eI ([a0.fFrom, a0.fIn, a0.fOut, a0.fTo, a0.fWeight]) v10 v22 ev22 (by kernel_rfl) (by kernel_rfl) (fun _ => rfl))) ?_
     refine Ops.sg 3 6 ?_
     obtain ⟨v23, ev23, h⟩ := bnd_some h
     refine Ops.on 7 (fun h0 e0 => (ix_r (T := T) h0 22 3 1 .nonfull eI ([a1.fFrom, a1.fIn, a1.fOut, a1.fTo, a1.fWeight]) v10 v23 ev23 (by kernel_rfl) (by kernel_rfl) (fun _ => rfl))) ?_
     refine Ops.sg 3 10 ?_
     refine Ops.dn ?_
     refine seqQ.n ?_
     refine Wp.ret (by kernel_rfl) ?_
     refine sqQ.r ?_
     refine blkQ.r ?_
     refine seqQ.r ?_
     cases h
     refine lpQ.r ?_
     refine blkQ.r ?_
     exact hrx15 _ hsx19 _ (RetOk.forget [4, 5, 6, 31, 32] (by kernel_rfl) (RetOk.mk' (dB (decide (v22 < v23))) (by kernel_rfl) (by kernel_rfl)))
    ·refine Wp.sk ?_
     refine sqQ.n' ?_
     refine blkQ.n' ?_
     refine seqQ.n ?_
     refine Wp.rg ?_
     refine Ops.sg 2 2 ?_
     refine Ops.dn ?_
     refine lpQ.n ⟨q4 ((dB false) :: (.v (.sl .nonfull (List.map eI ([a0.fFrom, a0.fIn, a0.fOut, a0.fTo, a0.fWeight])))) :: (.v (.sl .nonfull (List.map eI ([a1.fFrom, a1.fIn, a1.fOut, a1.fTo, a1.fWeight])))) :: q24 ((dI ((([a0.fFrom, a0.fIn, a0.fOut, a0.fTo, a0.fWeight]).length : Int))) :: (dI (w64 (v10 + 1))) :: q21 [])), [(b21_0 a0), (b21_0 a1)]⟩ (by kernel_rfl) ?_
     cases h
     exact ihx14 (w64 (v10 + 1))  _ hsx19 _ (by omega) hrx15 hxx16
   ·refine Wp.exit (id := 0) (by kernel_rfl) ?_
    refine sqQ.x ?_
    refine seqQ.x ?_
    cases h
    refine lpQ.x ?_
    refine blkQ.x ⟨q4 ((dB false) :: (.v (.sl .nonfull (List.map eI ([a0.fFrom, a0.fIn, a0.fOut, a0.fTo, a0.fWeight])))) :: (.v (.sl .nonfull (List.map eI ([a1.fFrom, a1.fIn, a1.fOut, a1.fTo, a1.fWeight])))) :: q24 ((dI ((([a0.fFrom, a0.fIn, a0.fOut, a0.fTo, a0.fWeight]).length : Int))) :: (dI v10) :: q21 [])), [(b21_0 a0), (b21_0 a1)]⟩ (by kernel_rfl) ?_
    exact hxx16 v10  hsx19
 refine Wp.loop' [4, 5, 6, 31, 32] 2 (by kernel_rfl) ⟨q4 ((dB false) :: (.v (.sl .nonfull (List.map eI ([a0.fFrom, a0.fIn, a0.fOut, a0.fTo, a0.fWeight])))) :: (.v (.sl .nonfull (List.map eI ([a1.fFrom, a1.fIn, a1.fOut, a1.fTo, a1.fWeight])))) :: q24 ((dI ((([a0.fFrom, a0.fIn, a0.fOut, a0.fTo, a0.fWeight]).length : Int))) :: (dI 0) :: q21 [])), [(b21_0 a0), (b21_0 a1)]⟩ (by kernel_rfl) ?_
 rcases brk_some h with ⟨r26, er26, h⟩ | ⟨y25, ey25, h⟩
 ·refine hLx24 _ 0  _ er26 n (by omega) (fun r er σ hσ => ?_) (fun y  ey => by cases ey)
  cases er
  refine seqQ.r ?_
  exact fnQ.r' (X21 n) (fun z => (eB z)) h hσ
 ·refine hLx24 _ 0  _ ey25 n (by omega) (fun r er => by cases er) (fun y  ey => ?_)
  cases ey
  refine seqQ.n ?_
  refine Wp.sq ?_
  refine Wp.rg ?_
  refine Ops.sg 1 1 ?_
  refine Ops.dn ?_
  refine seqQ.n ?_
  refine Wp.ret (by kernel_rfl) ?_
  exact fnQ.r' (X21 n) (fun z => (eB z)) h (RetOk.mk' (dB false) (by kernel_rfl) (by kernel_rfl))
def f10_r1 (m : Nat) (v202 : Int) (v302 : Bool) : Option (Stp S30 (Int)) :=
 cnd v302
 (bnd (f17 m 13 v202) fun v304 =>
 some (.ret v304))
 (some (.nxt (w64 (v202 + 1))))
def f10_r2 (m : Nat) (a0 : S28) (v202 : Int) (v212 : S53) (v287 : Bool) : Option (Stp S30 (Int)) :=
 cnd v287
 (bnd (f17 m 3 v202) fun v289 =>
 some (.ret v289))
 (bnd (cnd (decide (v202 > 0))
 (bnd (idx a0.fArcs (w64 (v202 - 1))) fun v305 =>
 bnd (f21 m v305 v212) fun v306 =>
 some (!v306))
 (some false)) fun v302 =>
 f10_r1 m v202 v302)
def f10_r3 (m : Nat) (a0 : S28) (v202 : Int) (v212 : S53) (v279 : Bool) : Option (Stp S30 (Int)) :=
 f10_r2 m a0 v202 v212 (v279 || (decide (v212.fWeight > 1000000)))
def f10_r4 (m : Nat) (a0 : S28) (v202 : Int) (v212 : S53) (v271 : Bool) : Option (Stp S30 (Int)) :=
 f10_r3 m a0 v202 v212 (v271 || (decide (v212.fWeight < 0)))
def f10_r5 (m : Nat) (a0 : S28) (v202 : Int) (v212 : S53) (v263 : Bool) : Option (Stp S30 (Int)) :=
 f10_r4 m a0 v202 v212 (v263 || (decide (v212.fOut > 1114111)))
def f10_r6 (m : Nat) (a0 : S28) (v202 : Int) (v212 : S53) (v255 : Bool) : Option (Stp S30 (Int)) :=
 f10_r5 m a0 v202 v212 (v255 || (decide (v212.fOut < 0)))
def f10_r7 (m : Nat) (a0 : S28) (v202 : Int) (v212 : S53) (v247 : Bool) : Option (Stp S30 (Int)) :=
 f10_r6 m a0 v202 v212 (v247 || (decide (v212.fIn > 1114111)))
def f10_r8 (m : Nat) (a0 : S28) (v202 : Int) (v212 : S53) (v239 : Bool) : Option (Stp S30 (Int)) :=
 f10_r7 m a0 v202 v212 (v239 || (decide (v212.fIn < 0)))
def f10_r9 (m : Nat) (a0 : S28) (v202 : Int) (v212 : S53) (v229 : Bool) : Option (Stp S30 (Int)) :=
 f10_r8 m a0 v202 v212 (v229 || (decide (v212.fTo ≥ a0.fStates)))
def f10_r10 (m : Nat) (a0 : S28) (v202 : Int) (v212 : S53) (v221 : Bool) : Option (Stp S30 (Int)) :=
 f10_r9 m a0 v202 v212 (v221 || (decide (v212.fTo < 0)))
def f10_B11 (m : Nat) (a0 : S28) (v202 : Int) : Option (Stp S30 (Int)) :=
 cnd (decide (v202 < (a0.fArcs.length : Int)))
 (bnd (idx a0.fArcs v202) fun v212 =>
 f10_r10 m a0 v202 v212 ((decide (v212.fFrom < 0)) || (decide (v212.fFrom ≥ a0.fStates))))
 (some (.brk v202))
def f10_r12 (m : Nat) (a0 : S28) (v401 : Int) (v452 : Bool) : Option (Stp S30 (Int)) :=
 cnd v452
 (bnd (f17 m 13 (w64 ((a0.fArcs.length : Int) + v401))) fun v454 =>
 some (.ret v454))
 (some (.nxt (w64 (v401 + 1))))
def f10_r13 (m : Nat) (a0 : S28) (v401 : Int) (v411 : S58) (v436 : Bool) : Option (Stp S30 (Int)) :=
 cnd v436
 (bnd (f17 m 3 (w64 ((a0.fArcs.length : Int) + v401))) fun v438 =>
 some (.ret v438))
 (bnd (cnd (decide (v401 > 0))
 (bnd (idx a0.fFinals (w64 (v401 - 1))) fun v455 =>
 some (decide (v455.fState ≥ v411.fState)))
 (some false)) fun v452 =>
 f10_r12 m a0 v401 v452)
def f10_r14 (m : Nat) (a0 : S28) (v401 : Int) (v411 : S58) (v428 : Bool) : Option (Stp S30 (Int)) :=
 f10_r13 m a0 v401 v411 (v428 || (decide (v411.fWeight > 1000000)))
def f10_r15 (m : Nat) (a0 : S28) (v401 : Int) (v411 : S58) (v420 : Bool) : Option (Stp S30 (Int)) :=
 f10_r14 m a0 v401 v411 (v420 || (decide (v411.fWeight < 0)))
def f10_B16 (m : Nat) (a0 : S28) (v401 : Int) : Option (Stp S30 (Int)) :=
 cnd (decide (v401 < (a0.fFinals.length : Int)))
 (bnd (idx a0.fFinals v401) fun v411 =>
 f10_r15 m a0 v401 v411 ((decide (v411.fState < 0)) || (decide (v411.fState ≥ a0.fStates))))
 (some (.brk v401))
def f10_r17 (m : Nat) (a0 : S28) (v7 : Bool) : Option S30 :=
 cnd v7
 (bnd (f17 m 3 (-1)) fun v9 =>
 some v9)
 (cnd (decide ((a0.fArcs.length : Int) > 2000))
 (bnd (f17 m 2 (-1)) fun v10 =>
 some v10)
 (brk (iter (fun (y : Int) => f10_B11 m a0 y) m 0) some fun y308 =>
 brk (iter (fun (y : Int) => f10_B16 m a0 y) m 0) some fun y457 =>
 some ((⟨0, 0⟩ : S30))))
def f10 (m : Nat) (a0 : S28) : Option S30 :=
 f10_r17 m a0 ((decide (a0.fStates < 0)) || (decide (a0.fStates > 400)))
noncomputable abbrev X10 (n : Nat) : Cx := cxOf Proofs.Try.prog E 10 n
noncomputable def C10 : Code := bodyOf Proofs.Try.prog 10
abbrev b10_0 (w0 : S28) : AObj := .cells [(dI w0.fStates), (dP e53 w0.fArcs), (dP e58 w0.fFinals)]
abbrev b10_1 : AObj := .cells [(dI 0), (dI 0)]
abbrev b10_2 (w0 : S58) : AObj := .cells [(dI w0.fState), (dI w0.fWeight)]
abbrev b10_3 (w0 : S53) : AObj := .cells [(dI w0.fFrom), (dI w0.fTo), (dI w0.fIn), (dI w0.fOut), (dI w0.fWeight)]
abbrev k10_0 : List Nat := [1, 2, 100, 101, 102]
abbrev k10_1 : List Nat := [1, 2, 22, 23, 24]
theorem f10_hLx456 (m : Nat) (a0 : S28) (o : S30) (n : Nat) (hn : m + 2 ≤ n + 1)  : ∀ (kx403 : Nat) (v401 : Int)  (ox402 : S30 ⊕ (Int)), iter (fun (y : Int) => f10_B16 m a0 y) kx403 v401 = some ox402 → ∀ nx404, kx403 ≤ nx404 → (∀ r, ox402 = .inl r → ∀ σ, RetOk (X10 n) (resOf Proofs.Try.prog 10) (e30 r) σ → (seqQ (X10 n) (cR (cR (cR (cR (cR C10))))) (fnQ (X10 n).E.T (resOf Proofs.Try.prog 10) (e30 o))) .ret σ) → (∀ (y : Int) , ox402 = .inr y → (seqQ (X10 n) (cR (cR (cR (cR (cR C10))))) (fnQ (X10 n).E.T (resOf Proofs.Try.prog 10) (e30 o))) .normal ⟨q1 ((.ptr 0 0) :: (.ptr 1 0) :: q40 (q40 (q17 ((dP e58 a0.fFinals) :: (dI (a0.fFinals.length : Int)) :: (dI y) :: q40 (q12 []))))), [(b10_0 a0), b10_1]⟩) → Lp (X10 n) k10_0 2 (cL (cL (cR (cL (cR (cR (cR (cR C10)))))))) nx404 ⟨q1 ((.ptr 0 0) :: (.ptr 1 0) :: q40 (q40 (q17 ((dP e58 a0.fFinals) :: (dI (a0.fFinals.length : Int)) :: (dI v401) :: q40 (q12 []))))), [(b10_0 a0), b10_1]⟩ (blkQ (X10 n) 2 [2] 2 (seqQ (X10 n) (cR (cR (cR (cR (cR C10))))) (fnQ (X10 n).E.T (resOf Proofs.Try.prog 10) (e30 o)))) := by
 intro kx403
 induction kx403 with
 | zero => intro v401  ox402 h; exact (iter_zero h).elim
 | succ kx403 ihx405 =>
  intro v401  ox402 h nx404 hnx408 hrx406 hxx407
  obtain ⟨nx404, rfl⟩ : ∃ q, nx404 = q + 1 := ⟨nx404 - 1, by omega⟩
  obtain ⟨sx409, h, hsx410⟩ := iter_some h
  have h : f10_B16 m a0 v401 = some sx409 := h
  unfold f10_B16 at h
  refine Lp.succ ?_
  refine Wp.sq ?_
  refine Wp.rg ?_
  refine Ops.sg 1 1 ?_
  refine Ops.dn ?_
  refine seqQ.n ?_
  refine Wp.sq ?_
  refine Wp.cnd h k10_0 2 (by kernel_rfl) (fun h => ?_) (fun h => ?_)
  ·refine Wp.sk ?_
   refine sqQ.n' ?_
   refine seqQ.n ?_
   refine Wp.sq ?_
   refine Wp.block' 3 k10_0 2 (by kernel_rfl) ?_
   refine Wp.sq ?_
   refine Wp.rg ?_
   refine Ops.sg 1 1 ?_
   obtain ⟨v411, ev411, h⟩ := bnd_some h
   refine Ops.on 2 (fun h0 e0 => (ix_r (T := T) h0 27 59 2 .plain e58 a0.fFinals v401 v411 ev411 (by kernel_rfl) (by kernel_rfl) (fun _ => rfl))) ?_
   refine Ops.sg 4 6 ?_
   refine Ops.dn ?_
   refine seqQ.n ?_
   refine Wp.sq ?_
   refine Wp.sq ?_
   refine Wp.rg ?_
   refine Ops.sg 4 4 ?_
   refine Ops.hv (fun KQ => ∀ (d414 d415 d416 d417 d418 : D) (v419 : Bool) (v420 : Bool), f10_r15 m a0 v401 v411 v420 = some sx409 → KQ 10 ⟨q1 ((.ptr 0 0) :: (.ptr 1 0) :: q2 ((dI v401) :: (.ptr 2 0) :: q40 (q40 (q13 ((dP e58 a0.fFinals) :: (dI (a0.fFinals.length : Int)) :: (dI v401) :: (dB (decide (v401 < (a0.fFinals.length : Int)))) :: (dI v401) :: (.vptr [(vI v411.fState), (vI v411.fWeight)]) :: (.v (.agg [(vI v411.fState), (vI v411.fWeight)])) :: (.ptr 2 0) :: (dI v411.fState) :: (dB v419) :: (dB v419) :: d414 :: d415 :: d416 :: d417 :: d418 :: (dB v420) :: q38 []))))), [(b10_0 a0), b10_1, (b10_2 v411)]⟩) ?_ fun J10j421 => ?_
   ·intro d414 d415 d416 d417 d418 v419 v420 h
    unfold f10_r15 at h
    refine Ops.sg 1 11 ?_
    refine Ops.hv (fun KQ => ∀ (d424 d425 d426 : D) (v427 : Bool) (v428 : Bool), f10_r14 m a0 v401 v411 v428 = some sx409 → KQ 15 ⟨q1 ((.ptr 0 0) :: (.ptr 1 0) :: q2 ((dI v401) :: (.ptr 2 0) :: q40 (q40 (q13 ((dP e58 a0.fFinals) :: (dI (a0.fFinals.length : Int)) :: (dI v401) :: (dB (decide (v401 < (a0.fFinals.length : Int)))) :: (dI v401) :: (.vptr [(vI v411.fState), (vI v411.fWeight)]) :: (.v (.agg [(vI v411.fState), (vI v411.fWeight)])) :: (.ptr 2 0) :: (dI v411.fState) :: (dB v419) :: (dB v419) :: d414 :: d415 :: d416 :: d417 :: d418 :: (dB v427) :: (dB v427) :: d424 :: d425 :: d426 :: (dB v428) :: q33 []))))), [(b10_0 a0), b10_1, (b10_2 v411)]⟩) ?_ fun J10j429 => ?_
    ·intro d424 d425 d426 v427 v428 h
     unfold f10_r14 at h
     refine Ops.sg 1 16 ?_
     refine Ops.hv (fun KQ => ∀ (d432 d433 d434 : D) (v435 : Bool) (v436 : Bool), f10_r13 m a0 v401 v411 v436 = some sx409 → KQ 20 ⟨q1 ((.ptr 0 0) :: (.ptr 1 0) :: q2 ((dI v401) :: (.ptr 2 0) :: q40 (q40 (q13 ((dP e58 a0.fFinals) :: (dI (a0.fFinals.length : Int)) :: (dI v401) :: (dB (decide (v401 < (a0.fFinals.length : Int)))) :: (dI v401) :: (.vptr [(vI v411.fState), (vI v411.fWeight)]) :: (.v (.agg [(vI v411.fState), (vI v411.fWeight)])) :: (.ptr 2 0) :: (dI v411.fState) :: (dB v419) :: (dB v419) :: d414 :: d415 :: d416 :: d417 :: d418 :: (dB v427) :: (dB v427) :: d424 :: d425 :: d426 :: (dB v435) :: (dB v435) :: d432 :: d433 :: d434 :: (dB v436) :: q28 []))))), [(b10_0 a0), b10_1, (b10_2 v411)]⟩) ?_ fun J10j437 => ?_
     ·intro d432 d433 d434 v435 v436 h
      unfold f10_r13 at h
      refine Ops.dn ?_
      refine seqQ.n ?_
      refine Wp.cnd h [1, 2, 5, 6, 100, 101, 102] 3 (by kernel_rfl) (fun h => ?_) (fun h => ?_)
      ·refine Wp.sq ?_
       refine Wp.rg ?_
       refine Ops.sg 2 2 ?_
       refine Ops.on 3 (fun h0 e0 => (len_r (T := T) h0 26 54 .plain e53 a0.fArcs (by kernel_rfl))) ?_
       refine Ops.sg 2 5 ?_
       obtain ⟨v438, ev438, h⟩ := bnd_some h
       refine Ops.on 6 (fun h0 e0 => (call_ok (E' := E) (h := h0) (by kernel_rfl) (Args.v (vI 3) (eI 3) (by kernel_rfl) (Args.v (vI (w64 ((a0.fArcs.length : Int) + v401))) (eI (w64 ((a0.fArcs.length : Int) + v401))) (by kernel_rfl) Args.nil)) (ok17 m 3 (w64 ((a0.fArcs.length : Int) + v401)) v438 ev438 n (by omega)))) ?_
       refine Ops.sg 1 7 ?_
       refine Ops.dn ?_
       refine seqQ.n ?_
       refine Wp.ret (by kernel_rfl) ?_
       refine sqQ.r ?_
       refine seqQ.r ?_
       refine blkQ.r ?_
       refine seqQ.r ?_
       cases h
       refine lpQ.r ?_
       refine blkQ.r ?_
       exact hrx406 _ hsx410 _ (RetOk.forget k10_0 (by kernel_rfl) (RetOk.mk' (.v (.agg [(vI v438.fCode), (vI v438.fIndex)])) (by kernel_rfl) (by kernel_rfl)))
      ·refine Wp.sk ?_
       refine sqQ.n' ?_
       refine seqQ.n ?_
       refine Wp.sq ?_
       refine Wp.rg ?_
       refine Ops.sg 3 3 ?_
       refine Ops.hv (fun KQ => ∀ (d441 d442 d443 d444 d445 d446 d447 d448 d449 d450 : D) (v451 : Bool) (v452 : Bool), f10_r12 m a0 v401 v452 = some sx409 → KQ 14 ⟨q1 ((.ptr 0 0) :: (.ptr 1 0) :: q2 ((dI v401) :: (.ptr 2 0) :: q40 (q40 (q13 ((dP e58 a0.fFinals) :: (dI (a0.fFinals.length : Int)) :: (dI v401) :: (dB (decide (v401 < (a0.fFinals.length : Int)))) :: (dI v401) :: (.vptr [(vI v411.fState), (vI v411.fWeight)]) :: (.v (.agg [(vI v411.fState), (vI v411.fWeight)])) :: (.ptr 2 0) :: (dI v411.fState) :: (dB v419) :: (dB v419) :: d414 :: d415 :: d416 :: d417 :: d418 :: (dB v427) :: (dB v427) :: d424 :: d425 :: d426 :: (dB v435) :: (dB v435) :: d432 :: d433 :: d434 :: (dB v436) :: q6 ((dI v401) :: (dB v451) :: (dB v451) :: d441 :: d442 :: d443 :: d444 :: d445 :: d446 :: d447 :: d448 :: d449 :: d450 :: (dB v452) :: q8 [])))))), [(b10_0 a0), b10_1, (b10_2 v411)]⟩) ?_ fun J10j453 => ?_
       ·intro d441 d442 d443 d444 d445 d446 d447 d448 d449 d450 v451 v452 h
        unfold f10_r12 at h
        refine Ops.dn ?_
        refine seqQ.n ?_
        refine Wp.cnd h k10_0 3 (by kernel_rfl) (fun h => ?_) (fun h => ?_)
        ·refine Wp.sq ?_
         refine Wp.rg ?_
         refine Ops.sg 2 2 ?_
         refine Ops.on 3 (fun h0 e0 => (len_r (T := T) h0 26 54 .plain e53 a0.fArcs (by kernel_rfl))) ?_
         refine Ops.sg 2 5 ?_
         obtain ⟨v454, ev454, h⟩ := bnd_some h
         refine Ops.on 6 (fun h0 e0 => (call_ok (E' := E) (h := h0) (by kernel_rfl) (Args.v (vI 13) (eI 13) (by kernel_rfl) (Args.v (vI (w64 ((a0.fArcs.length : Int) + v401))) (eI (w64 ((a0.fArcs.length : Int) + v401))) (by kernel_rfl) Args.nil)) (ok17 m 13 (w64 ((a0.fArcs.length : Int) + v401)) v454 ev454 n (by omega)))) ?_
         refine Ops.sg 1 7 ?_
         refine Ops.dn ?_
         refine seqQ.n ?_
         refine Wp.ret (by kernel_rfl) ?_
         refine sqQ.r ?_
         refine blkQ.r ?_
         refine seqQ.r ?_
         cases h
         refine lpQ.r ?_
         refine blkQ.r ?_
         exact hrx406 _ hsx410 _ (RetOk.forget k10_0 (by kernel_rfl) (RetOk.mk' (.v (.agg [(vI v454.fCode), (vI v454.fIndex)])) (by kernel_rfl) (by kernel_rfl)))
        ·refine Wp.sk ?_
         refine sqQ.n' ?_
         refine blkQ.n' ?_
         refine seqQ.n ?_
         refine Wp.rg ?_
         refine Ops.sg 2 2 ?_
         refine Ops.dn ?_
         refine lpQ.n ⟨q1 ((.ptr 0 0) :: (.ptr 1 0) :: q40 (q40 (q17 ((dP e58 a0.fFinals) :: (dI (a0.fFinals.length : Int)) :: (dI (w64 (v401 + 1))) :: q40 (q12 []))))), [(b10_0 a0), b10_1]⟩ (by kernel_rfl) ?_
         cases h
         exact ihx405 (w64 (v401 + 1))  _ hsx410 _ (by omega) hrx406 hxx407
       obtain ⟨v452, ev452, h⟩ := bnd_some h
       refine Ops.hv (fun KQ => ∀ v439 : Bool, (cnd v439 (bnd (idx a0.fFinals (w64 (v401 - 1))) fun v455 => some (decide (v455.fState ≥ v411.fState))) (some false)) = some v452 → KQ 3 ⟨q1 ((.ptr 0 0) :: (.ptr 1 0) :: q2 ((dI v401) :: (.ptr 2 0) :: q40 (q40 (q13 ((dP e58 a0.fFinals) :: (dI (a0.fFinals.length : Int)) :: (dI v401) :: (dB (decide (v401 < (a0.fFinals.length : Int)))) :: (dI v401) :: (.vptr [(vI v411.fState), (vI v411.fWeight)]) :: (.v (.agg [(vI v411.fState), (vI v411.fWeight)])) :: (.ptr 2 0) :: (dI v411.fState) :: (dB v419) :: (dB v419) :: d414 :: d415 :: d416 :: d417 :: d418 :: (dB v427) :: (dB v427) :: d424 :: d425 :: d426 :: (dB v435) :: (dB v435) :: d432 :: d433 :: d434 :: (dB v436) :: q6 ((dI v401) :: (dB v439) :: (dB v439) :: q19 [])))))), [(b10_0 a0), b10_1, (b10_2 v411)]⟩) ?_ fun G10g440 => Ops.st _ (by kernel_rfl) (G10g440 (decide (v401 > 0)) ev452)
       intro v439 ev452
       cases v439
       ·have ev452 := cnd_f ev452
        refine Ops.sg 11 14 ?_
        exact Ops.st _ (by kernel_rfl) (J10j453 U U U U U U U U U U false false (some_sub (fun v452 => f10_r12 m a0 v401 v452 = some sx409) ev452 h))
       ·have ev452 := cnd_t ev452
        refine Ops.sg 4 7 ?_
        obtain ⟨v455, ev455, ev452⟩ := bnd_some ev452
        refine Ops.on 8 (fun h0 e0 => (ix_r (T := T) h0 27 59 2 .plain e58 a0.fFinals (w64 (v401 - 1)) v455 ev455 (by kernel_rfl) (by kernel_rfl) (fun _ => rfl))) ?_
        refine Ops.sg 6 14 ?_
        exact Ops.st _ (by kernel_rfl) (J10j453 (.ptr 0 2) (dP e58 a0.fFinals) (dI v401) (dI (w64 (v401 - 1))) ((.vptr [(vI v455.fState), (vI v455.fWeight)])) ((.vptr [(vI v455.fState), (vI v455.fWeight)])) (dI v455.fState) (.ptr 2 0) (dI v411.fState) (dB (decide (v455.fState ≥ v411.fState))) true (decide (v455.fState ≥ v411.fState)) (some_sub (fun v452 => f10_r12 m a0 v401 v452 = some sx409) ev452 h))
     refine Ops.hv (fun KQ => ∀ v430 : Bool, f10_r13 m a0 v401 v411 (v430 || (decide (v411.fWeight > 1000000))) = some sx409 → KQ 16 ⟨q1 ((.ptr 0 0) :: (.ptr 1 0) :: q2 ((dI v401) :: (.ptr 2 0) :: q40 (q40 (q13 ((dP e58 a0.fFinals) :: (dI (a0.fFinals.length : Int)) :: (dI v401) :: (dB (decide (v401 < (a0.fFinals.length : Int)))) :: (dI v401) :: (.vptr [(vI v411.fState), (vI v411.fWeight)]) :: (.v (.agg [(vI v411.fState), (vI v411.fWeight)])) :: (.ptr 2 0) :: (dI v411.fState) :: (dB v419) :: (dB v419) :: d414 :: d415 :: d416 :: d417 :: d418 :: (dB v427) :: (dB v427) :: d424 :: d425 :: d426 :: (dB v430) :: (dB v430) :: q32 []))))), [(b10_0 a0), b10_1, (b10_2 v411)]⟩) ?_ fun G10g431 => Ops.st _ (by kernel_rfl) (G10g431 v428 h)
     intro v430 h
     cases v430
     ·refine Ops.sg 4 20 ?_
      exact Ops.st _ (by kernel_rfl) (J10j437 (.ptr 2 1) (dI v411.fWeight) (dB (decide (v411.fWeight > 1000000))) false (decide (v411.fWeight > 1000000)) h)
     ·refine Ops.sg 4 20 ?_
      exact Ops.st _ (by kernel_rfl) (J10j437 U U U true true h)
    refine Ops.hv (fun KQ => ∀ v422 : Bool, f10_r14 m a0 v401 v411 (v422 || (decide (v411.fWeight < 0))) = some sx409 → KQ 11 ⟨q1 ((.ptr 0 0) :: (.ptr 1 0) :: q2 ((dI v401) :: (.ptr 2 0) :: q40 (q40 (q13 ((dP e58 a0.fFinals) :: (dI (a0.fFinals.length : Int)) :: (dI v401) :: (dB (decide (v401 < (a0.fFinals.length : Int)))) :: (dI v401) :: (.vptr [(vI v411.fState), (vI v411.fWeight)]) :: (.v (.agg [(vI v411.fState), (vI v411.fWeight)])) :: (.ptr 2 0) :: (dI v411.fState) :: (dB v419) :: (dB v419) :: d414 :: d415 :: d416 :: d417 :: d418 :: (dB v422) :: (dB v422) :: q37 []))))), [(b10_0 a0), b10_1, (b10_2 v411)]⟩) ?_ fun G10g423 => Ops.st _ (by kernel_rfl) (G10g423 v420 h)
    intro v422 h
    cases v422
    ·refine Ops.sg 4 15 ?_
     exact Ops.st _ (by kernel_rfl) (J10j429 (.ptr 2 1) (dI v411.fWeight) (dB (decide (v411.fWeight < 0))) false (decide (v411.fWeight < 0)) h)
    ·refine Ops.sg 4 15 ?_
     exact Ops.st _ (by kernel_rfl) (J10j429 U U U true true h)
   refine Ops.hv (fun KQ => ∀ v412 : Bool, f10_r15 m a0 v401 v411 (v412 || (decide (v411.fState ≥ a0.fStates))) = some sx409 → KQ 4 ⟨q1 ((.ptr 0 0) :: (.ptr 1 0) :: q2 ((dI v401) :: (.ptr 2 0) :: q40 (q40 (q13 ((dP e58 a0.fFinals) :: (dI (a0.fFinals.length : Int)) :: (dI v401) :: (dB (decide (v401 < (a0.fFinals.length : Int)))) :: (dI v401) :: (.vptr [(vI v411.fState), (vI v411.fWeight)]) :: (.v (.agg [(vI v411.fState), (vI v411.fWeight)])) :: (.ptr 2 0) :: (dI v411.fState) :: (dB v412) :: (dB v412) :: q40 (q4 [])))))), [(b10_0 a0), b10_1, (b10_2 v411)]⟩) ?_ fun G10g413 => Ops.st _ (by kernel_rfl) (G10g413 (decide (v411.fState < 0)) h)
   intro v412 h
   cases v412
   ·refine Ops.sg 6 10 ?_
    exact Ops.st _ (by kernel_rfl) (J10j421 (.ptr 2 0) (dI v411.fState) (.ptr 0 0) (dI a0.fStates) (dB (decide (v411.fState ≥ a0.fStates))) false (decide (v411.fState ≥ a0.fStates)) h)
   ·refine Ops.sg 6 10 ?_
    exact Ops.st _ (by kernel_rfl) (J10j421 U U U U U true true h)
  ·refine Wp.exit (id := 2) (by kernel_rfl) ?_
   refine sqQ.x ?_
   refine seqQ.x ?_
   cases h
   refine lpQ.x ?_
   refine blkQ.x ⟨q1 ((.ptr 0 0) :: (.ptr 1 0) :: q40 (q40 (q17 ((dP e58 a0.fFinals) :: (dI (a0.fFinals.length : Int)) :: (dI v401) :: q40 (q12 []))))), [(b10_0 a0), b10_1]⟩ (by kernel_rfl) ?_
   exact hxx407 v401  hsx410
theorem f10_hLx307 (m : Nat) (a0 : S28) (o : S30) (n : Nat) (hn : m + 2 ≤ n + 1)  : ∀ (kx204 : Nat) (v202 : Int)  (ox203 : S30 ⊕ (Int)), iter (fun (y : Int) => f10_B11 m a0 y) kx204 v202 = some ox203 → ∀ nx205, kx204 ≤ nx205 → (∀ r, ox203 = .inl r → ∀ σ, RetOk (X10 n) (resOf Proofs.Try.prog 10) (e30 r) σ → (seqQ (X10 n) (cR (cR (cR (cR C10)))) (fnQ (X10 n).E.T (resOf Proofs.Try.prog 10) (e30 o))) .ret σ) → (∀ (y : Int) , ox203 = .inr y → (seqQ (X10 n) (cR (cR (cR (cR C10)))) (fnQ (X10 n).E.T (resOf Proofs.Try.prog 10) (e30 o))) .normal ⟨q1 ((.ptr 0 0) :: (.ptr 1 0) :: q19 ((dP e53 a0.fArcs) :: (dI (a0.fArcs.length : Int)) :: (dI y) :: q40 (q40 (q40 (q10 []))))), [(b10_0 a0), b10_1]⟩) → Lp (X10 n) k10_1 2 (cL (cL (cR (cL (cR (cR (cR C10))))))) nx205 ⟨q1 ((.ptr 0 0) :: (.ptr 1 0) :: q19 ((dP e53 a0.fArcs) :: (dI (a0.fArcs.length : Int)) :: (dI v202) :: q40 (q40 (q40 (q10 []))))), [(b10_0 a0), b10_1]⟩ (blkQ (X10 n) 0 [1, 2] 2 (seqQ (X10 n) (cR (cR (cR (cR C10)))) (fnQ (X10 n).E.T (resOf Proofs.Try.prog 10) (e30 o)))) := by
 intro kx204
 induction kx204 with
 | zero => intro v202  ox203 h; exact (iter_zero h).elim
 | succ kx204 ihx206 =>
  intro v202  ox203 h nx205 hnx209 hrx207 hxx208
  obtain ⟨nx205, rfl⟩ : ∃ q, nx205 = q + 1 := ⟨nx205 - 1, by omega⟩
  obtain ⟨sx210, h, hsx211⟩ := iter_some h
  have h : f10_B11 m a0 v202 = some sx210 := h
  unfold f10_B11 at h
  refine Lp.succ ?_
  refine Wp.sq ?_
  refine Wp.rg ?_
  refine Ops.sg 1 1 ?_
  refine Ops.dn ?_
  refine seqQ.n ?_
  refine Wp.sq ?_
  refine Wp.cnd h k10_1 2 (by kernel_rfl) (fun h => ?_) (fun h => ?_)
  ·refine Wp.sk ?_
   refine sqQ.n' ?_
   refine seqQ.n ?_
   refine Wp.sq ?_
   refine Wp.block' 1 k10_1 2 (by kernel_rfl) ?_
   refine Wp.sq ?_
   refine Wp.rg ?_
   refine Ops.sg 1 1 ?_
   obtain ⟨v212, ev212, h⟩ := bnd_some h
   refine Ops.on 2 (fun h0 e0 => (ix_r (T := T) h0 26 54 5 .plain e53 a0.fArcs v202 v212 ev212 (by kernel_rfl) (by kernel_rfl) (fun _ => rfl))) ?_
   refine Ops.sg 4 6 ?_
   refine Ops.dn ?_
   refine seqQ.n ?_
   refine Wp.sq ?_
   refine Wp.sq ?_
   refine Wp.rg ?_
   refine Ops.sg 4 4 ?_
   refine Ops.hv (fun KQ => ∀ (d215 d216 d217 d218 d219 : D) (v220 : Bool) (v221 : Bool), f10_r10 m a0 v202 v212 v221 = some sx210 → KQ 10 ⟨q1 ((.ptr 0 0) :: (.ptr 1 0) :: (dI v202) :: (.ptr 2 0) :: q17 ((dP e53 a0.fArcs) :: (dI (a0.fArcs.length : Int)) :: (dI v202) :: (dB (decide (v202 < (a0.fArcs.length : Int)))) :: (dI v202) :: (.vptr [(vI v212.fFrom), (vI v212.fTo), (vI v212.fIn), (vI v212.fOut), (vI v212.fWeight)]) :: (.v (.agg [(vI v212.fFrom), (vI v212.fTo), (vI v212.fIn), (vI v212.fOut), (vI v212.fWeight)])) :: (.ptr 2 0) :: (dI v212.fFrom) :: (dB v220) :: (dB v220) :: d215 :: d216 :: d217 :: d218 :: d219 :: (dB v221) :: q40 (q40 (q36 [])))), [(b10_0 a0), b10_1, (b10_3 v212)]⟩) ?_ fun J10j222 => ?_
   ·intro d215 d216 d217 d218 d219 v220 v221 h
    unfold f10_r10 at h
    refine Ops.sg 1 11 ?_
    refine Ops.hv (fun KQ => ∀ (d225 d226 d227 : D) (v228 : Bool) (v229 : Bool), f10_r9 m a0 v202 v212 v229 = some sx210 → KQ 15 ⟨q1 ((.ptr 0 0) :: (.ptr 1 0) :: (dI v202) :: (.ptr 2 0) :: q17 ((dP e53 a0.fArcs) :: (dI (a0.fArcs.length : Int)) :: (dI v202) :: (dB (decide (v202 < (a0.fArcs.length : Int)))) :: (dI v202) :: (.vptr [(vI v212.fFrom), (vI v212.fTo), (vI v212.fIn), (vI v212.fOut), (vI v212.fWeight)]) :: (.v (.agg [(vI v212.fFrom), (vI v212.fTo), (vI v212.fIn), (vI v212.fOut), (vI v212.fWeight)])) :: (.ptr 2 0) :: (dI v212.fFrom) :: (dB v220) :: (dB v220) :: d215 :: d216 :: d217 :: d218 :: d219 :: (dB v228) :: (dB v228) :: d225 :: d226 :: d227 :: (dB v229) :: q40 (q40 (q31 [])))), [(b10_0 a0), b10_1, (b10_3 v212)]⟩) ?_ fun J10j230 => ?_
    ·intro d225 d226 d227 v228 v229 h
     unfold f10_r9 at h
     refine Ops.sg 1 16 ?_
     refine Ops.hv (fun KQ => ∀ (d233 d234 d235 d236 d237 : D) (v238 : Bool) (v239 : Bool), f10_r8 m a0 v202 v212 v239 = some sx210 → KQ 22 ⟨q1 ((.ptr 0 0) :: (.ptr 1 0) :: (dI v202) :: (.ptr 2 0) :: q17 ((dP e53 a0.fArcs) :: (dI (a0.fArcs.length : Int)) :: (dI v202) :: (dB (decide (v202 < (a0.fArcs.length : Int)))) :: (dI v202) :: (.vptr [(vI v212.fFrom), (vI v212.fTo), (vI v212.fIn), (vI v212.fOut), (vI v212.fWeight)]) :: (.v (.agg [(vI v212.fFrom), (vI v212.fTo), (vI v212.fIn), (vI v212.fOut), (vI v212.fWeight)])) :: (.ptr 2 0) :: (dI v212.fFrom) :: (dB v220) :: (dB v220) :: d215 :: d216 :: d217 :: d218 :: d219 :: (dB v228) :: (dB v228) :: d225 :: d226 :: d227 :: (dB v238) :: (dB v238) :: d233 :: d234 :: d235 :: d236 :: d237 :: (dB v239) :: q40 (q40 (q24 [])))), [(b10_0 a0), b10_1, (b10_3 v212)]⟩) ?_ fun J10j240 => ?_
     ·intro d233 d234 d235 d236 d237 v238 v239 h
      unfold f10_r8 at h
      refine Ops.sg 1 23 ?_
      refine Ops.hv (fun KQ => ∀ (d243 d244 d245 : D) (v246 : Bool) (v247 : Bool), f10_r7 m a0 v202 v212 v247 = some sx210 → KQ 27 ⟨q1 ((.ptr 0 0) :: (.ptr 1 0) :: (dI v202) :: (.ptr 2 0) :: q17 ((dP e53 a0.fArcs) :: (dI (a0.fArcs.length : Int)) :: (dI v202) :: (dB (decide (v202 < (a0.fArcs.length : Int)))) :: (dI v202) :: (.vptr [(vI v212.fFrom), (vI v212.fTo), (vI v212.fIn), (vI v212.fOut), (vI v212.fWeight)]) :: (.v (.agg [(vI v212.fFrom), (vI v212.fTo), (vI v212.fIn), (vI v212.fOut), (vI v212.fWeight)])) :: (.ptr 2 0) :: (dI v212.fFrom) :: (dB v220) :: (dB v220) :: d215 :: d216 :: d217 :: d218 :: d219 :: (dB v228) :: (dB v228) :: d225 :: d226 :: d227 :: (dB v238) :: (dB v238) :: d233 :: d234 :: d235 :: d236 :: d237 :: (dB v246) :: (dB v246) :: d243 :: d244 :: d245 :: (dB v247) :: q40 (q40 (q19 [])))), [(b10_0 a0), b10_1, (b10_3 v212)]⟩) ?_ fun J10j248 => ?_
      ·intro d243 d244 d245 v246 v247 h
       unfold f10_r7 at h
       refine Ops.sg 1 28 ?_
       refine Ops.hv (fun KQ => ∀ (d251 d252 d253 : D) (v254 : Bool) (v255 : Bool), f10_r6 m a0 v202 v212 v255 = some sx210 → KQ 32 ⟨q1 ((.ptr 0 0) :: (.ptr 1 0) :: (dI v202) :: (.ptr 2 0) :: q17 ((dP e53 a0.fArcs) :: (dI (a0.fArcs.length : Int)) :: (dI v202) :: (dB (decide (v202 < (a0.fArcs.length : Int)))) :: (dI v202) :: (.vptr [(vI v212.fFrom), (vI v212.fTo), (vI v212.fIn), (vI v212.fOut), (vI v212.fWeight)]) :: (.v (.agg [(vI v212.fFrom), (vI v212.fTo), (vI v212.fIn), (vI v212.fOut), (vI v212.fWeight)])) :: (.ptr 2 0) :: (dI v212.fFrom) :: (dB v220) :: (dB v220) :: d215 :: d216 :: d217 :: d218 :: d219 :: (dB v228) :: (dB v228) :: d225 :: d226 :: d227 :: (dB v238) :: (dB v238) :: d233 :: d234 :: d235 :: d236 :: d237 :: (dB v246) :: (dB v246) :: d243 :: d244 :: d245 :: (dB v254) :: (dB v254) :: d251 :: d252 :: d253 :: (dB v255) :: q40 (q40 (q14 [])))), [(b10_0 a0), b10_1, (b10_3 v212)]⟩) ?_ fun J10j256 => ?_
       ·intro d251 d252 d253 v254 v255 h
        unfold f10_r6 at h
        refine Ops.sg 1 33 ?_
        refine Ops.hv (fun KQ => ∀ (d259 d260 d261 : D) (v262 : Bool) (v263 : Bool), f10_r5 m a0 v202 v212 v263 = some sx210 → KQ 37 ⟨q1 ((.ptr 0 0) :: (.ptr 1 0) :: (dI v202) :: (.ptr 2 0) :: q17 ((dP e53 a0.fArcs) :: (dI (a0.fArcs.length : Int)) :: (dI v202) :: (dB (decide (v202 < (a0.fArcs.length : Int)))) :: (dI v202) :: (.vptr [(vI v212.fFrom), (vI v212.fTo), (vI v212.fIn), (vI v212.fOut), (vI v212.fWeight)]) :: (.v (.agg [(vI v212.fFrom), (vI v212.fTo), (vI v212.fIn), (vI v212.fOut), (vI v212.fWeight)])) :: (.ptr 2 0) :: (dI v212.fFrom) :: (dB v220) :: (dB v220) :: d215 :: d216 :: d217 :: d218 :: d219 :: (dB v228) :: (dB v228) :: d225 :: d226 :: d227 :: (dB v238) :: (dB v238) :: d233 :: d234 :: d235 :: d236 :: d237 :: (dB v246) :: (dB v246) :: d243 :: d244 :: d245 :: (dB v254) :: (dB v254) :: d251 :: d252 :: d253 :: (dB v262) :: (dB v262) :: d259 :: d260 :: d261 :: (dB v263) :: q40 (q40 (q9 [])))), [(b10_0 a0), b10_1, (b10_3 v212)]⟩) ?_ fun J10j264 => ?_
        ·intro d259 d260 d261 v262 v263 h
         unfold f10_r5 at h
         refine Ops.sg 1 38 ?_
         refine Ops.hv (fun KQ => ∀ (d267 d268 d269 : D) (v270 : Bool) (v271 : Bool), f10_r4 m a0 v202 v212 v271 = some sx210 → KQ 42 ⟨q1 ((.ptr 0 0) :: (.ptr 1 0) :: (dI v202) :: (.ptr 2 0) :: q17 ((dP e53 a0.fArcs) :: (dI (a0.fArcs.length : Int)) :: (dI v202) :: (dB (decide (v202 < (a0.fArcs.length : Int)))) :: (dI v202) :: (.vptr [(vI v212.fFrom), (vI v212.fTo), (vI v212.fIn), (vI v212.fOut), (vI v212.fWeight)]) :: (.v (.agg [(vI v212.fFrom), (vI v212.fTo), (vI v212.fIn), (vI v212.fOut), (vI v212.fWeight)])) :: (.ptr 2 0) :: (dI v212.fFrom) :: (dB v220) :: (dB v220) :: d215 :: d216 :: d217 :: d218 :: d219 :: (dB v228) :: (dB v228) :: d225 :: d226 :: d227 :: (dB v238) :: (dB v238) :: d233 :: d234 :: d235 :: d236 :: d237 :: (dB v246) :: (dB v246) :: d243 :: d244 :: d245 :: (dB v254) :: (dB v254) :: d251 :: d252 :: d253 :: (dB v262) :: (dB v262) :: d259 :: d260 :: d261 :: (dB v270) :: (dB v270) :: d267 :: d268 :: d269 :: (dB v271) :: q40 (q40 (q4 [])))), [(b10_0 a0), b10_1, (b10_3 v212)]⟩) ?_ fun J10j272 => ?_
         ·intro d267 d268 d269 v270 v271 h
          unfold f10_r4 at h
          refine Ops.sg 1 43 ?_
          refine Ops.hv (fun KQ => ∀ (d275 d276 d277 : D) (v278 : Bool) (v279 : Bool), f10_r3 m a0 v202 v212 v279 = some sx210 → KQ 47 ⟨q1 ((.ptr 0 0) :: (.ptr 1 0) :: (dI v202) :: (.ptr 2 0) :: q17 ((dP e53 a0.fArcs) :: (dI (a0.fArcs.length : Int)) :: (dI v202) :: (dB (decide (v202 < (a0.fArcs.length : Int)))) :: (dI v202) :: (.vptr [(vI v212.fFrom), (vI v212.fTo), (vI v212.fIn), (vI v212.fOut), (vI v212.fWeight)]) :: (.v (.agg [(vI v212.fFrom), (vI v212.fTo), (vI v212.fIn), (vI v212.fOut), (vI v212.fWeight)])) :: (.ptr 2 0) :: (dI v212.fFrom) :: (dB v220) :: (dB v220) :: d215 :: d216 :: d217 :: d218 :: d219 :: (dB v228) :: (dB v228) :: d225 :: d226 :: d227 :: (dB v238) :: (dB v238) :: d233 :: d234 :: d235 :: d236 :: d237 :: (dB v246) :: (dB v246) :: d243 :: d244 :: d245 :: (dB v254) :: (dB v254) :: d251 :: d252 :: d253 :: (dB v262) :: (dB v262) :: d259 :: d260 :: d261 :: (dB v270) :: (dB v270) :: d267 :: d268 :: d269 :: (dB v278) :: (dB v278) :: d275 :: d276 :: d277 :: (dB v279) :: q40 (q39 []))), [(b10_0 a0), b10_1, (b10_3 v212)]⟩) ?_ fun J10j280 => ?_
          ·intro d275 d276 d277 v278 v279 h
           unfold f10_r3 at h
           refine Ops.sg 1 48 ?_
           refine Ops.hv (fun KQ => ∀ (d283 d284 d285 : D) (v286 : Bool) (v287 : Bool), f10_r2 m a0 v202 v212 v287 = some sx210 → KQ 52 ⟨q1 ((.ptr 0 0) :: (.ptr 1 0) :: (dI v202) :: (.ptr 2 0) :: q17 ((dP e53 a0.fArcs) :: (dI (a0.fArcs.length : Int)) :: (dI v202) :: (dB (decide (v202 < (a0.fArcs.length : Int)))) :: (dI v202) :: (.vptr [(vI v212.fFrom), (vI v212.fTo), (vI v212.fIn), (vI v212.fOut), (vI v212.fWeight)]) :: (.v (.agg [(vI v212.fFrom), (vI v212.fTo), (vI v212.fIn), (vI v212.fOut), (vI v212.fWeight)])) :: (.ptr 2 0) :: (dI v212.fFrom) :: (dB v220) :: (dB v220) :: d215 :: d216 :: d217 :: d218 :: d219 :: (dB v228) :: (dB v228) :: d225 :: d226 :: d227 :: (dB v238) :: (dB v238) :: d233 :: d234 :: d235 :: d236 :: d237 :: (dB v246) :: (dB v246) :: d243 :: d244 :: d245 :: (dB v254) :: (dB v254) :: d251 :: d252 :: d253 :: (dB v262) :: (dB v262) :: d259 :: d260 :: d261 :: (dB v270) :: (dB v270) :: d267 :: d268 :: d269 :: (dB v278) :: (dB v278) :: d275 :: d276 :: d277 :: (dB v286) :: (dB v286) :: d283 :: d284 :: d285 :: (dB v287) :: q40 (q34 []))), [(b10_0 a0), b10_1, (b10_3 v212)]⟩) ?_ fun J10j288 => ?_
           ·intro d283 d284 d285 v286 v287 h
            unfold f10_r2 at h
            refine Ops.dn ?_
            refine seqQ.n ?_
            refine Wp.cnd h [1, 2, 3, 4, 22, 23, 24] 3 (by kernel_rfl) (fun h => ?_) (fun h => ?_)
            ·refine Wp.sq ?_
             refine Wp.rg ?_
             refine Ops.sg 1 1 ?_
             obtain ⟨v289, ev289, h⟩ := bnd_some h
             refine Ops.on 2 (fun h0 e0 => (call_ok (E' := E) (h := h0) (by kernel_rfl) (Args.v (vI 3) (eI 3) (by kernel_rfl) (Args.v (vI v202) (eI v202) (by kernel_rfl) Args.nil)) (ok17 m 3 v202 v289 ev289 n (by omega)))) ?_
             refine Ops.sg 1 3 ?_
             refine Ops.dn ?_
             refine seqQ.n ?_
             refine Wp.ret (by kernel_rfl) ?_
             refine sqQ.r ?_
             refine seqQ.r ?_
             refine blkQ.r ?_
             refine seqQ.r ?_
             cases h
             refine lpQ.r ?_
             refine blkQ.r ?_
             exact hrx207 _ hsx211 _ (RetOk.forget k10_1 (by kernel_rfl) (RetOk.mk' (.v (.agg [(vI v289.fCode), (vI v289.fIndex)])) (by kernel_rfl) (by kernel_rfl)))
            ·refine Wp.sk ?_
             refine sqQ.n' ?_
             refine seqQ.n ?_
             refine Wp.sq ?_
             refine Wp.rg ?_
             refine Ops.sg 3 3 ?_
             refine Ops.hv (fun KQ => ∀ (d292 d293 d294 d295 d296 d297 d298 d299 d300 : D) (v301 : Bool) (v302 : Bool), f10_r1 m v202 v302 = some sx210 → KQ 13 ⟨q1 ((.ptr 0 0) :: (.ptr 1 0) :: (dI v202) :: (.ptr 2 0) :: q17 ((dP e53 a0.fArcs) :: (dI (a0.fArcs.length : Int)) :: (dI v202) :: (dB (decide (v202 < (a0.fArcs.length : Int)))) :: (dI v202) :: (.vptr [(vI v212.fFrom), (vI v212.fTo), (vI v212.fIn), (vI v212.fOut), (vI v212.fWeight)]) :: (.v (.agg [(vI v212.fFrom), (vI v212.fTo), (vI v212.fIn), (vI v212.fOut), (vI v212.fWeight)])) :: (.ptr 2 0) :: (dI v212.fFrom) :: (dB v220) :: (dB v220) :: d215 :: d216 :: d217 :: d218 :: d219 :: (dB v228) :: (dB v228) :: d225 :: d226 :: d227 :: (dB v238) :: (dB v238) :: d233 :: d234 :: d235 :: d236 :: d237 :: (dB v246) :: (dB v246) :: d243 :: d244 :: d245 :: (dB v254) :: (dB v254) :: d251 :: d252 :: d253 :: (dB v262) :: (dB v262) :: d259 :: d260 :: d261 :: (dB v270) :: (dB v270) :: d267 :: d268 :: d269 :: (dB v278) :: (dB v278) :: d275 :: d276 :: d277 :: (dB v286) :: (dB v286) :: d283 :: d284 :: d285 :: (dB v287) :: q2 ((dI v202) :: (dB v301) :: (dB v301) :: d292 :: d293 :: d294 :: d295 :: d296 :: d297 :: d298 :: d299 :: d300 :: (dB v302) :: q40 (q19 [])))), [(b10_0 a0), b10_1, (b10_3 v212)]⟩) ?_ fun J10j303 => ?_
             ·intro d292 d293 d294 d295 d296 d297 d298 d299 d300 v301 v302 h
              unfold f10_r1 at h
              refine Ops.dn ?_
              refine seqQ.n ?_
              refine Wp.cnd h k10_1 3 (by kernel_rfl) (fun h => ?_) (fun h => ?_)
              ·refine Wp.sq ?_
               refine Wp.rg ?_
               refine Ops.sg 1 1 ?_
               obtain ⟨v304, ev304, h⟩ := bnd_some h
               refine Ops.on 2 (fun h0 e0 => (call_ok (E' := E) (h := h0) (by kernel_rfl) (Args.v (vI 13) (eI 13) (by kernel_rfl) (Args.v (vI v202) (eI v202) (by kernel_rfl) Args.nil)) (ok17 m 13 v202 v304 ev304 n (by omega)))) ?_
               refine Ops.sg 1 3 ?_
               refine Ops.dn ?_
               refine seqQ.n ?_
               refine Wp.ret (by kernel_rfl) ?_
               refine sqQ.r ?_
               refine blkQ.r ?_
               refine seqQ.r ?_
               cases h
               refine lpQ.r ?_
               refine blkQ.r ?_
               exact hrx207 _ hsx211 _ (RetOk.forget k10_1 (by kernel_rfl) (RetOk.mk' (.v (.agg [(vI v304.fCode), (vI v304.fIndex)])) (by kernel_rfl) (by kernel_rfl)))
              ·refine Wp.sk ?_
               refine sqQ.n' ?_
               refine blkQ.n' ?_
               refine seqQ.n ?_
               refine Wp.rg ?_
               refine Ops.sg 2 2 ?_
               refine Ops.dn ?_
               refine lpQ.n ⟨q1 ((.ptr 0 0) :: (.ptr 1 0) :: q19 ((dP e53 a0.fArcs) :: (dI (a0.fArcs.length : Int)) :: (dI (w64 (v202 + 1))) :: q40 (q40 (q40 (q10 []))))), [(b10_0 a0), b10_1]⟩ (by kernel_rfl) ?_
               cases h
               exact ihx206 (w64 (v202 + 1))  _ hsx211 _ (by omega) hrx207 hxx208
             obtain ⟨v302, ev302, h⟩ := bnd_some h
             refine Ops.hv (fun KQ => ∀ v290 : Bool, (cnd v290 (bnd (idx a0.fArcs (w64 (v202 - 1))) fun v305 => bnd (f21 m v305 v212) fun v306 => some (!v306)) (some false)) = some v302 → KQ 3 ⟨q1 ((.ptr 0 0) :: (.ptr 1 0) :: (dI v202) :: (.ptr 2 0) :: q17 ((dP e53 a0.fArcs) :: (dI (a0.fArcs.length : Int)) :: (dI v202) :: (dB (decide (v202 < (a0.fArcs.length : Int)))) :: (dI v202) :: (.vptr [(vI v212.fFrom), (vI v212.fTo), (vI v212.fIn), (vI v212.fOut), (vI v212.fWeight)]) :: (.v (.agg [(vI v212.fFrom), (vI v212.fTo), (vI v212.fIn), (vI v212.fOut), (vI v212.fWeight)])) :: (.ptr 2 0) :: (dI v212.fFrom) :: (dB v220) :: (dB v220) :: d215 :: d216 :: d217 :: d218 :: d219 :: (dB v228) :: (dB v228) :: d225 :: d226 :: d227 :: (dB v238) :: (dB v238) :: d233 :: d234 :: d235 :: d236 :: d237 :: (dB v246) :: (dB v246) :: d243 :: d244 :: d245 :: (dB v254) :: (dB v254) :: d251 :: d252 :: d253 :: (dB v262) :: (dB v262) :: d259 :: d260 :: d261 :: (dB v270) :: (dB v270) :: d267 :: d268 :: d269 :: (dB v278) :: (dB v278) :: d275 :: d276 :: d277 :: (dB v286) :: (dB v286) :: d283 :: d284 :: d285 :: (dB v287) :: q2 ((dI v202) :: (dB v290) :: (dB v290) :: q40 (q29 [])))), [(b10_0 a0), b10_1, (b10_3 v212)]⟩) ?_ fun G10g291 => Ops.st _ (by kernel_rfl) (G10g291 (decide (v202 > 0)) ev302)
             intro v290 ev302
             cases v290
             ·have ev302 := cnd_f ev302
              refine Ops.sg 10 13 ?_
              exact Ops.st _ (by kernel_rfl) (J10j303 U U U U U U U U U false false (some_sub (fun v302 => f10_r1 m v202 v302 = some sx210) ev302 h))
             ·have ev302 := cnd_t ev302
              refine Ops.sg 4 7 ?_
              obtain ⟨v305, ev305, ev302⟩ := bnd_some ev302
              refine Ops.on 8 (fun h0 e0 => (ix_r (T := T) h0 26 54 5 .plain e53 a0.fArcs (w64 (v202 - 1)) v305 ev305 (by kernel_rfl) (by kernel_rfl) (fun _ => rfl))) ?_
              refine Ops.sg 2 10 ?_
              obtain ⟨v306, ev306, ev302⟩ := bnd_some ev302
              refine Ops.on 11 (fun h0 e0 => (call_ok (E' := E) (h := h0) (by kernel_rfl) (Args.v (.agg [(vI v305.fFrom), (vI v305.fTo), (vI v305.fIn), (vI v305.fOut), (vI v305.fWeight)]) (e53 v305) (by kernel_rfl) (Args.v (.agg [(vI v212.fFrom), (vI v212.fTo), (vI v212.fIn), (vI v212.fOut), (vI v212.fWeight)]) (e53 v212) (by kernel_rfl) Args.nil)) (ok21 m v305 v212 v306 ev306 n (by omega)))) ?_
              refine Ops.sg 2 13 ?_
              exact Ops.st _ (by kernel_rfl) (J10j303 (.ptr 0 1) (dP e53 a0.fArcs) (dI v202) (dI (w64 (v202 - 1))) ((.vptr [(vI v305.fFrom), (vI v305.fTo), (vI v305.fIn), (vI v305.fOut), (vI v305.fWeight)])) ((.v (.agg [(vI v305.fFrom), (vI v305.fTo), (vI v305.fIn), (vI v305.fOut), (vI v305.fWeight)]))) ((.v (.agg [(vI v212.fFrom), (vI v212.fTo), (vI v212.fIn), (vI v212.fOut), (vI v212.fWeight)]))) (dB v306) (dB (!v306)) true (!v306) (some_sub (fun v302 => f10_r1 m v202 v302 = some sx210) ev302 h))
           refine Ops.hv (fun KQ => ∀ v281 : Bool, f10_r2 m a0 v202 v212 (v281 || (decide (v212.fWeight > 1000000))) = some sx210 → KQ 48 ⟨q1 ((.ptr 0 0) :: (.ptr 1 0) :: (dI v202) :: (.ptr 2 0) :: q17 ((dP e53 a0.fArcs) :: (dI (a0.fArcs.length : Int)) :: (dI v202) :: (dB (decide (v202 < (a0.fArcs.length : Int)))) :: (dI v202) :: (.vptr [(vI v212.fFrom), (vI v212.fTo), (vI v212.fIn), (vI v212.fOut), (vI v212.fWeight)]) :: (.v (.agg [(vI v212.fFrom), (vI v212.fTo), (vI v212.fIn), (vI v212.fOut), (vI v212.fWeight)])) :: (.ptr 2 0) :: (dI v212.fFrom) :: (dB v220) :: (dB v220) :: d215 :: d216 :: d217 :: d218 :: d219 :: (dB v228) :: (dB v228) :: d225 :: d226 :: d227 :: (dB v238) :: (dB v238) :: d233 :: d234 :: d235 :: d236 :: d237 :: (dB v246) :: (dB v246) :: d243 :: d244 :: d245 :: (dB v254) :: (dB v254) :: d251 :: d252 :: d253 :: (dB v262) :: (dB v262) :: d259 :: d260 :: d261 :: (dB v270) :: (dB v270) :: d267 :: d268 :: d269 :: (dB v278) :: (dB v278) :: d275 :: d276 :: d277 :: (dB v281) :: (dB v281) :: q40 (q38 []))), [(b10_0 a0), b10_1, (b10_3 v212)]⟩) ?_ fun G10g282 => Ops.st _ (by kernel_rfl) (G10g282 v279 h)
           intro v281 h
           cases v281
           ·refine Ops.sg 4 52 ?_
            exact Ops.st _ (by kernel_rfl) (J10j288 (.ptr 2 4) (dI v212.fWeight) (dB (decide (v212.fWeight > 1000000))) false (decide (v212.fWeight > 1000000)) h)
           ·refine Ops.sg 4 52 ?_
            exact Ops.st _ (by kernel_rfl) (J10j288 U U U true true h)
          refine Ops.hv (fun KQ => ∀ v273 : Bool, f10_r3 m a0 v202 v212 (v273 || (decide (v212.fWeight < 0))) = some sx210 → KQ 43 ⟨q1 ((.ptr 0 0) :: (.ptr 1 0) :: (dI v202) :: (.ptr 2 0) :: q17 ((dP e53 a0.fArcs) :: (dI (a0.fArcs.length : Int)) :: (dI v202) :: (dB (decide (v202 < (a0.fArcs.length : Int)))) :: (dI v202) :: (.vptr [(vI v212.fFrom), (vI v212.fTo), (vI v212.fIn), (vI v212.fOut), (vI v212.fWeight)]) :: (.v (.agg [(vI v212.fFrom), (vI v212.fTo), (vI v212.fIn), (vI v212.fOut), (vI v212.fWeight)])) :: (.ptr 2 0) :: (dI v212.fFrom) :: (dB v220) :: (dB v220) :: d215 :: d216 :: d217 :: d218 :: d219 :: (dB v228) :: (dB v228) :: d225 :: d226 :: d227 :: (dB v238) :: (dB v238) :: d233 :: d234 :: d235 :: d236 :: d237 :: (dB v246) :: (dB v246) :: d243 :: d244 :: d245 :: (dB v254) :: (dB v254) :: d251 :: d252 :: d253 :: (dB v262) :: (dB v262) :: d259 :: d260 :: d261 :: (dB v270) :: (dB v270) :: d267 :: d268 :: d269 :: (dB v273) :: (dB v273) :: q40 (q40 (q3 [])))), [(b10_0 a0), b10_1, (b10_3 v212)]⟩) ?_ fun G10g274 => Ops.st _ (by kernel_rfl) (G10g274 v271 h)
          intro v273 h
          cases v273
          ·refine Ops.sg 4 47 ?_
           exact Ops.st _ (by kernel_rfl) (J10j280 (.ptr 2 4) (dI v212.fWeight) (dB (decide (v212.fWeight < 0))) false (decide (v212.fWeight < 0)) h)
          ·refine Ops.sg 4 47 ?_
           exact Ops.st _ (by kernel_rfl) (J10j280 U U U true true h)
         refine Ops.hv (fun KQ => ∀ v265 : Bool, f10_r4 m a0 v202 v212 (v265 || (decide (v212.fOut > 1114111))) = some sx210 → KQ 38 ⟨q1 ((.ptr 0 0) :: (.ptr 1 0) :: (dI v202) :: (.ptr 2 0) :: q17 ((dP e53 a0.fArcs) :: (dI (a0.fArcs.length : Int)) :: (dI v202) :: (dB (decide (v202 < (a0.fArcs.length : Int)))) :: (dI v202) :: (.vptr [(vI v212.fFrom), (vI v212.fTo), (vI v212.fIn), (vI v212.fOut), (vI v212.fWeight)]) :: (.v (.agg [(vI v212.fFrom), (vI v212.fTo), (vI v212.fIn), (vI v212.fOut), (vI v212.fWeight)])) :: (.ptr 2 0) :: (dI v212.fFrom) :: (dB v220) :: (dB v220) :: d215 :: d216 :: d217 :: d218 :: d219 :: (dB v228) :: (dB v228) :: d225 :: d226 :: d227 :: (dB v238) :: (dB v238) :: d233 :: d234 :: d235 :: d236 :: d237 :: (dB v246) :: (dB v246) :: d243 :: d244 :: d245 :: (dB v254) :: (dB v254) :: d251 :: d252 :: d253 :: (dB v262) :: (dB v262) :: d259 :: d260 :: d261 :: (dB v265) :: (dB v265) :: q40 (q40 (q8 [])))), [(b10_0 a0), b10_1, (b10_3 v212)]⟩) ?_ fun G10g266 => Ops.st _ (by kernel_rfl) (G10g266 v263 h)
         intro v265 h
         cases v265
         ·refine Ops.sg 4 42 ?_
          exact Ops.st _ (by kernel_rfl) (J10j272 (.ptr 2 3) (dI v212.fOut) (dB (decide (v212.fOut > 1114111))) false (decide (v212.fOut > 1114111)) h)
         ·refine Ops.sg 4 42 ?_
          exact Ops.st _ (by kernel_rfl) (J10j272 U U U true true h)
        refine Ops.hv (fun KQ => ∀ v257 : Bool, f10_r5 m a0 v202 v212 (v257 || (decide (v212.fOut < 0))) = some sx210 → KQ 33 ⟨q1 ((.ptr 0 0) :: (.ptr 1 0) :: (dI v202) :: (.ptr 2 0) :: q17 ((dP e53 a0.fArcs) :: (dI (a0.fArcs.length : Int)) :: (dI v202) :: (dB (decide (v202 < (a0.fArcs.length : Int)))) :: (dI v202) :: (.vptr [(vI v212.fFrom), (vI v212.fTo), (vI v212.fIn), (vI v212.fOut), (vI v212.fWeight)]) :: (.v (.agg [(vI v212.fFrom), (vI v212.fTo), (vI v212.fIn), (vI v212.fOut), (vI v212.fWeight)])) :: (.ptr 2 0) :: (dI v212.fFrom) :: (dB v220) :: (dB v220) :: d215 :: d216 :: d217 :: d218 :: d219 :: (dB v228) :: (dB v228) :: d225 :: d226 :: d227 :: (dB v238) :: (dB v238) :: d233 :: d234 :: d235 :: d236 :: d237 :: (dB v246) :: (dB v246) :: d243 :: d244 :: d245 :: (dB v254) :: (dB v254) :: d251 :: d252 :: d253 :: (dB v257) :: (dB v257) :: q40 (q40 (q13 [])))), [(b10_0 a0), b10_1, (b10_3 v212)]⟩) ?_ fun G10g258 => Ops.st _ (by kernel_rfl) (G10g258 v255 h)
        intro v257 h
        cases v257
        ·refine Ops.sg 4 37 ?_
         exact Ops.st _ (by kernel_rfl) (J10j264 (.ptr 2 3) (dI v212.fOut) (dB (decide (v212.fOut < 0))) false (decide (v212.fOut < 0)) h)
        ·refine Ops.sg 4 37 ?_
         exact Ops.st _ (by kernel_rfl) (J10j264 U U U true true h)
       refine Ops.hv (fun KQ => ∀ v249 : Bool, f10_r6 m a0 v202 v212 (v249 || (decide (v212.fIn > 1114111))) = some sx210 → KQ 28 ⟨q1 ((.ptr 0 0) :: (.ptr 1 0) :: (dI v202) :: (.ptr 2 0) :: q17 ((dP e53 a0.fArcs) :: (dI (a0.fArcs.length : Int)) :: (dI v202) :: (dB (decide (v202 < (a0.fArcs.length : Int)))) :: (dI v202) :: (.vptr [(vI v212.fFrom), (vI v212.fTo), (vI v212.fIn), (vI v212.fOut), (vI v212.fWeight)]) :: (.v (.agg [(vI v212.fFrom), (vI v212.fTo), (vI v212.fIn), (vI v212.fOut), (vI v212.fWeight)])) :: (.ptr 2 0) :: (dI v212.fFrom) :: (dB v220) :: (dB v220) :: d215 :: d216 :: d217 :: d218 :: d219 :: (dB v228) :: (dB v228) :: d225 :: d226 :: d227 :: (dB v238) :: (dB v238) :: d233 :: d234 :: d235 :: d236 :: d237 :: (dB v246) :: (dB v246) :: d243 :: d244 :: d245 :: (dB v249) :: (dB v249) :: q40 (q40 (q18 [])))), [(b10_0 a0), b10_1, (b10_3 v212)]⟩) ?_ fun G10g250 => Ops.st _ (by kernel_rfl) (G10g250 v247 h)
       intro v249 h
       cases v249
       ·refine Ops.sg 4 32 ?_
        exact Ops.st _ (by kernel_rfl) (J10j256 (.ptr 2 2) (dI v212.fIn) (dB (decide (v212.fIn > 1114111))) false (decide (v212.fIn > 1114111)) h)
       ·refine Ops.sg 4 32 ?_
        exact Ops.st _ (by kernel_rfl) (J10j256 U U U true true h)
      refine Ops.hv (fun KQ => ∀ v241 : Bool, f10_r7 m a0 v202 v212 (v241 || (decide (v212.fIn < 0))) = some sx210 → KQ 23 ⟨q1 ((.ptr 0 0) :: (.ptr 1 0) :: (dI v202) :: (.ptr 2 0) :: q17 ((dP e53 a0.fArcs) :: (dI (a0.fArcs.length : Int)) :: (dI v202) :: (dB (decide (v202 < (a0.fArcs.length : Int)))) :: (dI v202) :: (.vptr [(vI v212.fFrom), (vI v212.fTo), (vI v212.fIn), (vI v212.fOut), (vI v212.fWeight)]) :: (.v (.agg [(vI v212.fFrom), (vI v212.fTo), (vI v212.fIn), (vI v212.fOut), (vI v212.fWeight)])) :: (.ptr 2 0) :: (dI v212.fFrom) :: (dB v220) :: (dB v220) :: d215 :: d216 :: d217 :: d218 :: d219 :: (dB v228) :: (dB v228) :: d225 :: d226 :: d227 :: (dB v238) :: (dB v238) :: d233 :: d234 :: d235 :: d236 :: d237 :: (dB v241) :: (dB v241) :: q40 (q40 (q23 [])))), [(b10_0 a0), b10_1, (b10_3 v212)]⟩) ?_ fun G10g242 => Ops.st _ (by kernel_rfl) (G10g242 v239 h)
      intro v241 h
      cases v241
      ·refine Ops.sg 4 27 ?_
       exact Ops.st _ (by kernel_rfl) (J10j248 (.ptr 2 2) (dI v212.fIn) (dB (decide (v212.fIn < 0))) false (decide (v212.fIn < 0)) h)
      ·refine Ops.sg 4 27 ?_
       exact Ops.st _ (by kernel_rfl) (J10j248 U U U true true h)
     refine Ops.hv (fun KQ => ∀ v231 : Bool, f10_r8 m a0 v202 v212 (v231 || (decide (v212.fTo ≥ a0.fStates))) = some sx210 → KQ 16 ⟨q1 ((.ptr 0 0) :: (.ptr 1 0) :: (dI v202) :: (.ptr 2 0) :: q17 ((dP e53 a0.fArcs) :: (dI (a0.fArcs.length : Int)) :: (dI v202) :: (dB (decide (v202 < (a0.fArcs.length : Int)))) :: (dI v202) :: (.vptr [(vI v212.fFrom), (vI v212.fTo), (vI v212.fIn), (vI v212.fOut), (vI v212.fWeight)]) :: (.v (.agg [(vI v212.fFrom), (vI v212.fTo), (vI v212.fIn), (vI v212.fOut), (vI v212.fWeight)])) :: (.ptr 2 0) :: (dI v212.fFrom) :: (dB v220) :: (dB v220) :: d215 :: d216 :: d217 :: d218 :: d219 :: (dB v228) :: (dB v228) :: d225 :: d226 :: d227 :: (dB v231) :: (dB v231) :: q40 (q40 (q30 [])))), [(b10_0 a0), b10_1, (b10_3 v212)]⟩) ?_ fun G10g232 => Ops.st _ (by kernel_rfl) (G10g232 v229 h)
     intro v231 h
     cases v231
     ·refine Ops.sg 6 22 ?_
      exact Ops.st _ (by kernel_rfl) (J10j240 (.ptr 2 1) (dI v212.fTo) (.ptr 0 0) (dI a0.fStates) (dB (decide (v212.fTo ≥ a0.fStates))) false (decide (v212.fTo ≥ a0.fStates)) h)
     ·refine Ops.sg 6 22 ?_
      exact Ops.st _ (by kernel_rfl) (J10j240 U U U U U true true h)
    refine Ops.hv (fun KQ => ∀ v223 : Bool, f10_r9 m a0 v202 v212 (v223 || (decide (v212.fTo < 0))) = some sx210 → KQ 11 ⟨q1 ((.ptr 0 0) :: (.ptr 1 0) :: (dI v202) :: (.ptr 2 0) :: q17 ((dP e53 a0.fArcs) :: (dI (a0.fArcs.length : Int)) :: (dI v202) :: (dB (decide (v202 < (a0.fArcs.length : Int)))) :: (dI v202) :: (.vptr [(vI v212.fFrom), (vI v212.fTo), (vI v212.fIn), (vI v212.fOut), (vI v212.fWeight)]) :: (.v (.agg [(vI v212.fFrom), (vI v212.fTo), (vI v212.fIn), (vI v212.fOut), (vI v212.fWeight)])) :: (.ptr 2 0) :: (dI v212.fFrom) :: (dB v220) :: (dB v220) :: d215 :: d216 :: d217 :: d218 :: d219 :: (dB v223) :: (dB v223) :: q40 (q40 (q35 [])))), [(b10_0 a0), b10_1, (b10_3 v212)]⟩) ?_ fun G10g224 => Ops.st _ (by kernel_rfl) (G10g224 v221 h)
    intro v223 h
    cases v223
    ·refine Ops.sg 4 15 ?_
     exact Ops.st _ (by kernel_rfl) (J10j230 (.ptr 2 1) (dI v212.fTo) (dB (decide (v212.fTo < 0))) false (decide (v212.fTo < 0)) h)
    ·refine Ops.sg 4 15 ?_
     exact Ops.st _ (by kernel_rfl) (J10j230 U U U true true h)
   refine Ops.hv (fun KQ => ∀ v213 : Bool, f10_r10 m a0 v202 v212 (v213 || (decide (v212.fFrom ≥ a0.fStates))) = some sx210 → KQ 4 ⟨q1 ((.ptr 0 0) :: (.ptr 1 0) :: (dI v202) :: (.ptr 2 0) :: q17 ((dP e53 a0.fArcs) :: (dI (a0.fArcs.length : Int)) :: (dI v202) :: (dB (decide (v202 < (a0.fArcs.length : Int)))) :: (dI v202) :: (.vptr [(vI v212.fFrom), (vI v212.fTo), (vI v212.fIn), (vI v212.fOut), (vI v212.fWeight)]) :: (.v (.agg [(vI v212.fFrom), (vI v212.fTo), (vI v212.fIn), (vI v212.fOut), (vI v212.fWeight)])) :: (.ptr 2 0) :: (dI v212.fFrom) :: (dB v213) :: (dB v213) :: q40 (q40 (q40 (q2 []))))), [(b10_0 a0), b10_1, (b10_3 v212)]⟩) ?_ fun G10g214 => Ops.st _ (by kernel_rfl) (G10g214 (decide (v212.fFrom < 0)) h)
   intro v213 h
   cases v213
   ·refine Ops.sg 6 10 ?_
    exact Ops.st _ (by kernel_rfl) (J10j222 (.ptr 2 0) (dI v212.fFrom) (.ptr 0 0) (dI a0.fStates) (dB (decide (v212.fFrom ≥ a0.fStates))) false (decide (v212.fFrom ≥ a0.fStates)) h)
   ·refine Ops.sg 6 10 ?_
    exact Ops.st _ (by kernel_rfl) (J10j222 U U U U U true true h)
  ·refine Wp.exit (id := 0) (by kernel_rfl) ?_
   refine sqQ.x ?_
   refine seqQ.x ?_
   cases h
   refine lpQ.x ?_
   refine blkQ.x ⟨q1 ((.ptr 0 0) :: (.ptr 1 0) :: q19 ((dP e53 a0.fArcs) :: (dI (a0.fArcs.length : Int)) :: (dI v202) :: q40 (q40 (q40 (q10 []))))), [(b10_0 a0), b10_1]⟩ (by kernel_rfl) ?_
   exact hxx208 v202  hsx211
theorem ok10 (m : Nat) (a0 : S28) (o : S30) (h : f10 m a0 = some o) (n : Nat) (hn : m + 2 ≤ n) : Fn Proofs.Try.prog E n 10 [.v (e28 a0)] (e30 o) := by
 obtain ⟨n, rfl⟩ : ∃ q, n = q + 1 := ⟨n - 1, by omega⟩
 unfold f10 at h
 refine Fn.of (by kernel_rfl) (by kernel_rfl) (by kernel_rfl) ⟨(.v (.agg [(vI a0.fStates), (vP e53 a0.fArcs), (vP e58 a0.fFinals)])) :: u40 (u40 (u40 (u34 []))), []⟩ (by kernel_rfl) ?_
 refine Wp.sq ?_
 refine Wp.rg ?_
 refine Ops.sg 2 2 ?_
 refine Ops.dn ?_
 refine seqQ.n ?_
 refine Wp.sq ?_
 refine Wp.sq ?_
 refine Wp.rg ?_
 refine Ops.sg 4 4 ?_
 refine Ops.hv (fun KQ => ∀ (d3 d4 d5 : D) (v6 : Bool) (v7 : Bool), f10_r17 m a0 v7 = some o → KQ 8 ⟨(.v (.agg [(vI a0.fStates), (vP e53 a0.fArcs), (vP e58 a0.fFinals)])) :: (.ptr 0 0) :: (.ptr 1 0) :: u4 ((.ptr 0 0) :: (dI a0.fStates) :: (dB v6) :: (dB v6) :: d3 :: d4 :: d5 :: (dB v7) :: u40 (u40 (u40 (u20 [])))), [(b10_0 a0), b10_1]⟩) ?_ fun J10j8 => ?_
 ·intro d3 d4 d5 v6 v7 h
  unfold f10_r17 at h
  refine Ops.dn ?_
  refine seqQ.n ?_
  refine Wp.cnd h [1, 2] 2 (by kernel_rfl) (fun h => ?_) (fun h => ?_)
  ·refine Wp.sq ?_
   refine Wp.rg ?_
   obtain ⟨v9, ev9, h⟩ := bnd_some h
   refine Ops.on 1 (fun h0 e0 => (call_ok (E' := E) (h := h0) (by kernel_rfl) (Args.v (vI 3) (eI 3) (by kernel_rfl) (Args.v (vI (-1)) (eI (-1)) (by kernel_rfl) Args.nil)) (ok17 m 3 (-1) v9 ev9 n (by omega)))) ?_
   refine Ops.sg 1 2 ?_
   refine Ops.dn ?_
   refine seqQ.n ?_
   refine Wp.ret (by kernel_rfl) ?_
   refine sqQ.r ?_
   refine seqQ.r ?_
   exact fnQ.r' (X10 n) (fun z => (e30 z)) h (RetOk.mk' (.v (.agg [(vI v9.fCode), (vI v9.fIndex)])) (by kernel_rfl) (by kernel_rfl))
  ·refine Wp.sk ?_
   refine sqQ.n' ?_
   refine seqQ.n ?_
   refine Wp.sq ?_
   refine Wp.sq ?_
   refine Wp.rg ?_
   refine Ops.sg 2 2 ?_
   refine Ops.on 3 (fun h0 e0 => (len_r (T := T) h0 26 54 .plain e53 a0.fArcs (by kernel_rfl))) ?_
   refine Ops.sg 1 4 ?_
   refine Ops.dn ?_
   refine seqQ.n ?_
   refine Wp.cnd h [1, 2] 2 (by kernel_rfl) (fun h => ?_) (fun h => ?_)
   ·refine Wp.sq ?_
    refine Wp.rg ?_
    obtain ⟨v10, ev10, h⟩ := bnd_some h
    refine Ops.on 1 (fun h0 e0 => (call_ok (E' := E) (h := h0) (by kernel_rfl) (Args.v (vI 2) (eI 2) (by kernel_rfl) (Args.v (vI (-1)) (eI (-1)) (by kernel_rfl) Args.nil)) (ok17 m 2 (-1) v10 ev10 n (by omega)))) ?_
    refine Ops.sg 1 2 ?_
    refine Ops.dn ?_
    refine seqQ.n ?_
    refine Wp.ret (by kernel_rfl) ?_
    refine sqQ.r ?_
    refine seqQ.r ?_
    exact fnQ.r' (X10 n) (fun z => (e30 z)) h (RetOk.mk' (.v (.agg [(vI v10.fCode), (vI v10.fIndex)])) (by kernel_rfl) (by kernel_rfl))
   ·refine Wp.sk ?_
    refine sqQ.n' ?_
    refine seqQ.n ?_
    refine Wp.sq ?_
    refine Wp.sq ?_
    refine Wp.rg ?_
    refine Ops.sg 2 2 ?_
    refine Ops.on 3 (fun h0 e0 => (len_r (T := T) h0 26 54 .plain e53 a0.fArcs (by kernel_rfl))) ?_
    refine Ops.sg 1 4 ?_
    refine Ops.dn ?_
    refine seqQ.n ?_
    refine Wp.block' 0 [1, 2] 2 (by kernel_rfl) ?_
    have hLx307 := f10_hLx307 m a0 o n hn
    refine Wp.loop' k10_1 2 (by kernel_rfl) ⟨q1 ((.ptr 0 0) :: (.ptr 1 0) :: q19 ((dP e53 a0.fArcs) :: (dI (a0.fArcs.length : Int)) :: (dI 0) :: q40 (q40 (q40 (q10 []))))), [(b10_0 a0), b10_1]⟩ (by kernel_rfl) ?_
    rcases brk_some h with ⟨r309, er309, h⟩ | ⟨y308, ey308, h⟩
    ·refine hLx307 _ 0  _ er309 n (by omega) (fun r er σ hσ => ?_) (fun y  ey => by cases ey)
     cases er
     refine seqQ.r ?_
     exact fnQ.r' (X10 n) (fun z => (e30 z)) h hσ
    ·refine hLx307 _ 0  _ ey308 n (by omega) (fun r er => by cases er) (fun y  ey => ?_)
     cases ey
     refine seqQ.n ?_
     refine Wp.sq ?_
     refine Wp.sq ?_
     refine Wp.rg ?_
     refine Ops.sg 2 2 ?_
     refine Ops.on 3 (fun h0 e0 => (len_r (T := T) h0 27 59 .plain e58 a0.fFinals (by kernel_rfl))) ?_
     refine Ops.sg 1 4 ?_
     refine Ops.dn ?_
     refine seqQ.n ?_
     refine Wp.block' 2 [2] 2 (by kernel_rfl) ?_
     have hLx456 := f10_hLx456 m a0 o n hn
     refine Wp.loop' k10_0 2 (by kernel_rfl) ⟨q1 ((.ptr 0 0) :: (.ptr 1 0) :: q40 (q40 (q17 ((dP e58 a0.fFinals) :: (dI (a0.fFinals.length : Int)) :: (dI 0) :: q40 (q12 []))))), [(b10_0 a0), b10_1]⟩ (by kernel_rfl) ?_
     rcases brk_some h with ⟨r458, er458, h⟩ | ⟨y457, ey457, h⟩
     ·refine hLx456 _ 0  _ er458 n (by omega) (fun r er σ hσ => ?_) (fun y  ey => by cases ey)
      cases er
      refine seqQ.r ?_
      exact fnQ.r' (X10 n) (fun z => (e30 z)) h hσ
     ·refine hLx456 _ 0  _ ey457 n (by omega) (fun r er => by cases er) (fun y  ey => ?_)
      cases ey
      refine seqQ.n ?_
      refine Wp.sq ?_
      refine Wp.rg ?_
      refine Ops.sg 2 2 ?_
      refine Ops.dn ?_
      refine seqQ.n ?_
      refine Wp.ret (by kernel_rfl) ?_
      exact fnQ.r' (X10 n) (fun z => (e30 z)) h (RetOk.mk' (.v (.agg [(vI 0), (vI 0)])) (by kernel_rfl) (by kernel_rfl))
 refine Ops.hv (fun KQ => ∀ v1 : Bool, f10_r17 m a0 (v1 || (decide (a0.fStates > 400))) = some o → KQ 4 ⟨(.v (.agg [(vI a0.fStates), (vP e53 a0.fArcs), (vP e58 a0.fFinals)])) :: (.ptr 0 0) :: (.ptr 1 0) :: u4 ((.ptr 0 0) :: (dI a0.fStates) :: (dB v1) :: (dB v1) :: u40 (u40 (u40 (u24 [])))), [(b10_0 a0), b10_1]⟩) ?_ fun G10g2 => Ops.st _ (by kernel_rfl) (G10g2 (decide (a0.fStates < 0)) h)
 intro v1 h
 cases v1
 ·refine Ops.sg 4 8 ?_
  exact Ops.st _ (by kernel_rfl) (J10j8 (.ptr 0 0) (dI a0.fStates) (dB (decide (a0.fStates > 400))) false (decide (a0.fStates > 400)) h)
 ·refine Ops.sg 4 8 ?_
  exact Ops.st _ (by kernel_rfl) (J10j8 U U U true true h)
def f42_r1 (m : Nat) (v7 : Bool) : Option Bool :=
 some v7
def f42 (m : Nat) (a0 : Int) (a1 : Int) (a2 : Int) : Option Bool :=
 f42_r1 m ((decide (a0 ≥ a1)) && (decide (a0 ≤ a2)))
noncomputable abbrev X42 (n : Nat) : Cx := cxOf Proofs.Try.prog E 42 n
theorem ok42 (m : Nat) (a0 : Int) (a1 : Int) (a2 : Int) (o : Bool) (h : f42 m a0 a1 a2 = some o) (n : Nat) (hn : m + 1 ≤ n) : Fn Proofs.Try.prog E n 42 [.v (eI a0), .v (eI a1), .v (eI a2)] (eB o) := by
 obtain ⟨n, rfl⟩ : ∃ q, n = q + 1 := ⟨n - 1, by omega⟩
 unfold f42 at h
 refine Fn.of (by kernel_rfl) (by kernel_rfl) (by kernel_rfl) ⟨(dI a0) :: (dI a1) :: (dI a2) :: u12 [], []⟩ (by kernel_rfl) ?_
 refine Wp.sq ?_
 refine Wp.rg ?_
 refine Ops.sg 1 1 ?_
 refine Ops.dn ?_
 refine seqQ.n ?_
 refine Wp.sq ?_
 refine Wp.rg ?_
 refine Ops.sg 4 4 ?_
 refine Ops.hv (fun KQ => ∀ (d3 d4 d5 : D) (v6 : Bool) (v7 : Bool), f42_r1 m v7 = some o → KQ 8 ⟨(dI a0) :: (dI a1) :: (dI a2) :: u3 ((dB false) :: (dI a0) :: (dI a1) :: (dB v6) :: (dB v6) :: d3 :: d4 :: d5 :: (dB v7) :: []), []⟩) ?_ fun J42j8 => ?_
 ·intro d3 d4 d5 v6 v7 h
  unfold f42_r1 at h
  refine Ops.sg 1 9 ?_
  refine Ops.dn ?_
  refine seqQ.n ?_
  refine Wp.ret (by kernel_rfl) ?_
  exact fnQ.r' (X42 n) (fun z => (eB z)) h (RetOk.mk' (dB v7) (by kernel_rfl) (by kernel_rfl))
 refine Ops.hv (fun KQ => ∀ v1 : Bool, f42_r1 m (v1 && (decide (a0 ≤ a2))) = some o → KQ 4 ⟨(dI a0) :: (dI a1) :: (dI a2) :: u3 ((dB false) :: (dI a0) :: (dI a1) :: (dB v1) :: (dB v1) :: u4 []), []⟩) ?_ fun G42g2 => Ops.st _ (by kernel_rfl) (G42g2 (decide (a0 ≥ a1)) h)
 intro v1 h
 cases v1
 ·refine Ops.sg 4 8 ?_
  exact Ops.st _ (by kernel_rfl) (J42j8 U U U false false h)
 ·refine Ops.sg 4 8 ?_
  exact Ops.st _ (by kernel_rfl) (J42j8 (dI a0) (dI a2) (dB (decide (a0 ≤ a2))) true (decide (a0 ≤ a2)) h)
def f43 (m : Nat) (a0 : Int) (a1 : Int) : Option S30 :=
 some ((⟨a0, a1⟩ : S30))
noncomputable abbrev X43 (n : Nat) : Cx := cxOf Proofs.Try.prog E 43 n
theorem ok43 (m : Nat) (a0 : Int) (a1 : Int) (o : S30) (h : f43 m a0 a1 = some o) (n : Nat) (hn : m + 1 ≤ n) : Fn Proofs.Try.prog E n 43 [.v (eI a0), .v (eI a1)] (e30 o) := by
 obtain ⟨n, rfl⟩ : ∃ q, n = q + 1 := ⟨n - 1, by omega⟩
 unfold f43 at h
 refine Fn.of (by kernel_rfl) (by kernel_rfl) (by kernel_rfl) ⟨(dI a0) :: (dI a1) :: u6 [], []⟩ (by kernel_rfl) ?_
 refine Wp.sq ?_
 refine Wp.rg ?_
 refine Ops.sg 1 1 ?_
 refine Ops.dn ?_
 refine seqQ.n ?_
 refine Wp.sq ?_
 refine Wp.rg ?_
 refine Ops.sg 4 4 ?_
 refine Ops.dn ?_
 refine seqQ.n ?_
 refine Wp.ret (by kernel_rfl) ?_
 exact fnQ.r' (X43 n) (fun z => (e30 z)) h (RetOk.mk' (.v (.agg [(vI a0), (vI a1)])) (by kernel_rfl) (by kernel_rfl))
def f66 (m : Nat) (a0 : Int) : Option Bool :=
 some (a0 != a0)
noncomputable abbrev X66 (n : Nat) : Cx := cxOf Proofs.Try.prog E 66 n
theorem ok66 (m : Nat) (a0 : Int) (o : Bool) (h : f66 m a0 = some o) (n : Nat) (hn : m + 1 ≤ n) : Fn Proofs.Try.prog E n 66 [.v (eI a0)] (eB o) := by
 obtain ⟨n, rfl⟩ : ∃ q, n = q + 1 := ⟨n - 1, by omega⟩
 unfold f66 at h
 refine Fn.of (by kernel_rfl) (by kernel_rfl) (by kernel_rfl) ⟨(dI a0) :: u5 [], []⟩ (by kernel_rfl) ?_
 refine Wp.sq ?_
 refine Wp.rg ?_
 refine Ops.sg 1 1 ?_
 refine Ops.dn ?_
 refine seqQ.n ?_
 refine Wp.sq ?_
 refine Wp.rg ?_
 refine Ops.sg 4 4 ?_
 refine Ops.dn ?_
 refine seqQ.n ?_
 refine Wp.ret (by kernel_rfl) ?_
 exact fnQ.r' (X66 n) (fun z => (eB z)) h (RetOk.mk' (dB (a0 != a0)) (by kernel_rfl) (by kernel_rfl))
def f50 (m : Nat) (a0 : Int) (a1 : Int) : Option Int :=
 bnd (f66 m a0) fun v1 =>
 bnd (f66 m a1) fun v2 =>
 cnd v1
 (cnd v2
 (some 0)
 (some (-1)))
 (cnd v2
 (some 1)
 (cnd (decide (a0 < a1))
 (some (-1))
 (cnd (decide (a0 > a1))
 (some 1)
 (some 0))))
noncomputable abbrev X50 (n : Nat) : Cx := cxOf Proofs.Try.prog E 50 n
theorem ok50 (m : Nat) (a0 : Int) (a1 : Int) (o : Int) (h : f50 m a0 a1 = some o) (n : Nat) (hn : m + 2 ≤ n) : Fn Proofs.Try.prog E n 50 [.v (eI a0), .v (eI a1)] (eI o) := by
 obtain ⟨n, rfl⟩ : ∃ q, n = q + 1 := ⟨n - 1, by omega⟩
 unfold f50 at h
 refine Fn.of (by kernel_rfl) (by kernel_rfl) (by kernel_rfl) ⟨(dI a0) :: (dI a1) :: u18 [], []⟩ (by kernel_rfl) ?_
 refine Wp.sq ?_
 refine Wp.rg ?_
 refine Ops.sg 1 1 ?_
 refine Ops.dn ?_
 refine seqQ.n ?_
 refine Wp.sq ?_
 refine Wp.rg ?_
 refine Ops.sg 1 1 ?_
 obtain ⟨v1, ev1, h⟩ := bnd_some h
 refine Ops.on 2 (fun h0 e0 => (call_ok (E' := E) (h := h0) (by kernel_rfl) (Args.v (vI a0) (eI a0) (by kernel_rfl) Args.nil) (ok66 m a0 v1 ev1 n (by omega)))) ?_
 refine Ops.sg 1 3 ?_
 refine Ops.dn ?_
 refine seqQ.n ?_
 refine Wp.sq ?_
 refine Wp.rg ?_
 refine Ops.sg 1 1 ?_
 obtain ⟨v2, ev2, h⟩ := bnd_some h
 refine Ops.on 2 (fun h0 e0 => (call_ok (E' := E) (h := h0) (by kernel_rfl) (Args.v (vI a1) (eI a1) (by kernel_rfl) Args.nil) (ok66 m a1 v2 ev2 n (by omega)))) ?_
 refine Ops.sg 1 3 ?_
 refine Ops.dn ?_
 refine seqQ.n ?_
 refine Wp.sq ?_
 refine Wp.sq ?_
 refine Wp.rg ?_
 refine Ops.sg 1 1 ?_
 refine Ops.dn ?_
 refine seqQ.n ?_
 refine Wp.cnd h [0, 1, 4, 6] 0 (by kernel_rfl) (fun h => ?_) (fun h => ?_)
 ·refine Wp.sq ?_
  refine Wp.sq ?_
  refine Wp.rg ?_
  refine Ops.sg 1 1 ?_
  refine Ops.dn ?_
  refine seqQ.n ?_
  refine Wp.cnd h [4] 0 (by kernel_rfl) (fun h => ?_) (fun h => ?_)
  ·refine Wp.sq ?_
   refine Wp.rg ?_
   refine Ops.sg 1 1 ?_
   refine Ops.dn ?_
   refine seqQ.n ?_
   refine Wp.ret (by kernel_rfl) ?_
   refine sqQ.r ?_
   refine seqQ.r ?_
   refine sqQ.r ?_
   refine seqQ.r ?_
   exact fnQ.r' (X50 n) (fun z => (eI z)) h (RetOk.mk' (dI 0) (by kernel_rfl) (by kernel_rfl))
  ·refine Wp.sk ?_
   refine sqQ.n' ?_
   refine seqQ.n ?_
   refine Wp.sq ?_
   refine Wp.rg ?_
   refine Ops.sg 1 1 ?_
   refine Ops.dn ?_
   refine seqQ.n ?_
   refine Wp.ret (by kernel_rfl) ?_
   refine sqQ.r ?_
   refine seqQ.r ?_
   exact fnQ.r' (X50 n) (fun z => (eI z)) h (RetOk.mk' (dI (-1)) (by kernel_rfl) (by kernel_rfl))
 ·refine Wp.sk ?_
  refine sqQ.n' ?_
  refine seqQ.n ?_
  refine Wp.sq ?_
  refine Wp.sq ?_
  refine Wp.rg ?_
  refine Ops.sg 1 1 ?_
  refine Ops.dn ?_
  refine seqQ.n ?_
  refine Wp.cnd h [0, 1, 4] 0 (by kernel_rfl) (fun h => ?_) (fun h => ?_)
  ·refine Wp.sq ?_
   refine Wp.rg ?_
   refine Ops.sg 1 1 ?_
   refine Ops.dn ?_
   refine seqQ.n ?_
   refine Wp.ret (by kernel_rfl) ?_
   refine sqQ.r ?_
   refine seqQ.r ?_
   exact fnQ.r' (X50 n) (fun z => (eI z)) h (RetOk.mk' (dI 1) (by kernel_rfl) (by kernel_rfl))
  ·refine Wp.sk ?_
   refine sqQ.n' ?_
   refine seqQ.n ?_
   refine Wp.sq ?_
   refine Wp.sq ?_
   refine Wp.rg ?_
   refine Ops.sg 3 3 ?_
   refine Ops.dn ?_
   refine seqQ.n ?_
   refine Wp.cnd h [0, 1, 4] 0 (by kernel_rfl) (fun h => ?_) (fun h => ?_)
   ·refine Wp.sq ?_
    refine Wp.rg ?_
    refine Ops.sg 1 1 ?_
    refine Ops.dn ?_
    refine seqQ.n ?_
    refine Wp.ret (by kernel_rfl) ?_
    refine sqQ.r ?_
    refine seqQ.r ?_
    exact fnQ.r' (X50 n) (fun z => (eI z)) h (RetOk.mk' (dI (-1)) (by kernel_rfl) (by kernel_rfl))
   ·refine Wp.sk ?_
    refine sqQ.n' ?_
    refine seqQ.n ?_
    refine Wp.sq ?_
    refine Wp.sq ?_
    refine Wp.rg ?_
    refine Ops.sg 3 3 ?_
    refine Ops.dn ?_
    refine seqQ.n ?_
    refine Wp.cnd h [4] 0 (by kernel_rfl) (fun h => ?_) (fun h => ?_)
    ·refine Wp.sq ?_
     refine Wp.rg ?_
     refine Ops.sg 1 1 ?_
     refine Ops.dn ?_
     refine seqQ.n ?_
     refine Wp.ret (by kernel_rfl) ?_
     refine sqQ.r ?_
     refine seqQ.r ?_
     exact fnQ.r' (X50 n) (fun z => (eI z)) h (RetOk.mk' (dI 1) (by kernel_rfl) (by kernel_rfl))
    ·refine Wp.sk ?_
     refine sqQ.n' ?_
     refine seqQ.n ?_
     refine Wp.sq ?_
     refine Wp.rg ?_
     refine Ops.sg 1 1 ?_
     refine Ops.dn ?_
     refine seqQ.n ?_
     refine Wp.ret (by kernel_rfl) ?_
     exact fnQ.r' (X50 n) (fun z => (eI z)) h (RetOk.mk' (dI 0) (by kernel_rfl) (by kernel_rfl))
def f49_B1 (m : Nat) (a0 : (List Int)) (v4 : Int) : Option (Stp Int (Int)) :=
 cnd (decide (v4 < (a0.length : Int)))
 (bnd (idx a0 v4) fun v14 =>
 cnd (v14 != 0)
 (some (.ret v14))
 (some (.nxt (w64 (v4 + 1)))))
 (some (.brk v4))
def f49 (m : Nat) (a0 : (List Int)) : Option Int :=
 brk (iter (fun (y : Int) => f49_B1 m a0 y) m 0) some fun y16 =>
 some 0
noncomputable abbrev X49 (n : Nat) : Cx := cxOf Proofs.Try.prog E 49 n
noncomputable def C49 : Code := bodyOf Proofs.Try.prog 49
theorem ok49 (m : Nat) (a0 : (List Int)) (o : Int) (h : f49 m a0 = some o) (n : Nat) (hn : m + 1 ≤ n) : Fn Proofs.Try.prog E n 49 [.v ((eL eI) a0)] (eI o) := by
 obtain ⟨n, rfl⟩ : ∃ q, n = q + 1 := ⟨n - 1, by omega⟩
 unfold f49 at h
 refine Fn.of (by kernel_rfl) (by kernel_rfl) (by kernel_rfl) ⟨(dP eI a0) :: u17 [], []⟩ (by kernel_rfl) ?_
 refine Wp.sq ?_
 refine Wp.rg ?_
 refine Ops.sg 1 1 ?_
 refine Ops.dn ?_
 refine seqQ.n ?_
 refine Wp.sq ?_
 refine Wp.rg ?_
 refine Ops.sg 1 1 ?_
 refine Ops.dn ?_
 refine seqQ.n ?_
 refine Wp.sq ?_
 refine Wp.sq ?_
 refine Wp.rg ?_
 refine Ops.sg 1 1 ?_
 refine Ops.on 2 (fun h0 e0 => (len_r (T := T) h0 22 3 .plain eI a0 (by kernel_rfl))) ?_
 refine Ops.sg 1 3 ?_
 refine Ops.dn ?_
 refine seqQ.n ?_
 refine Wp.block' 0 [2, 3] 0 (by kernel_rfl) ?_
 have hLx15 : ∀ (kx6 : Nat) (v4 : Int)  (ox5 : Int ⊕ (Int)), iter (fun (y : Int) => f49_B1 m a0 y) kx6 v4 = some ox5 → ∀ nx7, kx6 ≤ nx7 → (∀ r, ox5 = .inl r → ∀ σ, RetOk (X49 n) (resOf Proofs.Try.prog 49) (eI r) σ → (seqQ (X49 n) (cR (cR (cR C49))) (fnQ (X49 n).E.T (resOf Proofs.Try.prog 49) (eI o))) .ret σ) → (∀ (y : Int) , ox5 = .inr y → (seqQ (X49 n) (cR (cR (cR C49))) (fnQ (X49 n).E.T (resOf Proofs.Try.prog 49) (eI o))) .normal ⟨q2 ((dI 0) :: (dI 0) :: q2 ((dP eI a0) :: (dI (a0.length : Int)) :: (dI y) :: q9 [])), []⟩) → Lp (X49 n) [2, 3, 6, 7, 8] 0 (cL (cL (cR (cL (cR (cR C49)))))) nx7 ⟨q2 ((dI 0) :: (dI 0) :: q2 ((dP eI a0) :: (dI (a0.length : Int)) :: (dI v4) :: q9 [])), []⟩ (blkQ (X49 n) 0 [2, 3] 0 (seqQ (X49 n) (cR (cR (cR C49))) (fnQ (X49 n).E.T (resOf Proofs.Try.prog 49) (eI o)))) := by
  intro kx6
  induction kx6 with
  | zero => intro v4  ox5 h; exact (iter_zero h).elim
  | succ kx6 ihx8 =>
   intro v4  ox5 h nx7 hnx11 hrx9 hxx10
   obtain ⟨nx7, rfl⟩ : ∃ q, nx7 = q + 1 := ⟨nx7 - 1, by omega⟩
   obtain ⟨sx12, h, hsx13⟩ := iter_some h
   have h : f49_B1 m a0 v4 = some sx12 := h
   unfold f49_B1 at h
   refine Lp.succ ?_
   refine Wp.sq ?_
   refine Wp.rg ?_
   refine Ops.sg 1 1 ?_
   refine Ops.dn ?_
   refine seqQ.n ?_
   refine Wp.sq ?_
   refine Wp.cnd h [2, 3, 6, 7, 8] 0 (by kernel_rfl) (fun h => ?_) (fun h => ?_)
   ·refine Wp.sk ?_
    refine sqQ.n' ?_
    refine seqQ.n ?_
    refine Wp.sq ?_
    refine Wp.block' 1 [2, 3, 6, 7, 8] 0 (by kernel_rfl) ?_
    refine Wp.sq ?_
    refine Wp.rg ?_
    obtain ⟨v14, ev14, h⟩ := bnd_some h
    refine Ops.on 1 (fun h0 e0 => (ix_r (T := T) h0 22 3 1 .plain eI a0 v4 v14 ev14 (by kernel_rfl) (by kernel_rfl) (fun _ => rfl))) ?_
    refine Ops.sg 2 3 ?_
    refine Ops.dn ?_
    refine seqQ.n ?_
    refine Wp.sq ?_
    refine Wp.rg ?_
    refine Ops.sg 3 3 ?_
    refine Ops.dn ?_
    refine seqQ.n ?_
    refine Wp.cnd h [2, 3, 6, 7, 8] 0 (by kernel_rfl) (fun h => ?_) (fun h => ?_)
    ·refine Wp.sq ?_
     refine Wp.rg ?_
     refine Ops.sg 2 2 ?_
     refine Ops.dn ?_
     refine seqQ.n ?_
     refine Wp.ret (by kernel_rfl) ?_
     refine sqQ.r ?_
     refine blkQ.r ?_
     refine seqQ.r ?_
     cases h
     refine lpQ.r ?_
     refine blkQ.r ?_
     exact hrx9 _ hsx13 _ (RetOk.forget [2, 3, 6, 7, 8] (by kernel_rfl) (RetOk.mk' (dI v14) (by kernel_rfl) (by kernel_rfl)))
    ·refine Wp.sk ?_
     refine sqQ.n' ?_
     refine blkQ.n' ?_
     refine seqQ.n ?_
     refine Wp.rg ?_
     refine Ops.sg 2 2 ?_
     refine Ops.dn ?_
     refine lpQ.n ⟨q2 ((dI 0) :: (dI 0) :: q2 ((dP eI a0) :: (dI (a0.length : Int)) :: (dI (w64 (v4 + 1))) :: q9 [])), []⟩ (by kernel_rfl) ?_
     cases h
     exact ihx8 (w64 (v4 + 1))  _ hsx13 _ (by omega) hrx9 hxx10
   ·refine Wp.exit (id := 0) (by kernel_rfl) ?_
    refine sqQ.x ?_
    refine seqQ.x ?_
    cases h
    refine lpQ.x ?_
    refine blkQ.x ⟨q2 ((dI 0) :: (dI 0) :: q2 ((dP eI a0) :: (dI (a0.length : Int)) :: (dI v4) :: q9 [])), []⟩ (by kernel_rfl) ?_
    exact hxx10 v4  hsx13
 refine Wp.loop' [2, 3, 6, 7, 8] 0 (by kernel_rfl) ⟨q2 ((dI 0) :: (dI 0) :: q2 ((dP eI a0) :: (dI (a0.length : Int)) :: (dI 0) :: q9 [])), []⟩ (by kernel_rfl) ?_
 rcases brk_some h with ⟨r17, er17, h⟩ | ⟨y16, ey16, h⟩
 ·refine hLx15 _ 0  _ er17 n (by omega) (fun r er σ hσ => ?_) (fun y  ey => by cases ey)
  cases er
  refine seqQ.r ?_
  exact fnQ.r' (X49 n) (fun z => (eI z)) h hσ
 ·refine hLx15 _ 0  _ ey16 n (by omega) (fun r er => by cases er) (fun y  ey => ?_)
  cases ey
  refine seqQ.n ?_
  refine Wp.sq ?_
  refine Wp.rg ?_
  refine Ops.sg 2 2 ?_
  refine Ops.dn ?_
  refine seqQ.n ?_
  refine Wp.ret (by kernel_rfl) ?_
  exact fnQ.r' (X49 n) (fun z => (eI z)) h (RetOk.mk' (dI 0) (by kernel_rfl) (by kernel_rfl))
def f36 (m : Nat) (a0 : S53) (a1 : S53) : Option Int :=
 bnd (f50 m a0.fFrom a1.fFrom) fun v1 =>
 bnd (f50 m a0.fIn a1.fIn) fun v2 =>
 bnd (f50 m a0.fOut a1.fOut) fun v3 =>
 bnd (f50 m a0.fTo a1.fTo) fun v4 =>
 bnd (f50 m a0.fWeight a1.fWeight) fun v5 =>
 bnd (f49 m ([v1, v2, v3, v4, v5])) fun v6 =>
 some v6
noncomputable abbrev X36 (n : Nat) : Cx := cxOf Proofs.Try.prog E 36 n
theorem ok36 (m : Nat) (a0 : S53) (a1 : S53) (o : Int) (h : f36 m a0 a1 = some o) (n : Nat) (hn : m + 3 ≤ n) : Fn Proofs.Try.prog E n 36 [.v (e53 a0), .v (e53 a1)] (eI o) := by
 obtain ⟨n, rfl⟩ : ∃ q, n = q + 1 := ⟨n - 1, by omega⟩
 unfold f36 at h
 refine Fn.of (by kernel_rfl) (by kernel_rfl) (by kernel_rfl) ⟨(.v (.agg [(vI a0.fFrom), (vI a0.fTo), (vI a0.fIn), (vI a0.fOut), (vI a0.fWeight)])) :: (.v (.agg [(vI a1.fFrom), (vI a1.fTo), (vI a1.fIn), (vI a1.fOut), (vI a1.fWeight)])) :: u30 [], []⟩ (by kernel_rfl) ?_
 refine Wp.sq ?_
 refine Wp.rg ?_
 refine Ops.sg 3 3 ?_
 refine Ops.dn ?_
 refine seqQ.n ?_
 refine Wp.sq ?_
 refine Wp.rg ?_
 refine Ops.sg 4 4 ?_
 obtain ⟨v1, ev1, h⟩ := bnd_some h
 refine Ops.on 5 (fun h0 e0 => (call_ok (E' := E) (h := h0) (by kernel_rfl) (Args.v (vI a0.fFrom) (eI a0.fFrom) (by kernel_rfl) (Args.v (vI a1.fFrom) (eI a1.fFrom) (by kernel_rfl) Args.nil)) (ok50 m a0.fFrom a1.fFrom v1 ev1 n (by omega)))) ?_
 refine Ops.sg 4 9 ?_
 obtain ⟨v2, ev2, h⟩ := bnd_some h
 refine Ops.on 10 (fun h0 e0 => (call_ok (E' := E) (h := h0) (by kernel_rfl) (Args.v (vI a0.fIn) (eI a0.fIn) (by kernel_rfl) (Args.v (vI a1.fIn) (eI a1.fIn) (by kernel_rfl) Args.nil)) (ok50 m a0.fIn a1.fIn v2 ev2 n (by omega)))) ?_
 refine Ops.sg 4 14 ?_
 obtain ⟨v3, ev3, h⟩ := bnd_some h
 refine Ops.on 15 (fun h0 e0 => (call_ok (E' := E) (h := h0) (by kernel_rfl) (Args.v (vI a0.fOut) (eI a0.fOut) (by kernel_rfl) (Args.v (vI a1.fOut) (eI a1.fOut) (by kernel_rfl) Args.nil)) (ok50 m a0.fOut a1.fOut v3 ev3 n (by omega)))) ?_
 refine Ops.sg 4 19 ?_
 obtain ⟨v4, ev4, h⟩ := bnd_some h
 refine Ops.on 20 (fun h0 e0 => (call_ok (E' := E) (h := h0) (by kernel_rfl) (Args.v (vI a0.fTo) (eI a0.fTo) (by kernel_rfl) (Args.v (vI a1.fTo) (eI a1.fTo) (by kernel_rfl) Args.nil)) (ok50 m a0.fTo a1.fTo v4 ev4 n (by omega)))) ?_
 refine Ops.sg 4 24 ?_
 obtain ⟨v5, ev5, h⟩ := bnd_some h
 refine Ops.on 25 (fun h0 e0 => (call_ok (E' := E) (h := h0) (by kernel_rfl) (Args.v (vI a0.fWeight) (eI a0.fWeight) (by kernel_rfl) (Args.v (vI a1.fWeight) (eI a1.fWeight) (by kernel_rfl) Args.nil)) (ok50 m a0.fWeight a1.fWeight v5 ev5 n (by omega)))) ?_
 refine Ops.sg 1 26 ?_
 obtain ⟨v6, ev6, h⟩ := bnd_some h
 refine Ops.on 27 (fun h0 e0 => (call_ok (E' := E) (h := h0) (by kernel_rfl) (Args.v (.sl .nonfull (List.map eI ([v1, v2, v3, v4, v5]))) ((eL eI) ([v1, v2, v3, v4, v5])) (by kernel_rfl) Args.nil) (ok49 m ([v1, v2, v3, v4, v5]) v6 ev6 n (by omega)))) ?_
 refine Ops.sg 1 28 ?_
 refine Ops.dn ?_
 refine seqQ.n ?_
 refine Wp.ret (by kernel_rfl) ?_
 exact fnQ.r' (X36 n) (fun z => (eI z)) h (RetOk.mk' (dI v6) (by kernel_rfl) (by kernel_rfl))
def f22_r1 (m : Nat) (v131 : Int) (v195 : Bool) : Option (Stp S30 (Int)) :=
 cnd v195
 (bnd (f43 m 13 v131) fun v197 =>
 some (.ret v197))
 (some (.nxt (w64 (v131 + 1))))
def f22_r2 (m : Nat) (a0 : S28) (v131 : Int) (v141 : S53) (v180 : Bool) : Option (Stp S30 (Int)) :=
 cnd v180
 (bnd (f43 m 3 v131) fun v182 =>
 some (.ret v182))
 (bnd (cnd (decide (v131 > 0))
 (bnd (idx a0.fArcs (w64 (v131 - 1))) fun v198 =>
 bnd (f36 m v198 v141) fun v199 =>
 some (decide (v199 ≥ 0)))
 (some false)) fun v195 =>
 f22_r1 m v131 v195)
def f22_r3 (m : Nat) (a0 : S28) (v131 : Int) (v141 : S53) (v171 : Bool) : Option (Stp S30 (Int)) :=
 bnd (cnd v171
 (some true)
 (bnd (f42 m v141.fWeight 0 1000000) fun v200 =>
 some (!v200))) fun v180 =>
 f22_r2 m a0 v131 v141 v180
def f22_r4 (m : Nat) (a0 : S28) (v131 : Int) (v141 : S53) (v162 : Bool) : Option (Stp S30 (Int)) :=
 bnd (cnd v162
 (some true)
 (bnd (f42 m v141.fOut 0 1114111) fun v201 =>
 some (!v201))) fun v171 =>
 f22_r3 m a0 v131 v141 v171
def f22_r5 (m : Nat) (a0 : S28) (v131 : Int) (v141 : S53) (v153 : Bool) : Option (Stp S30 (Int)) :=
 bnd (cnd v153
 (some true)
 (bnd (f42 m v141.fIn 0 1114111) fun v202 =>
 some (!v202))) fun v162 =>
 f22_r4 m a0 v131 v141 v162
def f22_B6 (m : Nat) (a0 : S28) (v131 : Int) : Option (Stp S30 (Int)) :=
 cnd (decide (v131 < (a0.fArcs.length : Int)))
 (bnd (idx a0.fArcs v131) fun v141 =>
 bnd (f42 m v141.fFrom 0 (w64 (a0.fStates - 1))) fun v142 =>
 bnd (cnd (!v142)
 (some true)
 (bnd (f42 m v141.fTo 0 (w64 (a0.fStates - 1))) fun v203 =>
 some (!v203))) fun v153 =>
 f22_r5 m a0 v131 v141 v153)
 (some (.brk v131))
def f22_r7 (m : Nat) (a0 : S28) (v268 : Int) (v303 : Bool) : Option (Stp S30 (Int)) :=
 cnd v303
 (bnd (f43 m 13 (w64 ((a0.fArcs.length : Int) + v268))) fun v305 =>
 some (.ret v305))
 (some (.nxt (w64 (v268 + 1))))
def f22_r8 (m : Nat) (a0 : S28) (v268 : Int) (v278 : S58) (v287 : Bool) : Option (Stp S30 (Int)) :=
 cnd v287
 (bnd (f43 m 3 (w64 ((a0.fArcs.length : Int) + v268))) fun v289 =>
 some (.ret v289))
 (bnd (cnd (decide (v268 > 0))
 (bnd (idx a0.fFinals (w64 (v268 - 1))) fun v306 =>
 some (decide (v306.fState ≥ v278.fState)))
 (some false)) fun v303 =>
 f22_r7 m a0 v268 v303)
def f22_B9 (m : Nat) (a0 : S28) (v268 : Int) : Option (Stp S30 (Int)) :=
 cnd (decide (v268 < (a0.fFinals.length : Int)))
 (bnd (idx a0.fFinals v268) fun v278 =>
 bnd (f42 m v278.fState 0 (w64 (a0.fStates - 1))) fun v279 =>
 bnd (cnd (!v279)
 (some true)
 (bnd (f42 m v278.fWeight 0 1000000) fun v307 =>
 some (!v307))) fun v287 =>
 f22_r8 m a0 v268 v278 v287)
 (some (.brk v268))
def f22 (m : Nat) (a0 : S28) : Option S30 :=
 bnd (f42 m a0.fStates 0 400) fun v1 =>
 cnd (!v1)
 (bnd (f43 m 3 (-1)) fun v2 =>
 some v2)
 (cnd (decide ((a0.fArcs.length : Int) > 2000))
 (bnd (f43 m 2 (-1)) fun v3 =>
 some v3)
 (brk (iter (fun (y : Int) => f22_B6 m a0 y) m 0) some fun y205 =>
 brk (iter (fun (y : Int) => f22_B9 m a0 y) m 0) some fun y309 =>
 some ((⟨0, 0⟩ : S30))))
noncomputable abbrev X22 (n : Nat) : Cx := cxOf Proofs.Try.prog E 22 n
noncomputable def C22 : Code := bodyOf Proofs.Try.prog 22
abbrev b22_0 (w0 : S28) : AObj := .cells [(dI w0.fStates), (dP e53 w0.fArcs), (dP e58 w0.fFinals)]
abbrev b22_1 : AObj := .cells [(dI 0), (dI 0)]
abbrev b22_2 (w0 : S53) : AObj := .cells [(dI w0.fFrom), (dI w0.fTo), (dI w0.fIn), (dI w0.fOut), (dI w0.fWeight)]
abbrev k22_0 : List Nat := [1, 2, 18, 19, 20]
abbrev k22_1 : List Nat := [1, 2, 78, 79, 80]
theorem ok22 (m : Nat) (a0 : S28) (o : S30) (h : f22 m a0 = some o) (n : Nat) (hn : m + 4 ≤ n) : Fn Proofs.Try.prog E n 22 [.v (e28 a0)] (e30 o) := by
 obtain ⟨n, rfl⟩ : ∃ q, n = q + 1 := ⟨n - 1, by omega⟩
 unfold f22 at h
 refine Fn.of (by kernel_rfl) (by kernel_rfl) (by kernel_rfl) ⟨(.v (.agg [(vI a0.fStates), (vP e53 a0.fArcs), (vP e58 a0.fFinals)])) :: u40 (u40 (u40 (u5 []))), []⟩ (by kernel_rfl) ?_
 refine Wp.sq ?_
 refine Wp.rg ?_
 refine Ops.sg 2 2 ?_
 refine Ops.dn ?_
 refine seqQ.n ?_
 refine Wp.sq ?_
 refine Wp.sq ?_
 refine Wp.rg ?_
 refine Ops.sg 2 2 ?_
 obtain ⟨v1, ev1, h⟩ := bnd_some h
 refine Ops.on 3 (fun h0 e0 => (call_ok (E' := E) (h := h0) (by kernel_rfl) (Args.v (vI a0.fStates) (eI a0.fStates) (by kernel_rfl) (Args.v (vI 0) (eI 0) (by kernel_rfl) (Args.v (vI 400) (eI 400) (by kernel_rfl) Args.nil))) (ok42 m a0.fStates 0 400 v1 ev1 n (by omega)))) ?_
 refine Ops.sg 1 4 ?_
 refine Ops.dn ?_
 refine seqQ.n ?_
 refine Wp.cnd h [1, 2] 2 (by kernel_rfl) (fun h => ?_) (fun h => ?_)
 ·refine Wp.sq ?_
  refine Wp.rg ?_
  obtain ⟨v2, ev2, h⟩ := bnd_some h
  refine Ops.on 1 (fun h0 e0 => (call_ok (E' := E) (h := h0) (by kernel_rfl) (Args.v (vI 3) (eI 3) (by kernel_rfl) (Args.v (vI (-1)) (eI (-1)) (by kernel_rfl) Args.nil)) (ok43 m 3 (-1) v2 ev2 n (by omega)))) ?_
  refine Ops.sg 1 2 ?_
  refine Ops.dn ?_
  refine seqQ.n ?_
  refine Wp.ret (by kernel_rfl) ?_
  refine sqQ.r ?_
  refine seqQ.r ?_
  exact fnQ.r' (X22 n) (fun z => (e30 z)) h (RetOk.mk' (.v (.agg [(vI v2.fCode), (vI v2.fIndex)])) (by kernel_rfl) (by kernel_rfl))
 ·refine Wp.sk ?_
  refine sqQ.n' ?_
  refine seqQ.n ?_
  refine Wp.sq ?_
  refine Wp.sq ?_
  refine Wp.rg ?_
  refine Ops.sg 2 2 ?_
  refine Ops.on 3 (fun h0 e0 => (len_r (T := T) h0 26 54 .plain e53 a0.fArcs (by kernel_rfl))) ?_
  refine Ops.sg 1 4 ?_
  refine Ops.dn ?_
  refine seqQ.n ?_
  refine Wp.cnd h [1, 2] 2 (by kernel_rfl) (fun h => ?_) (fun h => ?_)
  ·refine Wp.sq ?_
   refine Wp.rg ?_
   obtain ⟨v3, ev3, h⟩ := bnd_some h
   refine Ops.on 1 (fun h0 e0 => (call_ok (E' := E) (h := h0) (by kernel_rfl) (Args.v (vI 2) (eI 2) (by kernel_rfl) (Args.v (vI (-1)) (eI (-1)) (by kernel_rfl) Args.nil)) (ok43 m 2 (-1) v3 ev3 n (by omega)))) ?_
   refine Ops.sg 1 2 ?_
   refine Ops.dn ?_
   refine seqQ.n ?_
   refine Wp.ret (by kernel_rfl) ?_
   refine sqQ.r ?_
   refine seqQ.r ?_
   exact fnQ.r' (X22 n) (fun z => (e30 z)) h (RetOk.mk' (.v (.agg [(vI v3.fCode), (vI v3.fIndex)])) (by kernel_rfl) (by kernel_rfl))
  ·refine Wp.sk ?_
   refine sqQ.n' ?_
   refine seqQ.n ?_
   refine Wp.sq ?_
   refine Wp.sq ?_
   refine Wp.rg ?_
   refine Ops.sg 2 2 ?_
   refine Ops.on 3 (fun h0 e0 => (len_r (T := T) h0 26 54 .plain e53 a0.fArcs (by kernel_rfl))) ?_
   refine Ops.sg 1 4 ?_
   refine Ops.dn ?_
   refine seqQ.n ?_
   refine Wp.block' 0 [1, 2] 2 (by kernel_rfl) ?_
   have hLx204 : ∀ (kx133 : Nat) (v131 : Int)  (ox132 : S30 ⊕ (Int)), iter (fun (y : Int) => f22_B6 m a0 y) kx133 v131 = some ox132 → ∀ nx134, kx133 ≤ nx134 → (∀ r, ox132 = .inl r → ∀ σ, RetOk (X22 n) (resOf Proofs.Try.prog 22) (e30 r) σ → (seqQ (X22 n) (cR (cR (cR (cR C22)))) (fnQ (X22 n).E.T (resOf Proofs.Try.prog 22) (e30 o))) .ret σ) → (∀ (y : Int) , ox132 = .inr y → (seqQ (X22 n) (cR (cR (cR (cR C22)))) (fnQ (X22 n).E.T (resOf Proofs.Try.prog 22) (e30 o))) .normal ⟨q1 ((.ptr 0 0) :: (.ptr 1 0) :: q15 ((dP e53 a0.fArcs) :: (dI (a0.fArcs.length : Int)) :: (dI y) :: q40 (q40 (q25 [])))), [(b22_0 a0), b22_1]⟩) → Lp (X22 n) k22_0 2 (cL (cL (cR (cL (cR (cR (cR C22))))))) nx134 ⟨q1 ((.ptr 0 0) :: (.ptr 1 0) :: q15 ((dP e53 a0.fArcs) :: (dI (a0.fArcs.length : Int)) :: (dI v131) :: q40 (q40 (q25 [])))), [(b22_0 a0), b22_1]⟩ (blkQ (X22 n) 0 [1, 2] 2 (seqQ (X22 n) (cR (cR (cR (cR C22)))) (fnQ (X22 n).E.T (resOf Proofs.Try.prog 22) (e30 o)))) := by
    intro kx133
    induction kx133 with
    | zero => intro v131  ox132 h; exact (iter_zero h).elim
    | succ kx133 ihx135 =>
     intro v131  ox132 h nx134 hnx138 hrx136 hxx137
     obtain ⟨nx134, rfl⟩ : ∃ q, nx134 = q + 1 := ⟨nx134 - 1, by omega⟩
     obtain ⟨sx139, h, hsx140⟩ := iter_some h
     have h : f22_B6 m a0 v131 = some sx139 := h
     unfold f22_B6 at h
     refine Lp.succ ?_
     refine Wp.sq ?_
     refine Wp.rg ?_
     refine Ops.sg 1 1 ?_
     refine Ops.dn ?_
     refine seqQ.n ?_
     refine Wp.sq ?_
     refine Wp.cnd h k22_0 2 (by kernel_rfl) (fun h => ?_) (fun h => ?_)
     ·refine Wp.sk ?_
      refine sqQ.n' ?_
      refine seqQ.n ?_
      refine Wp.sq ?_
      refine Wp.block' 1 k22_0 2 (by kernel_rfl) ?_
      refine Wp.sq ?_
      refine Wp.rg ?_
      refine Ops.sg 1 1 ?_
      obtain ⟨v141, ev141, h⟩ := bnd_some h
      refine Ops.on 2 (fun h0 e0 => (ix_r (T := T) h0 26 54 5 .plain e53 a0.fArcs v131 v141 ev141 (by kernel_rfl) (by kernel_rfl) (fun _ => rfl))) ?_
      refine Ops.sg 4 6 ?_
      refine Ops.dn ?_
      refine seqQ.n ?_
      refine Wp.sq ?_
      refine Wp.sq ?_
      refine Wp.rg ?_
      refine Ops.sg 5 5 ?_
      obtain ⟨v142, ev142, h⟩ := bnd_some h
      refine Ops.on 6 (fun h0 e0 => (call_ok (E' := E) (h := h0) (by kernel_rfl) (Args.v (vI v141.fFrom) (eI v141.fFrom) (by kernel_rfl) (Args.v (vI 0) (eI 0) (by kernel_rfl) (Args.v (vI (w64 (a0.fStates - 1))) (eI (w64 (a0.fStates - 1))) (by kernel_rfl) Args.nil))) (ok42 m v141.fFrom 0 (w64 (a0.fStates - 1)) v142 ev142 n (by omega)))) ?_
      refine Ops.sg 2 8 ?_
      refine Ops.hv (fun KQ => ∀ (d145 d146 d147 d148 d149 d150 d151 : D) (v152 : Bool) (v153 : Bool), f22_r5 m a0 v131 v141 v153 = some sx139 → KQ 16 ⟨q1 ((.ptr 0 0) :: (.ptr 1 0) :: (dI v131) :: (.ptr 2 0) :: q13 ((dP e53 a0.fArcs) :: (dI (a0.fArcs.length : Int)) :: (dI v131) :: (dB (decide (v131 < (a0.fArcs.length : Int)))) :: (dI v131) :: (.vptr [(vI v141.fFrom), (vI v141.fTo), (vI v141.fIn), (vI v141.fOut), (vI v141.fWeight)]) :: (.v (.agg [(vI v141.fFrom), (vI v141.fTo), (vI v141.fIn), (vI v141.fOut), (vI v141.fWeight)])) :: (.ptr 2 0) :: (dI v141.fFrom) :: (.ptr 0 0) :: (dI a0.fStates) :: (dI (w64 (a0.fStates - 1))) :: (dB v142) :: (dB v152) :: (dB v152) :: d145 :: d146 :: d147 :: d148 :: d149 :: d150 :: d151 :: (dB v153) :: q40 (q40 (q5 [])))), [(b22_0 a0), b22_1, (b22_2 v141)]⟩) ?_ fun J22j154 => ?_
      ·intro d145 d146 d147 d148 d149 d150 d151 v152 v153 h
       unfold f22_r5 at h
       refine Ops.sg 1 17 ?_
       refine Ops.hv (fun KQ => ∀ (d157 d158 d159 d160 : D) (v161 : Bool) (v162 : Bool), f22_r4 m a0 v131 v141 v162 = some sx139 → KQ 22 ⟨q1 ((.ptr 0 0) :: (.ptr 1 0) :: (dI v131) :: (.ptr 2 0) :: q13 ((dP e53 a0.fArcs) :: (dI (a0.fArcs.length : Int)) :: (dI v131) :: (dB (decide (v131 < (a0.fArcs.length : Int)))) :: (dI v131) :: (.vptr [(vI v141.fFrom), (vI v141.fTo), (vI v141.fIn), (vI v141.fOut), (vI v141.fWeight)]) :: (.v (.agg [(vI v141.fFrom), (vI v141.fTo), (vI v141.fIn), (vI v141.fOut), (vI v141.fWeight)])) :: (.ptr 2 0) :: (dI v141.fFrom) :: (.ptr 0 0) :: (dI a0.fStates) :: (dI (w64 (a0.fStates - 1))) :: (dB v142) :: (dB v152) :: (dB v152) :: d145 :: d146 :: d147 :: d148 :: d149 :: d150 :: d151 :: (dB v161) :: (dB v161) :: d157 :: d158 :: d159 :: d160 :: (dB v162) :: q40 (q39 []))), [(b22_0 a0), b22_1, (b22_2 v141)]⟩) ?_ fun J22j163 => ?_
       ·intro d157 d158 d159 d160 v161 v162 h
        unfold f22_r4 at h
        refine Ops.sg 1 23 ?_
        refine Ops.hv (fun KQ => ∀ (d166 d167 d168 d169 : D) (v170 : Bool) (v171 : Bool), f22_r3 m a0 v131 v141 v171 = some sx139 → KQ 28 ⟨q1 ((.ptr 0 0) :: (.ptr 1 0) :: (dI v131) :: (.ptr 2 0) :: q13 ((dP e53 a0.fArcs) :: (dI (a0.fArcs.length : Int)) :: (dI v131) :: (dB (decide (v131 < (a0.fArcs.length : Int)))) :: (dI v131) :: (.vptr [(vI v141.fFrom), (vI v141.fTo), (vI v141.fIn), (vI v141.fOut), (vI v141.fWeight)]) :: (.v (.agg [(vI v141.fFrom), (vI v141.fTo), (vI v141.fIn), (vI v141.fOut), (vI v141.fWeight)])) :: (.ptr 2 0) :: (dI v141.fFrom) :: (.ptr 0 0) :: (dI a0.fStates) :: (dI (w64 (a0.fStates - 1))) :: (dB v142) :: (dB v152) :: (dB v152) :: d145 :: d146 :: d147 :: d148 :: d149 :: d150 :: d151 :: (dB v161) :: (dB v161) :: d157 :: d158 :: d159 :: d160 :: (dB v170) :: (dB v170) :: d166 :: d167 :: d168 :: d169 :: (dB v171) :: q40 (q33 []))), [(b22_0 a0), b22_1, (b22_2 v141)]⟩) ?_ fun J22j172 => ?_
        ·intro d166 d167 d168 d169 v170 v171 h
         unfold f22_r3 at h
         refine Ops.sg 1 29 ?_
         refine Ops.hv (fun KQ => ∀ (d175 d176 d177 d178 : D) (v179 : Bool) (v180 : Bool), f22_r2 m a0 v131 v141 v180 = some sx139 → KQ 34 ⟨q1 ((.ptr 0 0) :: (.ptr 1 0) :: (dI v131) :: (.ptr 2 0) :: q13 ((dP e53 a0.fArcs) :: (dI (a0.fArcs.length : Int)) :: (dI v131) :: (dB (decide (v131 < (a0.fArcs.length : Int)))) :: (dI v131) :: (.vptr [(vI v141.fFrom), (vI v141.fTo), (vI v141.fIn), (vI v141.fOut), (vI v141.fWeight)]) :: (.v (.agg [(vI v141.fFrom), (vI v141.fTo), (vI v141.fIn), (vI v141.fOut), (vI v141.fWeight)])) :: (.ptr 2 0) :: (dI v141.fFrom) :: (.ptr 0 0) :: (dI a0.fStates) :: (dI (w64 (a0.fStates - 1))) :: (dB v142) :: (dB v152) :: (dB v152) :: d145 :: d146 :: d147 :: d148 :: d149 :: d150 :: d151 :: (dB v161) :: (dB v161) :: d157 :: d158 :: d159 :: d160 :: (dB v170) :: (dB v170) :: d166 :: d167 :: d168 :: d169 :: (dB v179) :: (dB v179) :: d175 :: d176 :: d177 :: d178 :: (dB v180) :: q40 (q27 []))), [(b22_0 a0), b22_1, (b22_2 v141)]⟩) ?_ fun J22j181 => ?_
         ·intro d175 d176 d177 d178 v179 v180 h
          unfold f22_r2 at h
          refine Ops.dn ?_
          refine seqQ.n ?_
          refine Wp.cnd h [1, 2, 3, 4, 18, 19, 20] 3 (by kernel_rfl) (fun h => ?_) (fun h => ?_)
          ·refine Wp.sq ?_
           refine Wp.rg ?_
           refine Ops.sg 1 1 ?_
           obtain ⟨v182, ev182, h⟩ := bnd_some h
           refine Ops.on 2 (fun h0 e0 => (call_ok (E' := E) (h := h0) (by kernel_rfl) (Args.v (vI 3) (eI 3) (by kernel_rfl) (Args.v (vI v131) (eI v131) (by kernel_rfl) Args.nil)) (ok43 m 3 v131 v182 ev182 n (by omega)))) ?_
           refine Ops.sg 1 3 ?_
           refine Ops.dn ?_
           refine seqQ.n ?_
           refine Wp.ret (by kernel_rfl) ?_
           refine sqQ.r ?_
           refine seqQ.r ?_
           refine blkQ.r ?_
           refine seqQ.r ?_
           cases h
           refine lpQ.r ?_
           refine blkQ.r ?_
           exact hrx136 _ hsx140 _ (RetOk.forget k22_0 (by kernel_rfl) (RetOk.mk' (.v (.agg [(vI v182.fCode), (vI v182.fIndex)])) (by kernel_rfl) (by kernel_rfl)))
          ·refine Wp.sk ?_
           refine sqQ.n' ?_
           refine seqQ.n ?_
           refine Wp.sq ?_
           refine Wp.rg ?_
           refine Ops.sg 3 3 ?_
           refine Ops.hv (fun KQ => ∀ (d185 d186 d187 d188 d189 d190 d191 d192 d193 : D) (v194 : Bool) (v195 : Bool), f22_r1 m v131 v195 = some sx139 → KQ 13 ⟨q1 ((.ptr 0 0) :: (.ptr 1 0) :: (dI v131) :: (.ptr 2 0) :: q13 ((dP e53 a0.fArcs) :: (dI (a0.fArcs.length : Int)) :: (dI v131) :: (dB (decide (v131 < (a0.fArcs.length : Int)))) :: (dI v131) :: (.vptr [(vI v141.fFrom), (vI v141.fTo), (vI v141.fIn), (vI v141.fOut), (vI v141.fWeight)]) :: (.v (.agg [(vI v141.fFrom), (vI v141.fTo), (vI v141.fIn), (vI v141.fOut), (vI v141.fWeight)])) :: (.ptr 2 0) :: (dI v141.fFrom) :: (.ptr 0 0) :: (dI a0.fStates) :: (dI (w64 (a0.fStates - 1))) :: (dB v142) :: (dB v152) :: (dB v152) :: d145 :: d146 :: d147 :: d148 :: d149 :: d150 :: d151 :: (dB v161) :: (dB v161) :: d157 :: d158 :: d159 :: d160 :: (dB v170) :: (dB v170) :: d166 :: d167 :: d168 :: d169 :: (dB v179) :: (dB v179) :: d175 :: d176 :: d177 :: d178 :: (dB v180) :: q2 ((dI v131) :: (dB v194) :: (dB v194) :: d185 :: d186 :: d187 :: d188 :: d189 :: d190 :: d191 :: d192 :: d193 :: (dB v195) :: q40 (q12 [])))), [(b22_0 a0), b22_1, (b22_2 v141)]⟩) ?_ fun J22j196 => ?_
           ·intro d185 d186 d187 d188 d189 d190 d191 d192 d193 v194 v195 h
            unfold f22_r1 at h
            refine Ops.dn ?_
            refine seqQ.n ?_
            refine Wp.cnd h k22_0 3 (by kernel_rfl) (fun h => ?_) (fun h => ?_)
            ·refine Wp.sq ?_
             refine Wp.rg ?_
             refine Ops.sg 1 1 ?_
             obtain ⟨v197, ev197, h⟩ := bnd_some h
             refine Ops.on 2 (fun h0 e0 => (call_ok (E' := E) (h := h0) (by kernel_rfl) (Args.v (vI 13) (eI 13) (by kernel_rfl) (Args.v (vI v131) (eI v131) (by kernel_rfl) Args.nil)) (ok43 m 13 v131 v197 ev197 n (by omega)))) ?_
             refine Ops.sg 1 3 ?_
             refine Ops.dn ?_
             refine seqQ.n ?_
             refine Wp.ret (by kernel_rfl) ?_
             refine sqQ.r ?_
             refine blkQ.r ?_
             refine seqQ.r ?_
             cases h
             refine lpQ.r ?_
             refine blkQ.r ?_
             exact hrx136 _ hsx140 _ (RetOk.forget k22_0 (by kernel_rfl) (RetOk.mk' (.v (.agg [(vI v197.fCode), (vI v197.fIndex)])) (by kernel_rfl) (by kernel_rfl)))
            ·refine Wp.sk ?_
             refine sqQ.n' ?_
             refine blkQ.n' ?_
             refine seqQ.n ?_
             refine Wp.rg ?_
             refine Ops.sg 2 2 ?_
             refine Ops.dn ?_
             refine lpQ.n ⟨q1 ((.ptr 0 0) :: (.ptr 1 0) :: q15 ((dP e53 a0.fArcs) :: (dI (a0.fArcs.length : Int)) :: (dI (w64 (v131 + 1))) :: q40 (q40 (q25 [])))), [(b22_0 a0), b22_1]⟩ (by kernel_rfl) ?_
             cases h
             exact ihx135 (w64 (v131 + 1))  _ hsx140 _ (by omega) hrx136 hxx137
           obtain ⟨v195, ev195, h⟩ := bnd_some h
           refine Ops.hv (fun KQ => ∀ v183 : Bool, (cnd v183 (bnd (idx a0.fArcs (w64 (v131 - 1))) fun v198 => bnd (f36 m v198 v141) fun v199 => some (decide (v199 ≥ 0))) (some false)) = some v195 → KQ 3 ⟨q1 ((.ptr 0 0) :: (.ptr 1 0) :: (dI v131) :: (.ptr 2 0) :: q13 ((dP e53 a0.fArcs) :: (dI (a0.fArcs.length : Int)) :: (dI v131) :: (dB (decide (v131 < (a0.fArcs.length : Int)))) :: (dI v131) :: (.vptr [(vI v141.fFrom), (vI v141.fTo), (vI v141.fIn), (vI v141.fOut), (vI v141.fWeight)]) :: (.v (.agg [(vI v141.fFrom), (vI v141.fTo), (vI v141.fIn), (vI v141.fOut), (vI v141.fWeight)])) :: (.ptr 2 0) :: (dI v141.fFrom) :: (.ptr 0 0) :: (dI a0.fStates) :: (dI (w64 (a0.fStates - 1))) :: (dB v142) :: (dB v152) :: (dB v152) :: d145 :: d146 :: d147 :: d148 :: d149 :: d150 :: d151 :: (dB v161) :: (dB v161) :: d157 :: d158 :: d159 :: d160 :: (dB v170) :: (dB v170) :: d166 :: d167 :: d168 :: d169 :: (dB v179) :: (dB v179) :: d175 :: d176 :: d177 :: d178 :: (dB v180) :: q2 ((dI v131) :: (dB v183) :: (dB v183) :: q40 (q22 [])))), [(b22_0 a0), b22_1, (b22_2 v141)]⟩) ?_ fun G22g184 => Ops.st _ (by kernel_rfl) (G22g184 (decide (v131 > 0)) ev195)
           intro v183 ev195
           cases v183
           ·have ev195 := cnd_f ev195
            refine Ops.sg 10 13 ?_
            exact Ops.st _ (by kernel_rfl) (J22j196 U U U U U U U U U false false (some_sub (fun v195 => f22_r1 m v131 v195 = some sx139) ev195 h))
           ·have ev195 := cnd_t ev195
            refine Ops.sg 4 7 ?_
            obtain ⟨v198, ev198, ev195⟩ := bnd_some ev195
            refine Ops.on 8 (fun h0 e0 => (ix_r (T := T) h0 26 54 5 .plain e53 a0.fArcs (w64 (v131 - 1)) v198 ev198 (by kernel_rfl) (by kernel_rfl) (fun _ => rfl))) ?_
            refine Ops.sg 2 10 ?_
            obtain ⟨v199, ev199, ev195⟩ := bnd_some ev195
            refine Ops.on 11 (fun h0 e0 => (call_ok (E' := E) (h := h0) (by kernel_rfl) (Args.v (.agg [(vI v198.fFrom), (vI v198.fTo), (vI v198.fIn), (vI v198.fOut), (vI v198.fWeight)]) (e53 v198) (by kernel_rfl) (Args.v (.agg [(vI v141.fFrom), (vI v141.fTo), (vI v141.fIn), (vI v141.fOut), (vI v141.fWeight)]) (e53 v141) (by kernel_rfl) Args.nil)) (ok36 m v198 v141 v199 ev199 n (by omega)))) ?_
            refine Ops.sg 2 13 ?_
            exact Ops.st _ (by kernel_rfl) (J22j196 (.ptr 0 1) (dP e53 a0.fArcs) (dI v131) (dI (w64 (v131 - 1))) ((.vptr [(vI v198.fFrom), (vI v198.fTo), (vI v198.fIn), (vI v198.fOut), (vI v198.fWeight)])) ((.v (.agg [(vI v198.fFrom), (vI v198.fTo), (vI v198.fIn), (vI v198.fOut), (vI v198.fWeight)]))) ((.v (.agg [(vI v141.fFrom), (vI v141.fTo), (vI v141.fIn), (vI v141.fOut), (vI v141.fWeight)]))) (dI v199) (dB (decide (v199 ≥ 0))) true (decide (v199 ≥ 0)) (some_sub (fun v195 => f22_r1 m v131 v195 = some sx139) ev195 h))
         obtain ⟨v180, ev180, h⟩ := bnd_some h
         refine Ops.hv (fun KQ => ∀ v173 : Bool, (cnd v173 (some true) (bnd (f42 m v141.fWeight 0 1000000) fun v200 => some (!v200))) = some v180 → KQ 29 ⟨q1 ((.ptr 0 0) :: (.ptr 1 0) :: (dI v131) :: (.ptr 2 0) :: q13 ((dP e53 a0.fArcs) :: (dI (a0.fArcs.length : Int)) :: (dI v131) :: (dB (decide (v131 < (a0.fArcs.length : Int)))) :: (dI v131) :: (.vptr [(vI v141.fFrom), (vI v141.fTo), (vI v141.fIn), (vI v141.fOut), (vI v141.fWeight)]) :: (.v (.agg [(vI v141.fFrom), (vI v141.fTo), (vI v141.fIn), (vI v141.fOut), (vI v141.fWeight)])) :: (.ptr 2 0) :: (dI v141.fFrom) :: (.ptr 0 0) :: (dI a0.fStates) :: (dI (w64 (a0.fStates - 1))) :: (dB v142) :: (dB v152) :: (dB v152) :: d145 :: d146 :: d147 :: d148 :: d149 :: d150 :: d151 :: (dB v161) :: (dB v161) :: d157 :: d158 :: d159 :: d160 :: (dB v170) :: (dB v170) :: d166 :: d167 :: d168 :: d169 :: (dB v173) :: (dB v173) :: q40 (q32 []))), [(b22_0 a0), b22_1, (b22_2 v141)]⟩) ?_ fun G22g174 => Ops.st _ (by kernel_rfl) (G22g174 v171 ev180)
         intro v173 ev180
         cases v173
         ·have ev180 := cnd_f ev180
          refine Ops.sg 2 31 ?_
          obtain ⟨v200, ev200, ev180⟩ := bnd_some ev180
          refine Ops.on 32 (fun h0 e0 => (call_ok (E' := E) (h := h0) (by kernel_rfl) (Args.v (vI v141.fWeight) (eI v141.fWeight) (by kernel_rfl) (Args.v (vI 0) (eI 0) (by kernel_rfl) (Args.v (vI 1000000) (eI 1000000) (by kernel_rfl) Args.nil))) (ok42 m v141.fWeight 0 1000000 v200 ev200 n (by omega)))) ?_
          refine Ops.sg 2 34 ?_
          exact Ops.st _ (by kernel_rfl) (J22j181 (.ptr 2 4) (dI v141.fWeight) (dB v200) (dB (!v200)) false (!v200) (some_sub (fun v180 => f22_r2 m a0 v131 v141 v180 = some sx139) ev180 h))
         ·have ev180 := cnd_t ev180
          refine Ops.sg 5 34 ?_
          exact Ops.st _ (by kernel_rfl) (J22j181 U U U U true true (some_sub (fun v180 => f22_r2 m a0 v131 v141 v180 = some sx139) ev180 h))
        obtain ⟨v171, ev171, h⟩ := bnd_some h
        refine Ops.hv (fun KQ => ∀ v164 : Bool, (cnd v164 (some true) (bnd (f42 m v141.fOut 0 1114111) fun v201 => some (!v201))) = some v171 → KQ 23 ⟨q1 ((.ptr 0 0) :: (.ptr 1 0) :: (dI v131) :: (.ptr 2 0) :: q13 ((dP e53 a0.fArcs) :: (dI (a0.fArcs.length : Int)) :: (dI v131) :: (dB (decide (v131 < (a0.fArcs.length : Int)))) :: (dI v131) :: (.vptr [(vI v141.fFrom), (vI v141.fTo), (vI v141.fIn), (vI v141.fOut), (vI v141.fWeight)]) :: (.v (.agg [(vI v141.fFrom), (vI v141.fTo), (vI v141.fIn), (vI v141.fOut), (vI v141.fWeight)])) :: (.ptr 2 0) :: (dI v141.fFrom) :: (.ptr 0 0) :: (dI a0.fStates) :: (dI (w64 (a0.fStates - 1))) :: (dB v142) :: (dB v152) :: (dB v152) :: d145 :: d146 :: d147 :: d148 :: d149 :: d150 :: d151 :: (dB v161) :: (dB v161) :: d157 :: d158 :: d159 :: d160 :: (dB v164) :: (dB v164) :: q40 (q38 []))), [(b22_0 a0), b22_1, (b22_2 v141)]⟩) ?_ fun G22g165 => Ops.st _ (by kernel_rfl) (G22g165 v162 ev171)
        intro v164 ev171
        cases v164
        ·have ev171 := cnd_f ev171
         refine Ops.sg 2 25 ?_
         obtain ⟨v201, ev201, ev171⟩ := bnd_some ev171
         refine Ops.on 26 (fun h0 e0 => (call_ok (E' := E) (h := h0) (by kernel_rfl) (Args.v (vI v141.fOut) (eI v141.fOut) (by kernel_rfl) (Args.v (vI 0) (eI 0) (by kernel_rfl) (Args.v (vI 1114111) (eI 1114111) (by kernel_rfl) Args.nil))) (ok42 m v141.fOut 0 1114111 v201 ev201 n (by omega)))) ?_
         refine Ops.sg 2 28 ?_
         exact Ops.st _ (by kernel_rfl) (J22j172 (.ptr 2 3) (dI v141.fOut) (dB v201) (dB (!v201)) false (!v201) (some_sub (fun v171 => f22_r3 m a0 v131 v141 v171 = some sx139) ev171 h))
        ·have ev171 := cnd_t ev171
         refine Ops.sg 5 28 ?_
         exact Ops.st _ (by kernel_rfl) (J22j172 U U U U true true (some_sub (fun v171 => f22_r3 m a0 v131 v141 v171 = some sx139) ev171 h))
       obtain ⟨v162, ev162, h⟩ := bnd_some h
       refine Ops.hv (fun KQ => ∀ v155 : Bool, (cnd v155 (some true) (bnd (f42 m v141.fIn 0 1114111) fun v202 => some (!v202))) = some v162 → KQ 17 ⟨q1 ((.ptr 0 0) :: (.ptr 1 0) :: (dI v131) :: (.ptr 2 0) :: q13 ((dP e53 a0.fArcs) :: (dI (a0.fArcs.length : Int)) :: (dI v131) :: (dB (decide (v131 < (a0.fArcs.length : Int)))) :: (dI v131) :: (.vptr [(vI v141.fFrom), (vI v141.fTo), (vI v141.fIn), (vI v141.fOut), (vI v141.fWeight)]) :: (.v (.agg [(vI v141.fFrom), (vI v141.fTo), (vI v141.fIn), (vI v141.fOut), (vI v141.fWeight)])) :: (.ptr 2 0) :: (dI v141.fFrom) :: (.ptr 0 0) :: (dI a0.fStates) :: (dI (w64 (a0.fStates - 1))) :: (dB v142) :: (dB v152) :: (dB v152) :: d145 :: d146 :: d147 :: d148 :: d149 :: d150 :: d151 :: (dB v155) :: (dB v155) :: q40 (q40 (q4 [])))), [(b22_0 a0), b22_1, (b22_2 v141)]⟩) ?_ fun G22g156 => Ops.st _ (by kernel_rfl) (G22g156 v153 ev162)
       intro v155 ev162
       cases v155
       ·have ev162 := cnd_f ev162
        refine Ops.sg 2 19 ?_
        obtain ⟨v202, ev202, ev162⟩ := bnd_some ev162
        refine Ops.on 20 (fun h0 e0 => (call_ok (E' := E) (h := h0) (by kernel_rfl) (Args.v (vI v141.fIn) (eI v141.fIn) (by kernel_rfl) (Args.v (vI 0) (eI 0) (by kernel_rfl) (Args.v (vI 1114111) (eI 1114111) (by kernel_rfl) Args.nil))) (ok42 m v141.fIn 0 1114111 v202 ev202 n (by omega)))) ?_
        refine Ops.sg 2 22 ?_
        exact Ops.st _ (by kernel_rfl) (J22j163 (.ptr 2 2) (dI v141.fIn) (dB v202) (dB (!v202)) false (!v202) (some_sub (fun v162 => f22_r4 m a0 v131 v141 v162 = some sx139) ev162 h))
       ·have ev162 := cnd_t ev162
        refine Ops.sg 5 22 ?_
        exact Ops.st _ (by kernel_rfl) (J22j163 U U U U true true (some_sub (fun v162 => f22_r4 m a0 v131 v141 v162 = some sx139) ev162 h))
      obtain ⟨v153, ev153, h⟩ := bnd_some h
      refine Ops.hv (fun KQ => ∀ v143 : Bool, (cnd v143 (some true) (bnd (f42 m v141.fTo 0 (w64 (a0.fStates - 1))) fun v203 => some (!v203))) = some v153 → KQ 8 ⟨q1 ((.ptr 0 0) :: (.ptr 1 0) :: (dI v131) :: (.ptr 2 0) :: q13 ((dP e53 a0.fArcs) :: (dI (a0.fArcs.length : Int)) :: (dI v131) :: (dB (decide (v131 < (a0.fArcs.length : Int)))) :: (dI v131) :: (.vptr [(vI v141.fFrom), (vI v141.fTo), (vI v141.fIn), (vI v141.fOut), (vI v141.fWeight)]) :: (.v (.agg [(vI v141.fFrom), (vI v141.fTo), (vI v141.fIn), (vI v141.fOut), (vI v141.fWeight)])) :: (.ptr 2 0) :: (dI v141.fFrom) :: (.ptr 0 0) :: (dI a0.fStates) :: (dI (w64 (a0.fStates - 1))) :: (dB v142) :: (dB v143) :: (dB v143) :: q40 (q40 (q13 [])))), [(b22_0 a0), b22_1, (b22_2 v141)]⟩) ?_ fun G22g144 => Ops.st _ (by kernel_rfl) (G22g144 (!v142) ev153)
      intro v143 ev153
      cases v143
      ·have ev153 := cnd_f ev153
       refine Ops.sg 5 13 ?_
       obtain ⟨v203, ev203, ev153⟩ := bnd_some ev153
       refine Ops.on 14 (fun h0 e0 => (call_ok (E' := E) (h := h0) (by kernel_rfl) (Args.v (vI v141.fTo) (eI v141.fTo) (by kernel_rfl) (Args.v (vI 0) (eI 0) (by kernel_rfl) (Args.v (vI (w64 (a0.fStates - 1))) (eI (w64 (a0.fStates - 1))) (by kernel_rfl) Args.nil))) (ok42 m v141.fTo 0 (w64 (a0.fStates - 1)) v203 ev203 n (by omega)))) ?_
       refine Ops.sg 2 16 ?_
       exact Ops.st _ (by kernel_rfl) (J22j154 (.ptr 2 1) (dI v141.fTo) (.ptr 0 0) (dI a0.fStates) (dI (w64 (a0.fStates - 1))) (dB v203) (dB (!v203)) false (!v203) (some_sub (fun v153 => f22_r5 m a0 v131 v141 v153 = some sx139) ev153 h))
      ·have ev153 := cnd_t ev153
       refine Ops.sg 8 16 ?_
       exact Ops.st _ (by kernel_rfl) (J22j154 U U U U U U U true true (some_sub (fun v153 => f22_r5 m a0 v131 v141 v153 = some sx139) ev153 h))
     ·refine Wp.exit (id := 0) (by kernel_rfl) ?_
      refine sqQ.x ?_
      refine seqQ.x ?_
      cases h
      refine lpQ.x ?_
      refine blkQ.x ⟨q1 ((.ptr 0 0) :: (.ptr 1 0) :: q15 ((dP e53 a0.fArcs) :: (dI (a0.fArcs.length : Int)) :: (dI v131) :: q40 (q40 (q25 [])))), [(b22_0 a0), b22_1]⟩ (by kernel_rfl) ?_
      exact hxx137 v131  hsx140
   refine Wp.loop' k22_0 2 (by kernel_rfl) ⟨q1 ((.ptr 0 0) :: (.ptr 1 0) :: q15 ((dP e53 a0.fArcs) :: (dI (a0.fArcs.length : Int)) :: (dI 0) :: q40 (q40 (q25 [])))), [(b22_0 a0), b22_1]⟩ (by kernel_rfl) ?_
   rcases brk_some h with ⟨r206, er206, h⟩ | ⟨y205, ey205, h⟩
   ·refine hLx204 _ 0  _ er206 n (by omega) (fun r er σ hσ => ?_) (fun y  ey => by cases ey)
    cases er
    refine seqQ.r ?_
    exact fnQ.r' (X22 n) (fun z => (e30 z)) h hσ
   ·refine hLx204 _ 0  _ ey205 n (by omega) (fun r er => by cases er) (fun y  ey => ?_)
    cases ey
    refine seqQ.n ?_
    refine Wp.sq ?_
    refine Wp.sq ?_
    refine Wp.rg ?_
    refine Ops.sg 2 2 ?_
    refine Ops.on 3 (fun h0 e0 => (len_r (T := T) h0 27 59 .plain e58 a0.fFinals (by kernel_rfl))) ?_
    refine Ops.sg 1 4 ?_
    refine Ops.dn ?_
    refine seqQ.n ?_
    refine Wp.block' 2 [2] 2 (by kernel_rfl) ?_
    have hLx308 : ∀ (kx270 : Nat) (v268 : Int)  (ox269 : S30 ⊕ (Int)), iter (fun (y : Int) => f22_B9 m a0 y) kx270 v268 = some ox269 → ∀ nx271, kx270 ≤ nx271 → (∀ r, ox269 = .inl r → ∀ σ, RetOk (X22 n) (resOf Proofs.Try.prog 22) (e30 r) σ → (seqQ (X22 n) (cR (cR (cR (cR (cR C22))))) (fnQ (X22 n).E.T (resOf Proofs.Try.prog 22) (e30 o))) .ret σ) → (∀ (y : Int) , ox269 = .inr y → (seqQ (X22 n) (cR (cR (cR (cR (cR C22))))) (fnQ (X22 n).E.T (resOf Proofs.Try.prog 22) (e30 o))) .normal ⟨q1 ((.ptr 0 0) :: (.ptr 1 0) :: q40 (q35 ((dP e58 a0.fFinals) :: (dI (a0.fFinals.length : Int)) :: (dI y) :: q40 (q5 [])))), [(b22_0 a0), b22_1]⟩) → Lp (X22 n) k22_1 2 (cL (cL (cR (cL (cR (cR (cR (cR C22)))))))) nx271 ⟨q1 ((.ptr 0 0) :: (.ptr 1 0) :: q40 (q35 ((dP e58 a0.fFinals) :: (dI (a0.fFinals.length : Int)) :: (dI v268) :: q40 (q5 [])))), [(b22_0 a0), b22_1]⟩ (blkQ (X22 n) 2 [2] 2 (seqQ (X22 n) (cR (cR (cR (cR (cR C22))))) (fnQ (X22 n).E.T (resOf Proofs.Try.prog 22) (e30 o)))) := by
     intro kx270
     induction kx270 with
     | zero => intro v268  ox269 h; exact (iter_zero h).elim
     | succ kx270 ihx272 =>
      intro v268  ox269 h nx271 hnx275 hrx273 hxx274
      obtain ⟨nx271, rfl⟩ : ∃ q, nx271 = q + 1 := ⟨nx271 - 1, by omega⟩
      obtain ⟨sx276, h, hsx277⟩ := iter_some h
      have h : f22_B9 m a0 v268 = some sx276 := h
      unfold f22_B9 at h
      refine Lp.succ ?_
      refine Wp.sq ?_
      refine Wp.rg ?_
      refine Ops.sg 1 1 ?_
      refine Ops.dn ?_
      refine seqQ.n ?_
      refine Wp.sq ?_
      refine Wp.cnd h k22_1 2 (by kernel_rfl) (fun h => ?_) (fun h => ?_)
      ·refine Wp.sk ?_
       refine sqQ.n' ?_
       refine seqQ.n ?_
       refine Wp.sq ?_
       refine Wp.block' 3 k22_1 2 (by kernel_rfl) ?_
       refine Wp.sq ?_
       refine Wp.rg ?_
       refine Ops.sg 1 1 ?_
       obtain ⟨v278, ev278, h⟩ := bnd_some h
       refine Ops.on 2 (fun h0 e0 => (ix_r (T := T) h0 27 59 2 .plain e58 a0.fFinals v268 v278 ev278 (by kernel_rfl) (by kernel_rfl) (fun _ => rfl))) ?_
       refine Ops.sg 4 6 ?_
       refine Ops.dn ?_
       refine seqQ.n ?_
       refine Wp.sq ?_
       refine Wp.sq ?_
       refine Wp.rg ?_
       refine Ops.sg 5 5 ?_
       obtain ⟨v279, ev279, h⟩ := bnd_some h
       refine Ops.on 6 (fun h0 e0 => (call_ok (E' := E) (h := h0) (by kernel_rfl) (Args.v (vI v278.fState) (eI v278.fState) (by kernel_rfl) (Args.v (vI 0) (eI 0) (by kernel_rfl) (Args.v (vI (w64 (a0.fStates - 1))) (eI (w64 (a0.fStates - 1))) (by kernel_rfl) Args.nil))) (ok42 m v278.fState 0 (w64 (a0.fStates - 1)) v279 ev279 n (by omega)))) ?_
       refine Ops.sg 2 8 ?_
       refine Ops.hv (fun KQ => ∀ (d282 d283 d284 d285 : D) (v286 : Bool) (v287 : Bool), f22_r8 m a0 v268 v278 v287 = some sx276 → KQ 13 ⟨q1 ((.ptr 0 0) :: (.ptr 1 0) :: q2 ((dI v268) :: (.ptr 2 0) :: q40 (q31 ((dP e58 a0.fFinals) :: (dI (a0.fFinals.length : Int)) :: (dI v268) :: (dB (decide (v268 < (a0.fFinals.length : Int)))) :: (dI v268) :: (.vptr [(vI v278.fState), (vI v278.fWeight)]) :: (.v (.agg [(vI v278.fState), (vI v278.fWeight)])) :: (.ptr 2 0) :: (dI v278.fState) :: (.ptr 0 0) :: (dI a0.fStates) :: (dI (w64 (a0.fStates - 1))) :: (dB v279) :: (dB v286) :: (dB v286) :: d282 :: d283 :: d284 :: d285 :: (dB v287) :: q28 [])))), [(b22_0 a0), b22_1, (.cells [(dI v278.fState), (dI v278.fWeight)])]⟩) ?_ fun J22j288 => ?_
       ·intro d282 d283 d284 d285 v286 v287 h
        unfold f22_r8 at h
        refine Ops.dn ?_
        refine seqQ.n ?_
        refine Wp.cnd h [1, 2, 5, 6, 78, 79, 80] 3 (by kernel_rfl) (fun h => ?_) (fun h => ?_)
        ·refine Wp.sq ?_
         refine Wp.rg ?_
         refine Ops.sg 2 2 ?_
         refine Ops.on 3 (fun h0 e0 => (len_r (T := T) h0 26 54 .plain e53 a0.fArcs (by kernel_rfl))) ?_
         refine Ops.sg 2 5 ?_
         obtain ⟨v289, ev289, h⟩ := bnd_some h
         refine Ops.on 6 (fun h0 e0 => (call_ok (E' := E) (h := h0) (by kernel_rfl) (Args.v (vI 3) (eI 3) (by kernel_rfl) (Args.v (vI (w64 ((a0.fArcs.length : Int) + v268))) (eI (w64 ((a0.fArcs.length : Int) + v268))) (by kernel_rfl) Args.nil)) (ok43 m 3 (w64 ((a0.fArcs.length : Int) + v268)) v289 ev289 n (by omega)))) ?_
         refine Ops.sg 1 7 ?_
         refine Ops.dn ?_
         refine seqQ.n ?_
         refine Wp.ret (by kernel_rfl) ?_
         refine sqQ.r ?_
         refine seqQ.r ?_
         refine blkQ.r ?_
         refine seqQ.r ?_
         cases h
         refine lpQ.r ?_
         refine blkQ.r ?_
         exact hrx273 _ hsx277 _ (RetOk.forget k22_1 (by kernel_rfl) (RetOk.mk' (.v (.agg [(vI v289.fCode), (vI v289.fIndex)])) (by kernel_rfl) (by kernel_rfl)))
        ·refine Wp.sk ?_
         refine sqQ.n' ?_
         refine seqQ.n ?_
         refine Wp.sq ?_
         refine Wp.rg ?_
         refine Ops.sg 3 3 ?_
         refine Ops.hv (fun KQ => ∀ (d292 d293 d294 d295 d296 d297 d298 d299 d300 d301 : D) (v302 : Bool) (v303 : Bool), f22_r7 m a0 v268 v303 = some sx276 → KQ 14 ⟨q1 ((.ptr 0 0) :: (.ptr 1 0) :: q2 ((dI v268) :: (.ptr 2 0) :: q40 (q31 ((dP e58 a0.fFinals) :: (dI (a0.fFinals.length : Int)) :: (dI v268) :: (dB (decide (v268 < (a0.fFinals.length : Int)))) :: (dI v268) :: (.vptr [(vI v278.fState), (vI v278.fWeight)]) :: (.v (.agg [(vI v278.fState), (vI v278.fWeight)])) :: (.ptr 2 0) :: (dI v278.fState) :: (.ptr 0 0) :: (dI a0.fStates) :: (dI (w64 (a0.fStates - 1))) :: (dB v279) :: (dB v286) :: (dB v286) :: d282 :: d283 :: d284 :: d285 :: (dB v287) :: q6 ((dI v268) :: (dB v302) :: (dB v302) :: d292 :: d293 :: d294 :: d295 :: d296 :: d297 :: d298 :: d299 :: d300 :: d301 :: (dB v303) :: q8 []))))), [(b22_0 a0), b22_1, (.cells [(dI v278.fState), (dI v278.fWeight)])]⟩) ?_ fun J22j304 => ?_
         ·intro d292 d293 d294 d295 d296 d297 d298 d299 d300 d301 v302 v303 h
          unfold f22_r7 at h
          refine Ops.dn ?_
          refine seqQ.n ?_
          refine Wp.cnd h k22_1 3 (by kernel_rfl) (fun h => ?_) (fun h => ?_)
          ·refine Wp.sq ?_
           refine Wp.rg ?_
           refine Ops.sg 2 2 ?_
           refine Ops.on 3 (fun h0 e0 => (len_r (T := T) h0 26 54 .plain e53 a0.fArcs (by kernel_rfl))) ?_
           refine Ops.sg 2 5 ?_
           obtain ⟨v305, ev305, h⟩ := bnd_some h
           refine Ops.on 6 (fun h0 e0 => (call_ok (E' := E) (h := h0) (by kernel_rfl) (Args.v (vI 13) (eI 13) (by kernel_rfl) (Args.v (vI (w64 ((a0.fArcs.length : Int) + v268))) (eI (w64 ((a0.fArcs.length : Int) + v268))) (by kernel_rfl) Args.nil)) (ok43 m 13 (w64 ((a0.fArcs.length : Int) + v268)) v305 ev305 n (by omega)))) ?_
           refine Ops.sg 1 7 ?_
           refine Ops.dn ?_
           refine seqQ.n ?_
           refine Wp.ret (by kernel_rfl) ?_
           refine sqQ.r ?_
           refine blkQ.r ?_
           refine seqQ.r ?_
           cases h
           refine lpQ.r ?_
           refine blkQ.r ?_
           exact hrx273 _ hsx277 _ (RetOk.forget k22_1 (by kernel_rfl) (RetOk.mk' (.v (.agg [(vI v305.fCode), (vI v305.fIndex)])) (by kernel_rfl) (by kernel_rfl)))
          ·refine Wp.sk ?_
           refine sqQ.n' ?_
           refine blkQ.n' ?_
           refine seqQ.n ?_
           refine Wp.rg ?_
           refine Ops.sg 2 2 ?_
           refine Ops.dn ?_
           refine lpQ.n ⟨q1 ((.ptr 0 0) :: (.ptr 1 0) :: q40 (q35 ((dP e58 a0.fFinals) :: (dI (a0.fFinals.length : Int)) :: (dI (w64 (v268 + 1))) :: q40 (q5 [])))), [(b22_0 a0), b22_1]⟩ (by kernel_rfl) ?_
           cases h
           exact ihx272 (w64 (v268 + 1))  _ hsx277 _ (by omega) hrx273 hxx274
         obtain ⟨v303, ev303, h⟩ := bnd_some h
         refine Ops.hv (fun KQ => ∀ v290 : Bool, (cnd v290 (bnd (idx a0.fFinals (w64 (v268 - 1))) fun v306 => some (decide (v306.fState ≥ v278.fState))) (some false)) = some v303 → KQ 3 ⟨q1 ((.ptr 0 0) :: (.ptr 1 0) :: q2 ((dI v268) :: (.ptr 2 0) :: q40 (q31 ((dP e58 a0.fFinals) :: (dI (a0.fFinals.length : Int)) :: (dI v268) :: (dB (decide (v268 < (a0.fFinals.length : Int)))) :: (dI v268) :: (.vptr [(vI v278.fState), (vI v278.fWeight)]) :: (.v (.agg [(vI v278.fState), (vI v278.fWeight)])) :: (.ptr 2 0) :: (dI v278.fState) :: (.ptr 0 0) :: (dI a0.fStates) :: (dI (w64 (a0.fStates - 1))) :: (dB v279) :: (dB v286) :: (dB v286) :: d282 :: d283 :: d284 :: d285 :: (dB v287) :: q6 ((dI v268) :: (dB v290) :: (dB v290) :: q19 []))))), [(b22_0 a0), b22_1, (.cells [(dI v278.fState), (dI v278.fWeight)])]⟩) ?_ fun G22g291 => Ops.st _ (by kernel_rfl) (G22g291 (decide (v268 > 0)) ev303)
         intro v290 ev303
         cases v290
         ·have ev303 := cnd_f ev303
          refine Ops.sg 11 14 ?_
          exact Ops.st _ (by kernel_rfl) (J22j304 U U U U U U U U U U false false (some_sub (fun v303 => f22_r7 m a0 v268 v303 = some sx276) ev303 h))
         ·have ev303 := cnd_t ev303
          refine Ops.sg 4 7 ?_
          obtain ⟨v306, ev306, ev303⟩ := bnd_some ev303
          refine Ops.on 8 (fun h0 e0 => (ix_r (T := T) h0 27 59 2 .plain e58 a0.fFinals (w64 (v268 - 1)) v306 ev306 (by kernel_rfl) (by kernel_rfl) (fun _ => rfl))) ?_
          refine Ops.sg 6 14 ?_
          exact Ops.st _ (by kernel_rfl) (J22j304 (.ptr 0 2) (dP e58 a0.fFinals) (dI v268) (dI (w64 (v268 - 1))) ((.vptr [(vI v306.fState), (vI v306.fWeight)])) ((.vptr [(vI v306.fState), (vI v306.fWeight)])) (dI v306.fState) (.ptr 2 0) (dI v278.fState) (dB (decide (v306.fState ≥ v278.fState))) true (decide (v306.fState ≥ v278.fState)) (some_sub (fun v303 => f22_r7 m a0 v268 v303 = some sx276) ev303 h))
       obtain ⟨v287, ev287, h⟩ := bnd_some h
       refine Ops.hv (fun KQ => ∀ v280 : Bool, (cnd v280 (some true) (bnd (f42 m v278.fWeight 0 1000000) fun v307 => some (!v307))) = some v287 → KQ 8 ⟨q1 ((.ptr 0 0) :: (.ptr 1 0) :: q2 ((dI v268) :: (.ptr 2 0) :: q40 (q31 ((dP e58 a0.fFinals) :: (dI (a0.fFinals.length : Int)) :: (dI v268) :: (dB (decide (v268 < (a0.fFinals.length : Int)))) :: (dI v268) :: (.vptr [(vI v278.fState), (vI v278.fWeight)]) :: (.v (.agg [(vI v278.fState), (vI v278.fWeight)])) :: (.ptr 2 0) :: (dI v278.fState) :: (.ptr 0 0) :: (dI a0.fStates) :: (dI (w64 (a0.fStates - 1))) :: (dB v279) :: (dB v280) :: (dB v280) :: q33 [])))), [(b22_0 a0), b22_1, (.cells [(dI v278.fState), (dI v278.fWeight)])]⟩) ?_ fun G22g281 => Ops.st _ (by kernel_rfl) (G22g281 (!v279) ev287)
       intro v280 ev287
       cases v280
       ·have ev287 := cnd_f ev287
        refine Ops.sg 2 10 ?_
        obtain ⟨v307, ev307, ev287⟩ := bnd_some ev287
        refine Ops.on 11 (fun h0 e0 => (call_ok (E' := E) (h := h0) (by kernel_rfl) (Args.v (vI v278.fWeight) (eI v278.fWeight) (by kernel_rfl) (Args.v (vI 0) (eI 0) (by kernel_rfl) (Args.v (vI 1000000) (eI 1000000) (by kernel_rfl) Args.nil))) (ok42 m v278.fWeight 0 1000000 v307 ev307 n (by omega)))) ?_
        refine Ops.sg 2 13 ?_
        exact Ops.st _ (by kernel_rfl) (J22j288 (.ptr 2 1) (dI v278.fWeight) (dB v307) (dB (!v307)) false (!v307) (some_sub (fun v287 => f22_r8 m a0 v268 v278 v287 = some sx276) ev287 h))
       ·have ev287 := cnd_t ev287
        refine Ops.sg 5 13 ?_
        exact Ops.st _ (by kernel_rfl) (J22j288 U U U U true true (some_sub (fun v287 => f22_r8 m a0 v268 v278 v287 = some sx276) ev287 h))
      ·refine Wp.exit (id := 2) (by kernel_rfl) ?_
       refine sqQ.x ?_
       refine seqQ.x ?_
       cases h
       refine lpQ.x ?_
       refine blkQ.x ⟨q1 ((.ptr 0 0) :: (.ptr 1 0) :: q40 (q35 ((dP e58 a0.fFinals) :: (dI (a0.fFinals.length : Int)) :: (dI v268) :: q40 (q5 [])))), [(b22_0 a0), b22_1]⟩ (by kernel_rfl) ?_
       exact hxx274 v268  hsx277
    refine Wp.loop' k22_1 2 (by kernel_rfl) ⟨q1 ((.ptr 0 0) :: (.ptr 1 0) :: q40 (q35 ((dP e58 a0.fFinals) :: (dI (a0.fFinals.length : Int)) :: (dI 0) :: q40 (q5 [])))), [(b22_0 a0), b22_1]⟩ (by kernel_rfl) ?_
    rcases brk_some h with ⟨r310, er310, h⟩ | ⟨y309, ey309, h⟩
    ·refine hLx308 _ 0  _ er310 n (by omega) (fun r er σ hσ => ?_) (fun y  ey => by cases ey)
     cases er
     refine seqQ.r ?_
     exact fnQ.r' (X22 n) (fun z => (e30 z)) h hσ
    ·refine hLx308 _ 0  _ ey309 n (by omega) (fun r er => by cases er) (fun y  ey => ?_)
     cases ey
     refine seqQ.n ?_
     refine Wp.sq ?_
     refine Wp.rg ?_
     refine Ops.sg 2 2 ?_
     refine Ops.dn ?_
     refine seqQ.n ?_
     refine Wp.ret (by kernel_rfl) ?_
     exact fnQ.r' (X22 n) (fun z => (e30 z)) h (RetOk.mk' (.v (.agg [(vI 0), (vI 0)])) (by kernel_rfl) (by kernel_rfl))
def f13 (m : Nat) (a0 : Int) (a1 : Int) : Option S30 :=
 some ((⟨a0, a1⟩ : S30))
noncomputable abbrev X13 (n : Nat) : Cx := cxOf Proofs.Try.prog E 13 n
theorem ok13 (m : Nat) (a0 : Int) (a1 : Int) (o : S30) (h : f13 m a0 a1 = some o) (n : Nat) (hn : m + 1 ≤ n) : Fn Proofs.Try.prog E n 13 [.v (eI a0), .v (eI a1)] (e30 o) := by
 obtain ⟨n, rfl⟩ : ∃ q, n = q + 1 := ⟨n - 1, by omega⟩
 unfold f13 at h
 refine Fn.of (by kernel_rfl) (by kernel_rfl) (by kernel_rfl) ⟨(dI a0) :: (dI a1) :: u6 [], []⟩ (by kernel_rfl) ?_
 refine Wp.sq ?_
 refine Wp.rg ?_
 refine Ops.sg 1 1 ?_
 refine Ops.dn ?_
 refine seqQ.n ?_
 refine Wp.sq ?_
 refine Wp.rg ?_
 refine Ops.sg 4 4 ?_
 refine Ops.dn ?_
 refine seqQ.n ?_
 refine Wp.ret (by kernel_rfl) ?_
 exact fnQ.r' (X13 n) (fun z => (e30 z)) h (RetOk.mk' (.v (.agg [(vI a0), (vI a1)])) (by kernel_rfl) (by kernel_rfl))
def f33_B1 (m : Nat) (a0 : (List Int)) (a1 : (List Int)) (v6 : Int) : Option (Stp Bool (Int)) :=
 cnd (decide (v6 < (a0.length : Int)))
 (bnd (idx a0 v6) fun v16 =>
 bnd (idx a1 v6) fun v17 =>
 cnd (v16 != v17)
 (some (.ret false))
 (some (.nxt (w64 (v6 + 1)))))
 (some (.brk v6))
def f33 (m : Nat) (a0 : (List Int)) (a1 : (List Int)) : Option Bool :=
 cnd ((a0.length : Int) != (a1.length : Int))
 (some false)
 (brk (iter (fun (y : Int) => f33_B1 m a0 a1 y) m 0) some fun y19 =>
 some true)
noncomputable abbrev X33 (n : Nat) : Cx := cxOf Proofs.Try.prog E 33 n
noncomputable def C33 : Code := bodyOf Proofs.Try.prog 33
theorem ok33 (m : Nat) (a0 : (List Int)) (a1 : (List Int)) (o : Bool) (h : f33 m a0 a1 = some o) (n : Nat) (hn : m + 1 ≤ n) : Fn Proofs.Try.prog E n 33 [.v ((eL eI) a0), .v ((eL eI) a1)] (eB o) := by
 obtain ⟨n, rfl⟩ : ∃ q, n = q + 1 := ⟨n - 1, by omega⟩
 unfold f33 at h
 refine Fn.of (by kernel_rfl) (by kernel_rfl) (by kernel_rfl) ⟨(dP eI a0) :: (dP eI a1) :: u24 [], []⟩ (by kernel_rfl) ?_
 refine Wp.sq ?_
 refine Wp.rg ?_
 refine Ops.sg 1 1 ?_
 refine Ops.dn ?_
 refine seqQ.n ?_
 refine Wp.sq ?_
 refine Wp.sq ?_
 refine Wp.rg ?_
 refine Ops.sg 1 1 ?_
 refine Ops.on 2 (fun h0 e0 => (len_r (T := T) h0 22 3 .plain eI a0 (by kernel_rfl))) ?_
 refine Ops.sg 1 3 ?_
 refine Ops.on 4 (fun h0 e0 => (len_r (T := T) h0 22 3 .plain eI a1 (by kernel_rfl))) ?_
 refine Ops.sg 1 5 ?_
 refine Ops.dn ?_
 refine seqQ.n ?_
 refine Wp.cnd h [0, 1, 4] 0 (by kernel_rfl) (fun h => ?_) (fun h => ?_)
 ·refine Wp.sq ?_
  refine Wp.rg ?_
  refine Ops.sg 1 1 ?_
  refine Ops.dn ?_
  refine seqQ.n ?_
  refine Wp.ret (by kernel_rfl) ?_
  refine sqQ.r ?_
  refine seqQ.r ?_
  exact fnQ.r' (X33 n) (fun z => (eB z)) h (RetOk.mk' (dB false) (by kernel_rfl) (by kernel_rfl))
 ·refine Wp.sk ?_
  refine sqQ.n' ?_
  refine seqQ.n ?_
  refine Wp.sq ?_
  refine Wp.sq ?_
  refine Wp.rg ?_
  refine Ops.sg 1 1 ?_
  refine Ops.on 2 (fun h0 e0 => (len_r (T := T) h0 22 3 .plain eI a0 (by kernel_rfl))) ?_
  refine Ops.sg 1 3 ?_
  refine Ops.dn ?_
  refine seqQ.n ?_
  refine Wp.block' 0 [4] 0 (by kernel_rfl) ?_
  have hLx18 : ∀ (kx8 : Nat) (v6 : Int)  (ox7 : Bool ⊕ (Int)), iter (fun (y : Int) => f33_B1 m a0 a1 y) kx8 v6 = some ox7 → ∀ nx9, kx8 ≤ nx9 → (∀ r, ox7 = .inl r → ∀ σ, RetOk (X33 n) (resOf Proofs.Try.prog 33) (eB r) σ → (seqQ (X33 n) (cR (cR (cR C33))) (fnQ (X33 n).E.T (resOf Proofs.Try.prog 33) (eB o))) .ret σ) → (∀ (y : Int) , ox7 = .inr y → (seqQ (X33 n) (cR (cR (cR C33))) (fnQ (X33 n).E.T (resOf Proofs.Try.prog 33) (eB o))) .normal ⟨(dP eI a0) :: (dP eI a1) :: q2 ((dB false) :: q7 ((dI (a0.length : Int)) :: (dI y) :: q12 [])), []⟩) → Lp (X33 n) [0, 1, 4, 12, 13] 0 (cL (cL (cR (cL (cR (cR C33)))))) nx9 ⟨(dP eI a0) :: (dP eI a1) :: q2 ((dB false) :: q7 ((dI (a0.length : Int)) :: (dI v6) :: q12 [])), []⟩ (blkQ (X33 n) 0 [4] 0 (seqQ (X33 n) (cR (cR (cR C33))) (fnQ (X33 n).E.T (resOf Proofs.Try.prog 33) (eB o)))) := by
   intro kx8
   induction kx8 with
   | zero => intro v6  ox7 h; exact (iter_zero h).elim
   | succ kx8 ihx10 =>
    intro v6  ox7 h nx9 hnx13 hrx11 hxx12
    obtain ⟨nx9, rfl⟩ : ∃ q, nx9 = q + 1 := ⟨nx9 - 1, by omega⟩
    obtain ⟨sx14, h, hsx15⟩ := iter_some h
    have h : f33_B1 m a0 a1 v6 = some sx14 := h
    unfold f33_B1 at h
    refine Lp.succ ?_
    refine Wp.sq ?_
    refine Wp.rg ?_
    refine Ops.sg 1 1 ?_
    refine Ops.dn ?_
    refine seqQ.n ?_
    refine Wp.sq ?_
    refine Wp.cnd h [0, 1, 4, 12, 13] 0 (by kernel_rfl) (fun h => ?_) (fun h => ?_)
    ·refine Wp.sk ?_
     refine sqQ.n' ?_
     refine seqQ.n ?_
     refine Wp.sq ?_
     refine Wp.block' 1 [0, 1, 4, 12, 13] 0 (by kernel_rfl) ?_
     refine Wp.sq ?_
     refine Wp.rg ?_
     refine Ops.sg 2 2 ?_
     refine Ops.dn ?_
     refine seqQ.n ?_
     refine Wp.sq ?_
     refine Wp.rg ?_
     refine Ops.sg 2 2 ?_
     obtain ⟨v16, ev16, h⟩ := bnd_some h
     refine Ops.on 3 (fun h0 e0 => (ix_r (T := T) h0 22 3 1 .plain eI a0 v6 v16 ev16 (by kernel_rfl) (by kernel_rfl) (fun _ => rfl))) ?_
     refine Ops.sg 3 6 ?_
     obtain ⟨v17, ev17, h⟩ := bnd_some h
     refine Ops.on 7 (fun h0 e0 => (ix_r (T := T) h0 22 3 1 .plain eI a1 v6 v17 ev17 (by kernel_rfl) (by kernel_rfl) (fun _ => rfl))) ?_
     refine Ops.sg 2 9 ?_
     refine Ops.dn ?_
     refine seqQ.n ?_
     refine Wp.cnd h [0, 1, 4, 12, 13] 0 (by kernel_rfl) (fun h => ?_) (fun h => ?_)
     ·refine Wp.sq ?_
      refine Wp.rg ?_
      refine Ops.sg 1 1 ?_
      refine Ops.dn ?_
      refine seqQ.n ?_
      refine Wp.ret (by kernel_rfl) ?_
      refine sqQ.r ?_
      refine blkQ.r ?_
      refine seqQ.r ?_
      cases h
      refine lpQ.r ?_
      refine blkQ.r ?_
      exact hrx11 _ hsx15 _ (RetOk.forget [0, 1, 4, 12, 13] (by kernel_rfl) (RetOk.mk' (dB false) (by kernel_rfl) (by kernel_rfl)))
     ·refine Wp.sk ?_
      refine sqQ.n' ?_
      refine blkQ.n' ?_
      refine seqQ.n ?_
      refine Wp.rg ?_
      refine Ops.sg 2 2 ?_
      refine Ops.dn ?_
      refine lpQ.n ⟨(dP eI a0) :: (dP eI a1) :: q2 ((dB false) :: q7 ((dI (a0.length : Int)) :: (dI (w64 (v6 + 1))) :: q12 [])), []⟩ (by kernel_rfl) ?_
      cases h
      exact ihx10 (w64 (v6 + 1))  _ hsx15 _ (by omega) hrx11 hxx12
    ·refine Wp.exit (id := 0) (by kernel_rfl) ?_
     refine sqQ.x ?_
     refine seqQ.x ?_
     cases h
     refine lpQ.x ?_
     refine blkQ.x ⟨(dP eI a0) :: (dP eI a1) :: q2 ((dB false) :: q7 ((dI (a0.length : Int)) :: (dI v6) :: q12 [])), []⟩ (by kernel_rfl) ?_
     exact hxx12 v6  hsx15
  refine Wp.loop' [0, 1, 4, 12, 13] 0 (by kernel_rfl) ⟨(dP eI a0) :: (dP eI a1) :: q2 ((dB false) :: q7 ((dI (a0.length : Int)) :: (dI 0) :: q12 [])), []⟩ (by kernel_rfl) ?_
  rcases brk_some h with ⟨r20, er20, h⟩ | ⟨y19, ey19, h⟩
  ·refine hLx18 _ 0  _ er20 n (by omega) (fun r er σ hσ => ?_) (fun y  ey => by cases ey)
   cases er
   refine seqQ.r ?_
   exact fnQ.r' (X33 n) (fun z => (eB z)) h hσ
  ·refine hLx18 _ 0  _ ey19 n (by omega) (fun r er => by cases er) (fun y  ey => ?_)
   cases ey
   refine seqQ.n ?_
   refine Wp.sq ?_
   refine Wp.rg ?_
   refine Ops.sg 1 1 ?_
   refine Ops.dn ?_
   refine seqQ.n ?_
   refine Wp.ret (by kernel_rfl) ?_
   exact fnQ.r' (X33 n) (fun z => (eB z)) h (RetOk.mk' (dB true) (by kernel_rfl) (by kernel_rfl))
def f6_r1 (m : Nat) (a1 : Int) (v21 : Int) (v37 : Bool) : Option (Stp S30 (Int)) :=
 cnd v37
 (bnd (f17 m 3 a1) fun v39 =>
 some (.ret v39))
 (some (.nxt (w64 (v21 + 1))))
def f6_B2 (m : Nat) (a0 : (List Int)) (a1 : Int) (v21 : Int) : Option (Stp S30 (Int)) :=
 cnd (decide (v21 < (a0.length : Int)))
 (bnd (idx a0 v21) fun v31 =>
 f6_r1 m a1 v21 ((decide (v31 < 1)) || (decide (v31 > 1114111))))
 (some (.brk v21))
def f6 (m : Nat) (a0 : (List Int)) (a1 : Int) : Option S30 :=
 cnd (decide ((a0.length : Int) > 30))
 (bnd (f17 m 2 a1) fun v1 =>
 some v1)
 (brk (iter (fun (y : Int) => f6_B2 m a0 a1 y) m 0) some fun y41 =>
 some ((⟨0, 0⟩ : S30)))
noncomputable abbrev X6 (n : Nat) : Cx := cxOf Proofs.Try.prog E 6 n
noncomputable def C6 : Code := bodyOf Proofs.Try.prog 6
theorem ok6 (m : Nat) (a0 : (List Int)) (a1 : Int) (o : S30) (h : f6 m a0 a1 = some o) (n : Nat) (hn : m + 2 ≤ n) : Fn Proofs.Try.prog E n 6 [.v ((eL eI) a0), .v (eI a1)] (e30 o) := by
 obtain ⟨n, rfl⟩ : ∃ q, n = q + 1 := ⟨n - 1, by omega⟩
 unfold f6 at h
 refine Fn.of (by kernel_rfl) (by kernel_rfl) (by kernel_rfl) ⟨(dP eI a0) :: (dI a1) :: u26 [], []⟩ (by kernel_rfl) ?_
 refine Wp.sq ?_
 refine Wp.rg ?_
 refine Ops.sg 1 1 ?_
 refine Ops.dn ?_
 refine seqQ.n ?_
 refine Wp.sq ?_
 refine Wp.sq ?_
 refine Wp.rg ?_
 refine Ops.sg 1 1 ?_
 refine Ops.on 2 (fun h0 e0 => (len_r (T := T) h0 22 3 .plain eI a0 (by kernel_rfl))) ?_
 refine Ops.sg 1 3 ?_
 refine Ops.dn ?_
 refine seqQ.n ?_
 refine Wp.cnd h [0, 1, 4] 1 (by kernel_rfl) (fun h => ?_) (fun h => ?_)
 ·refine Wp.sq ?_
  refine Wp.rg ?_
  refine Ops.sg 1 1 ?_
  obtain ⟨v1, ev1, h⟩ := bnd_some h
  refine Ops.on 2 (fun h0 e0 => (call_ok (E' := E) (h := h0) (by kernel_rfl) (Args.v (vI 2) (eI 2) (by kernel_rfl) (Args.v (vI a1) (eI a1) (by kernel_rfl) Args.nil)) (ok17 m 2 a1 v1 ev1 n (by omega)))) ?_
  refine Ops.sg 1 3 ?_
  refine Ops.dn ?_
  refine seqQ.n ?_
  refine Wp.ret (by kernel_rfl) ?_
  refine sqQ.r ?_
  refine seqQ.r ?_
  exact fnQ.r' (X6 n) (fun z => (e30 z)) h (RetOk.mk' (.v (.agg [(vI v1.fCode), (vI v1.fIndex)])) (by kernel_rfl) (by kernel_rfl))
 ·refine Wp.sk ?_
  refine sqQ.n' ?_
  refine seqQ.n ?_
  refine Wp.sq ?_
  refine Wp.sq ?_
  refine Wp.rg ?_
  refine Ops.sg 1 1 ?_
  refine Ops.on 2 (fun h0 e0 => (len_r (T := T) h0 22 3 .plain eI a0 (by kernel_rfl))) ?_
  refine Ops.sg 1 3 ?_
  refine Ops.dn ?_
  refine seqQ.n ?_
  refine Wp.block' 0 [4] 1 (by kernel_rfl) ?_
  have hLx40 : ∀ (kx23 : Nat) (v21 : Int)  (ox22 : S30 ⊕ (Int)), iter (fun (y : Int) => f6_B2 m a0 a1 y) kx23 v21 = some ox22 → ∀ nx24, kx23 ≤ nx24 → (∀ r, ox22 = .inl r → ∀ σ, RetOk (X6 n) (resOf Proofs.Try.prog 6) (e30 r) σ → (seqQ (X6 n) (cR (cR (cR C6))) (fnQ (X6 n).E.T (resOf Proofs.Try.prog 6) (e30 o))) .ret σ) → (∀ (y : Int) , ox22 = .inr y → (seqQ (X6 n) (cR (cR (cR C6))) (fnQ (X6 n).E.T (resOf Proofs.Try.prog 6) (e30 o))) .normal ⟨q1 ((dI a1) :: q2 ((.ptr 0 0) :: q7 ((dP eI a0) :: (dI (a0.length : Int)) :: (dI y) :: q13 []))), [(.cells [(dI 0), (dI 0)])]⟩) → Lp (X6 n) [1, 4, 12, 13, 14] 1 (cL (cL (cR (cL (cR (cR C6)))))) nx24 ⟨q1 ((dI a1) :: q2 ((.ptr 0 0) :: q7 ((dP eI a0) :: (dI (a0.length : Int)) :: (dI v21) :: q13 []))), [(.cells [(dI 0), (dI 0)])]⟩ (blkQ (X6 n) 0 [4] 1 (seqQ (X6 n) (cR (cR (cR C6))) (fnQ (X6 n).E.T (resOf Proofs.Try.prog 6) (e30 o)))) := by
   intro kx23
   induction kx23 with
   | zero => intro v21  ox22 h; exact (iter_zero h).elim
   | succ kx23 ihx25 =>
    intro v21  ox22 h nx24 hnx28 hrx26 hxx27
    obtain ⟨nx24, rfl⟩ : ∃ q, nx24 = q + 1 := ⟨nx24 - 1, by omega⟩
    obtain ⟨sx29, h, hsx30⟩ := iter_some h
    have h : f6_B2 m a0 a1 v21 = some sx29 := h
    unfold f6_B2 at h
    refine Lp.succ ?_
    refine Wp.sq ?_
    refine Wp.rg ?_
    refine Ops.sg 1 1 ?_
    refine Ops.dn ?_
    refine seqQ.n ?_
    refine Wp.sq ?_
    refine Wp.cnd h [1, 4, 12, 13, 14] 1 (by kernel_rfl) (fun h => ?_) (fun h => ?_)
    ·refine Wp.sk ?_
     refine sqQ.n' ?_
     refine seqQ.n ?_
     refine Wp.sq ?_
     refine Wp.block' 1 [1, 4, 12, 13, 14] 1 (by kernel_rfl) ?_
     refine Wp.sq ?_
     refine Wp.rg ?_
     obtain ⟨v31, ev31, h⟩ := bnd_some h
     refine Ops.on 1 (fun h0 e0 => (ix_r (T := T) h0 22 3 1 .plain eI a0 v21 v31 ev31 (by kernel_rfl) (by kernel_rfl) (fun _ => rfl))) ?_
     refine Ops.sg 2 3 ?_
     refine Ops.dn ?_
     refine seqQ.n ?_
     refine Wp.sq ?_
     refine Wp.rg ?_
     refine Ops.sg 3 3 ?_
     refine Ops.hv (fun KQ => ∀ (d34 d35 : D) (v36 : Bool) (v37 : Bool), f6_r1 m a1 v21 v37 = some sx29 → KQ 6 ⟨q1 ((dI a1) :: q2 ((.ptr 0 0) :: q1 ((dI v31) :: q5 ((dP eI a0) :: (dI (a0.length : Int)) :: (dI v21) :: (dB (decide (v21 < (a0.length : Int)))) :: (.vptr [(vI v31)]) :: (dI v31) :: (dI v31) :: (dB v36) :: (dB v36) :: d34 :: d35 :: (dB v37) :: q4 [])))), [(.cells [(dI 0), (dI 0)])]⟩) ?_ fun J6j38 => ?_
     ·intro d34 d35 v36 v37 h
      unfold f6_r1 at h
      refine Ops.dn ?_
      refine seqQ.n ?_
      refine Wp.cnd h [1, 4, 12, 13, 14] 1 (by kernel_rfl) (fun h => ?_) (fun h => ?_)
      ·refine Wp.sq ?_
       refine Wp.rg ?_
       refine Ops.sg 1 1 ?_
       obtain ⟨v39, ev39, h⟩ := bnd_some h
       refine Ops.on 2 (fun h0 e0 => (call_ok (E' := E) (h := h0) (by kernel_rfl) (Args.v (vI 3) (eI 3) (by kernel_rfl) (Args.v (vI a1) (eI a1) (by kernel_rfl) Args.nil)) (ok17 m 3 a1 v39 ev39 n (by omega)))) ?_
       refine Ops.sg 1 3 ?_
       refine Ops.dn ?_
       refine seqQ.n ?_
       refine Wp.ret (by kernel_rfl) ?_
       refine sqQ.r ?_
       refine blkQ.r ?_
       refine seqQ.r ?_
       cases h
       refine lpQ.r ?_
       refine blkQ.r ?_
       exact hrx26 _ hsx30 _ (RetOk.forget [1, 4, 12, 13, 14] (by kernel_rfl) (RetOk.mk' (.v (.agg [(vI v39.fCode), (vI v39.fIndex)])) (by kernel_rfl) (by kernel_rfl)))
      ·refine Wp.sk ?_
       refine sqQ.n' ?_
       refine blkQ.n' ?_
       refine seqQ.n ?_
       refine Wp.rg ?_
       refine Ops.sg 2 2 ?_
       refine Ops.dn ?_
       refine lpQ.n ⟨q1 ((dI a1) :: q2 ((.ptr 0 0) :: q7 ((dP eI a0) :: (dI (a0.length : Int)) :: (dI (w64 (v21 + 1))) :: q13 []))), [(.cells [(dI 0), (dI 0)])]⟩ (by kernel_rfl) ?_
       cases h
       exact ihx25 (w64 (v21 + 1))  _ hsx30 _ (by omega) hrx26 hxx27
     refine Ops.hv (fun KQ => ∀ v32 : Bool, f6_r1 m a1 v21 (v32 || (decide (v31 > 1114111))) = some sx29 → KQ 3 ⟨q1 ((dI a1) :: q2 ((.ptr 0 0) :: q1 ((dI v31) :: q5 ((dP eI a0) :: (dI (a0.length : Int)) :: (dI v21) :: (dB (decide (v21 < (a0.length : Int)))) :: (.vptr [(vI v31)]) :: (dI v31) :: (dI v31) :: (dB v32) :: (dB v32) :: q7 [])))), [(.cells [(dI 0), (dI 0)])]⟩) ?_ fun G6g33 => Ops.st _ (by kernel_rfl) (G6g33 (decide (v31 < 1)) h)
     intro v32 h
     cases v32
     ·refine Ops.sg 3 6 ?_
      exact Ops.st _ (by kernel_rfl) (J6j38 (dI v31) (dB (decide (v31 > 1114111))) false (decide (v31 > 1114111)) h)
     ·refine Ops.sg 3 6 ?_
      exact Ops.st _ (by kernel_rfl) (J6j38 U U true true h)
    ·refine Wp.exit (id := 0) (by kernel_rfl) ?_
     refine sqQ.x ?_
     refine seqQ.x ?_
     cases h
     refine lpQ.x ?_
     refine blkQ.x ⟨q1 ((dI a1) :: q2 ((.ptr 0 0) :: q7 ((dP eI a0) :: (dI (a0.length : Int)) :: (dI v21) :: q13 []))), [(.cells [(dI 0), (dI 0)])]⟩ (by kernel_rfl) ?_
     exact hxx27 v21  hsx30
  refine Wp.loop' [1, 4, 12, 13, 14] 1 (by kernel_rfl) ⟨q1 ((dI a1) :: q2 ((.ptr 0 0) :: q7 ((dP eI a0) :: (dI (a0.length : Int)) :: (dI 0) :: q13 []))), [(.cells [(dI 0), (dI 0)])]⟩ (by kernel_rfl) ?_
  rcases brk_some h with ⟨r42, er42, h⟩ | ⟨y41, ey41, h⟩
  ·refine hLx40 _ 0  _ er42 n (by omega) (fun r er σ hσ => ?_) (fun y  ey => by cases ey)
   cases er
   refine seqQ.r ?_
   exact fnQ.r' (X6 n) (fun z => (e30 z)) h hσ
  ·refine hLx40 _ 0  _ ey41 n (by omega) (fun r er => by cases er) (fun y  ey => ?_)
   cases ey
   refine seqQ.n ?_
   refine Wp.sq ?_
   refine Wp.rg ?_
   refine Ops.sg 2 2 ?_
   refine Ops.dn ?_
   refine seqQ.n ?_
   refine Wp.ret (by kernel_rfl) ?_
   exact fnQ.r' (X6 n) (fun z => (e30 z)) h (RetOk.mk' (.v (.agg [(vI 0), (vI 0)])) (by kernel_rfl) (by kernel_rfl))
def f9_r1 (m : Nat) (v98 : Int) (v115 : Bool) : Option (Stp Bool (Bool × Int)) :=
 some (.nxt (v115, w64 (v98 + 1)))
def f9_B2 (m : Nat) (a1 : (List Int)) (v84 : Int) (v97 : Bool) (v98 : Int) : Option (Stp Bool (Bool × Int)) :=
 cnd (decide (v98 < (a1.length : Int)))
 (bnd (idx a1 v98) fun v108 =>
 f9_r1 m v98 (v97 || (v84 == v108)))
 (some (.brk (v97, v98)))
def f9_B3 (m : Nat) (a0 : (List Int)) (a1 : (List Int)) (v74 : Int) : Option (Stp Bool (Int)) :=
 cnd (decide (v74 < (a0.length : Int)))
 (bnd (idx a0 v74) fun v84 =>
 brk (iter (fun (y : Bool × Int) => f9_B2 m a1 v84 y.1 y.2) m (false, 0)) (fun r => some (.ret r)) fun y118 =>
 cnd (!y118.1)
 (some (.ret false))
 (some (.nxt (w64 (v74 + 1)))))
 (some (.brk v74))
def f9 (m : Nat) (a0 : (List Int)) (a1 : (List Int)) : Option Bool :=
 brk (iter (fun (y : Int) => f9_B3 m a0 a1 y) m 0) some fun y121 =>
 some true
noncomputable abbrev X9 (n : Nat) : Cx := cxOf Proofs.Try.prog E 9 n
noncomputable def C9 : Code := bodyOf Proofs.Try.prog 9
noncomputable abbrev p9_0 : Code := cL (cL (cR (cL (cR C9))))
noncomputable abbrev p9_1 : Code := cR (cR (cR p9_0))
noncomputable abbrev p9_2 : Code := cR (cR (cR (cL (cL (cR (cR p9_0))))))
abbrev k9_0 : List Nat := [1, 4, 10, 11, 12]
abbrev k9_1 : List Nat := [1, 4, 6, 7, 10, 11, 12, 16, 17, 18]
theorem ok9 (m : Nat) (a0 : (List Int)) (a1 : (List Int)) (o : Bool) (h : f9 m a0 a1 = some o) (n : Nat) (hn : m + 1 ≤ n) : Fn Proofs.Try.prog E n 9 [.v ((eL eI) a0), .v ((eL eI) a1)] (eB o) := by
 obtain ⟨n, rfl⟩ : ∃ q, n = q + 1 := ⟨n - 1, by omega⟩
 unfold f9 at h
 refine Fn.of (by kernel_rfl) (by kernel_rfl) (by kernel_rfl) ⟨(dP eI a0) :: (dP eI a1) :: u30 [], []⟩ (by kernel_rfl) ?_
 refine Wp.sq ?_
 refine Wp.rg ?_
 refine Ops.sg 1 1 ?_
 refine Ops.dn ?_
 refine seqQ.n ?_
 refine Wp.sq ?_
 refine Wp.sq ?_
 refine Wp.rg ?_
 refine Ops.sg 1 1 ?_
 refine Ops.on 2 (fun h0 e0 => (len_r (T := T) h0 22 3 .plain eI a0 (by kernel_rfl))) ?_
 refine Ops.sg 1 3 ?_
 refine Ops.dn ?_
 refine seqQ.n ?_
 refine Wp.block' 0 [4] 0 (by kernel_rfl) ?_
 have hLx120 : ∀ (kx76 : Nat) (v74 : Int)  (ox75 : Bool ⊕ (Int)), iter (fun (y : Int) => f9_B3 m a0 a1 y) kx76 v74 = some ox75 → ∀ nx77, kx76 ≤ nx77 → (∀ r, ox75 = .inl r → ∀ σ, RetOk (X9 n) (resOf Proofs.Try.prog 9) (eB r) σ → (seqQ (X9 n) (cR (cR C9)) (fnQ (X9 n).E.T (resOf Proofs.Try.prog 9) (eB o))) .ret σ) → (∀ (y : Int) , ox75 = .inr y → (seqQ (X9 n) (cR (cR C9)) (fnQ (X9 n).E.T (resOf Proofs.Try.prog 9) (eB o))) .normal ⟨q1 ((dP eI a1) :: q2 ((dB false) :: q5 ((dP eI a0) :: (dI (a0.length : Int)) :: (dI y) :: q19 []))), []⟩) → Lp (X9 n) k9_0 0 p9_0 nx77 ⟨q1 ((dP eI a1) :: q2 ((dB false) :: q5 ((dP eI a0) :: (dI (a0.length : Int)) :: (dI v74) :: q19 []))), []⟩ (blkQ (X9 n) 0 [4] 0 (seqQ (X9 n) (cR (cR C9)) (fnQ (X9 n).E.T (resOf Proofs.Try.prog 9) (eB o)))) := by
  intro kx76
  induction kx76 with
  | zero => intro v74  ox75 h; exact (iter_zero h).elim
  | succ kx76 ihx78 =>
   intro v74  ox75 h nx77 hnx81 hrx79 hxx80
   obtain ⟨nx77, rfl⟩ : ∃ q, nx77 = q + 1 := ⟨nx77 - 1, by omega⟩
   obtain ⟨sx82, h, hsx83⟩ := iter_some h
   have h : f9_B3 m a0 a1 v74 = some sx82 := h
   unfold f9_B3 at h
   refine Lp.succ ?_
   refine Wp.sq ?_
   refine Wp.rg ?_
   refine Ops.sg 1 1 ?_
   refine Ops.dn ?_
   refine seqQ.n ?_
   refine Wp.sq ?_
   refine Wp.cnd h k9_0 0 (by kernel_rfl) (fun h => ?_) (fun h => ?_)
   ·refine Wp.sk ?_
    refine sqQ.n' ?_
    refine seqQ.n ?_
    refine Wp.sq ?_
    refine Wp.block' 1 k9_0 0 (by kernel_rfl) ?_
    refine Wp.sq ?_
    refine Wp.rg ?_
    obtain ⟨v84, ev84, h⟩ := bnd_some h
    refine Ops.on 1 (fun h0 e0 => (ix_r (T := T) h0 22 3 1 .plain eI a0 v74 v84 ev84 (by kernel_rfl) (by kernel_rfl) (fun _ => rfl))) ?_
    refine Ops.sg 2 3 ?_
    refine Ops.dn ?_
    refine seqQ.n ?_
    refine Wp.sq ?_
    refine Wp.rg ?_
    refine Ops.sg 1 1 ?_
    refine Ops.dn ?_
    refine seqQ.n ?_
    refine Wp.sq ?_
    refine Wp.sq ?_
    refine Wp.rg ?_
    refine Ops.sg 1 1 ?_
    refine Ops.on 2 (fun h0 e0 => (len_r (T := T) h0 22 3 .plain eI a1 (by kernel_rfl))) ?_
    refine Ops.sg 1 3 ?_
    refine Ops.dn ?_
    refine seqQ.n ?_
    refine Wp.block' 2 [1, 4, 7, 10, 11, 12] 0 (by kernel_rfl) ?_
    have hLx117 : ∀ (kx100 : Nat) (v97 : Bool) (v98 : Int)  (ox99 : Bool ⊕ (Bool × Int)), iter (fun (y : Bool × Int) => f9_B2 m a1 v84 y.1 y.2) kx100 (v97, v98) = some ox99 → ∀ nx101, kx100 ≤ nx101 → (∀ r, ox99 = .inl r → ∀ σ, RetOk (X9 n) (resOf Proofs.Try.prog 9) (eB r) σ → (seqQ (X9 n) p9_2 (blkQ (X9 n) 1 k9_0 0 (seqQ (X9 n) p9_1 (lpQ (X9 n) k9_0 0 p9_0 nx77 (blkQ (X9 n) 0 [4] 0 (seqQ (X9 n) (cR (cR C9)) (fnQ (X9 n).E.T (resOf Proofs.Try.prog 9) (eB o)))))))) .ret σ) → (∀ (y : Bool × Int) , ox99 = .inr y → (seqQ (X9 n) p9_2 (blkQ (X9 n) 1 k9_0 0 (seqQ (X9 n) p9_1 (lpQ (X9 n) k9_0 0 p9_0 nx77 (blkQ (X9 n) 0 [4] 0 (seqQ (X9 n) (cR (cR C9)) (fnQ (X9 n).E.T (resOf Proofs.Try.prog 9) (eB o)))))))) .normal ⟨q1 ((dP eI a1) :: q2 ((dB false) :: q1 ((dI v84) :: (dB y.1) :: q2 ((dP eI a0) :: (dI (a0.length : Int)) :: (dI v74) :: q3 ((dP eI a1) :: (dI (a1.length : Int)) :: (dI y.2) :: q13 []))))), []⟩) → Lp (X9 n) k9_1 0 (cL (cL (cR (cL (cR (cR (cL (cL (cR (cR p9_0)))))))))) nx101 ⟨q1 ((dP eI a1) :: q2 ((dB false) :: q1 ((dI v84) :: (dB v97) :: q2 ((dP eI a0) :: (dI (a0.length : Int)) :: (dI v74) :: q3 ((dP eI a1) :: (dI (a1.length : Int)) :: (dI v98) :: q13 []))))), []⟩ (blkQ (X9 n) 2 [1, 4, 7, 10, 11, 12] 0 (seqQ (X9 n) p9_2 (blkQ (X9 n) 1 k9_0 0 (seqQ (X9 n) p9_1 (lpQ (X9 n) k9_0 0 p9_0 nx77 (blkQ (X9 n) 0 [4] 0 (seqQ (X9 n) (cR (cR C9)) (fnQ (X9 n).E.T (resOf Proofs.Try.prog 9) (eB o))))))))) := by
     intro kx100
     induction kx100 with
     | zero => intro v97 v98  ox99 h; exact (iter_zero h).elim
     | succ kx100 ihx102 =>
      intro v97 v98  ox99 h nx101 hnx105 hrx103 hxx104
      obtain ⟨nx101, rfl⟩ : ∃ q, nx101 = q + 1 := ⟨nx101 - 1, by omega⟩
      obtain ⟨sx106, h, hsx107⟩ := iter_some h
      have h : f9_B2 m a1 v84 v97 v98 = some sx106 := h
      unfold f9_B2 at h
      refine Lp.succ ?_
      refine Wp.sq ?_
      refine Wp.rg ?_
      refine Ops.sg 1 1 ?_
      refine Ops.dn ?_
      refine seqQ.n ?_
      refine Wp.sq ?_
      refine Wp.cnd h k9_1 0 (by kernel_rfl) (fun h => ?_) (fun h => ?_)
      ·refine Wp.sk ?_
       refine sqQ.n' ?_
       refine seqQ.n ?_
       refine Wp.sq ?_
       refine Wp.block' 3 k9_1 0 (by kernel_rfl) ?_
       refine Wp.sq ?_
       refine Wp.rg ?_
       obtain ⟨v108, ev108, h⟩ := bnd_some h
       refine Ops.on 1 (fun h0 e0 => (ix_r (T := T) h0 22 3 1 .plain eI a1 v98 v108 ev108 (by kernel_rfl) (by kernel_rfl) (fun _ => rfl))) ?_
       refine Ops.sg 2 3 ?_
       refine Ops.dn ?_
       refine seqQ.n ?_
       refine Wp.rg ?_
       refine Ops.sg 2 2 ?_
       refine Ops.hv (fun KQ => ∀ (d111 d112 d113 : D) (v114 : Bool) (v115 : Bool), f9_r1 m v98 v115 = some sx106 → KQ 6 ⟨q1 ((dP eI a1) :: q2 ((dB false) :: q1 ((dI v84) :: (dB v114) :: q1 ((dI v108) :: (dP eI a0) :: (dI (a0.length : Int)) :: (dI v74) :: q3 ((dP eI a1) :: (dI (a1.length : Int)) :: (dI v98) :: (dB (decide (v98 < (a1.length : Int)))) :: (.vptr [(vI v108)]) :: (dI v108) :: (dB v114) :: (dB v114) :: d111 :: d112 :: d113 :: (dB v115) :: q4 []))))), []⟩) ?_ fun J9j116 => ?_
       ·intro d111 d112 d113 v114 v115 h
        unfold f9_r1 at h
        refine Ops.sg 1 7 ?_
        refine Ops.dn ?_
        refine blkQ.n' ?_
        refine seqQ.n ?_
        refine Wp.rg ?_
        refine Ops.sg 2 2 ?_
        refine Ops.dn ?_
        refine lpQ.n ⟨q1 ((dP eI a1) :: q2 ((dB false) :: q1 ((dI v84) :: (dB v115) :: q2 ((dP eI a0) :: (dI (a0.length : Int)) :: (dI v74) :: q3 ((dP eI a1) :: (dI (a1.length : Int)) :: (dI (w64 (v98 + 1))) :: q13 []))))), []⟩ (by kernel_rfl) ?_
        cases h
        exact ihx102 v115 (w64 (v98 + 1))  _ hsx107 _ (by omega) hrx103 hxx104
       refine Ops.hv (fun KQ => ∀ v109 : Bool, f9_r1 m v98 (v109 || (v84 == v108)) = some sx106 → KQ 2 ⟨q1 ((dP eI a1) :: q2 ((dB false) :: q1 ((dI v84) :: (dB v109) :: q1 ((dI v108) :: (dP eI a0) :: (dI (a0.length : Int)) :: (dI v74) :: q3 ((dP eI a1) :: (dI (a1.length : Int)) :: (dI v98) :: (dB (decide (v98 < (a1.length : Int)))) :: (.vptr [(vI v108)]) :: (dI v108) :: (dB v109) :: (dB v109) :: q8 []))))), []⟩) ?_ fun G9g110 => Ops.st _ (by kernel_rfl) (G9g110 v97 h)
       intro v109 h
       cases v109
       ·refine Ops.sg 4 6 ?_
        exact Ops.st _ (by kernel_rfl) (J9j116 (dI v84) (dI v108) (dB (v84 == v108)) false (v84 == v108) h)
       ·refine Ops.sg 4 6 ?_
        exact Ops.st _ (by kernel_rfl) (J9j116 U U U true true h)
      ·refine Wp.exit (id := 2) (by kernel_rfl) ?_
       refine sqQ.x ?_
       refine seqQ.x ?_
       cases h
       refine lpQ.x ?_
       refine blkQ.x ⟨q1 ((dP eI a1) :: q2 ((dB false) :: q1 ((dI v84) :: (dB v97) :: q2 ((dP eI a0) :: (dI (a0.length : Int)) :: (dI v74) :: q3 ((dP eI a1) :: (dI (a1.length : Int)) :: (dI v98) :: q13 []))))), []⟩ (by kernel_rfl) ?_
       exact hxx104 (v97, v98)  hsx107
    refine Wp.loop' k9_1 0 (by kernel_rfl) ⟨q1 ((dP eI a1) :: q2 ((dB false) :: q1 ((dI v84) :: (dB false) :: q2 ((dP eI a0) :: (dI (a0.length : Int)) :: (dI v74) :: q3 ((dP eI a1) :: (dI (a1.length : Int)) :: (dI 0) :: q13 []))))), []⟩ (by kernel_rfl) ?_
    rcases brk_some h with ⟨r119, er119, h⟩ | ⟨y118, ey118, h⟩
    ·refine hLx117 _ false 0  _ er119 n (by omega) (fun r er σ hσ => ?_) (fun y  ey => by cases ey)
     cases er
     refine seqQ.r ?_
     refine blkQ.r ?_
     refine seqQ.r ?_
     refine lpQ.r ?_
     cases h
     refine blkQ.r ?_
     exact hrx79 _ hsx83 _ (RetOk.forget k9_0 (by kernel_rfl) hσ)
    ·refine hLx117 _ false 0  _ ey118 n (by omega) (fun r er => by cases er) (fun y  ey => ?_)
     cases ey
     refine seqQ.n ?_
     refine Wp.sq ?_
     refine Wp.rg ?_
     refine Ops.sg 2 2 ?_
     refine Ops.dn ?_
     refine seqQ.n ?_
     refine Wp.cnd h k9_0 0 (by kernel_rfl) (fun h => ?_) (fun h => ?_)
     ·refine Wp.sq ?_
      refine Wp.rg ?_
      refine Ops.sg 1 1 ?_
      refine Ops.dn ?_
      refine seqQ.n ?_
      refine Wp.ret (by kernel_rfl) ?_
      refine sqQ.r ?_
      refine blkQ.r ?_
      refine seqQ.r ?_
      cases h
      refine lpQ.r ?_
      refine blkQ.r ?_
      exact hrx79 _ hsx83 _ (RetOk.forget k9_0 (by kernel_rfl) (RetOk.mk' (dB false) (by kernel_rfl) (by kernel_rfl)))
     ·refine Wp.sk ?_
      refine sqQ.n' ?_
      refine blkQ.n' ?_
      refine seqQ.n ?_
      refine Wp.rg ?_
      refine Ops.sg 2 2 ?_
      refine Ops.dn ?_
      refine lpQ.n ⟨q1 ((dP eI a1) :: q2 ((dB false) :: q5 ((dP eI a0) :: (dI (a0.length : Int)) :: (dI (w64 (v74 + 1))) :: q19 []))), []⟩ (by kernel_rfl) ?_
      cases h
      exact ihx78 (w64 (v74 + 1))  _ hsx83 _ (by omega) hrx79 hxx80
   ·refine Wp.exit (id := 0) (by kernel_rfl) ?_
    refine sqQ.x ?_
    refine seqQ.x ?_
    cases h
    refine lpQ.x ?_
    refine blkQ.x ⟨q1 ((dP eI a1) :: q2 ((dB false) :: q5 ((dP eI a0) :: (dI (a0.length : Int)) :: (dI v74) :: q19 []))), []⟩ (by kernel_rfl) ?_
    exact hxx80 v74  hsx83
 refine Wp.loop' k9_0 0 (by kernel_rfl) ⟨q1 ((dP eI a1) :: q2 ((dB false) :: q5 ((dP eI a0) :: (dI (a0.length : Int)) :: (dI 0) :: q19 []))), []⟩ (by kernel_rfl) ?_
 rcases brk_some h with ⟨r122, er122, h⟩ | ⟨y121, ey121, h⟩
 ·refine hLx120 _ 0  _ er122 n (by omega) (fun r er σ hσ => ?_) (fun y  ey => by cases ey)
  cases er
  refine seqQ.r ?_
  exact fnQ.r' (X9 n) (fun z => (eB z)) h hσ
 ·refine hLx120 _ 0  _ ey121 n (by omega) (fun r er => by cases er) (fun y  ey => ?_)
  cases ey
  refine seqQ.n ?_
  refine Wp.sq ?_
  refine Wp.rg ?_
  refine Ops.sg 1 1 ?_
  refine Ops.dn ?_
  refine seqQ.n ?_
  refine Wp.ret (by kernel_rfl) ?_
  exact fnQ.r' (X9 n) (fun z => (eB z)) h (RetOk.mk' (dB true) (by kernel_rfl) (by kernel_rfl))
def f53 (m : Nat) (a0 : (List S53)) : Option (List S53) := app 40 [] a0
def f38 (m : Nat) (a0 : S58) (a1 : S58) : Option Int :=
 some (w64 (a0.fState - a1.fState))
def f55_r1 (m : Nat) (v29 : Bool) : Option Bool :=
 some v29
def f55_r2 (m : Nat) (a0 : S53) (a1 : S53) (v19 : Bool) : Option Bool :=
 f55_r1 m (v19 && (a0.fTo == a1.fTo))
def f55_r3 (m : Nat) (a0 : S53) (a1 : S53) (v9 : Bool) : Option Bool :=
 f55_r2 m a0 a1 (v9 && (a0.fOut == a1.fOut))
def f55 (m : Nat) (a0 : S53) (a1 : S53) : Option Bool :=
 f55_r3 m a0 a1 ((a0.fFrom == a1.fFrom) && (a0.fIn == a1.fIn))
noncomputable abbrev X55 (n : Nat) : Cx := cxOf Proofs.Try.prog E 55 n
abbrev b55_0 (w0 : S53) : AObj := .cells [(dI w0.fFrom), (dI w0.fTo), (dI w0.fIn), (dI w0.fOut), (dI w0.fWeight)]
theorem ok55 (m : Nat) (a0 : S53) (a1 : S53) (o : Bool) (h : f55 m a0 a1 = some o) (n : Nat) (hn : m + 1 ≤ n) : Fn Proofs.Try.prog E n 55 [.v (e53 a0), .v (e53 a1)] (eB o) := by
 obtain ⟨n, rfl⟩ : ∃ q, n = q + 1 := ⟨n - 1, by omega⟩
 unfold f55 at h
 refine Fn.of (by kernel_rfl) (by kernel_rfl) (by kernel_rfl) ⟨(.v (.agg [(vI a0.fFrom), (vI a0.fTo), (vI a0.fIn), (vI a0.fOut), (vI a0.fWeight)])) :: (.v (.agg [(vI a1.fFrom), (vI a1.fTo), (vI a1.fIn), (vI a1.fOut), (vI a1.fWeight)])) :: u29 [], []⟩ (by kernel_rfl) ?_
 refine Wp.sq ?_
 refine Wp.rg ?_
 refine Ops.sg 3 3 ?_
 refine Ops.dn ?_
 refine seqQ.n ?_
 refine Wp.sq ?_
 refine Wp.rg ?_
 refine Ops.sg 6 6 ?_
 refine Ops.hv (fun KQ => ∀ (d3 d4 d5 d6 d7 : D) (v8 : Bool) (v9 : Bool), f55_r3 m a0 a1 v9 = some o → KQ 12 ⟨(.v (.agg [(vI a0.fFrom), (vI a0.fTo), (vI a0.fIn), (vI a0.fOut), (vI a0.fWeight)])) :: (.v (.agg [(vI a1.fFrom), (vI a1.fTo), (vI a1.fIn), (vI a1.fOut), (vI a1.fWeight)])) :: (.ptr 0 0) :: (.ptr 1 0) :: (dB false) :: (.ptr 0 0) :: (dI a0.fFrom) :: (.ptr 1 0) :: (dI a1.fFrom) :: (dB v8) :: (dB v8) :: d3 :: d4 :: d5 :: d6 :: d7 :: (dB v9) :: u14 [], [(b55_0 a0), (b55_0 a1)]⟩) ?_ fun J55j10 => ?_
 ·intro d3 d4 d5 d6 d7 v8 v9 h
  unfold f55_r3 at h
  refine Ops.sg 1 13 ?_
  refine Ops.hv (fun KQ => ∀ (d13 d14 d15 d16 d17 : D) (v18 : Bool) (v19 : Bool), f55_r2 m a0 a1 v19 = some o → KQ 19 ⟨(.v (.agg [(vI a0.fFrom), (vI a0.fTo), (vI a0.fIn), (vI a0.fOut), (vI a0.fWeight)])) :: (.v (.agg [(vI a1.fFrom), (vI a1.fTo), (vI a1.fIn), (vI a1.fOut), (vI a1.fWeight)])) :: (.ptr 0 0) :: (.ptr 1 0) :: (dB false) :: (.ptr 0 0) :: (dI a0.fFrom) :: (.ptr 1 0) :: (dI a1.fFrom) :: (dB v8) :: (dB v8) :: d3 :: d4 :: d5 :: d6 :: d7 :: (dB v18) :: (dB v18) :: d13 :: d14 :: d15 :: d16 :: d17 :: (dB v19) :: u7 [], [(b55_0 a0), (b55_0 a1)]⟩) ?_ fun J55j20 => ?_
  ·intro d13 d14 d15 d16 d17 v18 v19 h
   unfold f55_r2 at h
   refine Ops.sg 1 20 ?_
   refine Ops.hv (fun KQ => ∀ (d23 d24 d25 d26 d27 : D) (v28 : Bool) (v29 : Bool), f55_r1 m v29 = some o → KQ 26 ⟨(.v (.agg [(vI a0.fFrom), (vI a0.fTo), (vI a0.fIn), (vI a0.fOut), (vI a0.fWeight)])) :: (.v (.agg [(vI a1.fFrom), (vI a1.fTo), (vI a1.fIn), (vI a1.fOut), (vI a1.fWeight)])) :: (.ptr 0 0) :: (.ptr 1 0) :: (dB false) :: (.ptr 0 0) :: (dI a0.fFrom) :: (.ptr 1 0) :: (dI a1.fFrom) :: (dB v8) :: (dB v8) :: d3 :: d4 :: d5 :: d6 :: d7 :: (dB v18) :: (dB v18) :: d13 :: d14 :: d15 :: d16 :: d17 :: (dB v28) :: (dB v28) :: d23 :: d24 :: d25 :: d26 :: d27 :: (dB v29) :: [], [(b55_0 a0), (b55_0 a1)]⟩) ?_ fun J55j30 => ?_
   ·intro d23 d24 d25 d26 d27 v28 v29 h
    unfold f55_r1 at h
    refine Ops.sg 1 27 ?_
    refine Ops.dn ?_
    refine seqQ.n ?_
    refine Wp.ret (by kernel_rfl) ?_
    exact fnQ.r' (X55 n) (fun z => (eB z)) h (RetOk.mk' (dB v29) (by kernel_rfl) (by kernel_rfl))
   refine Ops.hv (fun KQ => ∀ v21 : Bool, f55_r1 m (v21 && (a0.fTo == a1.fTo)) = some o → KQ 20 ⟨(.v (.agg [(vI a0.fFrom), (vI a0.fTo), (vI a0.fIn), (vI a0.fOut), (vI a0.fWeight)])) :: (.v (.agg [(vI a1.fFrom), (vI a1.fTo), (vI a1.fIn), (vI a1.fOut), (vI a1.fWeight)])) :: (.ptr 0 0) :: (.ptr 1 0) :: (dB false) :: (.ptr 0 0) :: (dI a0.fFrom) :: (.ptr 1 0) :: (dI a1.fFrom) :: (dB v8) :: (dB v8) :: d3 :: d4 :: d5 :: d6 :: d7 :: (dB v18) :: (dB v18) :: d13 :: d14 :: d15 :: d16 :: d17 :: (dB v21) :: (dB v21) :: u6 [], [(b55_0 a0), (b55_0 a1)]⟩) ?_ fun G55g22 => Ops.st _ (by kernel_rfl) (G55g22 v19 h)
   intro v21 h
   cases v21
   ·refine Ops.sg 6 26 ?_
    exact Ops.st _ (by kernel_rfl) (J55j30 U U U U U false false h)
   ·refine Ops.sg 6 26 ?_
    exact Ops.st _ (by kernel_rfl) (J55j30 (.ptr 0 1) (dI a0.fTo) (.ptr 1 1) (dI a1.fTo) (dB (a0.fTo == a1.fTo)) true (a0.fTo == a1.fTo) h)
  refine Ops.hv (fun KQ => ∀ v11 : Bool, f55_r2 m a0 a1 (v11 && (a0.fOut == a1.fOut)) = some o → KQ 13 ⟨(.v (.agg [(vI a0.fFrom), (vI a0.fTo), (vI a0.fIn), (vI a0.fOut), (vI a0.fWeight)])) :: (.v (.agg [(vI a1.fFrom), (vI a1.fTo), (vI a1.fIn), (vI a1.fOut), (vI a1.fWeight)])) :: (.ptr 0 0) :: (.ptr 1 0) :: (dB false) :: (.ptr 0 0) :: (dI a0.fFrom) :: (.ptr 1 0) :: (dI a1.fFrom) :: (dB v8) :: (dB v8) :: d3 :: d4 :: d5 :: d6 :: d7 :: (dB v11) :: (dB v11) :: u13 [], [(b55_0 a0), (b55_0 a1)]⟩) ?_ fun G55g12 => Ops.st _ (by kernel_rfl) (G55g12 v9 h)
  intro v11 h
  cases v11
  ·refine Ops.sg 6 19 ?_
   exact Ops.st _ (by kernel_rfl) (J55j20 U U U U U false false h)
  ·refine Ops.sg 6 19 ?_
   exact Ops.st _ (by kernel_rfl) (J55j20 (.ptr 0 3) (dI a0.fOut) (.ptr 1 3) (dI a1.fOut) (dB (a0.fOut == a1.fOut)) true (a0.fOut == a1.fOut) h)
 refine Ops.hv (fun KQ => ∀ v1 : Bool, f55_r3 m a0 a1 (v1 && (a0.fIn == a1.fIn)) = some o → KQ 6 ⟨(.v (.agg [(vI a0.fFrom), (vI a0.fTo), (vI a0.fIn), (vI a0.fOut), (vI a0.fWeight)])) :: (.v (.agg [(vI a1.fFrom), (vI a1.fTo), (vI a1.fIn), (vI a1.fOut), (vI a1.fWeight)])) :: (.ptr 0 0) :: (.ptr 1 0) :: (dB false) :: (.ptr 0 0) :: (dI a0.fFrom) :: (.ptr 1 0) :: (dI a1.fFrom) :: (dB v1) :: (dB v1) :: u20 [], [(b55_0 a0), (b55_0 a1)]⟩) ?_ fun G55g2 => Ops.st _ (by kernel_rfl) (G55g2 (a0.fFrom == a1.fFrom) h)
 intro v1 h
 cases v1
 ·refine Ops.sg 6 12 ?_
  exact Ops.st _ (by kernel_rfl) (J55j10 U U U U U false false h)
 ·refine Ops.sg 6 12 ?_
  exact Ops.st _ (by kernel_rfl) (J55j10 (.ptr 0 2) (dI a0.fIn) (.ptr 1 2) (dI a1.fIn) (dB (a0.fIn == a1.fIn)) true (a0.fIn == a1.fIn) h)
def f19 (m : Nat) (a0 : S53) : Option S53 :=
 some ((⟨a0.fFrom, a0.fTo, a0.fIn, a0.fIn, a0.fWeight⟩ : S53))
noncomputable abbrev X19 (n : Nat) : Cx := cxOf Proofs.Try.prog E 19 n
theorem ok19 (m : Nat) (a0 : S53) (o : S53) (h : f19 m a0 = some o) (n : Nat) (hn : m + 1 ≤ n) : Fn Proofs.Try.prog E n 19 [.v (e53 a0)] (e53 o) := by
 obtain ⟨n, rfl⟩ : ∃ q, n = q + 1 := ⟨n - 1, by omega⟩
 unfold f19 at h
 refine Fn.of (by kernel_rfl) (by kernel_rfl) (by kernel_rfl) ⟨(.v (.agg [(vI a0.fFrom), (vI a0.fTo), (vI a0.fIn), (vI a0.fOut), (vI a0.fWeight)])) :: u6 [], []⟩ (by kernel_rfl) ?_
 refine Wp.sq ?_
 refine Wp.rg ?_
 refine Ops.sg 2 2 ?_
 refine Ops.dn ?_
 refine seqQ.n ?_
 refine Wp.sq ?_
 refine Wp.rg ?_
 refine Ops.sg 4 4 ?_
 refine Ops.dn ?_
 refine seqQ.n ?_
 refine Wp.sq ?_
 refine Wp.rg ?_
 refine Ops.sg 2 2 ?_
 refine Ops.dn ?_
 refine seqQ.n ?_
 refine Wp.ret (by kernel_rfl) ?_
 exact fnQ.r' (X19 n) (fun z => (e53 z)) h (RetOk.mk' (.v (.agg [(vI a0.fFrom), (vI a0.fTo), (vI a0.fIn), (vI a0.fIn), (vI a0.fWeight)])) (by kernel_rfl) (by kernel_rfl))
def f40 (m : Nat) (a0 : (List S58)) : Option (List S58) := app 16 [] a0
theorem ok40 (m : Nat) (a0 : (List S58)) (o : (List S58)) (h : f40 m a0 = some o) (n : Nat) (hn : m + 1 ≤ n) : Fn Proofs.Try.prog E n 40 [.v ((eL e58) a0)] ((eL e58) o) :=
 clone_fn (k := 2) (b := 16) (by kernel_rfl) (by kernel_rfl) (by kernel_rfl) (fun _ => rfl) h hn
end Go.Abs
