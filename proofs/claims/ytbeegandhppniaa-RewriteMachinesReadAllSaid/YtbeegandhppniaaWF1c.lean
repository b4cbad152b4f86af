import Derived.Test.YtbeegandhppniaaWF1
namespace Go.Abs
set_option linter.unusedVariables false
set_option linter.unusedSimpArgs false
set_option linter.unnecessarySimpa false
set_option maxRecDepth 100000
noncomputable abbrev X66c (n : Nat) : Cx := cxOf Proofs.Try.prog E0 66 n
theorem ok66c (m : Nat) (a0 : Int) (o : Bool) (h : f66 m a0 = some o) (n : Nat) (hn : m + 1 ≤ n) : Fn Proofs.Try.prog E0 n 66 [.v (eI a0)] (eB o) := by
 obtain ⟨n, rfl⟩ : ∃ q, n = q + 1 := ⟨n - 1, by omega⟩
 unfold f66 at h
 refine Fn.of (by kernel_rfl) (by kernel_rfl) (by kernel_rfl) ⟨(dI a0) :: u5 [], []⟩ (by kernel_rfl) ?_
 refine Wp.sq ?_
 refine Wp.rg ?_
 refine Ops.sg 1 1 ?_
 refine Ops.dn ?_
 refine seqQ.n ?_
 refine Wp.sq ?_
 refine Wp.rg ?_
 refine Ops.sg 4 4 ?_
 refine Ops.dn ?_
 refine seqQ.n ?_
 refine Wp.ret (by kernel_rfl) ?_
 exact fnQ.r' (X66c n) (fun z => (eB z)) h (RetOk.mk' (dB (a0 != a0)) (by kernel_rfl) (by kernel_rfl))
noncomputable abbrev X50c (n : Nat) : Cx := cxOf Proofs.Try.prog E0 50 n
theorem ok50c (m : Nat) (a0 : Int) (a1 : Int) (o : Int) (h : f50 m a0 a1 = some o) (n : Nat) (hn : m + 2 ≤ n) : Fn Proofs.Try.prog E0 n 50 [.v (eI a0), .v (eI a1)] (eI o) := by
 obtain ⟨n, rfl⟩ : ∃ q, n = q + 1 := ⟨n - 1, by omega⟩
 unfold f50 at h
 refine Fn.of (by kernel_rfl) (by kernel_rfl) (by kernel_rfl) ⟨(dI a0) :: (dI a1) :: u18 [], []⟩ (by kernel_rfl) ?_
 refine Wp.sq ?_
 refine Wp.rg ?_
 refine Ops.sg 1 1 ?_
 refine Ops.dn ?_
 refine seqQ.n ?_
 refine Wp.sq ?_
 refine Wp.rg ?_
 refine Ops.sg 1 1 ?_
 obtain ⟨v1, ev1, h⟩ := bnd_some h
 refine Ops.on 2 (fun h0 e0 => (call_ok (E' := E0) (h := h0) (by kernel_rfl) (Args.v (vI a0) (eI a0) (by kernel_rfl) Args.nil) (ok66c m a0 v1 ev1 n (by omega)))) ?_
 refine Ops.sg 1 3 ?_
 refine Ops.dn ?_
 refine seqQ.n ?_
 refine Wp.sq ?_
 refine Wp.rg ?_
 refine Ops.sg 1 1 ?_
 obtain ⟨v2, ev2, h⟩ := bnd_some h
 refine Ops.on 2 (fun h0 e0 => (call_ok (E' := E0) (h := h0) (by kernel_rfl) (Args.v (vI a1) (eI a1) (by kernel_rfl) Args.nil) (ok66c m a1 v2 ev2 n (by omega)))) ?_
 refine Ops.sg 1 3 ?_
 refine Ops.dn ?_
 refine seqQ.n ?_
 refine Wp.sq ?_
 refine Wp.sq ?_
 refine Wp.rg ?_
 refine Ops.sg 1 1 ?_
 refine Ops.dn ?_
 refine seqQ.n ?_
 refine Wp.cnd h [0, 1, 4, 6] 0 (by kernel_rfl) (fun h => ?_) (fun h => ?_)
 ·refine Wp.sq ?_
  refine Wp.sq ?_
  refine Wp.rg ?_
  refine Ops.sg 1 1 ?_
  refine Ops.dn ?_
  refine seqQ.n ?_
  refine Wp.cnd h [4] 0 (by kernel_rfl) (fun h => ?_) (fun h => ?_)
  ·refine Wp.sq ?_
   refine Wp.rg ?_
   refine Ops.sg 1 1 ?_
   refine Ops.dn ?_
   refine seqQ.n ?_
   refine Wp.ret (by kernel_rfl) ?_
   refine sqQ.r ?_
   refine seqQ.r ?_
   refine sqQ.r ?_
   refine seqQ.r ?_
   exact fnQ.r' (X50c n) (fun z => (eI z)) h (RetOk.mk' (dI 0) (by kernel_rfl) (by kernel_rfl))
  ·refine Wp.sk ?_
   refine sqQ.n' ?_
   refine seqQ.n ?_
   refine Wp.sq ?_
   refine Wp.rg ?_
   refine Ops.sg 1 1 ?_
   refine Ops.dn ?_
   refine seqQ.n ?_
   refine Wp.ret (by kernel_rfl) ?_
   refine sqQ.r ?_
   refine seqQ.r ?_
   exact fnQ.r' (X50c n) (fun z => (eI z)) h (RetOk.mk' (dI (-1)) (by kernel_rfl) (by kernel_rfl))
 ·refine Wp.sk ?_
  refine sqQ.n' ?_
  refine seqQ.n ?_
  refine Wp.sq ?_
  refine Wp.sq ?_
  refine Wp.rg ?_
  refine Ops.sg 1 1 ?_
  refine Ops.dn ?_
  refine seqQ.n ?_
  refine Wp.cnd h [0, 1, 4] 0 (by kernel_rfl) (fun h => ?_) (fun h => ?_)
  ·refine Wp.sq ?_
   refine Wp.rg ?_
   refine Ops.sg 1 1 ?_
   refine Ops.dn ?_
   refine seqQ.n ?_
   refine Wp.ret (by kernel_rfl) ?_
   refine sqQ.r ?_
   refine seqQ.r ?_
   exact fnQ.r' (X50c n) (fun z => (eI z)) h (RetOk.mk' (dI 1) (by kernel_rfl) (by kernel_rfl))
  ·refine Wp.sk ?_
   refine sqQ.n' ?_
   refine seqQ.n ?_
   refine Wp.sq ?_
   refine Wp.sq ?_
   refine Wp.rg ?_
   refine Ops.sg 3 3 ?_
   refine Ops.dn ?_
   refine seqQ.n ?_
   refine Wp.cnd h [0, 1, 4] 0 (by kernel_rfl) (fun h => ?_) (fun h => ?_)
   ·refine Wp.sq ?_
    refine Wp.rg ?_
    refine Ops.sg 1 1 ?_
    refine Ops.dn ?_
    refine seqQ.n ?_
    refine Wp.ret (by kernel_rfl) ?_
    refine sqQ.r ?_
    refine seqQ.r ?_
    exact fnQ.r' (X50c n) (fun z => (eI z)) h (RetOk.mk' (dI (-1)) (by kernel_rfl) (by kernel_rfl))
   ·refine Wp.sk ?_
    refine sqQ.n' ?_
    refine seqQ.n ?_
    refine Wp.sq ?_
    refine Wp.sq ?_
    refine Wp.rg ?_
    refine Ops.sg 3 3 ?_
    refine Ops.dn ?_
    refine seqQ.n ?_
    refine Wp.cnd h [4] 0 (by kernel_rfl) (fun h => ?_) (fun h => ?_)
    ·refine Wp.sq ?_
     refine Wp.rg ?_
     refine Ops.sg 1 1 ?_
     refine Ops.dn ?_
     refine seqQ.n ?_
     refine Wp.ret (by kernel_rfl) ?_
     refine sqQ.r ?_
     refine seqQ.r ?_
     exact fnQ.r' (X50c n) (fun z => (eI z)) h (RetOk.mk' (dI 1) (by kernel_rfl) (by kernel_rfl))
    ·refine Wp.sk ?_
     refine sqQ.n' ?_
     refine seqQ.n ?_
     refine Wp.sq ?_
     refine Wp.rg ?_
     refine Ops.sg 1 1 ?_
     refine Ops.dn ?_
     refine seqQ.n ?_
     refine Wp.ret (by kernel_rfl) ?_
     exact fnQ.r' (X50c n) (fun z => (eI z)) h (RetOk.mk' (dI 0) (by kernel_rfl) (by kernel_rfl))
noncomputable abbrev X49c (n : Nat) : Cx := cxOf Proofs.Try.prog E0 49 n
theorem ok49c (m : Nat) (a0 : (List Int)) (o : Int) (h : f49 m a0 = some o) (n : Nat) (hn : m + 1 ≤ n) : Fn Proofs.Try.prog E0 n 49 [.v ((eL eI) a0)] (eI o) := by
 obtain ⟨n, rfl⟩ : ∃ q, n = q + 1 := ⟨n - 1, by omega⟩
 unfold f49 at h
 refine Fn.of (by kernel_rfl) (by kernel_rfl) (by kernel_rfl) ⟨(dP eI a0) :: u17 [], []⟩ (by kernel_rfl) ?_
 refine Wp.sq ?_
 refine Wp.rg ?_
 refine Ops.sg 1 1 ?_
 refine Ops.dn ?_
 refine seqQ.n ?_
 refine Wp.sq ?_
 refine Wp.rg ?_
 refine Ops.sg 1 1 ?_
 refine Ops.dn ?_
 refine seqQ.n ?_
 refine Wp.sq ?_
 refine Wp.sq ?_
 refine Wp.rg ?_
 refine Ops.sg 1 1 ?_
 refine Ops.on 2 (fun h0 e0 => (len_r (T := T) h0 22 3 .plain eI a0 (by kernel_rfl))) ?_
 refine Ops.sg 1 3 ?_
 refine Ops.dn ?_
 refine seqQ.n ?_
 refine Wp.block' 0 [2, 3] 0 (by kernel_rfl) ?_
 have hLx15 : ∀ (kx6 : Nat) (v4 : Int)  (ox5 : Int ⊕ (Int)), iter (fun (y : Int) => f49_B1 m a0 y) kx6 v4 = some ox5 → ∀ nx7, kx6 ≤ nx7 → (∀ r, ox5 = .inl r → ∀ σ, RetOk (X49c n) (resOf Proofs.Try.prog 49) (eI r) σ → (seqQ (X49c n) (cR (cR (cR C49))) (fnQ (X49c n).E.T (resOf Proofs.Try.prog 49) (eI o))) .ret σ) → (∀ (y : Int) , ox5 = .inr y → (seqQ (X49c n) (cR (cR (cR C49))) (fnQ (X49c n).E.T (resOf Proofs.Try.prog 49) (eI o))) .normal ⟨q2 ((dI 0) :: (dI 0) :: q2 ((dP eI a0) :: (dI (a0.length : Int)) :: (dI y) :: q9 [])), []⟩) → Lp (X49c n) [2, 3, 6, 7, 8] 0 (cL (cL (cR (cL (cR (cR C49)))))) nx7 ⟨q2 ((dI 0) :: (dI 0) :: q2 ((dP eI a0) :: (dI (a0.length : Int)) :: (dI v4) :: q9 [])), []⟩ (blkQ (X49c n) 0 [2, 3] 0 (seqQ (X49c n) (cR (cR (cR C49))) (fnQ (X49c n).E.T (resOf Proofs.Try.prog 49) (eI o)))) := by
  intro kx6
  induction kx6 with
  | zero => intro v4  ox5 h; exact (iter_zero h).elim
  | succ kx6 ihx8 =>
   intro v4  ox5 h nx7 hnx11 hrx9 hxx10
   obtain ⟨nx7, rfl⟩ : ∃ q, nx7 = q + 1 := ⟨nx7 - 1, by omega⟩
   obtain ⟨sx12, h, hsx13⟩ := iter_some h
   have h : f49_B1 m a0 v4 = some sx12 := h
   unfold f49_B1 at h
   refine Lp.succ ?_
   refine Wp.sq ?_
   refine Wp.rg ?_
   refine Ops.sg 1 1 ?_
   refine Ops.dn ?_
   refine seqQ.n ?_
   refine Wp.sq ?_
   refine Wp.cnd h [2, 3, 6, 7, 8] 0 (by kernel_rfl) (fun h => ?_) (fun h => ?_)
   ·refine Wp.sk ?_
    refine sqQ.n' ?_
    refine seqQ.n ?_
    refine Wp.sq ?_
    refine Wp.block' 1 [2, 3, 6, 7, 8] 0 (by kernel_rfl) ?_
    refine Wp.sq ?_
    refine Wp.rg ?_
    obtain ⟨v14, ev14, h⟩ := bnd_some h
    refine Ops.on 1 (fun h0 e0 => (ix_r (T := T) h0 22 3 1 .plain eI a0 v4 v14 ev14 (by kernel_rfl) (by kernel_rfl) (fun _ => rfl))) ?_
    refine Ops.sg 2 3 ?_
    refine Ops.dn ?_
    refine seqQ.n ?_
    refine Wp.sq ?_
    refine Wp.rg ?_
    refine Ops.sg 3 3 ?_
    refine Ops.dn ?_
    refine seqQ.n ?_
    refine Wp.cnd h [2, 3, 6, 7, 8] 0 (by kernel_rfl) (fun h => ?_) (fun h => ?_)
    ·refine Wp.sq ?_
     refine Wp.rg ?_
     refine Ops.sg 2 2 ?_
     refine Ops.dn ?_
     refine seqQ.n ?_
     refine Wp.ret (by kernel_rfl) ?_
     refine sqQ.r ?_
     refine blkQ.r ?_
     refine seqQ.r ?_
     cases h
     refine lpQ.r ?_
     refine blkQ.r ?_
     exact hrx9 _ hsx13 _ (RetOk.forget [2, 3, 6, 7, 8] (by kernel_rfl) (RetOk.mk' (dI v14) (by kernel_rfl) (by kernel_rfl)))
    ·refine Wp.sk ?_
     refine sqQ.n' ?_
     refine blkQ.n' ?_
     refine seqQ.n ?_
     refine Wp.rg ?_
     refine Ops.sg 2 2 ?_
     refine Ops.dn ?_
     refine lpQ.n ⟨q2 ((dI 0) :: (dI 0) :: q2 ((dP eI a0) :: (dI (a0.length : Int)) :: (dI (w64 (v4 + 1))) :: q9 [])), []⟩ (by kernel_rfl) ?_
     cases h
     exact ihx8 (w64 (v4 + 1))  _ hsx13 _ (by omega) hrx9 hxx10
   ·refine Wp.exit (id := 0) (by kernel_rfl) ?_
    refine sqQ.x ?_
    refine seqQ.x ?_
    cases h
    refine lpQ.x ?_
    refine blkQ.x ⟨q2 ((dI 0) :: (dI 0) :: q2 ((dP eI a0) :: (dI (a0.length : Int)) :: (dI v4) :: q9 [])), []⟩ (by kernel_rfl) ?_
    exact hxx10 v4  hsx13
 refine Wp.loop' [2, 3, 6, 7, 8] 0 (by kernel_rfl) ⟨q2 ((dI 0) :: (dI 0) :: q2 ((dP eI a0) :: (dI (a0.length : Int)) :: (dI 0) :: q9 [])), []⟩ (by kernel_rfl) ?_
 rcases brk_some h with ⟨r17, er17, h⟩ | ⟨y16, ey16, h⟩
 ·refine hLx15 _ 0  _ er17 n (by omega) (fun r er σ hσ => ?_) (fun y  ey => by cases ey)
  cases er
  refine seqQ.r ?_
  exact fnQ.r' (X49c n) (fun z => (eI z)) h hσ
 ·refine hLx15 _ 0  _ ey16 n (by omega) (fun r er => by cases er) (fun y  ey => ?_)
  cases ey
  refine seqQ.n ?_
  refine Wp.sq ?_
  refine Wp.rg ?_
  refine Ops.sg 2 2 ?_
  refine Ops.dn ?_
  refine seqQ.n ?_
  refine Wp.ret (by kernel_rfl) ?_
  exact fnQ.r' (X49c n) (fun z => (eI z)) h (RetOk.mk' (dI 0) (by kernel_rfl) (by kernel_rfl))
noncomputable abbrev X36c (n : Nat) : Cx := cxOf Proofs.Try.prog E0 36 n
theorem ok36c (m : Nat) (a0 : S53) (a1 : S53) (o : Int) (h : f36 m a0 a1 = some o) (n : Nat) (hn : m + 3 ≤ n) : Fn Proofs.Try.prog E0 n 36 [.v (e53 a0), .v (e53 a1)] (eI o) := by
 obtain ⟨n, rfl⟩ : ∃ q, n = q + 1 := ⟨n - 1, by omega⟩
 unfold f36 at h
 refine Fn.of (by kernel_rfl) (by kernel_rfl) (by kernel_rfl) ⟨(.v (.agg [(vI a0.fFrom), (vI a0.fTo), (vI a0.fIn), (vI a0.fOut), (vI a0.fWeight)])) :: (.v (.agg [(vI a1.fFrom), (vI a1.fTo), (vI a1.fIn), (vI a1.fOut), (vI a1.fWeight)])) :: u30 [], []⟩ (by kernel_rfl) ?_
 refine Wp.sq ?_
 refine Wp.rg ?_
 refine Ops.sg 3 3 ?_
 refine Ops.dn ?_
 refine seqQ.n ?_
 refine Wp.sq ?_
 refine Wp.rg ?_
 refine Ops.sg 4 4 ?_
 obtain ⟨v1, ev1, h⟩ := bnd_some h
 refine Ops.on 5 (fun h0 e0 => (call_ok (E' := E0) (h := h0) (by kernel_rfl) (Args.v (vI a0.fFrom) (eI a0.fFrom) (by kernel_rfl) (Args.v (vI a1.fFrom) (eI a1.fFrom) (by kernel_rfl) Args.nil)) (ok50c m a0.fFrom a1.fFrom v1 ev1 n (by omega)))) ?_
 refine Ops.sg 4 9 ?_
 obtain ⟨v2, ev2, h⟩ := bnd_some h
 refine Ops.on 10 (fun h0 e0 => (call_ok (E' := E0) (h := h0) (by kernel_rfl) (Args.v (vI a0.fIn) (eI a0.fIn) (by kernel_rfl) (Args.v (vI a1.fIn) (eI a1.fIn) (by kernel_rfl) Args.nil)) (ok50c m a0.fIn a1.fIn v2 ev2 n (by omega)))) ?_
 refine Ops.sg 4 14 ?_
 obtain ⟨v3, ev3, h⟩ := bnd_some h
 refine Ops.on 15 (fun h0 e0 => (call_ok (E' := E0) (h := h0) (by kernel_rfl) (Args.v (vI a0.fOut) (eI a0.fOut) (by kernel_rfl) (Args.v (vI a1.fOut) (eI a1.fOut) (by kernel_rfl) Args.nil)) (ok50c m a0.fOut a1.fOut v3 ev3 n (by omega)))) ?_
 refine Ops.sg 4 19 ?_
 obtain ⟨v4, ev4, h⟩ := bnd_some h
 refine Ops.on 20 (fun h0 e0 => (call_ok (E' := E0) (h := h0) (by kernel_rfl) (Args.v (vI a0.fTo) (eI a0.fTo) (by kernel_rfl) (Args.v (vI a1.fTo) (eI a1.fTo) (by kernel_rfl) Args.nil)) (ok50c m a0.fTo a1.fTo v4 ev4 n (by omega)))) ?_
 refine Ops.sg 4 24 ?_
 obtain ⟨v5, ev5, h⟩ := bnd_some h
 refine Ops.on 25 (fun h0 e0 => (call_ok (E' := E0) (h := h0) (by kernel_rfl) (Args.v (vI a0.fWeight) (eI a0.fWeight) (by kernel_rfl) (Args.v (vI a1.fWeight) (eI a1.fWeight) (by kernel_rfl) Args.nil)) (ok50c m a0.fWeight a1.fWeight v5 ev5 n (by omega)))) ?_
 refine Ops.sg 1 26 ?_
 obtain ⟨v6, ev6, h⟩ := bnd_some h
 refine Ops.on 27 (fun h0 e0 => (call_ok (E' := E0) (h := h0) (by kernel_rfl) (Args.v (.sl .nonfull (List.map eI ([v1, v2, v3, v4, v5]))) ((eL eI) ([v1, v2, v3, v4, v5])) (by kernel_rfl) Args.nil) (ok49c m ([v1, v2, v3, v4, v5]) v6 ev6 n (by omega)))) ?_
 refine Ops.sg 1 28 ?_
 refine Ops.dn ?_
 refine seqQ.n ?_
 refine Wp.ret (by kernel_rfl) ?_
 exact fnQ.r' (X36c n) (fun z => (eI z)) h (RetOk.mk' (dI v6) (by kernel_rfl) (by kernel_rfl))
noncomputable abbrev X38c (n : Nat) : Cx := cxOf Proofs.Try.prog E0 38 n
theorem ok38c (m : Nat) (a0 : S58) (a1 : S58) (o : Int) (h : f38 m a0 a1 = some o) (n : Nat) (hn : m + 1 ≤ n) : Fn Proofs.Try.prog E0 n 38 [.v (e58 a0), .v (e58 a1)] (eI o) := by
 obtain ⟨n, rfl⟩ : ∃ q, n = q + 1 := ⟨n - 1, by omega⟩
 unfold f38 at h
 refine Fn.of (by kernel_rfl) (by kernel_rfl) (by kernel_rfl) ⟨(.v (.agg [(vI a0.fState), (vI a0.fWeight)])) :: (.v (.agg [(vI a1.fState), (vI a1.fWeight)])) :: u8 [], []⟩ (by kernel_rfl) ?_
 refine Wp.sq ?_
 refine Wp.rg ?_
 refine Ops.sg 3 3 ?_
 refine Ops.dn ?_
 refine seqQ.n ?_
 refine Wp.sq ?_
 refine Wp.rg ?_
 refine Ops.sg 6 6 ?_
 refine Ops.dn ?_
 refine seqQ.n ?_
 refine Wp.ret (by kernel_rfl) ?_
 exact fnQ.r' (X38c n) (fun z => (eI z)) h (RetOk.mk' (dI (w64 (a0.fState - a1.fState))) (by kernel_rfl) (by kernel_rfl))
end Go.Abs
