import Derived.Test.YtmoiipfomcgomaaGreatDoorWF1
namespace Go.Abs
set_option linter.unusedVariables false
set_option maxRecDepth 100000
noncomputable abbrev X68c (n : Nat) : Cx := cxOf Proofs.Tryz.prog E0 68 n
theorem ok68c (m : Nat) (a0 : Int) (o : Bool) (h : f68 m a0 = some o) (n : Nat) (hn : m + 1 ≤ n) : Fn Proofs.Tryz.prog E0 n 68 [.v (eI a0)] (eB o) := by
 obtain ⟨n, rfl⟩ : ∃ q, n = q + 1 := ⟨n - 1, by omega⟩
 unfold f68 at h
 refine Fn.of (by kernel_rfl) (by kernel_rfl) (by kernel_rfl) ⟨(dI a0)::u5 [], []⟩ (by kernel_rfl) (Wp.sq (Wp.rg (Ops.sg 1 1 (Ops.dn (seqQ.n (Wp.sq (Wp.rg (Ops.sg 4 4 (Ops.dn (seqQ.n (Wp.rt ?_)))))))))))
 exact fnQ.r' (X68c n) (fun z => (eB z)) h (RetOk.mk' (dB (a0 != a0)) (by kernel_rfl) (by kernel_rfl))
noncomputable abbrev X44c (n : Nat) : Cx := cxOf Proofs.Tryz.prog E0 44 n
theorem ok44c (m : Nat) (a0 a1 o : Int) (h : f44 m a0 a1 = some o) (n : Nat) (hn : m + 2 ≤ n) : Fn Proofs.Tryz.prog E0 n 44 [.v (eI a0), .v (eI a1)] (eI o) := by
 obtain ⟨n, rfl⟩ : ∃ q, n = q + 1 := ⟨n - 1, by omega⟩
 unfold f44 at h
 refine Fn.of (by kernel_rfl) (by kernel_rfl) (by kernel_rfl) ⟨(dI a0)::(dI a1)::u18 [], []⟩ (by kernel_rfl) (Wp.sq (Wp.rg (Ops.sg 1 1 (Ops.dn (seqQ.n (Wp.sq (Wp.rg (Ops.sg 1 1 ?_))))))))
 obtain ⟨v1, ev1, h⟩ := bnd_some h
 refine Ops.on 2 (fun h0 e0 => (call_ok (E' := E0) (h := h0) (by kernel_rfl) (Args.v (vI a0) (eI a0) (by kernel_rfl) Args.nil) (ok68c m a0 v1 ev1 n (by omega)))) ?_
 refine Ops.sg 1 3 (Ops.dn (seqQ.n (Wp.sq (Wp.rg (Ops.sg 1 1 ?_)))))
 obtain ⟨v2, ev2, h⟩ := bnd_some h
 refine Ops.on 2 (fun h0 e0 => (call_ok (E' := E0) (h := h0) (by kernel_rfl) (Args.v (vI a1) (eI a1) (by kernel_rfl) Args.nil) (ok68c m a1 v2 ev2 n (by omega)))) ?_
 refine Ops.sg 1 3 (Ops.dn (seqQ.n (Wp.sq (Wp.sq (Wp.rg (Ops.sg 1 1 (Ops.dn (seqQ.n ?_))))))))
 refine Wp.cd h [0, 1, 4, 6] 0 (fun h => ?_) (fun h => ?_)
 ·refine Wp.sq (Wp.sq (Wp.rg (Ops.sg 1 1 (Ops.dn (seqQ.n ?_)))))
  refine Wp.cd h [4] 0 (fun h => ?_) (fun h => ?_)
  ·refine Wp.sq (Wp.rg (Ops.sg 1 1 (Ops.dn (seqQ.n (Wp.rt (sqQ.r (seqQ.r (sqQ.r (seqQ.r ?_)))))))))
   exact fnQ.r' (X44c n) (fun z => (eI z)) h (RetOk.mk' (dI 0) (by kernel_rfl) (by kernel_rfl))
  ·refine Wp.sk (sqQ.n' (seqQ.n (Wp.sq (Wp.rg (Ops.sg 1 1 (Ops.dn (seqQ.n (Wp.rt (sqQ.r (seqQ.r ?_))))))))))
   exact fnQ.r' (X44c n) (fun z => (eI z)) h (RetOk.mk' (dI (-1)) (by kernel_rfl) (by kernel_rfl))
 ·refine Wp.sk (sqQ.n' (seqQ.n (Wp.sq (Wp.sq (Wp.rg (Ops.sg 1 1 (Ops.dn (seqQ.n ?_))))))))
  refine Wp.cd h [0, 1, 4] 0 (fun h => ?_) (fun h => ?_)
  ·refine Wp.sq (Wp.rg (Ops.sg 1 1 (Ops.dn (seqQ.n (Wp.rt (sqQ.r (seqQ.r ?_)))))))
   exact fnQ.r' (X44c n) (fun z => (eI z)) h (RetOk.mk' (dI 1) (by kernel_rfl) (by kernel_rfl))
  ·refine Wp.sk (sqQ.n' (seqQ.n (Wp.sq (Wp.sq (Wp.rg (Ops.sg 3 3 (Ops.dn (seqQ.n ?_))))))))
   refine Wp.cd h [0, 1, 4] 0 (fun h => ?_) (fun h => ?_)
   ·refine Wp.sq (Wp.rg (Ops.sg 1 1 (Ops.dn (seqQ.n (Wp.rt (sqQ.r (seqQ.r ?_)))))))
    exact fnQ.r' (X44c n) (fun z => (eI z)) h (RetOk.mk' (dI (-1)) (by kernel_rfl) (by kernel_rfl))
   ·refine Wp.sk (sqQ.n' (seqQ.n (Wp.sq (Wp.sq (Wp.rg (Ops.sg 3 3 (Ops.dn (seqQ.n ?_))))))))
    refine Wp.cd h [4] 0 (fun h => ?_) (fun h => ?_)
    ·refine Wp.sq (Wp.rg (Ops.sg 1 1 (Ops.dn (seqQ.n (Wp.rt (sqQ.r (seqQ.r ?_)))))))
     exact fnQ.r' (X44c n) (fun z => (eI z)) h (RetOk.mk' (dI 1) (by kernel_rfl) (by kernel_rfl))
    ·refine Wp.sk (sqQ.n' (seqQ.n (Wp.sq (Wp.rg (Ops.sg 1 1 (Ops.dn (seqQ.n (Wp.rt ?_))))))))
     exact fnQ.r' (X44c n) (fun z => (eI z)) h (RetOk.mk' (dI 0) (by kernel_rfl) (by kernel_rfl))
noncomputable abbrev X43c (n : Nat) : Cx := cxOf Proofs.Tryz.prog E0 43 n
theorem ok43c (m : Nat) (a0 : (List Int)) (o : Int) (h : f43 m a0 = some o) (n : Nat) (hn : m + 1 ≤ n) : Fn Proofs.Tryz.prog E0 n 43 [.v ((eL eI) a0)] (eI o) := by
 obtain ⟨n, rfl⟩ : ∃ q, n = q + 1 := ⟨n - 1, by omega⟩
 unfold f43 at h
 refine Fn.of (by kernel_rfl) (by kernel_rfl) (by kernel_rfl) ⟨(dP eI a0)::u17 [], []⟩ (by kernel_rfl) (Wp.sq (Wp.rg (Ops.sg 1 1 (Ops.dn (seqQ.n (Wp.sq (Wp.rg (Ops.sg 1 1 (Ops.dn (seqQ.n (Wp.sq (Wp.sq (Wp.rg (Ops.sg 1 1 ?_))))))))))))))
 refine Ops.on 2 (fun h0 e0 => (len_r (T := T) h0 25 3 .plain eI a0 (by kernel_rfl))) ?_
 refine Ops.sg 1 3 (Ops.dn (seqQ.n (Wp.bk 0 [2, 3] 0 ?_)))
 have hLx15 : ∀ (kx6 : Nat) (v4 : Int)  (ox5 : Int ⊕ (Int)), iter (fun (y : Int) => f43_B1 m a0 y) kx6 v4 = some ox5 → ∀ nx7, kx6 ≤ nx7 → (∀ r, ox5 = .inl r → ∀ σ, RetOk (X43c n) (resOf Proofs.Tryz.prog 43) (eI r) σ → (seqQ (X43c n) (cR (cR (cR C43))) (fnQ (X43c n).E.T (resOf Proofs.Tryz.prog 43) (eI o))) .ret σ) → (∀ (y : Int) , ox5 = .inr y → (seqQ (X43c n) (cR (cR (cR C43))) (fnQ (X43c n).E.T (resOf Proofs.Tryz.prog 43) (eI o))) .normal ⟨Zs18 a0 (a0.length : Int) ((dI y)::q9 []), []⟩) → Lp (X43c n) [2, 3, 6, 7, 8] 0 (cL (cL (cR (cL (cR (cR C43)))))) nx7 ⟨Zs18 a0 (a0.length : Int) ((dI v4)::q9 []), []⟩ (blkQ (X43c n) 0 [2, 3] 0 (seqQ (X43c n) (cR (cR (cR C43))) (fnQ (X43c n).E.T (resOf Proofs.Tryz.prog 43) (eI o)))) := by
  intro kx6
  induction kx6 with
  | zero => intro v4  ox5 h; exact (iter_zero h).elim
  | succ kx6 ihx8 =>
   intro v4  ox5 h nx7 hnx11 hrx9 hxx10
   obtain ⟨nx7, rfl⟩ : ∃ q, nx7 = q + 1 := ⟨nx7 - 1, by omega⟩
   obtain ⟨sx12, h, hsx13⟩ := iter_some h
   have h : f43_B1 m a0 v4 = some sx12 := h
   unfold f43_B1 at h
   refine Lp.succ (Wp.sq (Wp.rg (Ops.sg 1 1 (Ops.dn (seqQ.n (Wp.sq ?_))))))
   refine Wp.cd h [2, 3, 6, 7, 8] 0 (fun h => ?_) (fun h => ?_)
   ·refine Wp.sk (sqQ.n' (seqQ.n (Wp.sq (Wp.bk 1 [2, 3, 6, 7, 8] 0 (Wp.sq (Wp.rg ?_))))))
    obtain ⟨v14, ev14, h⟩ := bnd_some h
    refine Ops.on 1 (fun h0 e0 => (ix_r (T := T) h0 25 3 1 .plain eI a0 v4 v14 ev14 (by kernel_rfl) (by kernel_rfl) (fun _ => rfl))) ?_
    refine Ops.sg 2 3 (Ops.dn (seqQ.n (Wp.sq (Wp.rg (Ops.sg 3 3 (Ops.dn (seqQ.n ?_)))))))
    refine Wp.cd h [2, 3, 6, 7, 8] 0 (fun h => ?_) (fun h => ?_)
    ·refine Wp.sq (Wp.rg (Ops.sg 2 2 (Ops.dn (seqQ.n (Wp.rt (sqQ.r (blkQ.r (seqQ.r ?_))))))))
     cases h
     refine lpQ.r (blkQ.r ?_)
     exact hrx9 _ hsx13 _ (RetOk.forget [2, 3, 6, 7, 8] (by kernel_rfl) (RetOk.mk' (dI v14) (by kernel_rfl) (by kernel_rfl)))
    ·refine Wp.sk (sqQ.n' (blkQ.n' (seqQ.n (Wp.rg (Ops.sg 2 2 (Ops.dn (lpQ.m ⟨Zs18 a0 (a0.length : Int) ((dI (w64 (v4 + 1)))::q9 []), []⟩ ?_)))))))
     cases h
     exact ihx8 (w64 (v4 + 1))  _ hsx13 _ (by omega) hrx9 hxx10
   ·refine Wp.ex 0 (sqQ.x (seqQ.x ?_))
    cases h
    refine lpQ.x (blkQ.w ⟨Zs18 a0 (a0.length : Int) ((dI v4)::q9 []), []⟩ ?_)
    exact hxx10 v4  hsx13
 refine Wp.loop' [2, 3, 6, 7, 8] 0 (by kernel_rfl) ⟨Zs18 a0 (a0.length : Int) ((dI 0)::q9 []), []⟩ (by kernel_rfl) ?_
 rcases brk_some h with ⟨r17, er17, h⟩ | ⟨y16, ey16, h⟩
 ·refine hLx15 _ 0  _ er17 n (by omega) (fun r er σ hσ => ?_) (fun y  ey => by cases ey)
  cases er
  refine seqQ.r ?_
  exact fnQ.r' (X43c n) (fun z => (eI z)) h hσ
 ·refine hLx15 _ 0  _ ey16 n (by omega) (fun r er => by cases er) (fun y  ey => ?_)
  cases ey
  refine seqQ.n (Wp.sq (Wp.rg (Ops.sg 2 2 (Ops.dn (seqQ.n (Wp.rt ?_))))))
  exact fnQ.r' (X43c n) (fun z => (eI z)) h (RetOk.mk' (dI 0) (by kernel_rfl) (by kernel_rfl))
noncomputable abbrev X20c (n : Nat) : Cx := cxOf Proofs.Tryz.prog E0 20 n
theorem ok20c (m : Nat) (a0 a1 : S61) (o : Int) (h : f20 m a0 a1 = some o) (n : Nat) (hn : m + 3 ≤ n) : Fn Proofs.Tryz.prog E0 n 20 [.v (e61 a0), .v (e61 a1)] (eI o) := by
 obtain ⟨n, rfl⟩ : ∃ q, n = q + 1 := ⟨n - 1, by omega⟩
 unfold f20 at h
 refine Fn.of (by kernel_rfl) (by kernel_rfl) (by kernel_rfl) ⟨(.v (.agg [(vI a0.fFrom), (vI a0.fTo), (vI a0.fIn), (vI a0.fOut), (vI a0.fWeight)]))::(.v (.agg [(vI a1.fFrom), (vI a1.fTo), (vI a1.fIn), (vI a1.fOut), (vI a1.fWeight)]))::u30 [], []⟩ (by kernel_rfl) (Wp.sq (Wp.rg (Ops.sg 3 3 (Ops.dn (seqQ.n (Wp.sq (Wp.rg (Ops.sg 4 4 ?_))))))))
 obtain ⟨v1, ev1, h⟩ := bnd_some h
 refine Ops.on 5 (fun h0 e0 => (call_ok (E' := E0) (h := h0) (by kernel_rfl) (Args.v (vI a0.fFrom) (eI a0.fFrom) (by kernel_rfl) (Args.v (vI a1.fFrom) (eI a1.fFrom) (by kernel_rfl) Args.nil)) (ok44c m a0.fFrom a1.fFrom v1 ev1 n (by omega)))) ?_
 refine Ops.sg 4 9 ?_
 obtain ⟨v2, ev2, h⟩ := bnd_some h
 refine Ops.on 10 (fun h0 e0 => (call_ok (E' := E0) (h := h0) (by kernel_rfl) (Args.v (vI a0.fIn) (eI a0.fIn) (by kernel_rfl) (Args.v (vI a1.fIn) (eI a1.fIn) (by kernel_rfl) Args.nil)) (ok44c m a0.fIn a1.fIn v2 ev2 n (by omega)))) ?_
 refine Ops.sg 4 14 ?_
 obtain ⟨v3, ev3, h⟩ := bnd_some h
 refine Ops.on 15 (fun h0 e0 => (call_ok (E' := E0) (h := h0) (by kernel_rfl) (Args.v (vI a0.fOut) (eI a0.fOut) (by kernel_rfl) (Args.v (vI a1.fOut) (eI a1.fOut) (by kernel_rfl) Args.nil)) (ok44c m a0.fOut a1.fOut v3 ev3 n (by omega)))) ?_
 refine Ops.sg 4 19 ?_
 obtain ⟨v4, ev4, h⟩ := bnd_some h
 refine Ops.on 20 (fun h0 e0 => (call_ok (E' := E0) (h := h0) (by kernel_rfl) (Args.v (vI a0.fTo) (eI a0.fTo) (by kernel_rfl) (Args.v (vI a1.fTo) (eI a1.fTo) (by kernel_rfl) Args.nil)) (ok44c m a0.fTo a1.fTo v4 ev4 n (by omega)))) ?_
 refine Ops.sg 4 24 ?_
 obtain ⟨v5, ev5, h⟩ := bnd_some h
 refine Ops.on 25 (fun h0 e0 => (call_ok (E' := E0) (h := h0) (by kernel_rfl) (Args.v (vI a0.fWeight) (eI a0.fWeight) (by kernel_rfl) (Args.v (vI a1.fWeight) (eI a1.fWeight) (by kernel_rfl) Args.nil)) (ok44c m a0.fWeight a1.fWeight v5 ev5 n (by omega)))) ?_
 refine Ops.sg 1 26 ?_
 obtain ⟨v6, ev6, h⟩ := bnd_some h
 refine Ops.on 27 (fun h0 e0 => (call_ok (E' := E0) (h := h0) (by kernel_rfl) (Args.v (.sl .nonfull (List.map eI ([v1, v2, v3, v4, v5]))) ((eL eI) ([v1, v2, v3, v4, v5])) (by kernel_rfl) Args.nil) (ok43c m ([v1, v2, v3, v4, v5]) v6 ev6 n (by omega)))) ?_
 refine Ops.sg 1 28 (Ops.dn (seqQ.n (Wp.rt ?_)))
 exact fnQ.r' (X20c n) (fun z => (eI z)) h (RetOk.mk' (dI v6) (by kernel_rfl) (by kernel_rfl))
noncomputable abbrev X57c (n : Nat) : Cx := cxOf Proofs.Tryz.prog E0 57 n
theorem ok57c (m : Nat) (a0 : ByteArray) (o : Bool) (h : f57 m a0 = some o) (n : Nat) (hn : m + 1 ≤ n) : Fn Proofs.Tryz.prog E0 n 57 [.v (eS a0)] (eB o) := by
 obtain ⟨n, rfl⟩ : ∃ q, n = q + 1 := ⟨n - 1, by omega⟩
 unfold f57 at h
 refine Fn.of (by kernel_rfl) (by kernel_rfl) (by kernel_rfl) ⟨(.v (.str a0))::u5 [], []⟩ (by kernel_rfl) (Wp.sq (Wp.rg (Ops.sg 1 1 (Ops.dn (seqQ.n (Wp.sq (Wp.rg (Ops.sg 4 4 (Ops.dn (seqQ.n (Wp.rt ?_)))))))))))
 exact fnQ.r' (X57c n) (fun z => (eB z)) h (RetOk.mk' (dB (!(a0.toList == a0.toList))) (by kernel_rfl) (by kernel_rfl))
noncomputable abbrev X50c (n : Nat) : Cx := cxOf Proofs.Tryz.prog E0 50 n
theorem ok50c (m : Nat) (a0 a1 : ByteArray) (o : Int) (h : f50 m a0 a1 = some o) (n : Nat) (hn : m + 2 ≤ n) : Fn Proofs.Tryz.prog E0 n 50 [.v (eS a0), .v (eS a1)] (eI o) := by
 obtain ⟨n, rfl⟩ : ∃ q, n = q + 1 := ⟨n - 1, by omega⟩
 unfold f50 at h
 refine Fn.of (by kernel_rfl) (by kernel_rfl) (by kernel_rfl) ⟨(.v (.str a0))::(.v (.str a1))::u18 [], []⟩ (by kernel_rfl) (Wp.sq (Wp.rg (Ops.sg 1 1 (Ops.dn (seqQ.n (Wp.sq (Wp.rg (Ops.sg 1 1 ?_))))))))
 obtain ⟨v1, ev1, h⟩ := bnd_some h
 refine Ops.on 2 (fun h0 e0 => (call_ok (E' := E0) (h := h0) (by kernel_rfl) (Args.v (.str a0) (eS a0) (by kernel_rfl) Args.nil) (ok57c m a0 v1 ev1 n (by omega)))) ?_
 refine Ops.sg 1 3 (Ops.dn (seqQ.n (Wp.sq (Wp.rg (Ops.sg 1 1 ?_)))))
 obtain ⟨v2, ev2, h⟩ := bnd_some h
 refine Ops.on 2 (fun h0 e0 => (call_ok (E' := E0) (h := h0) (by kernel_rfl) (Args.v (.str a1) (eS a1) (by kernel_rfl) Args.nil) (ok57c m a1 v2 ev2 n (by omega)))) ?_
 refine Ops.sg 1 3 (Ops.dn (seqQ.n (Wp.sq (Wp.sq (Wp.rg (Ops.sg 1 1 (Ops.dn (seqQ.n ?_))))))))
 refine Wp.cd h [0, 1, 4, 6] 0 (fun h => ?_) (fun h => ?_)
 ·refine Wp.sq (Wp.sq (Wp.rg (Ops.sg 1 1 (Ops.dn (seqQ.n ?_)))))
  refine Wp.cd h [4] 0 (fun h => ?_) (fun h => ?_)
  ·refine Wp.sq (Wp.rg (Ops.sg 1 1 (Ops.dn (seqQ.n (Wp.rt (sqQ.r (seqQ.r (sqQ.r (seqQ.r ?_)))))))))
   exact fnQ.r' (X50c n) (fun z => (eI z)) h (RetOk.mk' (dI 0) (by kernel_rfl) (by kernel_rfl))
  ·refine Wp.sk (sqQ.n' (seqQ.n (Wp.sq (Wp.rg (Ops.sg 1 1 (Ops.dn (seqQ.n (Wp.rt (sqQ.r (seqQ.r ?_))))))))))
   exact fnQ.r' (X50c n) (fun z => (eI z)) h (RetOk.mk' (dI (-1)) (by kernel_rfl) (by kernel_rfl))
 ·refine Wp.sk (sqQ.n' (seqQ.n (Wp.sq (Wp.sq (Wp.rg (Ops.sg 1 1 (Ops.dn (seqQ.n ?_))))))))
  refine Wp.cd h [0, 1, 4] 0 (fun h => ?_) (fun h => ?_)
  ·refine Wp.sq (Wp.rg (Ops.sg 1 1 (Ops.dn (seqQ.n (Wp.rt (sqQ.r (seqQ.r ?_)))))))
   exact fnQ.r' (X50c n) (fun z => (eI z)) h (RetOk.mk' (dI 1) (by kernel_rfl) (by kernel_rfl))
  ·refine Wp.sk (sqQ.n' (seqQ.n (Wp.sq (Wp.sq (Wp.rg (Ops.sg 3 3 (Ops.dn (seqQ.n ?_))))))))
   refine Wp.cd h [0, 1, 4] 0 (fun h => ?_) (fun h => ?_)
   ·refine Wp.sq (Wp.rg (Ops.sg 1 1 (Ops.dn (seqQ.n (Wp.rt (sqQ.r (seqQ.r ?_)))))))
    exact fnQ.r' (X50c n) (fun z => (eI z)) h (RetOk.mk' (dI (-1)) (by kernel_rfl) (by kernel_rfl))
   ·refine Wp.sk (sqQ.n' (seqQ.n (Wp.sq (Wp.sq (Wp.rg (Ops.sg 3 3 (Ops.dn (seqQ.n ?_))))))))
    refine Wp.cd h [4] 0 (fun h => ?_) (fun h => ?_)
    ·refine Wp.sq (Wp.rg (Ops.sg 1 1 (Ops.dn (seqQ.n (Wp.rt (sqQ.r (seqQ.r ?_)))))))
     exact fnQ.r' (X50c n) (fun z => (eI z)) h (RetOk.mk' (dI 1) (by kernel_rfl) (by kernel_rfl))
    ·refine Wp.sk (sqQ.n' (seqQ.n (Wp.sq (Wp.rg (Ops.sg 1 1 (Ops.dn (seqQ.n (Wp.rt ?_))))))))
     exact fnQ.r' (X50c n) (fun z => (eI z)) h (RetOk.mk' (dI 0) (by kernel_rfl) (by kernel_rfl))
noncomputable abbrev X51c (n : Nat) : Cx := cxOf Proofs.Tryz.prog E0 51 n
theorem ok51c (m : Nat) (a0 a1 : (List ByteArray)) (o : Int) (h : f51 m a0 a1 = some o) (n : Nat) (hn : m + 3 ≤ n) : Fn Proofs.Tryz.prog E0 n 51 [.v ((eL eS) a0), .v ((eL eS) a1)] (eI o) := by
 obtain ⟨n, rfl⟩ : ∃ q, n = q + 1 := ⟨n - 1, by omega⟩
 unfold f51 at h
 refine Fn.of (by kernel_rfl) (by kernel_rfl) (by kernel_rfl) ⟨(dP eS a0)::(dP eS a1)::u34 [], []⟩ (by kernel_rfl) (Wp.sq (Wp.rg (Ops.sg 1 1 (Ops.dn (seqQ.n (Wp.sq (Wp.sq (Wp.rg (Ops.sg 1 1 ?_)))))))))
 refine Ops.on 2 (fun h0 e0 => (len_r (T := T) h0 39 9 .plain eS a0 (by kernel_rfl))) ?_
 refine Ops.sg 1 3 (Ops.dn (seqQ.n (Wp.bk 0 [0, 1, 4] 0 ?_)))
 have hLx21 : ∀ (kx10 : Nat) (v8 : Int)  (ox9 : Int ⊕ (Int)), iter (fun (y : Int) => f51_B1 m a0 a1 y) kx10 v8 = some ox9 → ∀ nx11, kx10 ≤ nx11 → (∀ r, ox9 = .inl r → ∀ σ, RetOk (X51c n) (resOf Proofs.Tryz.prog 51) (eI r) σ → (seqQ (X51c n) (cR (cR C51)) (fnQ (X51c n).E.T (resOf Proofs.Tryz.prog 51) (eI o))) .ret σ) → (∀ (y : Int) , ox9 = .inr y → (seqQ (X51c n) (cR (cR C51)) (fnQ (X51c n).E.T (resOf Proofs.Tryz.prog 51) (eI o))) .normal ⟨Zs24 a0 a1 (a0.length : Int) ((dI y)::q24 []), []⟩) → Lp (X51c n) k51_0 0 (cL (cL (cR (cL (cR C51))))) nx11 ⟨Zs24 a0 a1 (a0.length : Int) ((dI v8)::q24 []), []⟩ (blkQ (X51c n) 0 [0, 1, 4] 0 (seqQ (X51c n) (cR (cR C51)) (fnQ (X51c n).E.T (resOf Proofs.Tryz.prog 51) (eI o)))) := by
  intro kx10
  induction kx10 with
  | zero => intro v8  ox9 h; exact (iter_zero h).elim
  | succ kx10 ihx12 =>
   intro v8  ox9 h nx11 hnx15 hrx13 hxx14
   obtain ⟨nx11, rfl⟩ : ∃ q, nx11 = q + 1 := ⟨nx11 - 1, by omega⟩
   obtain ⟨sx16, h, hsx17⟩ := iter_some h
   have h : f51_B1 m a0 a1 v8 = some sx16 := h
   unfold f51_B1 at h
   refine Lp.succ (Wp.sq (Wp.rg (Ops.sg 1 1 (Ops.dn (seqQ.n (Wp.sq ?_))))))
   refine Wp.cd h k51_0 0 (fun h => ?_) (fun h => ?_)
   ·refine Wp.sk (sqQ.n' (seqQ.n (Wp.sq (Wp.bk 1 k51_0 0 (Wp.sq (Wp.rg (Ops.sg 1 1 ?_)))))))
    obtain ⟨v18, ev18, h⟩ := bnd_some h
    refine Ops.on 2 (fun h0 e0 => (ix_r (T := T) h0 39 9 1 .plain eS a0 v8 v18 ev18 (by kernel_rfl) (by kernel_rfl) (fun _ => rfl))) ?_
    refine Ops.sg 3 5 (Ops.dn (seqQ.n (Wp.sq (Wp.sq (Wp.rg (Ops.sg 2 2 ?_))))))
    refine Ops.on 3 (fun h0 e0 => (len_r (T := T) h0 39 9 .plain eS a1 (by kernel_rfl))) ?_
    refine Ops.sg 1 4 (Ops.dn (seqQ.n ?_))
    refine Wp.cd h [0, 1, 4, 5, 6, 9, 10, 11] 0 (fun h => ?_) (fun h => ?_)
    ·refine Wp.sq (Wp.rg (Ops.sg 1 1 (Ops.dn (seqQ.n (Wp.rt (sqQ.r (seqQ.r (blkQ.r (seqQ.r ?_)))))))))
     cases h
     refine lpQ.r (blkQ.r ?_)
     exact hrx13 _ hsx17 _ (RetOk.forget k51_0 (by kernel_rfl) (RetOk.mk' (dI 1) (by kernel_rfl) (by kernel_rfl)))
    ·refine Wp.sk (sqQ.n' (seqQ.n (Wp.sq (Wp.rg (Ops.sg 2 2 ?_)))))
     obtain ⟨v19, ev19, h⟩ := bnd_some h
     refine Ops.on 3 (fun h0 e0 => (ix_r (T := T) h0 39 9 1 .plain eS a1 v8 v19 ev19 (by kernel_rfl) (by kernel_rfl) (fun _ => rfl))) ?_
     refine Ops.sg 2 5 (Ops.dn (seqQ.n (Wp.sq (Wp.rg (Ops.sg 2 2 ?_)))))
     obtain ⟨v20, ev20, h⟩ := bnd_some h
     refine Ops.on 3 (fun h0 e0 => (call_ok (E' := E0) (h := h0) (by kernel_rfl) (Args.v (.str v18) (eS v18) (by kernel_rfl) (Args.v (.str v19) (eS v19) (by kernel_rfl) Args.nil)) (ok50c m v18 v19 v20 ev20 n (by omega)))) ?_
     refine Ops.sg 1 4 (Ops.dn (seqQ.n (Wp.sq (Wp.rg (Ops.sg 2 2 (Ops.dn (seqQ.n ?_)))))))
     refine Wp.cd h k51_0 0 (fun h => ?_) (fun h => ?_)
     ·refine Wp.sq (Wp.rg (Ops.sg 2 2 (Ops.dn (seqQ.n (Wp.rt (sqQ.r (blkQ.r (seqQ.r ?_))))))))
      cases h
      refine lpQ.r (blkQ.r ?_)
      exact hrx13 _ hsx17 _ (RetOk.forget k51_0 (by kernel_rfl) (RetOk.mk' (dI v20) (by kernel_rfl) (by kernel_rfl)))
     ·refine Wp.sk (sqQ.n' (blkQ.n' (seqQ.n (Wp.rg (Ops.sg 2 2 (Ops.dn (lpQ.m ⟨Zs24 a0 a1 (a0.length : Int) ((dI (w64 (v8 + 1)))::q24 []), []⟩ ?_)))))))
      cases h
      exact ihx12 (w64 (v8 + 1))  _ hsx17 _ (by omega) hrx13 hxx14
   ·refine Wp.ex 0 (sqQ.x (seqQ.x ?_))
    cases h
    refine lpQ.x (blkQ.w ⟨Zs24 a0 a1 (a0.length : Int) ((dI v8)::q24 []), []⟩ ?_)
    exact hxx14 v8  hsx17
 refine Wp.loop' k51_0 0 (by kernel_rfl) ⟨Zs24 a0 a1 (a0.length : Int) ((dI 0)::q24 []), []⟩ (by kernel_rfl) ?_
 rcases brk_some h with ⟨r23, er23, h⟩ | ⟨y22, ey22, h⟩
 ·refine hLx21 _ 0  _ er23 n (by omega) (fun r er σ hσ => ?_) (fun y  ey => by cases ey)
  cases er
  refine seqQ.r ?_
  exact fnQ.r' (X51c n) (fun z => (eI z)) h hσ
 ·refine hLx21 _ 0  _ ey22 n (by omega) (fun r er => by cases er) (fun y  ey => ?_)
  cases ey
  refine seqQ.n (Wp.sq (Wp.sq (Wp.rg (Ops.sg 1 1 ?_))))
  refine Ops.on 2 (fun h0 e0 => (len_r (T := T) h0 39 9 .plain eS a0 (by kernel_rfl))) ?_
  refine Ops.sg 1 3 ?_
  refine Ops.on 4 (fun h0 e0 => (len_r (T := T) h0 39 9 .plain eS a1 (by kernel_rfl))) ?_
  refine Ops.sg 1 5 (Ops.dn (seqQ.n ?_))
  refine Wp.cd h [4] 0 (fun h => ?_) (fun h => ?_)
  ·refine Wp.sq (Wp.rg (Ops.sg 1 1 (Ops.dn (seqQ.n (Wp.rt (sqQ.r (seqQ.r ?_)))))))
   exact fnQ.r' (X51c n) (fun z => (eI z)) h (RetOk.mk' (dI (-1)) (by kernel_rfl) (by kernel_rfl))
  ·refine Wp.sk (sqQ.n' (seqQ.n (Wp.sq (Wp.rg (Ops.sg 1 1 (Ops.dn (seqQ.n (Wp.rt ?_))))))))
   exact fnQ.r' (X51c n) (fun z => (eI z)) h (RetOk.mk' (dI 0) (by kernel_rfl) (by kernel_rfl))
noncomputable abbrev X26c (n : Nat) : Cx := cxOf Proofs.Tryz.prog E0 26 n
theorem ok26c (m : Nat) (a0 a1 : S40) (o : Int) (h : f26 m a0 a1 = some o) (n : Nat) (hn : m + 4 ≤ n) : Fn Proofs.Tryz.prog E0 n 26 [.v (e40 a0), .v (e40 a1)] (eI o) := by
 obtain ⟨n, rfl⟩ : ∃ q, n = q + 1 := ⟨n - 1, by omega⟩
 unfold f26 at h
 refine Fn.of (by kernel_rfl) (by kernel_rfl) (by kernel_rfl) ⟨(.v (.agg [(.str a0.fBase), (.str a0.fForm), (vP eS a0.fTags), (vI a0.fWeight)]))::(.v (.agg [(.str a1.fBase), (.str a1.fForm), (vP eS a1.fTags), (vI a1.fWeight)]))::u25 [], []⟩ (by kernel_rfl) (Wp.sq (Wp.rg (Ops.sg 3 3 (Ops.dn (seqQ.n (Wp.sq (Wp.rg (Ops.sg 4 4 ?_))))))))
 obtain ⟨v1, ev1, h⟩ := bnd_some h
 refine Ops.on 5 (fun h0 e0 => (call_ok (E' := E0) (h := h0) (by kernel_rfl) (Args.v (.str a0.fForm) (eS a0.fForm) (by kernel_rfl) (Args.v (.str a1.fForm) (eS a1.fForm) (by kernel_rfl) Args.nil)) (ok50c m a0.fForm a1.fForm v1 ev1 n (by omega)))) ?_
 refine Ops.sg 4 9 ?_
 obtain ⟨v2, ev2, h⟩ := bnd_some h
 refine Ops.on 10 (fun h0 e0 => (call_ok (E' := E0) (h := h0) (by kernel_rfl) (Args.v (.str a0.fBase) (eS a0.fBase) (by kernel_rfl) (Args.v (.str a1.fBase) (eS a1.fBase) (by kernel_rfl) Args.nil)) (ok50c m a0.fBase a1.fBase v2 ev2 n (by omega)))) ?_
 refine Ops.sg 4 14 ?_
 obtain ⟨v3, ev3, h⟩ := bnd_some h
 refine Ops.on 15 (fun h0 e0 => (call_ok (E' := E0) (h := h0) (by kernel_rfl) (Args.v (vP eS a0.fTags) ((eL eS) a0.fTags) (by kernel_rfl) (Args.v (vP eS a1.fTags) ((eL eS) a1.fTags) (by kernel_rfl) Args.nil)) (ok51c m a0.fTags a1.fTags v3 ev3 n (by omega)))) ?_
 refine Ops.sg 4 19 ?_
 obtain ⟨v4, ev4, h⟩ := bnd_some h
 refine Ops.on 20 (fun h0 e0 => (call_ok (E' := E0) (h := h0) (by kernel_rfl) (Args.v (vI a0.fWeight) (eI a0.fWeight) (by kernel_rfl) (Args.v (vI a1.fWeight) (eI a1.fWeight) (by kernel_rfl) Args.nil)) (ok44c m a0.fWeight a1.fWeight v4 ev4 n (by omega)))) ?_
 refine Ops.sg 1 21 ?_
 obtain ⟨v5, ev5, h⟩ := bnd_some h
 refine Ops.on 22 (fun h0 e0 => (call_ok (E' := E0) (h := h0) (by kernel_rfl) (Args.v (.sl .nonfull (List.map eI ([v1, v2, v3, v4]))) ((eL eI) ([v1, v2, v3, v4])) (by kernel_rfl) Args.nil) (ok43c m ([v1, v2, v3, v4]) v5 ev5 n (by omega)))) ?_
 refine Ops.sg 1 23 (Ops.dn (seqQ.n (Wp.rt ?_)))
 exact fnQ.r' (X26c n) (fun z => (eI z)) h (RetOk.mk' (dI v5) (by kernel_rfl) (by kernel_rfl))
noncomputable abbrev X28c (n : Nat) : Cx := cxOf Proofs.Tryz.prog E0 28 n
theorem ok28c (m : Nat) (a0 a1 : S40) (o : Bool) (h : f28 m a0 a1 = some o) (n : Nat) (hn : m + 5 ≤ n) : Fn Proofs.Tryz.prog E0 n 28 [.v (e40 a0), .v (e40 a1)] (eB o) := by
 obtain ⟨n, rfl⟩ : ∃ q, n = q + 1 := ⟨n - 1, by omega⟩
 unfold f28 at h
 refine Fn.of (by kernel_rfl) (by kernel_rfl) (by kernel_rfl) ⟨(.v (.agg [(.str a0.fBase), (.str a0.fForm), (vP eS a0.fTags), (vI a0.fWeight)]))::(.v (.agg [(.str a1.fBase), (.str a1.fForm), (vP eS a1.fTags), (vI a1.fWeight)]))::u7 [], []⟩ (by kernel_rfl) (Wp.sq (Wp.rg (Ops.sg 3 3 (Ops.dn (seqQ.n (Wp.sq (Wp.rg (Ops.sg 2 2 ?_))))))))
 obtain ⟨v1, ev1, h⟩ := bnd_some h
 refine Ops.on 3 (fun h0 e0 => (call_ok (E' := E0) (h := h0) (by kernel_rfl) (Args.v (.agg [(.str a0.fBase), (.str a0.fForm), (vP eS a0.fTags), (vI a0.fWeight)]) (e40 a0) (by kernel_rfl) (Args.v (.agg [(.str a1.fBase), (.str a1.fForm), (vP eS a1.fTags), (vI a1.fWeight)]) (e40 a1) (by kernel_rfl) Args.nil)) (ok26c m a0 a1 v1 ev1 n (by omega)))) ?_
 refine Ops.sg 2 5 (Ops.dn (seqQ.n (Wp.rt ?_)))
 exact fnQ.r' (X28c n) (fun z => (eB z)) h (RetOk.mk' (dB (v1 == 0)) (by kernel_rfl) (by kernel_rfl))
end Go.Abs
