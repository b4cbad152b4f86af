import Derived.Test.YtmoiipfomcgomaaGreatDoorWZ
namespace Go.Abs
set_option linter.unusedVariables false
set_option maxRecDepth 100000
def f68 (m : Nat) (a0 : Int) : Option Bool :=
 some (a0 != a0)
noncomputable abbrev X68 (n : Nat) : Cx := cxOf Proofs.Tryz.prog E 68 n
theorem ok68 (m : Nat) (a0 : Int) (o : Bool) (h : f68 m a0 = some o) (n : Nat) (hn : m + 1 ≤ n) : Fn Proofs.Tryz.prog E n 68 [.v (eI a0)] (eB o) := by
 obtain ⟨n, rfl⟩ : ∃ q, n = q + 1 := ⟨n - 1, by omega⟩
 unfold f68 at h
 refine Fn.of (by kernel_rfl) (by kernel_rfl) (by kernel_rfl) ⟨(dI a0)::u5 [], []⟩ (by kernel_rfl) (Wp.sq (Wp.rg (Ops.sg 1 1 (Ops.dn (seqQ.n (Wp.sq (Wp.rg (Ops.sg 4 4 (Ops.dn (seqQ.n (Wp.rt ?_)))))))))))
 exact fnQ.r' (X68 n) (fun z => (eB z)) h (RetOk.mk' (dB (a0 != a0)) (by kernel_rfl) (by kernel_rfl))
def f44 (m : Nat) (a0 a1 : Int) : Option Int :=
 bnd (f68 m a0) fun v1 =>
 bnd (f68 m a1) fun v2 =>
 cnd v1
 (cnd v2
 (some 0)
 (some (-1)))
 (cnd v2
 (some 1)
 (cnd (decide (a0 < a1))
 (some (-1))
 (cnd (decide (a0 > a1))
 (some 1)
 (some 0))))
noncomputable abbrev X44 (n : Nat) : Cx := cxOf Proofs.Tryz.prog E 44 n
theorem ok44 (m : Nat) (a0 a1 o : Int) (h : f44 m a0 a1 = some o) (n : Nat) (hn : m + 2 ≤ n) : Fn Proofs.Tryz.prog E n 44 [.v (eI a0), .v (eI a1)] (eI o) := by
 obtain ⟨n, rfl⟩ : ∃ q, n = q + 1 := ⟨n - 1, by omega⟩
 unfold f44 at h
 refine Fn.of (by kernel_rfl) (by kernel_rfl) (by kernel_rfl) ⟨(dI a0)::(dI a1)::u18 [], []⟩ (by kernel_rfl) (Wp.sq (Wp.rg (Ops.sg 1 1 (Ops.dn (seqQ.n (Wp.sq (Wp.rg (Ops.sg 1 1 ?_))))))))
 obtain ⟨v1, ev1, h⟩ := bnd_some h
 refine Ops.on 2 (fun h0 e0 => (call_ok (E' := E) (h := h0) (by kernel_rfl) (Args.v (vI a0) (eI a0) (by kernel_rfl) Args.nil) (ok68 m a0 v1 ev1 n (by omega)))) ?_
 refine Ops.sg 1 3 (Ops.dn (seqQ.n (Wp.sq (Wp.rg (Ops.sg 1 1 ?_)))))
 obtain ⟨v2, ev2, h⟩ := bnd_some h
 refine Ops.on 2 (fun h0 e0 => (call_ok (E' := E) (h := h0) (by kernel_rfl) (Args.v (vI a1) (eI a1) (by kernel_rfl) Args.nil) (ok68 m a1 v2 ev2 n (by omega)))) ?_
 refine Ops.sg 1 3 (Ops.dn (seqQ.n (Wp.sq (Wp.sq (Wp.rg (Ops.sg 1 1 (Ops.dn (seqQ.n ?_))))))))
 refine Wp.cd h [0, 1, 4, 6] 0 (fun h => ?_) (fun h => ?_)
 ·refine Wp.sq (Wp.sq (Wp.rg (Ops.sg 1 1 (Ops.dn (seqQ.n ?_)))))
  refine Wp.cd h [4] 0 (fun h => ?_) (fun h => ?_)
  ·refine Wp.sq (Wp.rg (Ops.sg 1 1 (Ops.dn (seqQ.n (Wp.rt (sqQ.r (seqQ.r (sqQ.r (seqQ.r ?_)))))))))
   exact fnQ.r' (X44 n) (fun z => (eI z)) h (RetOk.mk' (dI 0) (by kernel_rfl) (by kernel_rfl))
  ·refine Wp.sk (sqQ.n' (seqQ.n (Wp.sq (Wp.rg (Ops.sg 1 1 (Ops.dn (seqQ.n (Wp.rt (sqQ.r (seqQ.r ?_))))))))))
   exact fnQ.r' (X44 n) (fun z => (eI z)) h (RetOk.mk' (dI (-1)) (by kernel_rfl) (by kernel_rfl))
 ·refine Wp.sk (sqQ.n' (seqQ.n (Wp.sq (Wp.sq (Wp.rg (Ops.sg 1 1 (Ops.dn (seqQ.n ?_))))))))
  refine Wp.cd h [0, 1, 4] 0 (fun h => ?_) (fun h => ?_)
  ·refine Wp.sq (Wp.rg (Ops.sg 1 1 (Ops.dn (seqQ.n (Wp.rt (sqQ.r (seqQ.r ?_)))))))
   exact fnQ.r' (X44 n) (fun z => (eI z)) h (RetOk.mk' (dI 1) (by kernel_rfl) (by kernel_rfl))
  ·refine Wp.sk (sqQ.n' (seqQ.n (Wp.sq (Wp.sq (Wp.rg (Ops.sg 3 3 (Ops.dn (seqQ.n ?_))))))))
   refine Wp.cd h [0, 1, 4] 0 (fun h => ?_) (fun h => ?_)
   ·refine Wp.sq (Wp.rg (Ops.sg 1 1 (Ops.dn (seqQ.n (Wp.rt (sqQ.r (seqQ.r ?_)))))))
    exact fnQ.r' (X44 n) (fun z => (eI z)) h (RetOk.mk' (dI (-1)) (by kernel_rfl) (by kernel_rfl))
   ·refine Wp.sk (sqQ.n' (seqQ.n (Wp.sq (Wp.sq (Wp.rg (Ops.sg 3 3 (Ops.dn (seqQ.n ?_))))))))
    refine Wp.cd h [4] 0 (fun h => ?_) (fun h => ?_)
    ·refine Wp.sq (Wp.rg (Ops.sg 1 1 (Ops.dn (seqQ.n (Wp.rt (sqQ.r (seqQ.r ?_)))))))
     exact fnQ.r' (X44 n) (fun z => (eI z)) h (RetOk.mk' (dI 1) (by kernel_rfl) (by kernel_rfl))
    ·refine Wp.sk (sqQ.n' (seqQ.n (Wp.sq (Wp.rg (Ops.sg 1 1 (Ops.dn (seqQ.n (Wp.rt ?_))))))))
     exact fnQ.r' (X44 n) (fun z => (eI z)) h (RetOk.mk' (dI 0) (by kernel_rfl) (by kernel_rfl))
def f43_B1 (m : Nat) (a0 : (List Int)) (v4 : Int) : Option (Stp Int (Int)) :=
 cnd (decide (v4 < (a0.length : Int)))
 (bnd (idx a0 v4) fun v14 =>
 cnd (v14 != 0)
 (some (.ret v14))
 (some (.nxt (w64 (v4 + 1)))))
 (some (.brk v4))
def f43 (m : Nat) (a0 : (List Int)) : Option Int :=
 brk (iter (fun (y : Int) => f43_B1 m a0 y) m 0) some fun y16 =>
 some 0
noncomputable abbrev X43 (n : Nat) : Cx := cxOf Proofs.Tryz.prog E 43 n
noncomputable def C43 : Code := bodyOf Proofs.Tryz.prog 43
theorem ok43 (m : Nat) (a0 : (List Int)) (o : Int) (h : f43 m a0 = some o) (n : Nat) (hn : m + 1 ≤ n) : Fn Proofs.Tryz.prog E n 43 [.v ((eL eI) a0)] (eI o) := by
 obtain ⟨n, rfl⟩ : ∃ q, n = q + 1 := ⟨n - 1, by omega⟩
 unfold f43 at h
 refine Fn.of (by kernel_rfl) (by kernel_rfl) (by kernel_rfl) ⟨(dP eI a0)::u17 [], []⟩ (by kernel_rfl) (Wp.sq (Wp.rg (Ops.sg 1 1 (Ops.dn (seqQ.n (Wp.sq (Wp.rg (Ops.sg 1 1 (Ops.dn (seqQ.n (Wp.sq (Wp.sq (Wp.rg (Ops.sg 1 1 ?_))))))))))))))
 refine Ops.on 2 (fun h0 e0 => (len_r (T := T) h0 25 3 .plain eI a0 (by kernel_rfl))) ?_
 refine Ops.sg 1 3 (Ops.dn (seqQ.n (Wp.bk 0 [2, 3] 0 ?_)))
 have hLx15 : ∀ (kx6 : Nat) (v4 : Int)  (ox5 : Int ⊕ (Int)), iter (fun (y : Int) => f43_B1 m a0 y) kx6 v4 = some ox5 → ∀ nx7, kx6 ≤ nx7 → (∀ r, ox5 = .inl r → ∀ σ, RetOk (X43 n) (resOf Proofs.Tryz.prog 43) (eI r) σ → (seqQ (X43 n) (cR (cR (cR C43))) (fnQ (X43 n).E.T (resOf Proofs.Tryz.prog 43) (eI o))) .ret σ) → (∀ (y : Int) , ox5 = .inr y → (seqQ (X43 n) (cR (cR (cR C43))) (fnQ (X43 n).E.T (resOf Proofs.Tryz.prog 43) (eI o))) .normal ⟨Zs18 a0 (a0.length : Int) ((dI y)::q9 []), []⟩) → Lp (X43 n) [2, 3, 6, 7, 8] 0 (cL (cL (cR (cL (cR (cR C43)))))) nx7 ⟨Zs18 a0 (a0.length : Int) ((dI v4)::q9 []), []⟩ (blkQ (X43 n) 0 [2, 3] 0 (seqQ (X43 n) (cR (cR (cR C43))) (fnQ (X43 n).E.T (resOf Proofs.Tryz.prog 43) (eI o)))) := by
  intro kx6
  induction kx6 with
  | zero => intro v4  ox5 h; exact (iter_zero h).elim
  | succ kx6 ihx8 =>
   intro v4  ox5 h nx7 hnx11 hrx9 hxx10
   obtain ⟨nx7, rfl⟩ : ∃ q, nx7 = q + 1 := ⟨nx7 - 1, by omega⟩
   obtain ⟨sx12, h, hsx13⟩ := iter_some h
   have h : f43_B1 m a0 v4 = some sx12 := h
   unfold f43_B1 at h
   refine Lp.succ (Wp.sq (Wp.rg (Ops.sg 1 1 (Ops.dn (seqQ.n (Wp.sq ?_))))))
   refine Wp.cd h [2, 3, 6, 7, 8] 0 (fun h => ?_) (fun h => ?_)
   ·refine Wp.sk (sqQ.n' (seqQ.n (Wp.sq (Wp.bk 1 [2, 3, 6, 7, 8] 0 (Wp.sq (Wp.rg ?_))))))
    obtain ⟨v14, ev14, h⟩ := bnd_some h
    refine Ops.on 1 (fun h0 e0 => (ix_r (T := T) h0 25 3 1 .plain eI a0 v4 v14 ev14 (by kernel_rfl) (by kernel_rfl) (fun _ => rfl))) ?_
    refine Ops.sg 2 3 (Ops.dn (seqQ.n (Wp.sq (Wp.rg (Ops.sg 3 3 (Ops.dn (seqQ.n ?_)))))))
    refine Wp.cd h [2, 3, 6, 7, 8] 0 (fun h => ?_) (fun h => ?_)
    ·refine Wp.sq (Wp.rg (Ops.sg 2 2 (Ops.dn (seqQ.n (Wp.rt (sqQ.r (blkQ.r (seqQ.r ?_))))))))
     cases h
     refine lpQ.r (blkQ.r ?_)
     exact hrx9 _ hsx13 _ (RetOk.forget [2, 3, 6, 7, 8] (by kernel_rfl) (RetOk.mk' (dI v14) (by kernel_rfl) (by kernel_rfl)))
    ·refine Wp.sk (sqQ.n' (blkQ.n' (seqQ.n (Wp.rg (Ops.sg 2 2 (Ops.dn (lpQ.m ⟨Zs18 a0 (a0.length : Int) ((dI (w64 (v4 + 1)))::q9 []), []⟩ ?_)))))))
     cases h
     exact ihx8 (w64 (v4 + 1))  _ hsx13 _ (by omega) hrx9 hxx10
   ·refine Wp.ex 0 (sqQ.x (seqQ.x ?_))
    cases h
    refine lpQ.x (blkQ.w ⟨Zs18 a0 (a0.length : Int) ((dI v4)::q9 []), []⟩ ?_)
    exact hxx10 v4  hsx13
 refine Wp.loop' [2, 3, 6, 7, 8] 0 (by kernel_rfl) ⟨Zs18 a0 (a0.length : Int) ((dI 0)::q9 []), []⟩ (by kernel_rfl) ?_
 rcases brk_some h with ⟨r17, er17, h⟩ | ⟨y16, ey16, h⟩
 ·refine hLx15 _ 0  _ er17 n (by omega) (fun r er σ hσ => ?_) (fun y  ey => by cases ey)
  cases er
  refine seqQ.r ?_
  exact fnQ.r' (X43 n) (fun z => (eI z)) h hσ
 ·refine hLx15 _ 0  _ ey16 n (by omega) (fun r er => by cases er) (fun y  ey => ?_)
  cases ey
  refine seqQ.n (Wp.sq (Wp.rg (Ops.sg 2 2 (Ops.dn (seqQ.n (Wp.rt ?_))))))
  exact fnQ.r' (X43 n) (fun z => (eI z)) h (RetOk.mk' (dI 0) (by kernel_rfl) (by kernel_rfl))
def f20 (m : Nat) (a0 a1 : S61) : Option Int :=
 bnd (f44 m a0.fFrom a1.fFrom) fun v1 =>
 bnd (f44 m a0.fIn a1.fIn) fun v2 =>
 bnd (f44 m a0.fOut a1.fOut) fun v3 =>
 bnd (f44 m a0.fTo a1.fTo) fun v4 =>
 bnd (f44 m a0.fWeight a1.fWeight) fun v5 =>
 bnd (f43 m ([v1, v2, v3, v4, v5])) fun v6 =>
 some v6
noncomputable abbrev X20 (n : Nat) : Cx := cxOf Proofs.Tryz.prog E 20 n
theorem ok20 (m : Nat) (a0 a1 : S61) (o : Int) (h : f20 m a0 a1 = some o) (n : Nat) (hn : m + 3 ≤ n) : Fn Proofs.Tryz.prog E n 20 [.v (e61 a0), .v (e61 a1)] (eI o) := by
 obtain ⟨n, rfl⟩ : ∃ q, n = q + 1 := ⟨n - 1, by omega⟩
 unfold f20 at h
 refine Fn.of (by kernel_rfl) (by kernel_rfl) (by kernel_rfl) ⟨(.v (.agg [(vI a0.fFrom), (vI a0.fTo), (vI a0.fIn), (vI a0.fOut), (vI a0.fWeight)]))::(.v (.agg [(vI a1.fFrom), (vI a1.fTo), (vI a1.fIn), (vI a1.fOut), (vI a1.fWeight)]))::u30 [], []⟩ (by kernel_rfl) (Wp.sq (Wp.rg (Ops.sg 3 3 (Ops.dn (seqQ.n (Wp.sq (Wp.rg (Ops.sg 4 4 ?_))))))))
 obtain ⟨v1, ev1, h⟩ := bnd_some h
 refine Ops.on 5 (fun h0 e0 => (call_ok (E' := E) (h := h0) (by kernel_rfl) (Args.v (vI a0.fFrom) (eI a0.fFrom) (by kernel_rfl) (Args.v (vI a1.fFrom) (eI a1.fFrom) (by kernel_rfl) Args.nil)) (ok44 m a0.fFrom a1.fFrom v1 ev1 n (by omega)))) ?_
 refine Ops.sg 4 9 ?_
 obtain ⟨v2, ev2, h⟩ := bnd_some h
 refine Ops.on 10 (fun h0 e0 => (call_ok (E' := E) (h := h0) (by kernel_rfl) (Args.v (vI a0.fIn) (eI a0.fIn) (by kernel_rfl) (Args.v (vI a1.fIn) (eI a1.fIn) (by kernel_rfl) Args.nil)) (ok44 m a0.fIn a1.fIn v2 ev2 n (by omega)))) ?_
 refine Ops.sg 4 14 ?_
 obtain ⟨v3, ev3, h⟩ := bnd_some h
 refine Ops.on 15 (fun h0 e0 => (call_ok (E' := E) (h := h0) (by kernel_rfl) (Args.v (vI a0.fOut) (eI a0.fOut) (by kernel_rfl) (Args.v (vI a1.fOut) (eI a1.fOut) (by kernel_rfl) Args.nil)) (ok44 m a0.fOut a1.fOut v3 ev3 n (by omega)))) ?_
 refine Ops.sg 4 19 ?_
 obtain ⟨v4, ev4, h⟩ := bnd_some h
 refine Ops.on 20 (fun h0 e0 => (call_ok (E' := E) (h := h0) (by kernel_rfl) (Args.v (vI a0.fTo) (eI a0.fTo) (by kernel_rfl) (Args.v (vI a1.fTo) (eI a1.fTo) (by kernel_rfl) Args.nil)) (ok44 m a0.fTo a1.fTo v4 ev4 n (by omega)))) ?_
 refine Ops.sg 4 24 ?_
 obtain ⟨v5, ev5, h⟩ := bnd_some h
 refine Ops.on 25 (fun h0 e0 => (call_ok (E' := E) (h := h0) (by kernel_rfl) (Args.v (vI a0.fWeight) (eI a0.fWeight) (by kernel_rfl) (Args.v (vI a1.fWeight) (eI a1.fWeight) (by kernel_rfl) Args.nil)) (ok44 m a0.fWeight a1.fWeight v5 ev5 n (by omega)))) ?_
 refine Ops.sg 1 26 ?_
 obtain ⟨v6, ev6, h⟩ := bnd_some h
 refine Ops.on 27 (fun h0 e0 => (call_ok (E' := E) (h := h0) (by kernel_rfl) (Args.v (.sl .nonfull (List.map eI ([v1, v2, v3, v4, v5]))) ((eL eI) ([v1, v2, v3, v4, v5])) (by kernel_rfl) Args.nil) (ok43 m ([v1, v2, v3, v4, v5]) v6 ev6 n (by omega)))) ?_
 refine Ops.sg 1 28 (Ops.dn (seqQ.n (Wp.rt ?_)))
 exact fnQ.r' (X20 n) (fun z => (eI z)) h (RetOk.mk' (dI v6) (by kernel_rfl) (by kernel_rfl))
def f57 (m : Nat) (a0 : ByteArray) : Option Bool :=
 some (!(a0.toList == a0.toList))
def f50 (m : Nat) (a0 a1 : ByteArray) : Option Int :=
 bnd (f57 m a0) fun v1 =>
 bnd (f57 m a1) fun v2 =>
 cnd v1
 (cnd v2
 (some 0)
 (some (-1)))
 (cnd v2
 (some 1)
 (cnd (Op.bytesLess a0.toList a1.toList)
 (some (-1))
 (cnd (!(Op.bytesLess a0.toList a1.toList || a0.toList == a1.toList))
 (some 1)
 (some 0))))
def f51_B1 (m : Nat) (a0 a1 : (List ByteArray)) (v8 : Int) : Option (Stp Int (Int)) :=
 cnd (decide (v8 < (a0.length : Int)))
 (bnd (idx a0 v8) fun v18 =>
 cnd (decide (v8 ≥ (a1.length : Int)))
 (some (.ret 1))
 (bnd (idx a1 v8) fun v19 =>
 bnd (f50 m v18 v19) fun v20 =>
 cnd (v20 != 0)
 (some (.ret v20))
 (some (.nxt (w64 (v8 + 1))))))
 (some (.brk v8))
def f51 (m : Nat) (a0 a1 : (List ByteArray)) : Option Int :=
 brk (iter (fun (y : Int) => f51_B1 m a0 a1 y) m 0) some fun y22 =>
 cnd (decide ((a0.length : Int) < (a1.length : Int)))
 (some (-1))
 (some 0)
noncomputable def C51 : Code := bodyOf Proofs.Tryz.prog 51
abbrev k51_0 : List Nat := [0, 1, 4, 9, 10, 11]
def f26 (m : Nat) (a0 a1 : S40) : Option Int :=
 bnd (f50 m a0.fForm a1.fForm) fun v1 =>
 bnd (f50 m a0.fBase a1.fBase) fun v2 =>
 bnd (f51 m a0.fTags a1.fTags) fun v3 =>
 bnd (f44 m a0.fWeight a1.fWeight) fun v4 =>
 bnd (f43 m ([v1, v2, v3, v4])) fun v5 =>
 some v5
def f28 (m : Nat) (a0 a1 : S40) : Option Bool :=
 bnd (f26 m a0 a1) fun v1 =>
 some (v1 == 0)
def f23 (m : Nat) (a0 : S61) : Option S61 :=
 some ((⟨a0.fFrom, a0.fTo, a0.fOut, a0.fOut, a0.fWeight⟩ : S61))
noncomputable abbrev X23 (n : Nat) : Cx := cxOf Proofs.Tryz.prog E 23 n
theorem ok23 (m : Nat) (a0 o : S61) (h : f23 m a0 = some o) (n : Nat) (hn : m + 1 ≤ n) : Fn Proofs.Tryz.prog E n 23 [.v (e61 a0)] (e61 o) := by
 obtain ⟨n, rfl⟩ : ∃ q, n = q + 1 := ⟨n - 1, by omega⟩
 unfold f23 at h
 refine Fn.of (by kernel_rfl) (by kernel_rfl) (by kernel_rfl) ⟨(.v (.agg [(vI a0.fFrom), (vI a0.fTo), (vI a0.fIn), (vI a0.fOut), (vI a0.fWeight)]))::u6 [], []⟩ (by kernel_rfl) (Wp.sq (Wp.rg (Ops.sg 2 2 (Ops.dn (seqQ.n (Wp.sq (Wp.rg (Ops.sg 4 4 (Ops.dn (seqQ.n (Wp.sq (Wp.rg (Ops.sg 2 2 (Ops.dn (seqQ.n (Wp.rt ?_))))))))))))))))
 exact fnQ.r' (X23 n) (fun z => (e61 z)) h (RetOk.mk' (.v (.agg [(vI a0.fFrom), (vI a0.fTo), (vI a0.fOut), (vI a0.fOut), (vI a0.fWeight)])) (by kernel_rfl) (by kernel_rfl))
def f73_r1 (m : Nat) (v29 : Bool) : Option Bool :=
 some v29
def f73_r2 (m : Nat) (a0 a1 : S61) (v19 : Bool) : Option Bool :=
 f73_r1 m (v19 && (a0.fTo == a1.fTo))
def f73_r3 (m : Nat) (a0 a1 : S61) (v9 : Bool) : Option Bool :=
 f73_r2 m a0 a1 (v9 && (a0.fOut == a1.fOut))
def f73 (m : Nat) (a0 a1 : S61) : Option Bool :=
 f73_r3 m a0 a1 ((a0.fFrom == a1.fFrom) && (a0.fIn == a1.fIn))
noncomputable abbrev X73 (n : Nat) : Cx := cxOf Proofs.Tryz.prog E 73 n
abbrev b73_0 (w0 : S61) : AObj := .cells [(dI w0.fFrom), (dI w0.fTo), (dI w0.fIn), (dI w0.fOut), (dI w0.fWeight)]
theorem ok73 (m : Nat) (a0 a1 : S61) (o : Bool) (h : f73 m a0 a1 = some o) (n : Nat) (hn : m + 1 ≤ n) : Fn Proofs.Tryz.prog E n 73 [.v (e61 a0), .v (e61 a1)] (eB o) := by
 obtain ⟨n, rfl⟩ : ∃ q, n = q + 1 := ⟨n - 1, by omega⟩
 unfold f73 at h
 refine Fn.of (by kernel_rfl) (by kernel_rfl) (by kernel_rfl) ⟨(.v (.agg [(vI a0.fFrom), (vI a0.fTo), (vI a0.fIn), (vI a0.fOut), (vI a0.fWeight)]))::(.v (.agg [(vI a1.fFrom), (vI a1.fTo), (vI a1.fIn), (vI a1.fOut), (vI a1.fWeight)]))::u29 [], []⟩ (by kernel_rfl) (Wp.sq (Wp.rg (Ops.sg 3 3 (Ops.dn (seqQ.n (Wp.sq (Wp.rg (Ops.sg 6 6 ?_))))))))
 refine Ops.hv (fun KQ => ∀ (d3 d4 d5 d6 d7 : D) (v8 v9 : Bool), f73_r3 m a0 a1 v9 = some o → KQ 12 ⟨Zs14 (.v (.agg [(vI a0.fFrom), (vI a0.fTo), (vI a0.fIn), (vI a0.fOut), (vI a0.fWeight)])) (.v (.agg [(vI a1.fFrom), (vI a1.fTo), (vI a1.fIn), (vI a1.fOut), (vI a1.fWeight)])) a0.fFrom a1.fFrom v8 (d3::d4::d5::d6::d7::(dB v9)::u14 []), [(b73_0 a0), (b73_0 a1)]⟩) ?_ fun J73j10 => ?_
 ·intro d3 d4 d5 d6 d7 v8 v9 h
  unfold f73_r3 at h
  refine Ops.sg 1 13 ?_
  refine Ops.hv (fun KQ => ∀ (d13 d14 d15 d16 d17 : D) (v18 v19 : Bool), f73_r2 m a0 a1 v19 = some o → KQ 19 ⟨Zs14 (.v (.agg [(vI a0.fFrom), (vI a0.fTo), (vI a0.fIn), (vI a0.fOut), (vI a0.fWeight)])) (.v (.agg [(vI a1.fFrom), (vI a1.fTo), (vI a1.fIn), (vI a1.fOut), (vI a1.fWeight)])) a0.fFrom a1.fFrom v8 (d3::d4::d5::d6::d7::(dB v18)::(dB v18)::d13::d14::d15::d16::d17::(dB v19)::u7 []), [(b73_0 a0), (b73_0 a1)]⟩) ?_ fun J73j20 => ?_
  ·intro d13 d14 d15 d16 d17 v18 v19 h
   unfold f73_r2 at h
   refine Ops.sg 1 20 ?_
   refine Ops.hv (fun KQ => ∀ (d23 d24 d25 d26 d27 : D) (v28 v29 : Bool), f73_r1 m v29 = some o → KQ 26 ⟨Zs14 (.v (.agg [(vI a0.fFrom), (vI a0.fTo), (vI a0.fIn), (vI a0.fOut), (vI a0.fWeight)])) (.v (.agg [(vI a1.fFrom), (vI a1.fTo), (vI a1.fIn), (vI a1.fOut), (vI a1.fWeight)])) a0.fFrom a1.fFrom v8 (d3::d4::d5::d6::d7::(dB v18)::(dB v18)::d13::d14::d15::d16::d17::(dB v28)::(dB v28)::d23::d24::d25::d26::d27::(dB v29)::[]), [(b73_0 a0), (b73_0 a1)]⟩) ?_ fun J73j30 => ?_
   ·intro d23 d24 d25 d26 d27 v28 v29 h
    unfold f73_r1 at h
    refine Ops.sg 1 27 (Ops.dn (seqQ.n (Wp.rt ?_)))
    exact fnQ.r' (X73 n) (fun z => (eB z)) h (RetOk.mk' (dB v29) (by kernel_rfl) (by kernel_rfl))
   refine Ops.hv (fun KQ => ∀ v21 : Bool, f73_r1 m (v21 && (a0.fTo == a1.fTo)) = some o → KQ 20 ⟨Zs14 (.v (.agg [(vI a0.fFrom), (vI a0.fTo), (vI a0.fIn), (vI a0.fOut), (vI a0.fWeight)])) (.v (.agg [(vI a1.fFrom), (vI a1.fTo), (vI a1.fIn), (vI a1.fOut), (vI a1.fWeight)])) a0.fFrom a1.fFrom v8 (d3::d4::d5::d6::d7::(dB v18)::(dB v18)::d13::d14::d15::d16::d17::(dB v21)::(dB v21)::u6 []), [(b73_0 a0), (b73_0 a1)]⟩) ?_ fun G73g22 => Ops.sx (G73g22 v19 h)
   intro v21 h
   cases v21
   ·refine Ops.sg 6 26 ?_
    exact Ops.sx (J73j30 U U U U U false false h)
   ·refine Ops.sg 6 26 ?_
    exact Ops.sx (J73j30 (.ptr 0 1) (dI a0.fTo) (.ptr 1 1) (dI a1.fTo) (dB (a0.fTo == a1.fTo)) true (a0.fTo == a1.fTo) h)
  refine Ops.hv (fun KQ => ∀ v11 : Bool, f73_r2 m a0 a1 (v11 && (a0.fOut == a1.fOut)) = some o → KQ 13 ⟨Zs14 (.v (.agg [(vI a0.fFrom), (vI a0.fTo), (vI a0.fIn), (vI a0.fOut), (vI a0.fWeight)])) (.v (.agg [(vI a1.fFrom), (vI a1.fTo), (vI a1.fIn), (vI a1.fOut), (vI a1.fWeight)])) a0.fFrom a1.fFrom v8 (d3::d4::d5::d6::d7::(dB v11)::(dB v11)::u13 []), [(b73_0 a0), (b73_0 a1)]⟩) ?_ fun G73g12 => Ops.sx (G73g12 v9 h)
  intro v11 h
  cases v11
  ·refine Ops.sg 6 19 ?_
   exact Ops.sx (J73j20 U U U U U false false h)
  ·refine Ops.sg 6 19 ?_
   exact Ops.sx (J73j20 (.ptr 0 3) (dI a0.fOut) (.ptr 1 3) (dI a1.fOut) (dB (a0.fOut == a1.fOut)) true (a0.fOut == a1.fOut) h)
 refine Ops.hv (fun KQ => ∀ v1 : Bool, f73_r3 m a0 a1 (v1 && (a0.fIn == a1.fIn)) = some o → KQ 6 ⟨Zs14 (.v (.agg [(vI a0.fFrom), (vI a0.fTo), (vI a0.fIn), (vI a0.fOut), (vI a0.fWeight)])) (.v (.agg [(vI a1.fFrom), (vI a1.fTo), (vI a1.fIn), (vI a1.fOut), (vI a1.fWeight)])) a0.fFrom a1.fFrom v1 (u20 []), [(b73_0 a0), (b73_0 a1)]⟩) ?_ fun G73g2 => Ops.sx (G73g2 (a0.fFrom == a1.fFrom) h)
 intro v1 h
 cases v1
 ·refine Ops.sg 6 12 ?_
  exact Ops.sx (J73j10 U U U U U false false h)
 ·refine Ops.sg 6 12 ?_
  exact Ops.sx (J73j10 (.ptr 0 2) (dI a0.fIn) (.ptr 1 2) (dI a1.fIn) (dB (a0.fIn == a1.fIn)) true (a0.fIn == a1.fIn) h)
def f18 (m : Nat) (a0 a1 : Int) : Option S31 :=
 some ((⟨a0, a1⟩ : S31))
noncomputable abbrev X18 (n : Nat) : Cx := cxOf Proofs.Tryz.prog E 18 n
theorem ok18 (m : Nat) (a0 a1 : Int) (o : S31) (h : f18 m a0 a1 = some o) (n : Nat) (hn : m + 1 ≤ n) : Fn Proofs.Tryz.prog E n 18 [.v (eI a0), .v (eI a1)] (e31 o) := by
 obtain ⟨n, rfl⟩ : ∃ q, n = q + 1 := ⟨n - 1, by omega⟩
 unfold f18 at h
 refine Fn.of (by kernel_rfl) (by kernel_rfl) (by kernel_rfl) ⟨(dI a0)::(dI a1)::u6 [], []⟩ (by kernel_rfl) (Wp.sq (Wp.rg (Ops.sg 1 1 (Ops.dn (seqQ.n (Wp.sq (Wp.rg (Ops.sg 4 4 (Ops.dn (seqQ.n (Wp.rt ?_)))))))))))
 exact fnQ.r' (X18 n) (fun z => (e31 z)) h (RetOk.mk' (.v (.agg [(vI a0), (vI a1)])) (by kernel_rfl) (by kernel_rfl))
def f53_r1 (m : Nat) (v88 : Int) (v127 : Bool) : Option (Stp Bool (Int)) :=
 cnd v127
 (some (.ret false))
 (some (.nxt (w64 (v88 + 1))))
def f53_r2 (m : Nat) (v88 v98 : Int) (v104 : Bool) : Option (Stp Bool (Int)) :=
 f53_r1 m v88 ((!v104) && ((v88 == 0) || ((v98 != 95) && ((v98 != 45) && ((decide (v98 < 48)) || (decide (v98 > 57)))))))
def f53_B3 (m : Nat) (a0 : ByteArray) (v88 : Int) : Option (Stp Bool (Int)) :=
 cnd (decide (v88 < (a0.size : Int)))
 (bnd (sidx a0 v88) fun v98 =>
 f53_r2 m v88 v98 ((decide (v98 ≥ 97)) && (decide (v98 ≤ 122))))
 (some (.brk v88))
def f53_r4 (m : Nat) (a0 : ByteArray) (v7 : Bool) : Option Bool :=
 cnd v7
 (some false)
 (brk (iter (fun (y : Int) => f53_B3 m a0 y) m 0) some fun y138 =>
 some true)
def f53 (m : Nat) (a0 : ByteArray) : Option Bool :=
 f53_r4 m a0 ((decide ((a0.size : Int) < 1)) || (decide ((a0.size : Int) > 30)))
noncomputable abbrev X53 (n : Nat) : Cx := cxOf Proofs.Tryz.prog E 53 n
noncomputable def C53 : Code := bodyOf Proofs.Tryz.prog 53
theorem ok53 (m : Nat) (a0 : ByteArray) (o : Bool) (h : f53 m a0 = some o) (n : Nat) (hn : m + 1 ≤ n) : Fn Proofs.Tryz.prog E n 53 [.v (eS a0)] (eB o) := by
 obtain ⟨n, rfl⟩ : ∃ q, n = q + 1 := ⟨n - 1, by omega⟩
 unfold f53 at h
 refine Fn.of (by kernel_rfl) (by kernel_rfl) (by kernel_rfl) ⟨(.v (.str a0))::u40 (u10 []), []⟩ (by kernel_rfl) (Wp.sq (Wp.rg (Ops.sg 1 1 (Ops.dn (seqQ.n (Wp.sq (Wp.sq (Wp.rg (Ops.sg 4 4 ?_)))))))))
 refine Ops.hv (fun KQ => ∀ (d3 d4 d5 : D) (v6 v7 : Bool), f53_r4 m a0 v7 = some o → KQ 8 ⟨(.v (.str a0))::u1 ((dB false)::u3 ((.v (.str a0))::(dI (a0.size : Int))::(dB v6)::(dB v6)::d3::d4::d5::(dB v7)::u37 [])), []⟩) ?_ fun J53j8 => ?_
 ·intro d3 d4 d5 v6 v7 h
  unfold f53_r4 at h
  refine Ops.dn (seqQ.n ?_)
  refine Wp.cd h [0, 2] 0 (fun h => ?_) (fun h => ?_)
  ·refine Wp.sq (Wp.rg (Ops.sg 1 1 (Ops.dn (seqQ.n (Wp.rt (sqQ.r (seqQ.r ?_)))))))
   exact fnQ.r' (X53 n) (fun z => (eB z)) h (RetOk.mk' (dB false) (by kernel_rfl) (by kernel_rfl))
  ·refine Wp.sk (sqQ.n' (seqQ.n (Wp.sq (Wp.sq (Wp.rg (Ops.sg 3 3 (Ops.dn (seqQ.n (Wp.bk 0 [2] 0 ?_)))))))))
   have hLx137 : ∀ (kx90 : Nat) (v88 : Int)  (ox89 : Bool ⊕ (Int)), iter (fun (y : Int) => f53_B3 m a0 y) kx90 v88 = some ox89 → ∀ nx91, kx90 ≤ nx91 → (∀ r, ox89 = .inl r → ∀ σ, RetOk (X53 n) (resOf Proofs.Tryz.prog 53) (eB r) σ → (seqQ (X53 n) (cR (cR (cR C53))) (fnQ (X53 n).E.T (resOf Proofs.Tryz.prog 53) (eB o))) .ret σ) → (∀ (y : Int) , ox89 = .inr y → (seqQ (X53 n) (cR (cR (cR C53))) (fnQ (X53 n).E.T (resOf Proofs.Tryz.prog 53) (eB o))) .normal ⟨Zs32 a0 (a0.size : Int) ((dI y)::q34 []), []⟩) → Lp (X53 n) [0, 2, 15, 16] 0 (cL (cL (cR (cL (cR (cR C53)))))) nx91 ⟨Zs32 a0 (a0.size : Int) ((dI v88)::q34 []), []⟩ (blkQ (X53 n) 0 [2] 0 (seqQ (X53 n) (cR (cR (cR C53))) (fnQ (X53 n).E.T (resOf Proofs.Tryz.prog 53) (eB o)))) := by
    intro kx90
    induction kx90 with
    | zero => intro v88  ox89 h; exact (iter_zero h).elim
    | succ kx90 ihx92 =>
     intro v88  ox89 h nx91 hnx95 hrx93 hxx94
     obtain ⟨nx91, rfl⟩ : ∃ q, nx91 = q + 1 := ⟨nx91 - 1, by omega⟩
     obtain ⟨sx96, h, hsx97⟩ := iter_some h
     have h : f53_B3 m a0 v88 = some sx96 := h
     unfold f53_B3 at h
     refine Lp.succ (Wp.sq (Wp.rg (Ops.sg 1 1 (Ops.dn (seqQ.n (Wp.sq ?_))))))
     refine Wp.cd h [0, 2, 15, 16] 0 (fun h => ?_) (fun h => ?_)
     ·refine Wp.sk (sqQ.n' (seqQ.n (Wp.sq (Wp.bk 1 [0, 2, 15, 16] 0 (Wp.sq (Wp.rg (Ops.sg 2 2 (Ops.dn (seqQ.n (Wp.sq (Wp.rg (Ops.sg 2 2 ?_))))))))))))
      obtain ⟨v98, ev98, h⟩ := bnd_some h
      refine Ops.on 3 (fun h0 e0 => (str_ix (T := T) h0 9 a0 v88 v98 ev98 (by kernel_rfl))) ?_
      refine Ops.sg 1 4 (Ops.dn (seqQ.n (Wp.sq (Wp.rg (Ops.sg 3 3 ?_)))))
      refine Ops.hv (fun KQ => ∀ (d101 d102 : D) (v103 v104 : Bool), f53_r2 m v88 v98 v104 = some sx96 → KQ 6 ⟨Zs28 a0 v88 (.v (.int .u8 v98)) (a0.size : Int) (decide (v88 < (a0.size : Int))) v103 (d101::d102::(dB v104)::q23 []), []⟩) ?_ fun J53j105 => ?_
      ·intro d101 d102 v103 v104 h
       unfold f53_r2 at h
       refine Ops.sg 1 7 (Ops.dn (seqQ.n (Wp.sq (Wp.rg (Ops.sg 3 3 ?_)))))
       refine Ops.hv (fun KQ => ∀ (d108 d109 d110 d111 d112 d113 d114 d115 d116 d117 d118 d119 d120 d121 d122 d123 d124 d125 : D) (v126 v127 : Bool), f53_r1 m v88 v127 = some sx96 → KQ 22 ⟨Zs7 a0 v88 (.v (.int .u8 v98)) v104 (a0.size : Int) (decide (v88 < (a0.size : Int))) v103 d101 d102 ((dB v126)::(dB v126)::d108::d109::d110::d111::d112::d113::d114::d115::d116::d117::d118::d119::d120::d121::d122::d123::d124::d125::(dB v127)::q1 []), []⟩) ?_ fun J53j128 => ?_
       ·intro d108 d109 d110 d111 d112 d113 d114 d115 d116 d117 d118 d119 d120 d121 d122 d123 d124 d125 v126 v127 h
        unfold f53_r1 at h
        refine Ops.dn (seqQ.n ?_)
        refine Wp.cd h [0, 2, 15, 16] 0 (fun h => ?_) (fun h => ?_)
        ·refine Wp.sq (Wp.rg (Ops.sg 1 1 (Ops.dn (seqQ.n (Wp.rt (sqQ.r (blkQ.r (seqQ.r ?_))))))))
         cases h
         refine lpQ.r (blkQ.r ?_)
         exact hrx93 _ hsx97 _ (RetOk.forget [0, 2, 15, 16] (by kernel_rfl) (RetOk.mk' (dB false) (by kernel_rfl) (by kernel_rfl)))
        ·refine Wp.sk (sqQ.n' (blkQ.n' (seqQ.n (Wp.rg (Ops.sg 2 2 (Ops.dn (lpQ.m ⟨Zs32 a0 (a0.size : Int) ((dI (w64 (v88 + 1)))::q34 []), []⟩ ?_)))))))
         cases h
         exact ihx92 (w64 (v88 + 1))  _ hsx97 _ (by omega) hrx93 hxx94
       refine Ops.hv (fun KQ => ∀ v106 : Bool, f53_r1 m v88 (v106 && ((v88 == 0) || ((v98 != 95) && ((v98 != 45) && ((decide (v98 < 48)) || (decide (v98 > 57))))))) = some sx96 → KQ 3 ⟨Zs7 a0 v88 (.v (.int .u8 v98)) v104 (a0.size : Int) (decide (v88 < (a0.size : Int))) v103 d101 d102 ((dB v106)::(dB v106)::q20 []), []⟩) ?_ fun G53g107 => Ops.sx (G53g107 (!v104) h)
       intro v106 h
       cases v106
       ·refine Ops.sg 19 22 ?_
        exact Ops.sx (J53j128 U U U U U U U U U U U U U U U U U U false false h)
       ·refine Ops.sg 3 6 ?_
        refine Ops.hv (fun KQ => ∀ v129 : Bool, (f53_r1 m v88 (true && (v129 || ((v98 != 95) && ((v98 != 45) && ((decide (v98 < 48)) || (decide (v98 > 57)))))))) = some sx96 → KQ 6 ⟨Zs7 a0 v88 (.v (.int .u8 v98)) v104 (a0.size : Int) (decide (v88 < (a0.size : Int))) v103 d101 d102 ((dB true)::(dB true)::(dI v88)::(dB v129)::(dB v129)::q17 []), []⟩) ?_ fun G53g130 => Ops.sx (G53g130 (v88 == 0) h)
        intro v129 h
        cases v129
        ·refine Ops.sg 3 9 ?_
         refine Ops.hv (fun KQ => ∀ v131 : Bool, (f53_r1 m v88 (true && (false || (v131 && ((v98 != 45) && ((decide (v98 < 48)) || (decide (v98 > 57)))))))) = some sx96 → KQ 9 ⟨Zs7 a0 v88 (.v (.int .u8 v98)) v104 (a0.size : Int) (decide (v88 < (a0.size : Int))) v103 d101 d102 ((dB true)::(dB true)::(dI v88)::(dB false)::(dB false)::(.v (.int .u8 v98))::(dB v131)::(dB v131)::q14 []), []⟩) ?_ fun G53g132 => Ops.sx (G53g132 (v98 != 95) h)
         intro v131 h
         cases v131
         ·refine Ops.sg 13 22 ?_
          exact Ops.sx (J53j128 (dI v88) (dB false) (dB false) (.v (.int .u8 v98)) (dB false) (dB false) U U (dB false) (dB false) U U U U U U (dB false) (dB false) true false h)
         ·refine Ops.sg 4 13 ?_
          refine Ops.hv (fun KQ => ∀ v133 : Bool, (f53_r1 m v88 (true && (false || (true && (v133 && ((decide (v98 < 48)) || (decide (v98 > 57)))))))) = some sx96 → KQ 13 ⟨Zs7 a0 v88 (.v (.int .u8 v98)) v104 (a0.size : Int) (decide (v88 < (a0.size : Int))) v103 d101 d102 ((dB true)::(dB true)::(dI v88)::(dB false)::(dB false)::(.v (.int .u8 v98))::(dB true)::(dB true)::(.v (.int .u8 v98))::(dB v133)::(dB v133)::(dB v133)::q10 []), []⟩) ?_ fun G53g134 => Ops.sx (G53g134 (v98 != 45) h)
          intro v133 h
          cases v133
          ·refine Ops.sg 9 22 ?_
           exact Ops.sx (J53j128 (dI v88) (dB false) (dB false) (.v (.int .u8 v98)) (dB true) (dB true) (.v (.int .u8 v98)) (dB false) (dB false) (dB false) U U U U U U (dB false) (dB false) true false h)
          ·refine Ops.sg 3 16 ?_
           refine Ops.hv (fun KQ => ∀ v135 : Bool, (f53_r1 m v88 (true && (false || (true && (true && (v135 || (decide (v98 > 57)))))))) = some sx96 → KQ 16 ⟨Zs7 a0 v88 (.v (.int .u8 v98)) v104 (a0.size : Int) (decide (v88 < (a0.size : Int))) v103 d101 d102 ((dB true)::(dB true)::(dI v88)::(dB false)::(dB false)::(.v (.int .u8 v98))::(dB true)::(dB true)::(.v (.int .u8 v98))::(dB true)::(dB true)::(dB true)::(.v (.int .u8 v98))::(dB v135)::(dB v135)::q7 []), []⟩) ?_ fun G53g136 => Ops.sx (G53g136 (decide (v98 < 48)) h)
           intro v135 h
           cases v135
           ·refine Ops.sg 6 22 ?_
            exact Ops.sx (J53j128 (dI v88) (dB false) (dB false) (.v (.int .u8 v98)) (dB true) (dB true) (.v (.int .u8 v98)) (dB true) (dB true) (dB true) (.v (.int .u8 v98)) (dB false) (dB false) (.v (.int .u8 v98)) (dB (decide (v98 > 57))) (dB (decide (v98 > 57))) (dB (decide (v98 > 57))) (dB (decide (v98 > 57))) true (decide (v98 > 57)) h)
           ·refine Ops.sg 6 22 ?_
            exact Ops.sx (J53j128 (dI v88) (dB false) (dB false) (.v (.int .u8 v98)) (dB true) (dB true) (.v (.int .u8 v98)) (dB true) (dB true) (dB true) (.v (.int .u8 v98)) (dB true) (dB true) U U (dB true) (dB true) (dB true) true true h)
        ·refine Ops.sg 16 22 ?_
         exact Ops.sx (J53j128 (dI v88) (dB true) (dB true) U U U U U U U U U U U U U U (dB true) true true h)
      refine Ops.hv (fun KQ => ∀ v99 : Bool, f53_r2 m v88 v98 (v99 && (decide (v98 ≤ 122))) = some sx96 → KQ 3 ⟨Zs28 a0 v88 (.v (.int .u8 v98)) (a0.size : Int) (decide (v88 < (a0.size : Int))) v99 (q26 []), []⟩) ?_ fun G53g100 => Ops.sx (G53g100 (decide (v98 ≥ 97)) h)
      intro v99 h
      cases v99
      ·refine Ops.sg 3 6 ?_
       exact Ops.sx (J53j105 U U false false h)
      ·refine Ops.sg 3 6 ?_
       exact Ops.sx (J53j105 (.v (.int .u8 v98)) (dB (decide (v98 ≤ 122))) true (decide (v98 ≤ 122)) h)
     ·refine Wp.ex 0 (sqQ.x (seqQ.x ?_))
      cases h
      refine lpQ.x (blkQ.w ⟨Zs32 a0 (a0.size : Int) ((dI v88)::q34 []), []⟩ ?_)
      exact hxx94 v88  hsx97
   refine Wp.loop' [0, 2, 15, 16] 0 (by kernel_rfl) ⟨Zs32 a0 (a0.size : Int) ((dI 0)::q34 []), []⟩ (by kernel_rfl) ?_
   rcases brk_some h with ⟨r139, er139, h⟩ | ⟨y138, ey138, h⟩
   ·refine hLx137 _ 0  _ er139 n (by omega) (fun r er σ hσ => ?_) (fun y  ey => by cases ey)
    cases er
    refine seqQ.r ?_
    exact fnQ.r' (X53 n) (fun z => (eB z)) h hσ
   ·refine hLx137 _ 0  _ ey138 n (by omega) (fun r er => by cases er) (fun y  ey => ?_)
    cases ey
    refine seqQ.n (Wp.sq (Wp.rg (Ops.sg 1 1 (Ops.dn (seqQ.n (Wp.rt ?_))))))
    exact fnQ.r' (X53 n) (fun z => (eB z)) h (RetOk.mk' (dB true) (by kernel_rfl) (by kernel_rfl))
 refine Ops.hv (fun KQ => ∀ v1 : Bool, f53_r4 m a0 (v1 || (decide ((a0.size : Int) > 30))) = some o → KQ 4 ⟨(.v (.str a0))::u1 ((dB false)::u3 ((.v (.str a0))::(dI (a0.size : Int))::(dB v1)::(dB v1)::u40 (u1 []))), []⟩) ?_ fun G53g2 => Ops.sx (G53g2 (decide ((a0.size : Int) < 1)) h)
 intro v1 h
 cases v1
 ·refine Ops.sg 4 8 ?_
  exact Ops.sx (J53j8 (.v (.str a0)) (dI (a0.size : Int)) (dB (decide ((a0.size : Int) > 30))) false (decide ((a0.size : Int) > 30)) h)
 ·refine Ops.sg 4 8 ?_
  exact Ops.sx (J53j8 U U U true true h)
def f37 (m : Nat) (a0 a1 : Int) : Option S31 :=
 some ((⟨a0, a1⟩ : S31))
noncomputable abbrev X37 (n : Nat) : Cx := cxOf Proofs.Tryz.prog E 37 n
theorem ok37 (m : Nat) (a0 a1 : Int) (o : S31) (h : f37 m a0 a1 = some o) (n : Nat) (hn : m + 1 ≤ n) : Fn Proofs.Tryz.prog E n 37 [.v (eI a0), .v (eI a1)] (e31 o) := by
 obtain ⟨n, rfl⟩ : ∃ q, n = q + 1 := ⟨n - 1, by omega⟩
 unfold f37 at h
 refine Fn.of (by kernel_rfl) (by kernel_rfl) (by kernel_rfl) ⟨(dI a0)::(dI a1)::u6 [], []⟩ (by kernel_rfl) (Wp.sq (Wp.rg (Ops.sg 1 1 (Ops.dn (seqQ.n (Wp.sq (Wp.rg (Ops.sg 4 4 (Ops.dn (seqQ.n (Wp.rt ?_)))))))))))
 exact fnQ.r' (X37 n) (fun z => (e31 z)) h (RetOk.mk' (.v (.agg [(vI a0), (vI a1)])) (by kernel_rfl) (by kernel_rfl))
def f38 (m : Nat) (a0 : ByteArray) : Option (Int × Int) := some (((Lib.decodeGo a0).1 : Int), ((Lib.decodeGo a0).2 : Int))
theorem ok38 (m : Nat) (a0 : ByteArray) (o : (Int × Int)) (h : f38 m a0 = some o) (n : Nat) (hn : m + 1 ≤ n) : Fn Proofs.Tryz.prog E n 38 [.v (eS a0)] (.tuple [(eK .i32) o.1, eI o.2]) := by
 obtain ⟨n, rfl⟩ : ∃ q, n = q + 1 := ⟨n - 1, by omega⟩
 refine ora_fn (xs := [eS a0]) (by kernel_rfl) (by kernel_rfl) (by kernel_rfl) (F := decodeF) ?_ rfl
 cases h
 rfl
def f16_r1 (m : Nat) (v26 : (List Int)) (v27 : Int) (v38 : (Int × Int)) (v44 : Bool) : Option (Stp ((List Int) × S31) ((List Int) × Int)) :=
 cnd v44
 (bnd (f37 m 5 v27) fun v46 =>
 some (.ret (([], v46))))
 (bnd (app 8 v26 ([w64 v38.1])) fun v47 =>
 some (.nxt (v47, w64 (v27 + v38.2))))
def f16_B2 (m : Nat) (a0 : ByteArray) (v26 : (List Int)) (v27 : Int) : Option (Stp ((List Int) × S31) ((List Int) × Int)) :=
 cnd (decide (v27 < (a0.size : Int)))
 (bnd (ssub a0 v27 (a0.size : Int)) fun v37 =>
 bnd (f38 m v37) fun v38 =>
 f16_r1 m v26 v27 v38 ((v38.1 == 65533) && (decide (v38.2 ≤ 1))))
 (some (.brk (v26, v27)))
def f16 (m : Nat) (a0 : ByteArray) : Option ((List Int) × S31) :=
 cnd (decide ((a0.size : Int) > 4000))
 (bnd (f37 m 1 (-1)) fun v1 =>
 some (([], v1)))
 (brk (iter (fun (y : (List Int) × Int) => f16_B2 m a0 y.1 y.2) m ([], 0)) some fun y49 =>
 some ((y49.1, (⟨0, 0⟩ : S31))))
noncomputable abbrev X16 (n : Nat) : Cx := cxOf Proofs.Tryz.prog E 16 n
noncomputable def C16 : Code := bodyOf Proofs.Tryz.prog 16
abbrev b16_0 : AObj := .cells [(dI 0), (dI 0)]
theorem ok16 (m : Nat) (a0 : ByteArray) (o : ((List Int) × S31)) (h : f16 m a0 = some o) (n : Nat) (hn : m + 2 ≤ n) : FnK Proofs.Tryz.prog E n 16 [.v (eS a0)] 1 (List.map eI o.1) (e31 o.2) := by
 obtain ⟨n, rfl⟩ : ∃ q, n = q + 1 := ⟨n - 1, by omega⟩
 unfold f16 at h
 refine FnK.of (by kernel_rfl) (by kernel_rfl) (by kernel_rfl) ⟨(.v (.str a0))::u40 [], []⟩ (by kernel_rfl) (Wp.sq (Wp.rg (Ops.sg 2 2 (Ops.dn (seqQ.n (Wp.sq (Wp.sq (Wp.rg (Ops.sg 3 3 (Ops.dn (seqQ.n ?_)))))))))))
 refine Wp.cd h [0, 2, 3] 1 (fun h => ?_) (fun h => ?_)
 ·refine Wp.sq (Wp.rg ?_)
  obtain ⟨v1, ev1, h⟩ := bnd_some h
  refine Ops.on 1 (fun h0 e0 => (call_ok (E' := E) (h := h0) (by kernel_rfl) (Args.v (vI 1) (eI 1) (by kernel_rfl) (Args.v (vI (-1)) (eI (-1)) (by kernel_rfl) Args.nil)) (ok37 m 1 (-1) v1 ev1 n (by omega)))) ?_
  refine Ops.sg 2 3 (Ops.dn (seqQ.n (Wp.rt (sqQ.r (seqQ.r ?_)))))
  exact fnQK.r' (X16 n) eI e31 h (RetOkK.nil (.agg [(vI v1.fCode), (vI v1.fIndex)]) (by kernel_rfl))
 ·refine Wp.sk (sqQ.n' (seqQ.n (Wp.sq (Wp.rg (Ops.sg 1 1 (Ops.dn (seqQ.n (Wp.sq (Wp.sq (Wp.rg (Ops.sg 1 1 (Ops.dn (seqQ.n (Wp.bk 0 [2, 3, 4] 2 ?_))))))))))))))
  have hLx48 : ∀ (kx29 : Nat) (v26 : (List Int)) (v27 : Int)  (ox28 : ((List Int) × S31) ⊕ ((List Int) × Int)), iter (fun (y : (List Int) × Int) => f16_B2 m a0 y.1 y.2) kx29 (v26, v27) = some ox28 → ∀ nx30, kx29 ≤ nx30 → (∀ r, ox28 = .inl r → ∀ σ, RetOkK (X16 n) (resOf Proofs.Tryz.prog 16) 1 (List.map eI r.1) (e31 r.2) σ → (seqQ (X16 n) (cR (cR (cR (cR C16)))) (fnQK (X16 n).E.T (resOf Proofs.Tryz.prog 16) 1 (List.map eI o.1) (e31 o.2))) .ret σ) → (∀ (y : (List Int) × Int) , ox28 = .inr y → (seqQ (X16 n) (cR (cR (cR (cR C16)))) (fnQK (X16 n).E.T (resOf Proofs.Tryz.prog 16) 1 (List.map eI o.1) (e31 o.2))) .normal ⟨Zs35 (.v (.sl .nil (List.map eI []))) y.1 (q36 []), [b16_0, .dead, (appO 1 (List.map eI y.1))]⟩) → Lp (X16 n) [0, 2, 3, 4, 5] 2 (cL (cL (cR (cL (cR (cR (cR C16))))))) nx30 ⟨Zs16 a0 (.v (.sl .nil (List.map eI []))) ((appD 2 (List.map eI v26))::(dI v27)::q35 []), [b16_0, .dead, (appO 1 (List.map eI v26))]⟩ (blkQ (X16 n) 0 [2, 3, 4] 2 (seqQ (X16 n) (cR (cR (cR (cR C16)))) (fnQK (X16 n).E.T (resOf Proofs.Tryz.prog 16) 1 (List.map eI o.1) (e31 o.2)))) := by
   intro kx29
   induction kx29 with
   | zero => intro v26 v27  ox28 h; exact (iter_zero h).elim
   | succ kx29 ihx31 =>
    intro v26 v27  ox28 h nx30 hnx34 hrx32 hxx33
    obtain ⟨nx30, rfl⟩ : ∃ q, nx30 = q + 1 := ⟨nx30 - 1, by omega⟩
    obtain ⟨sx35, h, hsx36⟩ := iter_some h
    have h : f16_B2 m a0 v26 v27 = some sx35 := h
    unfold f16_B2 at h
    refine Lp.succ (Wp.sq (Wp.sq (Wp.rg (Ops.sg 4 4 (Ops.dn (seqQ.n ?_))))))
    refine Wp.cd h [0, 2, 3, 4, 5] 3 (fun h => ?_) (fun h => ?_)
    ·refine Wp.sk (sqQ.n ⟨Zs16 a0 (.v (.sl .nil (List.map eI []))) ((appD 3 (List.map eI v26))::(dI v27)::q35 []), [b16_0, .dead, .dead, (appO 1 (List.map eI v26))]⟩ (by generalize v26 = z0; cases z0 <;> kernel_rfl) (seqQ.n (Wp.bk 1 [0, 2, 3, 4, 5] 4 (Wp.sq (Wp.rg (Ops.sg 2 2 ?_))))))
     obtain ⟨v37, ev37, h⟩ := bnd_some h
     refine Ops.on 3 (fun h0 e0 => (str_sub (T := T) h0 9 a0 v37 (some v27) none ev37 (by kernel_rfl))) ?_
     obtain ⟨v38, ev38, h⟩ := bnd_some h
     refine Ops.on 4 (fun h0 e0 => (call_ok (E' := E) (h := h0) (by kernel_rfl) (Args.v (.str v37) (eS v37) (by kernel_rfl) Args.nil) (ok38 m v37 v38 ev38 n (by omega)))) ?_
     refine Ops.sg 5 9 (Ops.dn (seqQ.n (Wp.sq (Wp.sq (Wp.rg (Ops.sg 3 3 ?_))))))
     refine Ops.hv (fun KQ => ∀ (d41 d42 : D) (v43 v44 : Bool), f16_r1 m v26 v27 v38 v44 = some sx35 → KQ 6 ⟨Zs16 a0 (.v (.sl .nil (List.map eI []))) ((appD 3 (List.map eI v26))::(dI v27)::(.v (.int .i32 v38.1))::(dI v38.2)::q8 ((.v (.tuple [(.int .i32 v38.1), (vI v38.2)]))::(.v (.str a0))::(dI v27)::(.v (.str v37))::(.v (.tuple [(.int .i32 v38.1), (vI v38.2)]))::(.v (.int .i32 v38.1))::(dI v38.2)::(.v (.int .i32 v38.1))::(dB v43)::(dB v43)::d41::d42::(dB v44)::q12 [])), [b16_0, .dead, .dead, (appO 1 (List.map eI v26))]⟩) ?_ fun J16j45 => ?_
     ·intro d41 d42 v43 v44 h
      unfold f16_r1 at h
      refine Ops.dn (seqQ.n ?_)
      refine Wp.cd h [0, 2, 3, 4, 5, 6, 7] 4 (fun h => ?_) (fun h => ?_)
      ·refine Wp.sq (Wp.rg (Ops.sg 1 1 ?_))
       obtain ⟨v46, ev46, h⟩ := bnd_some h
       refine Ops.on 2 (fun h0 e0 => (call_ok (E' := E) (h := h0) (by kernel_rfl) (Args.v (vI 5) (eI 5) (by kernel_rfl) (Args.v (vI v27) (eI v27) (by kernel_rfl) Args.nil)) (ok37 m 5 v27 v46 ev46 n (by omega)))) ?_
       refine Ops.sg 2 4 (Ops.dn (seqQ.n (Wp.rt (sqQ.r (seqQ.r (blkQ.r ?_))))))
       cases h
       refine lpQ.r (blkQ.r ?_)
       exact hrx32 _ hsx36 _ (RetOkK.forget [0, 2, 3, 4, 5] (by kernel_rfl) (RetOkK.nil (.agg [(vI v46.fCode), (vI v46.fIndex)]) (by kernel_rfl)))
      ·refine Wp.sk (sqQ.n ⟨Zs16 a0 (.v (.sl .nil (List.map eI []))) ((appD 4 (List.map eI v26))::(dI v27)::(.v (.int .i32 v38.1))::(dI v38.2)::q33 []), [b16_0, .dead, .dead, .dead, (appO 1 (List.map eI v26))]⟩ (by generalize v26 = z0; cases z0 <;> kernel_rfl) (seqQ.n (Wp.sq (Wp.rg (Ops.sg 4 4 ?_)))))
       obtain ⟨v47, ev47, h⟩ := bnd_some h
       refine Ops.on 5 (fun h0 e0 => (app_r (T := T) (g := .nil) h0 25 3 4 1 ti3 .nonfull eI v26 ([w64 v38.1]) v47 ev47 (by kernel_rfl) (by kernel_rfl) (by kernel_rfl) (by kernel_rfl) (fun _ => rfl) (hq_of e0 (by kernel_rfl)))) ?_
       refine Ops.sg 1 6 (Ops.dn (seqQ.n (Wp.rg (Ops.sg 4 4 (Ops.dn (blkQ.n ⟨Zs16 a0 (.v (.sl .nil (List.map eI []))) ((appD 4 (List.map eI v47))::(dI (w64 (v27 + v38.2)))::q35 []), [b16_0, .dead, .dead, .dead, (appO 1 (List.map eI v47))]⟩ (by generalize v47 = z0; cases z0 <;> kernel_rfl) (lpQ.n ⟨Zs16 a0 (.v (.sl .nil (List.map eI []))) ((appD 2 (List.map eI v47))::(dI (w64 (v27 + v38.2)))::q35 []), [b16_0, .dead, (appO 1 (List.map eI v47))]⟩ (by generalize v47 = z0; cases z0 <;> kernel_rfl) ?_)))))))
       cases h
       exact ihx31 v47 (w64 (v27 + v38.2))  _ hsx36 _ (by omega) hrx32 hxx33
     refine Ops.hv (fun KQ => ∀ v39 : Bool, f16_r1 m v26 v27 v38 (v39 && (decide (v38.2 ≤ 1))) = some sx35 → KQ 3 ⟨Zs16 a0 (.v (.sl .nil (List.map eI []))) ((appD 3 (List.map eI v26))::(dI v27)::(.v (.int .i32 v38.1))::(dI v38.2)::q8 ((.v (.tuple [(.int .i32 v38.1), (vI v38.2)]))::(.v (.str a0))::(dI v27)::(.v (.str v37))::(.v (.tuple [(.int .i32 v38.1), (vI v38.2)]))::(.v (.int .i32 v38.1))::(dI v38.2)::(.v (.int .i32 v38.1))::(dB v39)::(dB v39)::q15 [])), [b16_0, .dead, .dead, (appO 1 (List.map eI v26))]⟩) ?_ fun G16g40 => Ops.sx (G16g40 (v38.1 == 65533) h)
     intro v39 h
     cases v39
     ·refine Ops.sg 3 6 ?_
      exact Ops.sx (J16j45 U U false false h)
     ·refine Ops.sg 3 6 ?_
      exact Ops.sx (J16j45 (dI v38.2) (dB (decide (v38.2 ≤ 1))) true (decide (v38.2 ≤ 1)) h)
    ·refine Wp.ex 0 (sqQ.x (seqQ.x ?_))
     cases h
     refine lpQ.x (blkQ.x ⟨Zs35 (.v (.sl .nil (List.map eI []))) v26 (q36 []), [b16_0, .dead, (appO 1 (List.map eI v26))]⟩ (by generalize v26 = z0; cases z0 <;> kernel_rfl) ?_)
     exact hxx33 (v26, v27)  hsx36
  refine Wp.loop' [0, 2, 3, 4, 5] 2 (by kernel_rfl) ⟨Zs16 a0 (.v (.sl .nil (List.map eI []))) ((appD 2 (List.map eI []))::(dI 0)::q35 []), [b16_0, .dead, .dead]⟩ (by kernel_rfl) ?_
  rcases brk_some h with ⟨r50, er50, h⟩ | ⟨y49, ey49, h⟩
  ·refine hLx48 _ [] 0  _ er50 n (by omega) (fun r er σ hσ => ?_) (fun y  ey => by cases ey)
   cases er
   refine seqQ.r ?_
   exact fnQK.r' (X16 n) eI e31 h hσ
  ·refine hLx48 _ [] 0  _ ey49 n (by omega) (fun r er => by cases er) (fun y  ey => ?_)
   cases ey
   refine seqQ.n (Wp.sq (Wp.rg (Ops.sg 4 4 (Ops.dn (seqQ.n (Wp.rt ?_))))))
   exact fnQK.r' (X16 n) eI e31 h (RetOkK.app 2 (List.map eI y49.1) (.agg [(vI 0), (vI 0)]) (by kernel_rfl) (by kernel_rfl))
def f83 (m : Nat) (a0 : ByteArray) (a1 : Int) : Option Int := some (Lib.indexByte a0.data.toList a1.toNat.toUInt8)
theorem ok83 (m : Nat) (a0 : ByteArray) (a1 o : Int) (h : f83 m a0 a1 = some o) (n : Nat) (hn : m + 1 ≤ n) : Fn Proofs.Tryz.prog E n 83 [.v (eS a0), .v ((eK .u8) a1)] (eI o) := by
 obtain ⟨n, rfl⟩ : ∃ q, n = q + 1 := ⟨n - 1, by omega⟩
 refine ora_fn (xs := [eS a0, (eK .u8) a1]) (by kernel_rfl) (by kernel_rfl) (by kernel_rfl) (F := ixbyteF) ?_ rfl
 cases h
 rfl
def f54_r1 (m : Nat) (v67 : Int) (v96 : Bool) : Option (Stp Bool (Int)) :=
 cnd v96
 (some (.ret false))
 (some (.nxt (w64 (v67 + 1))))
def f54_r2 (m : Nat) (v67 v77 : Int) (v83 : Bool) : Option (Stp Bool (Int)) :=
 bnd (cnd v83
 (some true)
 (cnd (decide (v77 < 128))
 (bnd (f83 m ((⟨#[32, 9, 10, 40, 41, 91, 93, 44, 59]⟩ : ByteArray)) (IntKind.u8.wrap v77)) fun v100 =>
 some (decide (v100 ≥ 0)))
 (some false))) fun v96 =>
 f54_r1 m v67 v96
def f54_B3 (m : Nat) (v1 : ((List Int) × S31)) (v67 : Int) : Option (Stp Bool (Int)) :=
 cnd (decide (v67 < (v1.1.length : Int)))
 (bnd (idx v1.1 v67) fun v77 =>
 f54_r2 m v67 v77 ((v77 == 0) || (decide (v77 ≥ 983040))))
 (some (.brk v67))
def f54_r4 (m : Nat) (v1 : ((List Int) × S31)) (v16 : Bool) : Option Bool :=
 cnd v16
 (some false)
 (brk (iter (fun (y : Int) => f54_B3 m v1 y) m 0) some fun y102 =>
 some true)
def f54_r5 (m : Nat) (v1 : ((List Int) × S31)) (v8 : Bool) : Option Bool :=
 f54_r4 m v1 (v8 || (decide ((v1.1.length : Int) > 30)))
def f54 (m : Nat) (a0 : ByteArray) : Option Bool :=
 bnd (f16 m a0) fun v1 =>
 f54_r5 m v1 ((!((v1.2.fCode == 0) && ((v1.2.fIndex == 0) && true))) || (decide ((v1.1.length : Int) < 1)))
noncomputable abbrev X54 (n : Nat) : Cx := cxOf Proofs.Tryz.prog E 54 n
noncomputable def C54 : Code := bodyOf Proofs.Tryz.prog 54
abbrev b54_0 (w0 : ((List Int) × S31)) : AObj := .cells [(dI w0.2.fCode), (dI w0.2.fIndex)]
theorem ok54 (m : Nat) (a0 : ByteArray) (o : Bool) (h : f54 m a0 = some o) (n : Nat) (hn : m + 3 ≤ n) : Fn Proofs.Tryz.prog E n 54 [.v (eS a0)] (eB o) := by
 obtain ⟨n, rfl⟩ : ∃ q, n = q + 1 := ⟨n - 1, by omega⟩
 unfold f54 at h
 refine Fn.of (by kernel_rfl) (by kernel_rfl) (by kernel_rfl) ⟨(.v (.str a0))::u40 (u7 []), []⟩ (by kernel_rfl) (Wp.sq (Wp.rg (Ops.sg 1 1 (Ops.dn (seqQ.n (Wp.sq (Wp.rg (Ops.sg 1 1 ?_))))))))
 obtain ⟨v1, ev1, h⟩ := bnd_some h
 refine Ops.on 2 (fun h0 e0 => (call_keep (E' := E) (h := h0) (by kernel_rfl) (by kernel_rfl) (by kernel_rfl) (ArgsC.cons (.v (.str a0)) (.v (eS a0)) (by kernel_rfl) ArgsC.nil) (ok16 m a0 v1 ev1 n (by omega)))) ?_
 refine Ops.sg 6 8 (Ops.dn (seqQ.n (Wp.sq (Wp.sq (Wp.rg (Ops.sg 4 4 ?_))))))
 refine Ops.hv (fun KQ => ∀ (d4 d5 d6 : D) (v7 v8 : Bool), f54_r5 m v1 v8 = some o → KQ 8 ⟨Zs5 a0 v1.1 (.tuple [(appD 0 (List.map eI v1.1)), (.v (.agg [(vI v1.2.fCode), (vI v1.2.fIndex)]))]) (.v (.agg [(vI v1.2.fCode), (vI v1.2.fIndex)])) (.v (.agg [(vI 0), (vI 0)])) v7 (d4::d5::d6::(dB v8)::u28 []), [(appO 1 (List.map eI v1.1)), (b54_0 v1)]⟩) ?_ fun J54j9 => ?_
 ·intro d4 d5 d6 v7 v8 h
  unfold f54_r5 at h
  refine Ops.sg 1 9 ?_
  refine Ops.hv (fun KQ => ∀ (d12 d13 d14 : D) (v15 v16 : Bool), f54_r4 m v1 v16 = some o → KQ 13 ⟨Zs5 a0 v1.1 (.tuple [(appD 0 (List.map eI v1.1)), (.v (.agg [(vI v1.2.fCode), (vI v1.2.fIndex)]))]) (.v (.agg [(vI v1.2.fCode), (vI v1.2.fIndex)])) (.v (.agg [(vI 0), (vI 0)])) v7 (d4::d5::d6::(dB v15)::(dB v15)::d12::d13::d14::(dB v16)::u23 []), [(appO 1 (List.map eI v1.1)), (b54_0 v1)]⟩) ?_ fun J54j17 => ?_
  ·intro d12 d13 d14 v15 v16 h
   unfold f54_r4 at h
   refine Ops.dn (seqQ.n ?_)
   refine Wp.cd h [2, 3] 2 (fun h => ?_) (fun h => ?_)
   ·refine Wp.sq (Wp.rg (Ops.sg 1 1 (Ops.dn (seqQ.n (Wp.rt (sqQ.r (seqQ.r ?_)))))))
    exact fnQ.r' (X54 n) (fun z => (eB z)) h (RetOk.mk' (dB false) (by kernel_rfl) (by kernel_rfl))
   ·refine Wp.sk (sqQ.n ⟨Zs5 a0 v1.1 (.tuple [(appD 0 (List.map eI v1.1)), (.v (.agg [(vI v1.2.fCode), (vI v1.2.fIndex)]))]) (.v (.agg [(vI v1.2.fCode), (vI v1.2.fIndex)])) (.v (.agg [(vI 0), (vI 0)])) v7 (d4::d5::d6::(dB v15)::(dB v15)::d12::d13::d14::(dB v16)::u23 []), [(appO 1 (List.map eI v1.1)), (b54_0 v1)]⟩ (by generalize v1.1 = z0; cases z0 <;> kernel_rfl) (seqQ.n (Wp.sq (Wp.sq (Wp.rg (Ops.sg 1 1 ?_))))))
    refine Ops.on 2 (fun h0 e0 => (len_a (T := T) (g := .nil) h0 25 3 0 eI v1.1 (by kernel_rfl))) ?_
    refine Ops.sg 1 3 (Ops.dn (seqQ.n (Wp.bk 0 [2] 2 ?_)))
    have hLx101 : ∀ (kx69 : Nat) (v67 : Int)  (ox68 : Bool ⊕ (Int)), iter (fun (y : Int) => f54_B3 m v1 y) kx69 v67 = some ox68 → ∀ nx70, kx69 ≤ nx70 → (∀ r, ox68 = .inl r → ∀ σ, RetOk (X54 n) (resOf Proofs.Tryz.prog 54) (eB r) σ → (seqQ (X54 n) (cR (cR (cR (cR C54)))) (fnQ (X54 n).E.T (resOf Proofs.Tryz.prog 54) (eB o))) .ret σ) → (∀ (y : Int) , ox68 = .inr y → (seqQ (X54 n) (cR (cR (cR (cR C54)))) (fnQ (X54 n).E.T (resOf Proofs.Tryz.prog 54) (eB o))) .normal ⟨Zs21 v1.1 (v1.1.length : Int) ((dI y)::q20 []), [(appO 1 (List.map eI v1.1)), (b54_0 v1)]⟩) → Lp (X54 n) [2, 25, 26, 27] 2 (cL (cL (cR (cL (cR (cR (cR C54))))))) nx70 ⟨Zs21 v1.1 (v1.1.length : Int) ((dI v67)::q20 []), [(appO 1 (List.map eI v1.1)), (b54_0 v1)]⟩ (blkQ (X54 n) 0 [2] 2 (seqQ (X54 n) (cR (cR (cR (cR C54)))) (fnQ (X54 n).E.T (resOf Proofs.Tryz.prog 54) (eB o)))) := by
     intro kx69
     induction kx69 with
     | zero => intro v67  ox68 h; exact (iter_zero h).elim
     | succ kx69 ihx71 =>
      intro v67  ox68 h nx70 hnx74 hrx72 hxx73
      obtain ⟨nx70, rfl⟩ : ∃ q, nx70 = q + 1 := ⟨nx70 - 1, by omega⟩
      obtain ⟨sx75, h, hsx76⟩ := iter_some h
      have h : f54_B3 m v1 v67 = some sx75 := h
      unfold f54_B3 at h
      refine Lp.succ (Wp.sq (Wp.rg (Ops.sg 1 1 (Ops.dn (seqQ.n (Wp.sq ?_))))))
      refine Wp.cd h [2, 25, 26, 27] 2 (fun h => ?_) (fun h => ?_)
      ·refine Wp.sk (sqQ.n ⟨Zs21 v1.1 (v1.1.length : Int) ((dI v67)::(dB (decide (v67 < (v1.1.length : Int))))::q19 []), [(appO 1 (List.map eI v1.1)), (b54_0 v1)]⟩ (by generalize v1.1 = z0; cases z0 <;> kernel_rfl) (seqQ.n (Wp.sq (Wp.bk 1 [2, 25, 26, 27] 2 (Wp.sq (Wp.rg ?_))))))
       obtain ⟨v77, ev77, h⟩ := bnd_some h
       refine Ops.on 1 (fun h0 e0 => (ix_a (T := T) (g := .nil) h0 25 3 1 0 eI v1.1 v67 v77 ev77 (by kernel_rfl) (by kernel_rfl) (fun _ => rfl))) ?_
       refine Ops.sg 2 3 (Ops.dn (seqQ.n (Wp.sq (Wp.rg (Ops.sg 3 3 ?_)))))
       refine Ops.hv (fun KQ => ∀ (d80 d81 : D) (v82 v83 : Bool), f54_r2 m v67 v77 v83 = some sx75 → KQ 6 ⟨Zs9 v77 v1.1 (v1.1.length : Int) v67 (decide (v67 < (v1.1.length : Int))) (.vptr [(vI v77)]) v82 (d80::d81::(dB v83)::q11 []), [(appO 1 (List.map eI v1.1)), (b54_0 v1)]⟩) ?_ fun J54j84 => ?_
       ·intro d80 d81 v82 v83 h
        unfold f54_r2 at h
        refine Ops.sg 1 7 ?_
        refine Ops.hv (fun KQ => ∀ (d87 d88 d89 d90 d91 d92 d93 d94 : D) (v95 v96 : Bool), f54_r1 m v67 v96 = some sx75 → KQ 16 ⟨Zs9 v77 v1.1 (v1.1.length : Int) v67 (decide (v67 < (v1.1.length : Int))) (.vptr [(vI v77)]) v82 (d80::d81::(dB v95)::(dB v95)::d87::d88::d89::d90::d91::d92::d93::d94::(dB v96)::q1 []), [(appO 1 (List.map eI v1.1)), (b54_0 v1)]⟩) ?_ fun J54j97 => ?_
        ·intro d87 d88 d89 d90 d91 d92 d93 d94 v95 v96 h
         unfold f54_r1 at h
         refine Ops.dn (seqQ.n ?_)
         refine Wp.cd h [2, 25, 26, 27] 2 (fun h => ?_) (fun h => ?_)
         ·refine Wp.sq (Wp.rg (Ops.sg 1 1 (Ops.dn (seqQ.n (Wp.rt (sqQ.r (blkQ.r (seqQ.r ?_))))))))
          cases h
          refine lpQ.r (blkQ.r ?_)
          exact hrx72 _ hsx76 _ (RetOk.forget [2, 25, 26, 27] (by kernel_rfl) (RetOk.mk' (dB false) (by kernel_rfl) (by kernel_rfl)))
         ·refine Wp.sk (sqQ.n ⟨Zs9 v77 v1.1 (v1.1.length : Int) v67 (decide (v67 < (v1.1.length : Int))) (.vptr [(vI v77)]) v82 (d80::d81::(dB v95)::(dB v95)::d87::d88::d89::d90::d91::d92::d93::d94::(dB v96)::q1 []), [(appO 1 (List.map eI v1.1)), (b54_0 v1)]⟩ (by generalize v1.1 = z0; cases z0 <;> kernel_rfl) (blkQ.n ⟨Zs9 v77 v1.1 (v1.1.length : Int) v67 (decide (v67 < (v1.1.length : Int))) (.vptr [(vI v77)]) v82 (d80::d81::(dB v95)::(dB v95)::d87::d88::d89::d90::d91::d92::d93::d94::(dB v96)::q1 []), [(appO 1 (List.map eI v1.1)), (b54_0 v1)]⟩ (by generalize v1.1 = z0; cases z0 <;> kernel_rfl) (seqQ.n (Wp.rg (Ops.sg 2 2 (Ops.dn (lpQ.n ⟨Zs21 v1.1 (v1.1.length : Int) ((dI (w64 (v67 + 1)))::q20 []), [(appO 1 (List.map eI v1.1)), (b54_0 v1)]⟩ (by generalize v1.1 = z0; cases z0 <;> kernel_rfl) ?_)))))))
          cases h
          exact ihx71 (w64 (v67 + 1))  _ hsx76 _ (by omega) hrx72 hxx73
        obtain ⟨v96, ev96, h⟩ := bnd_some h
        refine Ops.hv (fun KQ => ∀ v85 : Bool, (cnd v85 (some true) (cnd (decide (v77 < 128)) (bnd (f83 m ((⟨#[32, 9, 10, 40, 41, 91, 93, 44, 59]⟩ : ByteArray)) (IntKind.u8.wrap v77)) fun v100 => some (decide (v100 ≥ 0))) (some false))) = some v96 → KQ 7 ⟨Zs9 v77 v1.1 (v1.1.length : Int) v67 (decide (v67 < (v1.1.length : Int))) (.vptr [(vI v77)]) v82 (d80::d81::(dB v85)::(dB v85)::q10 []), [(appO 1 (List.map eI v1.1)), (b54_0 v1)]⟩) ?_ fun G54g86 => Ops.sx (G54g86 v83 ev96)
        intro v85 ev96
        cases v85
        ·have ev96 := cnd_f ev96
         refine Ops.sg 3 10 ?_
         refine Ops.hv (fun KQ => ∀ v98 : Bool, (cnd v98 (bnd (f83 m ((⟨#[32, 9, 10, 40, 41, 91, 93, 44, 59]⟩ : ByteArray)) (IntKind.u8.wrap v77)) fun v100 => some (decide (v100 ≥ 0))) (some false)) = some v96 → KQ 10 ⟨Zs9 v77 v1.1 (v1.1.length : Int) v67 (decide (v67 < (v1.1.length : Int))) (.vptr [(vI v77)]) v82 (d80::d81::(dB false)::(dB false)::(dI v77)::(dB v98)::(dB v98)::q7 []), [(appO 1 (List.map eI v1.1)), (b54_0 v1)]⟩) ?_ fun G54g99 => Ops.sx (G54g99 (decide (v77 < 128)) ev96)
         intro v98 ev96
         cases v98
         ·have ev96 := cnd_f ev96
          refine Ops.sg 6 16 ?_
          exact Ops.sx (J54j97 (dI v77) (dB false) (dB false) U U U U (dB false) false false (some_sub (fun v96 => f54_r1 m v67 v96 = some sx75) ev96 h))
         ·have ev96 := cnd_t ev96
          refine Ops.sg 2 12 ?_
          obtain ⟨v100, ev100, ev96⟩ := bnd_some ev96
          refine Ops.on 13 (fun h0 e0 => (call_ok (E' := E) (h := h0) (by kernel_rfl) (Args.v (.str ((⟨#[32, 9, 10, 40, 41, 91, 93, 44, 59]⟩ : ByteArray))) (eS ((⟨#[32, 9, 10, 40, 41, 91, 93, 44, 59]⟩ : ByteArray))) (by kernel_rfl) (Args.v (.int .u8 (IntKind.u8.wrap v77)) ((eK .u8) (IntKind.u8.wrap v77)) (by kernel_rfl) Args.nil)) (ok83 m ((⟨#[32, 9, 10, 40, 41, 91, 93, 44, 59]⟩ : ByteArray)) (IntKind.u8.wrap v77) v100 ev100 n (by omega)))) ?_
          refine Ops.sg 3 16 ?_
          exact Ops.sx (J54j97 (dI v77) (dB true) (dB true) (dI v77) (.v (.int .u8 (IntKind.u8.wrap v77))) (dI v100) (dB (decide (v100 ≥ 0))) (dB (decide (v100 ≥ 0))) false (decide (v100 ≥ 0)) (some_sub (fun v96 => f54_r1 m v67 v96 = some sx75) ev96 h))
        ·have ev96 := cnd_t ev96
         refine Ops.sg 9 16 ?_
         exact Ops.sx (J54j97 U U U U U U U U true true (some_sub (fun v96 => f54_r1 m v67 v96 = some sx75) ev96 h))
       refine Ops.hv (fun KQ => ∀ v78 : Bool, f54_r2 m v67 v77 (v78 || (decide (v77 ≥ 983040))) = some sx75 → KQ 3 ⟨Zs9 v77 v1.1 (v1.1.length : Int) v67 (decide (v67 < (v1.1.length : Int))) (.vptr [(vI v77)]) v78 (q14 []), [(appO 1 (List.map eI v1.1)), (b54_0 v1)]⟩) ?_ fun G54g79 => Ops.sx (G54g79 (v77 == 0) h)
       intro v78 h
       cases v78
       ·refine Ops.sg 3 6 ?_
        exact Ops.sx (J54j84 (dI v77) (dB (decide (v77 ≥ 983040))) false (decide (v77 ≥ 983040)) h)
       ·refine Ops.sg 3 6 ?_
        exact Ops.sx (J54j84 U U true true h)
      ·refine Wp.ex 0 (sqQ.x (seqQ.x ?_))
       cases h
       refine lpQ.x (blkQ.x ⟨Zs21 v1.1 (v1.1.length : Int) ((dI v67)::q20 []), [(appO 1 (List.map eI v1.1)), (b54_0 v1)]⟩ (by generalize v1.1 = z0; cases z0 <;> kernel_rfl) ?_)
       exact hxx73 v67  hsx76
    refine Wp.loop' [2, 25, 26, 27] 2 (by kernel_rfl) ⟨Zs21 v1.1 (v1.1.length : Int) ((dI 0)::q20 []), [(appO 1 (List.map eI v1.1)), (b54_0 v1)]⟩ (by generalize v1.1 = z0; cases z0 <;> kernel_rfl) ?_
    rcases brk_some h with ⟨r103, er103, h⟩ | ⟨y102, ey102, h⟩
    ·refine hLx101 _ 0  _ er103 n (by omega) (fun r er σ hσ => ?_) (fun y  ey => by cases ey)
     cases er
     refine seqQ.r ?_
     exact fnQ.r' (X54 n) (fun z => (eB z)) h hσ
    ·refine hLx101 _ 0  _ ey102 n (by omega) (fun r er => by cases er) (fun y  ey => ?_)
     cases ey
     refine seqQ.n (Wp.sq (Wp.rg (Ops.sg 1 1 (Ops.dn (seqQ.n (Wp.rt ?_))))))
     exact fnQ.r' (X54 n) (fun z => (eB z)) h (RetOk.mk' (dB true) (by kernel_rfl) (by kernel_rfl))
  refine Ops.hv (fun KQ => ∀ v10 : Bool, f54_r4 m v1 (v10 || (decide ((v1.1.length : Int) > 30))) = some o → KQ 9 ⟨Zs5 a0 v1.1 (.tuple [(appD 0 (List.map eI v1.1)), (.v (.agg [(vI v1.2.fCode), (vI v1.2.fIndex)]))]) (.v (.agg [(vI v1.2.fCode), (vI v1.2.fIndex)])) (.v (.agg [(vI 0), (vI 0)])) v7 (d4::d5::d6::(dB v10)::(dB v10)::u27 []), [(appO 1 (List.map eI v1.1)), (b54_0 v1)]⟩) ?_ fun G54g11 => Ops.sx (G54g11 v8 h)
  intro v10 h
  cases v10
  ·refine Ops.sg 1 10 ?_
   refine Ops.on 11 (fun h0 e0 => (len_a (T := T) (g := .nil) h0 25 3 0 eI v1.1 (by kernel_rfl))) ?_
   refine Ops.sg 2 13 ?_
   exact Ops.sx (J54j17 (appD 0 (List.map eI v1.1)) (dI (v1.1.length : Int)) (dB (decide ((v1.1.length : Int) > 30))) false (decide ((v1.1.length : Int) > 30)) h)
  ·refine Ops.sg 4 13 ?_
   exact Ops.sx (J54j17 U U U true true h)
 refine Ops.hv (fun KQ => ∀ v2 : Bool, f54_r5 m v1 (v2 || (decide ((v1.1.length : Int) < 1))) = some o → KQ 4 ⟨Zs5 a0 v1.1 (.tuple [(appD 0 (List.map eI v1.1)), (.v (.agg [(vI v1.2.fCode), (vI v1.2.fIndex)]))]) (.v (.agg [(vI v1.2.fCode), (vI v1.2.fIndex)])) (.v (.agg [(vI 0), (vI 0)])) v2 (u32 []), [(appO 1 (List.map eI v1.1)), (b54_0 v1)]⟩) ?_ fun G54g3 => Ops.sx (G54g3 (!((v1.2.fCode == 0) && ((v1.2.fIndex == 0) && true))) h)
 intro v2 h
 cases v2
 ·refine Ops.sg 1 5 ?_
  refine Ops.on 6 (fun h0 e0 => (len_a (T := T) (g := .nil) h0 25 3 0 eI v1.1 (by kernel_rfl))) ?_
  refine Ops.sg 2 8 ?_
  exact Ops.sx (J54j9 (appD 0 (List.map eI v1.1)) (dI (v1.1.length : Int)) (dB (decide ((v1.1.length : Int) < 1))) false (decide ((v1.1.length : Int) < 1)) h)
 ·refine Ops.sg 4 8 ?_
  exact Ops.sx (J54j9 U U U true true h)
def f34_B1 (m : Nat) (v1 : S55) (v3 : (List S55)) (v7 : Int) : Option (Stp Int (Int)) :=
 cnd (decide (v7 < (v3.length : Int)))
 (bnd (idx v3 v7) fun v17 =>
 cnd (v17.fName.toList == v1.fName.toList)
 (some (.ret 7))
 (some (.nxt (w64 (v7 + 1)))))
 (some (.brk v7))
def f34_B2 (m : Nat) (v182 : S57) (v211 : Int) : Option (Stp Int (Int)) :=
 cnd (decide (v211 < (v182.fTags.length : Int)))
 (bnd (idx v182.fTags v211) fun v221 =>
 bnd (f53 m v221) fun v222 =>
 cnd (!v222)
 (some (.ret 10))
 (some (.nxt (w64 (v211 + 1)))))
 (some (.brk v211))
def f34_r3 (m : Nat) (v172 : Int) (v251 : Bool) : Option (Stp Int (Int)) :=
 cnd v251
 (some (.ret 3))
 (some (.nxt (w64 (v172 + 1))))
def f34_r4 (m : Nat) (v172 : Int) (v182 : S57) (v243 : Bool) : Option (Stp Int (Int)) :=
 f34_r3 m v172 (v243 || (decide (v182.fWeight > 1000000)))
def f34_r5 (m : Nat) (v172 : Int) (v182 : S57) (v235 : Bool) : Option (Stp Int (Int)) :=
 f34_r4 m v172 v182 (v235 || (decide (v182.fWeight < 0)))
def f34_r6 (m : Nat) (a0 : S23) (v172 : Int) (v182 : S57) (v204 : Bool) : Option (Stp Int (Int)) :=
 cnd v204
 (some (.ret 5))
 (cnd (decide ((v182.fTags.length : Int) > 4))
 (some (.ret 2))
 (brk (iter (fun (y : Int) => f34_B2 m v182 y) m 0) (fun r => some (.ret r)) fun y224 =>
 f34_r5 m v172 v182 ((decide (v182.fNext < (-1))) || (decide (v182.fNext ≥ (a0.fClasses.length : Int))))))
def f34_r7 (m : Nat) (a0 : S23) (v172 : Int) (v182 : S57) (v190 : Bool) : Option (Stp Int (Int)) :=
 bnd (cnd v190
 (some true)
 (cnd (!(v182.fForm.toList == (⟨#[]⟩ : ByteArray).toList))
 (bnd (f54 m v182.fForm) fun v255 =>
 some (!v255))
 (some false))) fun v204 =>
 f34_r6 m a0 v172 v182 v204
def f34_B8 (m : Nat) (a0 : S23) (v1 : S55) (v172 : Int) : Option (Stp Int (Int)) :=
 cnd (decide (v172 < (v1.fItems.length : Int)))
 (bnd (idx v1.fItems v172) fun v182 =>
 bnd (cnd (!(v182.fBase.toList == (⟨#[]⟩ : ByteArray).toList))
 (bnd (f54 m v182.fBase) fun v256 =>
 some (!v256))
 (some false)) fun v190 =>
 f34_r7 m a0 v172 v182 v190)
 (some (.brk v172))
def f34 (m : Nat) (a0 : S23) (a1 : Int) : Option Int :=
 bnd (idx a0.fClasses a1) fun v1 =>
 bnd (f53 m v1.fName) fun v2 =>
 cnd (!v2)
 (some 10)
 (bnd (sub a0.fClasses 0 a1) fun v3 =>
 brk (iter (fun (y : Int) => f34_B1 m v1 v3 y) m 0) some fun y19 =>
 cnd (decide ((v1.fItems.length : Int) > 100))
 (some 2)
 (brk (iter (fun (y : Int) => f34_B8 m a0 v1 y) m 0) some fun y258 =>
 some 0))
noncomputable abbrev X34 (n : Nat) : Cx := cxOf Proofs.Tryz.prog E 34 n
noncomputable def C34 : Code := bodyOf Proofs.Tryz.prog 34
noncomputable abbrev p34_0 : Code := cR (cR (cR (cR (cR (cR C34)))))
noncomputable abbrev p34_1 : Code := cL (cL (cR (cL (cR (cR (cR (cR (cR C34))))))))
noncomputable abbrev p34_2 : Code := cR (cR (cR p34_1))
noncomputable abbrev p34_3 : Code := cR (cR (cR (cR (cL (cL (cR (cR p34_1)))))))
noncomputable abbrev p34_4 : Code := cL (cL (cR (cL (cR (cR (cR (cL (cL (cR (cR p34_1))))))))))
abbrev b34_0 (w0 : S23) : AObj := .cells [(dP e55 w0.fClasses)]
abbrev b34_1 (w0 : S55) : AObj := .cells [(.v (.str w0.fName)), (dP e57 w0.fItems)]
abbrev b34_2 (w0 : S57) : AObj := .cells [(.v (.str w0.fBase)), (.v (.str w0.fForm)), (dP eS w0.fTags), (dI w0.fNext), (dI w0.fWeight)]
abbrev k34_0 : List Nat := [2, 4, 5, 24, 25, 26]
abbrev k34_1 : List Nat := [2, 4, 41, 42, 43]
abbrev k34_2 : List Nat := [2, 4, 9, 41, 42, 43, 72, 73, 74]
theorem ok34 (m : Nat) (a0 : S23) (a1 o : Int) (h : f34 m a0 a1 = some o) (n : Nat) (hn : m + 4 ≤ n) : Fn Proofs.Tryz.prog E n 34 [.v (e23 a0), .v (eI a1)] (eI o) := by
 obtain ⟨n, rfl⟩ : ∃ q, n = q + 1 := ⟨n - 1, by omega⟩
 unfold f34 at h
 refine Fn.of (by kernel_rfl) (by kernel_rfl) (by kernel_rfl) ⟨(.v (.agg [(vP e55 a0.fClasses)]))::(dI a1)::u40 (u40 (u22 [])), []⟩ (by kernel_rfl) (Wp.sq (Wp.rg (Ops.sg 2 2 (Ops.dn (seqQ.n (Wp.sq (Wp.rg (Ops.sg 3 3 ?_))))))))
 obtain ⟨v1, ev1, h⟩ := bnd_some h
 refine Ops.on 4 (fun h0 e0 => (ix_r (T := T) h0 22 56 2 .plain e55 a0.fClasses a1 v1 ev1 (by kernel_rfl) (by kernel_rfl) (fun _ => rfl))) ?_
 refine Ops.sg 3 7 (Ops.dn (seqQ.n (Wp.sq (Wp.sq (Wp.rg (Ops.sg 2 2 ?_))))))
 obtain ⟨v2, ev2, h⟩ := bnd_some h
 refine Ops.on 3 (fun h0 e0 => (call_ok (E' := E) (h := h0) (by kernel_rfl) (Args.v (.str v1.fName) (eS v1.fName) (by kernel_rfl) Args.nil) (ok53 m v1.fName v2 ev2 n (by omega)))) ?_
 refine Ops.sg 1 4 (Ops.dn (seqQ.n ?_))
 refine Wp.cd h [1, 2, 4, 5] 2 (fun h => ?_) (fun h => ?_)
 ·refine Wp.sq (Wp.rg (Ops.sg 1 1 (Ops.dn (seqQ.n (Wp.rt (sqQ.r (seqQ.r ?_)))))))
  exact fnQ.r' (X34 n) (fun z => (eI z)) h (RetOk.mk' (dI 10) (by kernel_rfl) (by kernel_rfl))
 ·refine Wp.sk (sqQ.n' (seqQ.n (Wp.sq (Wp.sq (Wp.rg (Ops.sg 3 3 ?_))))))
  obtain ⟨v3, ev3, h⟩ := bnd_some h
  refine Ops.on 4 (fun h0 e0 => (sub_r (T := T) h0 22 56 2 .plain e55 a0.fClasses v3 none (some a1) rfl ev3 (by kernel_rfl) (by kernel_rfl) (fun _ => rfl))) ?_
  refine Ops.on 5 (fun h0 e0 => (len_r (T := T) h0 22 56 .plain e55 v3 (by kernel_rfl))) ?_
  refine Ops.sg 1 6 (Ops.dn (seqQ.n (Wp.bk 0 [2, 4, 5] 2 ?_)))
  have hLx18 : ∀ (kx9 : Nat) (v7 : Int)  (ox8 : Int ⊕ (Int)), iter (fun (y : Int) => f34_B1 m v1 v3 y) kx9 v7 = some ox8 → ∀ nx10, kx9 ≤ nx10 → (∀ r, ox8 = .inl r → ∀ σ, RetOk (X34 n) (resOf Proofs.Tryz.prog 34) (eI r) σ → (seqQ (X34 n) (cR (cR (cR (cR C34)))) (fnQ (X34 n).E.T (resOf Proofs.Tryz.prog 34) (eI o))) .ret σ) → (∀ (y : Int) , ox8 = .inr y → (seqQ (X34 n) (cR (cR (cR (cR C34)))) (fnQ (X34 n).E.T (resOf Proofs.Tryz.prog 34) (eI o))) .normal ⟨Zs20 v3 (v3.length : Int) ((dI y)::q40 (q37 [])), [(b34_0 a0), (b34_1 v1)]⟩) → Lp (X34 n) k34_0 2 (cL (cL (cR (cL (cR (cR (cR C34))))))) nx10 ⟨Zs20 v3 (v3.length : Int) ((dI v7)::q40 (q37 [])), [(b34_0 a0), (b34_1 v1)]⟩ (blkQ (X34 n) 0 [2, 4, 5] 2 (seqQ (X34 n) (cR (cR (cR (cR C34)))) (fnQ (X34 n).E.T (resOf Proofs.Tryz.prog 34) (eI o)))) := by
   intro kx9
   induction kx9 with
   | zero => intro v7  ox8 h; exact (iter_zero h).elim
   | succ kx9 ihx11 =>
    intro v7  ox8 h nx10 hnx14 hrx12 hxx13
    obtain ⟨nx10, rfl⟩ : ∃ q, nx10 = q + 1 := ⟨nx10 - 1, by omega⟩
    obtain ⟨sx15, h, hsx16⟩ := iter_some h
    have h : f34_B1 m v1 v3 v7 = some sx15 := h
    unfold f34_B1 at h
    refine Lp.succ (Wp.sq (Wp.rg (Ops.sg 1 1 (Ops.dn (seqQ.n (Wp.sq ?_))))))
    refine Wp.cd h k34_0 2 (fun h => ?_) (fun h => ?_)
    ·refine Wp.sk (sqQ.n' (seqQ.n (Wp.sq (Wp.bk 1 k34_0 2 (Wp.sq (Wp.rg ?_))))))
     obtain ⟨v17, ev17, h⟩ := bnd_some h
     refine Ops.on 1 (fun h0 e0 => (ix_r (T := T) h0 22 56 2 .plain e55 v3 v7 v17 ev17 (by kernel_rfl) (by kernel_rfl) (fun _ => rfl))) ?_
     refine Ops.sg 3 4 (Ops.dn (seqQ.n (Wp.sq (Wp.rg (Ops.sg 5 5 (Ops.dn (seqQ.n ?_)))))))
     refine Wp.cd h k34_0 3 (fun h => ?_) (fun h => ?_)
     ·refine Wp.sq (Wp.rg (Ops.sg 1 1 (Ops.dn (seqQ.n (Wp.rt (sqQ.r (blkQ.r (seqQ.r ?_))))))))
      cases h
      refine lpQ.r (blkQ.r ?_)
      exact hrx12 _ hsx16 _ (RetOk.forget k34_0 (by kernel_rfl) (RetOk.mk' (dI 7) (by kernel_rfl) (by kernel_rfl)))
     ·refine Wp.sk (sqQ.n' (blkQ.n' (seqQ.n (Wp.rg (Ops.sg 2 2 (Ops.dn (lpQ.m ⟨Zs20 v3 (v3.length : Int) ((dI (w64 (v7 + 1)))::q40 (q37 [])), [(b34_0 a0), (b34_1 v1)]⟩ ?_)))))))
      cases h
      exact ihx11 (w64 (v7 + 1))  _ hsx16 _ (by omega) hrx12 hxx13
    ·refine Wp.ex 0 (sqQ.x (seqQ.x ?_))
     cases h
     refine lpQ.x (blkQ.w ⟨Zs20 v3 (v3.length : Int) ((dI v7)::q40 (q37 [])), [(b34_0 a0), (b34_1 v1)]⟩ ?_)
     exact hxx13 v7  hsx16
  refine Wp.loop' k34_0 2 (by kernel_rfl) ⟨Zs20 v3 (v3.length : Int) ((dI 0)::q40 (q37 [])), [(b34_0 a0), (b34_1 v1)]⟩ (by kernel_rfl) ?_
  rcases brk_some h with ⟨r20, er20, h⟩ | ⟨y19, ey19, h⟩
  ·refine hLx18 _ 0  _ er20 n (by omega) (fun r er σ hσ => ?_) (fun y  ey => by cases ey)
   cases er
   refine seqQ.r ?_
   exact fnQ.r' (X34 n) (fun z => (eI z)) h hσ
  ·refine hLx18 _ 0  _ ey19 n (by omega) (fun r er => by cases er) (fun y  ey => ?_)
   cases ey
   refine seqQ.n (Wp.sq (Wp.sq (Wp.rg (Ops.sg 2 2 ?_))))
   refine Ops.on 3 (fun h0 e0 => (len_r (T := T) h0 54 58 .plain e57 v1.fItems (by kernel_rfl))) ?_
   refine Ops.sg 1 4 (Ops.dn (seqQ.n ?_))
   refine Wp.cd h [2, 4, 5] 2 (fun h => ?_) (fun h => ?_)
   ·refine Wp.sq (Wp.rg (Ops.sg 1 1 (Ops.dn (seqQ.n (Wp.rt (sqQ.r (seqQ.r ?_)))))))
    exact fnQ.r' (X34 n) (fun z => (eI z)) h (RetOk.mk' (dI 2) (by kernel_rfl) (by kernel_rfl))
   ·refine Wp.sk (sqQ.n' (seqQ.n (Wp.sq (Wp.sq (Wp.rg (Ops.sg 2 2 ?_))))))
    refine Ops.on 3 (fun h0 e0 => (len_r (T := T) h0 54 58 .plain e57 v1.fItems (by kernel_rfl))) ?_
    refine Ops.sg 1 4 (Ops.dn (seqQ.n (Wp.bk 2 [4] 2 ?_)))
    have hLx257 : ∀ (kx174 : Nat) (v172 : Int)  (ox173 : Int ⊕ (Int)), iter (fun (y : Int) => f34_B8 m a0 v1 y) kx174 v172 = some ox173 → ∀ nx175, kx174 ≤ nx175 → (∀ r, ox173 = .inl r → ∀ σ, RetOk (X34 n) (resOf Proofs.Tryz.prog 34) (eI r) σ → (seqQ (X34 n) p34_0 (fnQ (X34 n).E.T (resOf Proofs.Tryz.prog 34) (eI o))) .ret σ) → (∀ (y : Int) , ox173 = .inr y → (seqQ (X34 n) p34_0 (fnQ (X34 n).E.T (resOf Proofs.Tryz.prog 34) (eI o))) .normal ⟨Zs25 v1.fItems (v1.fItems.length : Int) ((dI y)::q40 (q20 [])), [(b34_0 a0), (b34_1 v1)]⟩) → Lp (X34 n) k34_1 2 p34_1 nx175 ⟨Zs25 v1.fItems (v1.fItems.length : Int) ((dI v172)::q40 (q20 [])), [(b34_0 a0), (b34_1 v1)]⟩ (blkQ (X34 n) 2 [4] 2 (seqQ (X34 n) p34_0 (fnQ (X34 n).E.T (resOf Proofs.Tryz.prog 34) (eI o)))) := by
     intro kx174
     induction kx174 with
     | zero => intro v172  ox173 h; exact (iter_zero h).elim
     | succ kx174 ihx176 =>
      intro v172  ox173 h nx175 hnx179 hrx177 hxx178
      obtain ⟨nx175, rfl⟩ : ∃ q, nx175 = q + 1 := ⟨nx175 - 1, by omega⟩
      obtain ⟨sx180, h, hsx181⟩ := iter_some h
      have h : f34_B8 m a0 v1 v172 = some sx180 := h
      unfold f34_B8 at h
      refine Lp.succ (Wp.sq (Wp.rg (Ops.sg 1 1 (Ops.dn (seqQ.n (Wp.sq ?_))))))
      refine Wp.cd h k34_1 2 (fun h => ?_) (fun h => ?_)
      ·refine Wp.sk (sqQ.n' (seqQ.n (Wp.sq (Wp.bk 3 k34_1 2 (Wp.sq (Wp.rg ?_))))))
       obtain ⟨v182, ev182, h⟩ := bnd_some h
       refine Ops.on 1 (fun h0 e0 => (ix_r (T := T) h0 54 58 5 .plain e57 v1.fItems v172 v182 ev182 (by kernel_rfl) (by kernel_rfl) (fun _ => rfl))) ?_
       refine Ops.sg 3 4 (Ops.dn (seqQ.n (Wp.sq (Wp.sq (Wp.rg (Ops.sg 4 4 ?_))))))
       refine Ops.hv (fun KQ => ∀ (d185 d186 d187 d188 : D) (v189 v190 : Bool), f34_r7 m a0 v172 v182 v190 = some sx180 → KQ 9 ⟨Zs6 v1.fItems (v1.fItems.length : Int) v172 ((dB (decide (v172 < (v1.fItems.length : Int))))::(.vptr [(.str v182.fBase), (.str v182.fForm), (vP eS v182.fTags), (vI v182.fNext), (vI v182.fWeight)])::(.v (.agg [(.str v182.fBase), (.str v182.fForm), (vP eS v182.fTags), (vI v182.fNext), (vI v182.fWeight)]))::(.ptr 2 0)::(.v (.str v182.fBase))::(dB v189)::(dB v189)::d185::d186::d187::d188::(dB v190)::q40 (q8 [])), [(b34_0 a0), (b34_1 v1), (b34_2 v182)]⟩) ?_ fun J34j191 => ?_
       ·intro d185 d186 d187 d188 v189 v190 h
        unfold f34_r7 at h
        refine Ops.sg 1 10 ?_
        refine Ops.hv (fun KQ => ∀ (d194 d195 d196 d197 d198 d199 d200 d201 d202 : D) (v203 v204 : Bool), f34_r6 m a0 v172 v182 v204 = some sx180 → KQ 20 ⟨Zs6 v1.fItems (v1.fItems.length : Int) v172 ((dB (decide (v172 < (v1.fItems.length : Int))))::(.vptr [(.str v182.fBase), (.str v182.fForm), (vP eS v182.fTags), (vI v182.fNext), (vI v182.fWeight)])::(.v (.agg [(.str v182.fBase), (.str v182.fForm), (vP eS v182.fTags), (vI v182.fNext), (vI v182.fWeight)]))::(.ptr 2 0)::(.v (.str v182.fBase))::(dB v189)::(dB v189)::d185::d186::d187::d188::(dB v203)::(dB v203)::d194::d195::d196::d197::d198::d199::d200::d201::d202::(dB v204)::q37 []), [(b34_0 a0), (b34_1 v1), (b34_2 v182)]⟩) ?_ fun J34j205 => ?_
        ·intro d194 d195 d196 d197 d198 d199 d200 d201 d202 v203 v204 h
         unfold f34_r6 at h
         refine Ops.dn (seqQ.n ?_)
         refine Wp.cd h [2, 4, 9, 41, 42, 43] 3 (fun h => ?_) (fun h => ?_)
         ·refine Wp.sq (Wp.rg (Ops.sg 1 1 (Ops.dn (seqQ.n (Wp.rt (sqQ.r (seqQ.r (blkQ.r (seqQ.r ?_)))))))))
          cases h
          refine lpQ.r (blkQ.r ?_)
          exact hrx177 _ hsx181 _ (RetOk.forget k34_1 (by kernel_rfl) (RetOk.mk' (dI 5) (by kernel_rfl) (by kernel_rfl)))
         ·refine Wp.sk (sqQ.n' (seqQ.n (Wp.sq (Wp.sq (Wp.rg (Ops.sg 2 2 ?_))))))
          refine Ops.on 3 (fun h0 e0 => (len_r (T := T) h0 39 9 .plain eS v182.fTags (by kernel_rfl))) ?_
          refine Ops.sg 1 4 (Ops.dn (seqQ.n ?_))
          refine Wp.cd h [2, 4, 9, 41, 42, 43] 3 (fun h => ?_) (fun h => ?_)
          ·refine Wp.sq (Wp.rg (Ops.sg 1 1 (Ops.dn (seqQ.n (Wp.rt (sqQ.r (seqQ.r (blkQ.r (seqQ.r ?_)))))))))
           cases h
           refine lpQ.r (blkQ.r ?_)
           exact hrx177 _ hsx181 _ (RetOk.forget k34_1 (by kernel_rfl) (RetOk.mk' (dI 2) (by kernel_rfl) (by kernel_rfl)))
          ·refine Wp.sk (sqQ.n' (seqQ.n (Wp.sq (Wp.sq (Wp.rg (Ops.sg 2 2 ?_))))))
           refine Ops.on 3 (fun h0 e0 => (len_r (T := T) h0 39 9 .plain eS v182.fTags (by kernel_rfl))) ?_
           refine Ops.sg 1 4 (Ops.dn (seqQ.n (Wp.bk 4 [2, 4, 9, 41, 42, 43] 3 ?_)))
           have hLx223 : ∀ (kx213 : Nat) (v211 : Int)  (ox212 : Int ⊕ (Int)), iter (fun (y : Int) => f34_B2 m v182 y) kx213 v211 = some ox212 → ∀ nx214, kx213 ≤ nx214 → (∀ r, ox212 = .inl r → ∀ σ, RetOk (X34 n) (resOf Proofs.Tryz.prog 34) (eI r) σ → (seqQ (X34 n) p34_3 (blkQ (X34 n) 3 k34_1 2 (seqQ (X34 n) p34_2 (lpQ (X34 n) k34_1 2 p34_1 nx175 (blkQ (X34 n) 2 [4] 2 (seqQ (X34 n) p34_0 (fnQ (X34 n).E.T (resOf Proofs.Tryz.prog 34) (eI o)))))))) .ret σ) → (∀ (y : Int) , ox212 = .inr y → (seqQ (X34 n) p34_3 (blkQ (X34 n) 3 k34_1 2 (seqQ (X34 n) p34_2 (lpQ (X34 n) k34_1 2 p34_1 nx175 (blkQ (X34 n) 2 [4] 2 (seqQ (X34 n) p34_0 (fnQ (X34 n).E.T (resOf Proofs.Tryz.prog 34) (eI o)))))))) .normal ⟨Zs6 v1.fItems (v1.fItems.length : Int) v172 (q28 ((dP eS v182.fTags)::(dI (v182.fTags.length : Int))::(dI y)::q29 [])), [(b34_0 a0), (b34_1 v1), (b34_2 v182)]⟩) → Lp (X34 n) k34_2 3 p34_4 nx214 ⟨Zs6 v1.fItems (v1.fItems.length : Int) v172 (q28 ((dP eS v182.fTags)::(dI (v182.fTags.length : Int))::(dI v211)::q29 [])), [(b34_0 a0), (b34_1 v1), (b34_2 v182)]⟩ (blkQ (X34 n) 4 [2, 4, 9, 41, 42, 43] 3 (seqQ (X34 n) p34_3 (blkQ (X34 n) 3 k34_1 2 (seqQ (X34 n) p34_2 (lpQ (X34 n) k34_1 2 p34_1 nx175 (blkQ (X34 n) 2 [4] 2 (seqQ (X34 n) p34_0 (fnQ (X34 n).E.T (resOf Proofs.Tryz.prog 34) (eI o))))))))) := by
            intro kx213
            induction kx213 with
            | zero => intro v211  ox212 h; exact (iter_zero h).elim
            | succ kx213 ihx215 =>
             intro v211  ox212 h nx214 hnx218 hrx216 hxx217
             obtain ⟨nx214, rfl⟩ : ∃ q, nx214 = q + 1 := ⟨nx214 - 1, by omega⟩
             obtain ⟨sx219, h, hsx220⟩ := iter_some h
             have h : f34_B2 m v182 v211 = some sx219 := h
             unfold f34_B2 at h
             refine Lp.succ (Wp.sq (Wp.rg (Ops.sg 1 1 (Ops.dn (seqQ.n (Wp.sq ?_))))))
             refine Wp.cd h k34_2 3 (fun h => ?_) (fun h => ?_)
             ·refine Wp.sk (sqQ.n' (seqQ.n (Wp.sq (Wp.bk 5 k34_2 3 (Wp.sq (Wp.rg ?_))))))
              obtain ⟨v221, ev221, h⟩ := bnd_some h
              refine Ops.on 1 (fun h0 e0 => (ix_r (T := T) h0 39 9 1 .plain eS v182.fTags v211 v221 ev221 (by kernel_rfl) (by kernel_rfl) (fun _ => rfl))) ?_
              refine Ops.sg 2 3 (Ops.dn (seqQ.n (Wp.sq (Wp.rg (Ops.sg 1 1 ?_)))))
              obtain ⟨v222, ev222, h⟩ := bnd_some h
              refine Ops.on 2 (fun h0 e0 => (call_ok (E' := E) (h := h0) (by kernel_rfl) (Args.v (.str v221) (eS v221) (by kernel_rfl) Args.nil) (ok53 m v221 v222 ev222 n (by omega)))) ?_
              refine Ops.sg 1 3 (Ops.dn (seqQ.n ?_))
              refine Wp.cd h k34_2 3 (fun h => ?_) (fun h => ?_)
              ·refine Wp.sq (Wp.rg (Ops.sg 1 1 (Ops.dn (seqQ.n (Wp.rt (sqQ.r (blkQ.r (seqQ.r ?_))))))))
               cases h
               refine lpQ.r (blkQ.r ?_)
               exact hrx216 _ hsx220 _ (RetOk.forget k34_2 (by kernel_rfl) (RetOk.mk' (dI 10) (by kernel_rfl) (by kernel_rfl)))
              ·refine Wp.sk (sqQ.n' (blkQ.n' (seqQ.n (Wp.rg (Ops.sg 2 2 (Ops.dn (lpQ.m ⟨Zs6 v1.fItems (v1.fItems.length : Int) v172 (q28 ((dP eS v182.fTags)::(dI (v182.fTags.length : Int))::(dI (w64 (v211 + 1)))::q29 [])), [(b34_0 a0), (b34_1 v1), (b34_2 v182)]⟩ ?_)))))))
               cases h
               exact ihx215 (w64 (v211 + 1))  _ hsx220 _ (by omega) hrx216 hxx217
             ·refine Wp.ex 4 (sqQ.x (seqQ.x ?_))
              cases h
              refine lpQ.x (blkQ.w ⟨Zs6 v1.fItems (v1.fItems.length : Int) v172 (q28 ((dP eS v182.fTags)::(dI (v182.fTags.length : Int))::(dI v211)::q29 [])), [(b34_0 a0), (b34_1 v1), (b34_2 v182)]⟩ ?_)
              exact hxx217 v211  hsx220
           refine Wp.loop' k34_2 3 (by kernel_rfl) ⟨Zs6 v1.fItems (v1.fItems.length : Int) v172 (q28 ((dP eS v182.fTags)::(dI (v182.fTags.length : Int))::(dI 0)::q29 [])), [(b34_0 a0), (b34_1 v1), (b34_2 v182)]⟩ (by kernel_rfl) ?_
           rcases brk_some h with ⟨r225, er225, h⟩ | ⟨y224, ey224, h⟩
           ·refine hLx223 _ 0  _ er225 n (by omega) (fun r er σ hσ => ?_) (fun y  ey => by cases ey)
            cases er
            refine seqQ.r (blkQ.r (seqQ.r (lpQ.r ?_)))
            cases h
            refine blkQ.r ?_
            exact hrx177 _ hsx181 _ (RetOk.forget k34_1 (by kernel_rfl) hσ)
           ·refine hLx223 _ 0  _ ey224 n (by omega) (fun r er => by cases er) (fun y  ey => ?_)
            cases ey
            refine seqQ.n (Wp.sq (Wp.rg (Ops.sg 4 4 ?_)))
            refine Ops.hv (fun KQ => ∀ (d228 d229 d230 d231 d232 d233 : D) (v234 v235 : Bool), f34_r5 m v172 v182 v235 = some sx180 → KQ 11 ⟨Zs6 v1.fItems (v1.fItems.length : Int) v172 (q28 ((dP eS v182.fTags)::(dI (v182.fTags.length : Int))::(dI y224)::q7 ((.ptr 2 3)::(dI v182.fNext)::(dB v234)::(dB v234)::d228::d229::d230::d231::d232::d233::(dB v235)::q11 []))), [(b34_0 a0), (b34_1 v1), (b34_2 v182)]⟩) ?_ fun J34j236 => ?_
            ·intro d228 d229 d230 d231 d232 d233 v234 v235 h
             unfold f34_r5 at h
             refine Ops.sg 1 12 ?_
             refine Ops.hv (fun KQ => ∀ (d239 d240 d241 : D) (v242 v243 : Bool), f34_r4 m v172 v182 v243 = some sx180 → KQ 16 ⟨Zs6 v1.fItems (v1.fItems.length : Int) v172 (q28 ((dP eS v182.fTags)::(dI (v182.fTags.length : Int))::(dI y224)::q7 ((.ptr 2 3)::(dI v182.fNext)::(dB v234)::(dB v234)::d228::d229::d230::d231::d232::d233::(dB v242)::(dB v242)::d239::d240::d241::(dB v243)::q6 []))), [(b34_0 a0), (b34_1 v1), (b34_2 v182)]⟩) ?_ fun J34j244 => ?_
             ·intro d239 d240 d241 v242 v243 h
              unfold f34_r4 at h
              refine Ops.sg 1 17 ?_
              refine Ops.hv (fun KQ => ∀ (d247 d248 d249 : D) (v250 v251 : Bool), f34_r3 m v172 v251 = some sx180 → KQ 21 ⟨Zs6 v1.fItems (v1.fItems.length : Int) v172 (q28 ((dP eS v182.fTags)::(dI (v182.fTags.length : Int))::(dI y224)::q7 ((.ptr 2 3)::(dI v182.fNext)::(dB v234)::(dB v234)::d228::d229::d230::d231::d232::d233::(dB v242)::(dB v242)::d239::d240::d241::(dB v250)::(dB v250)::d247::d248::d249::(dB v251)::q1 []))), [(b34_0 a0), (b34_1 v1), (b34_2 v182)]⟩) ?_ fun J34j252 => ?_
              ·intro d247 d248 d249 v250 v251 h
               unfold f34_r3 at h
               refine Ops.dn (seqQ.n ?_)
               refine Wp.cd h k34_1 3 (fun h => ?_) (fun h => ?_)
               ·refine Wp.sq (Wp.rg (Ops.sg 1 1 (Ops.dn (seqQ.n (Wp.rt (sqQ.r (blkQ.r (seqQ.r ?_))))))))
                cases h
                refine lpQ.r (blkQ.r ?_)
                exact hrx177 _ hsx181 _ (RetOk.forget k34_1 (by kernel_rfl) (RetOk.mk' (dI 3) (by kernel_rfl) (by kernel_rfl)))
               ·refine Wp.sk (sqQ.n' (blkQ.n' (seqQ.n (Wp.rg (Ops.sg 2 2 (Ops.dn (lpQ.m ⟨Zs25 v1.fItems (v1.fItems.length : Int) ((dI (w64 (v172 + 1)))::q40 (q20 [])), [(b34_0 a0), (b34_1 v1)]⟩ ?_)))))))
                cases h
                exact ihx176 (w64 (v172 + 1))  _ hsx181 _ (by omega) hrx177 hxx178
              refine Ops.hv (fun KQ => ∀ v245 : Bool, f34_r3 m v172 (v245 || (decide (v182.fWeight > 1000000))) = some sx180 → KQ 17 ⟨Zs6 v1.fItems (v1.fItems.length : Int) v172 (q28 ((dP eS v182.fTags)::(dI (v182.fTags.length : Int))::(dI y224)::q7 ((.ptr 2 3)::(dI v182.fNext)::(dB v234)::(dB v234)::d228::d229::d230::d231::d232::d233::(dB v242)::(dB v242)::d239::d240::d241::(dB v245)::(dB v245)::q5 []))), [(b34_0 a0), (b34_1 v1), (b34_2 v182)]⟩) ?_ fun G34g246 => Ops.sx (G34g246 v243 h)
              intro v245 h
              cases v245
              ·refine Ops.sg 4 21 ?_
               exact Ops.sx (J34j252 (.ptr 2 4) (dI v182.fWeight) (dB (decide (v182.fWeight > 1000000))) false (decide (v182.fWeight > 1000000)) h)
              ·refine Ops.sg 4 21 ?_
               exact Ops.sx (J34j252 U U U true true h)
             refine Ops.hv (fun KQ => ∀ v237 : Bool, f34_r4 m v172 v182 (v237 || (decide (v182.fWeight < 0))) = some sx180 → KQ 12 ⟨Zs6 v1.fItems (v1.fItems.length : Int) v172 (q28 ((dP eS v182.fTags)::(dI (v182.fTags.length : Int))::(dI y224)::q7 ((.ptr 2 3)::(dI v182.fNext)::(dB v234)::(dB v234)::d228::d229::d230::d231::d232::d233::(dB v237)::(dB v237)::q10 []))), [(b34_0 a0), (b34_1 v1), (b34_2 v182)]⟩) ?_ fun G34g238 => Ops.sx (G34g238 v235 h)
             intro v237 h
             cases v237
             ·refine Ops.sg 4 16 ?_
              exact Ops.sx (J34j244 (.ptr 2 4) (dI v182.fWeight) (dB (decide (v182.fWeight < 0))) false (decide (v182.fWeight < 0)) h)
             ·refine Ops.sg 4 16 ?_
              exact Ops.sx (J34j244 U U U true true h)
            refine Ops.hv (fun KQ => ∀ v226 : Bool, f34_r5 m v172 v182 (v226 || (decide (v182.fNext ≥ (a0.fClasses.length : Int)))) = some sx180 → KQ 4 ⟨Zs6 v1.fItems (v1.fItems.length : Int) v172 (q28 ((dP eS v182.fTags)::(dI (v182.fTags.length : Int))::(dI y224)::q7 ((.ptr 2 3)::(dI v182.fNext)::(dB v226)::(dB v226)::q18 []))), [(b34_0 a0), (b34_1 v1), (b34_2 v182)]⟩) ?_ fun G34g227 => Ops.sx (G34g227 (decide (v182.fNext < (-1))) h)
            intro v226 h
            cases v226
            ·refine Ops.sg 4 8 ?_
             refine Ops.on 9 (fun h0 e0 => (len_r (T := T) h0 22 56 .plain e55 a0.fClasses (by kernel_rfl))) ?_
             refine Ops.sg 2 11 ?_
             exact Ops.sx (J34j236 (.ptr 2 3) (dI v182.fNext) (.ptr 0 0) (dP e55 a0.fClasses) (dI (a0.fClasses.length : Int)) (dB (decide (v182.fNext ≥ (a0.fClasses.length : Int)))) false (decide (v182.fNext ≥ (a0.fClasses.length : Int))) h)
            ·refine Ops.sg 7 11 ?_
             exact Ops.sx (J34j236 U U U U U U true true h)
        obtain ⟨v204, ev204, h⟩ := bnd_some h
        refine Ops.hv (fun KQ => ∀ v192 : Bool, (cnd v192 (some true) (cnd (!(v182.fForm.toList == (⟨#[]⟩ : ByteArray).toList)) (bnd (f54 m v182.fForm) fun v255 => some (!v255)) (some false))) = some v204 → KQ 10 ⟨Zs6 v1.fItems (v1.fItems.length : Int) v172 ((dB (decide (v172 < (v1.fItems.length : Int))))::(.vptr [(.str v182.fBase), (.str v182.fForm), (vP eS v182.fTags), (vI v182.fNext), (vI v182.fWeight)])::(.v (.agg [(.str v182.fBase), (.str v182.fForm), (vP eS v182.fTags), (vI v182.fNext), (vI v182.fWeight)]))::(.ptr 2 0)::(.v (.str v182.fBase))::(dB v189)::(dB v189)::d185::d186::d187::d188::(dB v192)::(dB v192)::q40 (q7 [])), [(b34_0 a0), (b34_1 v1), (b34_2 v182)]⟩) ?_ fun G34g193 => Ops.sx (G34g193 v190 ev204)
        intro v192 ev204
        cases v192
        ·have ev204 := cnd_f ev204
         refine Ops.sg 4 14 ?_
         refine Ops.hv (fun KQ => ∀ v253 : Bool, (cnd v253 (bnd (f54 m v182.fForm) fun v255 => some (!v255)) (some false)) = some v204 → KQ 14 ⟨Zs6 v1.fItems (v1.fItems.length : Int) v172 ((dB (decide (v172 < (v1.fItems.length : Int))))::(.vptr [(.str v182.fBase), (.str v182.fForm), (vP eS v182.fTags), (vI v182.fNext), (vI v182.fWeight)])::(.v (.agg [(.str v182.fBase), (.str v182.fForm), (vP eS v182.fTags), (vI v182.fNext), (vI v182.fWeight)]))::(.ptr 2 0)::(.v (.str v182.fBase))::(dB v189)::(dB v189)::d185::d186::d187::d188::(dB false)::(dB false)::(.ptr 2 1)::(.v (.str v182.fForm))::(dB v253)::(dB v253)::q40 (q3 [])), [(b34_0 a0), (b34_1 v1), (b34_2 v182)]⟩) ?_ fun G34g254 => Ops.sx (G34g254 (!(v182.fForm.toList == (⟨#[]⟩ : ByteArray).toList)) ev204)
         intro v253 ev204
         cases v253
         ·have ev204 := cnd_f ev204
          refine Ops.sg 6 20 ?_
          exact Ops.sx (J34j205 (.ptr 2 1) (.v (.str v182.fForm)) (dB false) (dB false) U U U U (dB false) false false (some_sub (fun v204 => f34_r6 m a0 v172 v182 v204 = some sx180) ev204 h))
         ·have ev204 := cnd_t ev204
          refine Ops.sg 2 16 ?_
          obtain ⟨v255, ev255, ev204⟩ := bnd_some ev204
          refine Ops.on 17 (fun h0 e0 => (call_ok (E' := E) (h := h0) (by kernel_rfl) (Args.v (.str v182.fForm) (eS v182.fForm) (by kernel_rfl) Args.nil) (ok54 m v182.fForm v255 ev255 n (by omega)))) ?_
          refine Ops.sg 3 20 ?_
          exact Ops.sx (J34j205 (.ptr 2 1) (.v (.str v182.fForm)) (dB true) (dB true) (.ptr 2 1) (.v (.str v182.fForm)) (dB v255) (dB (!v255)) (dB (!v255)) false (!v255) (some_sub (fun v204 => f34_r6 m a0 v172 v182 v204 = some sx180) ev204 h))
        ·have ev204 := cnd_t ev204
         refine Ops.sg 10 20 ?_
         exact Ops.sx (J34j205 U U U U U U U U U true true (some_sub (fun v204 => f34_r6 m a0 v172 v182 v204 = some sx180) ev204 h))
       obtain ⟨v190, ev190, h⟩ := bnd_some h
       refine Ops.hv (fun KQ => ∀ v183 : Bool, (cnd v183 (bnd (f54 m v182.fBase) fun v256 => some (!v256)) (some false)) = some v190 → KQ 4 ⟨Zs6 v1.fItems (v1.fItems.length : Int) v172 ((dB (decide (v172 < (v1.fItems.length : Int))))::(.vptr [(.str v182.fBase), (.str v182.fForm), (vP eS v182.fTags), (vI v182.fNext), (vI v182.fWeight)])::(.v (.agg [(.str v182.fBase), (.str v182.fForm), (vP eS v182.fTags), (vI v182.fNext), (vI v182.fWeight)]))::(.ptr 2 0)::(.v (.str v182.fBase))::(dB v183)::(dB v183)::q40 (q13 [])), [(b34_0 a0), (b34_1 v1), (b34_2 v182)]⟩) ?_ fun G34g184 => Ops.sx (G34g184 (!(v182.fBase.toList == (⟨#[]⟩ : ByteArray).toList)) ev190)
       intro v183 ev190
       cases v183
       ·have ev190 := cnd_f ev190
        refine Ops.sg 5 9 ?_
        exact Ops.sx (J34j191 U U U U false false (some_sub (fun v190 => f34_r7 m a0 v172 v182 v190 = some sx180) ev190 h))
       ·have ev190 := cnd_t ev190
        refine Ops.sg 2 6 ?_
        obtain ⟨v256, ev256, ev190⟩ := bnd_some ev190
        refine Ops.on 7 (fun h0 e0 => (call_ok (E' := E) (h := h0) (by kernel_rfl) (Args.v (.str v182.fBase) (eS v182.fBase) (by kernel_rfl) Args.nil) (ok54 m v182.fBase v256 ev256 n (by omega)))) ?_
        refine Ops.sg 2 9 ?_
        exact Ops.sx (J34j191 (.ptr 2 0) (.v (.str v182.fBase)) (dB v256) (dB (!v256)) true (!v256) (some_sub (fun v190 => f34_r7 m a0 v172 v182 v190 = some sx180) ev190 h))
      ·refine Wp.ex 2 (sqQ.x (seqQ.x ?_))
       cases h
       refine lpQ.x (blkQ.w ⟨Zs25 v1.fItems (v1.fItems.length : Int) ((dI v172)::q40 (q20 [])), [(b34_0 a0), (b34_1 v1)]⟩ ?_)
       exact hxx178 v172  hsx181
    refine Wp.loop' k34_1 2 (by kernel_rfl) ⟨Zs25 v1.fItems (v1.fItems.length : Int) ((dI 0)::q40 (q20 [])), [(b34_0 a0), (b34_1 v1)]⟩ (by kernel_rfl) ?_
    rcases brk_some h with ⟨r259, er259, h⟩ | ⟨y258, ey258, h⟩
    ·refine hLx257 _ 0  _ er259 n (by omega) (fun r er σ hσ => ?_) (fun y  ey => by cases ey)
     cases er
     refine seqQ.r ?_
     exact fnQ.r' (X34 n) (fun z => (eI z)) h hσ
    ·refine hLx257 _ 0  _ ey258 n (by omega) (fun r er => by cases er) (fun y  ey => ?_)
     cases ey
     refine seqQ.n (Wp.sq (Wp.rg (Ops.sg 1 1 (Ops.dn (seqQ.n (Wp.rt ?_))))))
     exact fnQ.r' (X34 n) (fun z => (eI z)) h (RetOk.mk' (dI 0) (by kernel_rfl) (by kernel_rfl))
def f14_B1 (m : Nat) (a0 : S23) (v16 : Int) : Option (Stp S31 (Int)) :=
 cnd (decide (v16 < (a0.fClasses.length : Int)))
 (bnd (f34 m a0 v16) fun v26 =>
 cnd (v26 != 0)
 (bnd (f18 m v26 v16) fun v27 =>
 some (.ret v27))
 (some (.nxt (w64 (v16 + 1)))))
 (some (.brk v16))
def f14_r2 (m : Nat) (a0 : S23) (v8 : Bool) : Option S31 :=
 cnd v8
 (bnd (f18 m 9 (-1)) fun v10 =>
 some v10)
 (brk (iter (fun (y : Int) => f14_B1 m a0 y) m 0) some fun y29 =>
 some ((⟨0, 0⟩ : S31)))
def f14 (m : Nat) (a0 : S23) : Option S31 :=
 f14_r2 m a0 ((decide ((a0.fClasses.length : Int) < 1)) || (decide ((a0.fClasses.length : Int) > 40)))
noncomputable abbrev X14 (n : Nat) : Cx := cxOf Proofs.Tryz.prog E 14 n
noncomputable def C14 : Code := bodyOf Proofs.Tryz.prog 14
abbrev b14_0 (w0 : S23) : AObj := .cells [(dP e55 w0.fClasses)]
theorem ok14 (m : Nat) (a0 : S23) (o : S31) (h : f14 m a0 = some o) (n : Nat) (hn : m + 5 ≤ n) : Fn Proofs.Tryz.prog E n 14 [.v (e23 a0)] (e31 o) := by
 obtain ⟨n, rfl⟩ : ∃ q, n = q + 1 := ⟨n - 1, by omega⟩
 unfold f14 at h
 refine Fn.of (by kernel_rfl) (by kernel_rfl) (by kernel_rfl) ⟨(.v (.agg [(vP e55 a0.fClasses)]))::u31 [], []⟩ (by kernel_rfl) (Wp.sq (Wp.rg (Ops.sg 2 2 (Ops.dn (seqQ.n (Wp.sq (Wp.sq (Wp.rg (Ops.sg 2 2 ?_)))))))))
 refine Ops.on 3 (fun h0 e0 => (len_r (T := T) h0 22 56 .plain e55 a0.fClasses (by kernel_rfl))) ?_
 refine Ops.sg 2 5 ?_
 refine Ops.hv (fun KQ => ∀ (d3 d4 d5 d6 : D) (v7 v8 : Bool), f14_r2 m a0 v8 = some o → KQ 10 ⟨(.v (.agg [(vP e55 a0.fClasses)]))::(.ptr 0 0)::(.ptr 1 0)::u2 ((.ptr 0 0)::(dP e55 a0.fClasses)::(dI (a0.fClasses.length : Int))::(dB v7)::(dB v7)::d3::d4::d5::d6::(dB v8)::u17 []), [(b14_0 a0), (.cells [(dI 0), (dI 0)])]⟩) ?_ fun J14j9 => ?_
 ·intro d3 d4 d5 d6 v7 v8 h
  unfold f14_r2 at h
  refine Ops.dn (seqQ.n ?_)
  refine Wp.cd h [1, 2] 2 (fun h => ?_) (fun h => ?_)
  ·refine Wp.sq (Wp.rg ?_)
   obtain ⟨v10, ev10, h⟩ := bnd_some h
   refine Ops.on 1 (fun h0 e0 => (call_ok (E' := E) (h := h0) (by kernel_rfl) (Args.v (vI 9) (eI 9) (by kernel_rfl) (Args.v (vI (-1)) (eI (-1)) (by kernel_rfl) Args.nil)) (ok18 m 9 (-1) v10 ev10 n (by omega)))) ?_
   refine Ops.sg 1 2 (Ops.dn (seqQ.n (Wp.rt (sqQ.r (seqQ.r ?_)))))
   exact fnQ.r' (X14 n) (fun z => (e31 z)) h (RetOk.mk' (.v (.agg [(vI v10.fCode), (vI v10.fIndex)])) (by kernel_rfl) (by kernel_rfl))
  ·refine Wp.sk (sqQ.n' (seqQ.n (Wp.sq (Wp.sq (Wp.rg (Ops.sg 2 2 ?_))))))
   refine Ops.on 3 (fun h0 e0 => (len_r (T := T) h0 22 56 .plain e55 a0.fClasses (by kernel_rfl))) ?_
   refine Ops.sg 1 4 (Ops.dn (seqQ.n (Wp.bk 0 [2] 2 ?_)))
   have hLx28 : ∀ (kx18 : Nat) (v16 : Int)  (ox17 : S31 ⊕ (Int)), iter (fun (y : Int) => f14_B1 m a0 y) kx18 v16 = some ox17 → ∀ nx19, kx18 ≤ nx19 → (∀ r, ox17 = .inl r → ∀ σ, RetOk (X14 n) (resOf Proofs.Tryz.prog 14) (e31 r) σ → (seqQ (X14 n) (cR (cR (cR C14))) (fnQ (X14 n).E.T (resOf Proofs.Tryz.prog 14) (e31 o))) .ret σ) → (∀ (y : Int) , ox17 = .inr y → (seqQ (X14 n) (cR (cR (cR C14))) (fnQ (X14 n).E.T (resOf Proofs.Tryz.prog 14) (e31 o))) .normal ⟨Zs17 (q15 ((dI (a0.fClasses.length : Int))::(dI y)::q12 [])), [(b14_0 a0), (.cells [(dI 0), (dI 0)])]⟩) → Lp (X14 n) [1, 2, 18, 19] 2 (cL (cL (cR (cL (cR (cR C14)))))) nx19 ⟨Zs17 (q15 ((dI (a0.fClasses.length : Int))::(dI v16)::q12 [])), [(b14_0 a0), (.cells [(dI 0), (dI 0)])]⟩ (blkQ (X14 n) 0 [2] 2 (seqQ (X14 n) (cR (cR (cR C14))) (fnQ (X14 n).E.T (resOf Proofs.Tryz.prog 14) (e31 o)))) := by
    intro kx18
    induction kx18 with
    | zero => intro v16  ox17 h; exact (iter_zero h).elim
    | succ kx18 ihx20 =>
     intro v16  ox17 h nx19 hnx23 hrx21 hxx22
     obtain ⟨nx19, rfl⟩ : ∃ q, nx19 = q + 1 := ⟨nx19 - 1, by omega⟩
     obtain ⟨sx24, h, hsx25⟩ := iter_some h
     have h : f14_B1 m a0 v16 = some sx24 := h
     unfold f14_B1 at h
     refine Lp.succ (Wp.sq (Wp.rg (Ops.sg 1 1 (Ops.dn (seqQ.n (Wp.sq ?_))))))
     refine Wp.cd h [1, 2, 18, 19] 2 (fun h => ?_) (fun h => ?_)
     ·refine Wp.sk (sqQ.n' (seqQ.n (Wp.sq (Wp.bk 1 [1, 2, 18, 19] 2 (Wp.sq (Wp.rg (Ops.sg 2 2 (Ops.dn (seqQ.n (Wp.sq (Wp.rg (Ops.sg 2 2 ?_))))))))))))
      obtain ⟨v26, ev26, h⟩ := bnd_some h
      refine Ops.on 3 (fun h0 e0 => (call_ok (E' := E) (h := h0) (by kernel_rfl) (Args.v (.agg [(vP e55 a0.fClasses)]) (e23 a0) (by kernel_rfl) (Args.v (vI v16) (eI v16) (by kernel_rfl) Args.nil)) (ok34 m a0 v16 v26 ev26 n (by omega)))) ?_
      refine Ops.sg 1 4 (Ops.dn (seqQ.n (Wp.sq (Wp.rg (Ops.sg 2 2 (Ops.dn (seqQ.n ?_)))))))
      refine Wp.cd h [1, 2, 18, 19] 2 (fun h => ?_) (fun h => ?_)
      ·refine Wp.sq (Wp.rg (Ops.sg 2 2 ?_))
       obtain ⟨v27, ev27, h⟩ := bnd_some h
       refine Ops.on 3 (fun h0 e0 => (call_ok (E' := E) (h := h0) (by kernel_rfl) (Args.v (vI v26) (eI v26) (by kernel_rfl) (Args.v (vI v16) (eI v16) (by kernel_rfl) Args.nil)) (ok18 m v26 v16 v27 ev27 n (by omega)))) ?_
       refine Ops.sg 1 4 (Ops.dn (seqQ.n (Wp.rt (sqQ.r (blkQ.r (seqQ.r ?_))))))
       cases h
       refine lpQ.r (blkQ.r ?_)
       exact hrx21 _ hsx25 _ (RetOk.forget [1, 2, 18, 19] (by kernel_rfl) (RetOk.mk' (.v (.agg [(vI v27.fCode), (vI v27.fIndex)])) (by kernel_rfl) (by kernel_rfl)))
      ·refine Wp.sk (sqQ.n' (blkQ.n' (seqQ.n (Wp.rg (Ops.sg 2 2 (Ops.dn (lpQ.m ⟨Zs17 (q15 ((dI (a0.fClasses.length : Int))::(dI (w64 (v16 + 1)))::q12 [])), [(b14_0 a0), (.cells [(dI 0), (dI 0)])]⟩ ?_)))))))
       cases h
       exact ihx20 (w64 (v16 + 1))  _ hsx25 _ (by omega) hrx21 hxx22
     ·refine Wp.ex 0 (sqQ.x (seqQ.x ?_))
      cases h
      refine lpQ.x (blkQ.w ⟨Zs17 (q15 ((dI (a0.fClasses.length : Int))::(dI v16)::q12 [])), [(b14_0 a0), (.cells [(dI 0), (dI 0)])]⟩ ?_)
      exact hxx22 v16  hsx25
   refine Wp.loop' [1, 2, 18, 19] 2 (by kernel_rfl) ⟨Zs17 (q15 ((dI (a0.fClasses.length : Int))::(dI 0)::q12 [])), [(b14_0 a0), (.cells [(dI 0), (dI 0)])]⟩ (by kernel_rfl) ?_
   rcases brk_some h with ⟨r30, er30, h⟩ | ⟨y29, ey29, h⟩
   ·refine hLx28 _ 0  _ er30 n (by omega) (fun r er σ hσ => ?_) (fun y  ey => by cases ey)
    cases er
    refine seqQ.r ?_
    exact fnQ.r' (X14 n) (fun z => (e31 z)) h hσ
   ·refine hLx28 _ 0  _ ey29 n (by omega) (fun r er => by cases er) (fun y  ey => ?_)
    cases ey
    refine seqQ.n (Wp.sq (Wp.rg (Ops.sg 2 2 (Ops.dn (seqQ.n (Wp.rt ?_))))))
    exact fnQ.r' (X14 n) (fun z => (e31 z)) h (RetOk.mk' (.v (.agg [(vI 0), (vI 0)])) (by kernel_rfl) (by kernel_rfl))
 refine Ops.hv (fun KQ => ∀ v1 : Bool, f14_r2 m a0 (v1 || (decide ((a0.fClasses.length : Int) > 40))) = some o → KQ 5 ⟨(.v (.agg [(vP e55 a0.fClasses)]))::(.ptr 0 0)::(.ptr 1 0)::u2 ((.ptr 0 0)::(dP e55 a0.fClasses)::(dI (a0.fClasses.length : Int))::(dB v1)::(dB v1)::u22 []), [(b14_0 a0), (.cells [(dI 0), (dI 0)])]⟩) ?_ fun G14g2 => Ops.sx (G14g2 (decide ((a0.fClasses.length : Int) < 1)) h)
 intro v1 h
 cases v1
 ·refine Ops.sg 2 7 ?_
  refine Ops.on 8 (fun h0 e0 => (len_r (T := T) h0 22 56 .plain e55 a0.fClasses (by kernel_rfl))) ?_
  refine Ops.sg 2 10 ?_
  exact Ops.sx (J14j9 (.ptr 0 0) (dP e55 a0.fClasses) (dI (a0.fClasses.length : Int)) (dB (decide ((a0.fClasses.length : Int) > 40))) false (decide ((a0.fClasses.length : Int) > 40)) h)
 ·refine Ops.sg 5 10 ?_
  exact Ops.sx (J14j9 U U U U true true h)
def f48_B1 (m : Nat) (a0 : (List (List ByteArray))) (v5 v6 : Int) : Option (Stp (List ByteArray) (Int × Int)) :=
 cnd (decide (v6 < (a0.length : Int)))
 (bnd (idx a0 v6) fun v16 =>
 cnd (decide (w64 (v5 + (v16.length : Int)) < 0))
 (none)
 (some (.nxt (w64 (v5 + (v16.length : Int)), w64 (v6 + 1)))))
 (some (.brk (v5, v6)))
def f48_B2 (m : Nat) (a0 : (List (List ByteArray))) (v28 : (List ByteArray)) (v30 : Int) : Option (Stp (List ByteArray) ((List ByteArray) × Int)) :=
 cnd (decide (v30 < (a0.length : Int)))
 (bnd (idx a0 v30) fun v40 =>
 bnd (app 16 v28 v40) fun v41 =>
 some (.nxt (v41, w64 (v30 + 1))))
 (some (.brk (v28, v30)))
def f48 (m : Nat) (a0 : (List (List ByteArray))) : Option (List ByteArray) :=
 brk (iter (fun (y : Int × Int) => f48_B1 m a0 y.1 y.2) m (0, 0)) some fun y18 =>
 bnd (grw 16 y18.1) fun v20 =>
 brk (iter (fun (y : (List ByteArray) × Int) => f48_B2 m a0 y.1 y.2) m ([], 0)) some fun y43 =>
 some y43.1
noncomputable abbrev X48 (n : Nat) : Cx := cxOf Proofs.Tryz.prog E 48 n
noncomputable def C48 : Code := bodyOf Proofs.Tryz.prog 48
theorem ok48 (m : Nat) (a0 : (List (List ByteArray))) (o : (List ByteArray)) (h : f48 m a0 = some o) (n : Nat) (hn : m + 2 ≤ n) : Fn Proofs.Tryz.prog E n 48 [.v ((eL (eL eS)) a0)] ((eL eS) o) := by
 obtain ⟨n, rfl⟩ : ∃ q, n = q + 1 := ⟨n - 1, by omega⟩
 unfold f48 at h
 refine Fn.of (by kernel_rfl) (by kernel_rfl) (by kernel_rfl) ⟨(dP (eL eS) a0)::u35 [], []⟩ (by kernel_rfl) (Wp.sq (Wp.rg (Ops.sg 1 1 (Ops.dn (seqQ.n (Wp.sq (Wp.rg (Ops.sg 1 1 (Ops.dn (seqQ.n (Wp.sq (Wp.sq (Wp.rg (Ops.sg 1 1 ?_))))))))))))))
 refine Ops.on 2 (fun h0 e0 => (len_r (T := T) h0 116 39 .plain (eL eS) a0 (by kernel_rfl))) ?_
 refine Ops.sg 1 3 (Ops.dn (seqQ.n (Wp.bk 0 [0, 2, 3] 0 ?_)))
 have hLx17 : ∀ (kx8 : Nat) (v5 v6 : Int)  (ox7 : (List ByteArray) ⊕ (Int × Int)), iter (fun (y : Int × Int) => f48_B1 m a0 y.1 y.2) kx8 (v5, v6) = some ox7 → ∀ nx9, kx8 ≤ nx9 → (∀ r, ox7 = .inl r → ∀ σ, RetOk (X48 n) (resOf Proofs.Tryz.prog 48) ((eL eS) r) σ → (seqQ (X48 n) (cR (cR (cR C48))) (fnQ (X48 n).E.T (resOf Proofs.Tryz.prog 48) ((eL eS) o))) .ret σ) → (∀ (y : Int × Int) , ox7 = .inr y → (seqQ (X48 n) (cR (cR (cR C48))) (fnQ (X48 n).E.T (resOf Proofs.Tryz.prog 48) ((eL eS) o))) .normal ⟨(dP (eL eS) a0)::q1 ((.v (.sl .nil (List.map eS [])))::(dI y.1)::q32 []), [.dead]⟩) → Lp (X48 n) [0, 2, 3, 9, 10, 11] 0 (cL (cL (cR (cL (cR (cR C48)))))) nx9 ⟨(dP (eL eS) a0)::q1 ((.v (.sl .nil (List.map eS [])))::(dI v5)::q5 ((dP (eL eS) a0)::(dI (a0.length : Int))::(dI v6)::q24 [])), [.dead]⟩ (blkQ (X48 n) 0 [0, 2, 3] 0 (seqQ (X48 n) (cR (cR (cR C48))) (fnQ (X48 n).E.T (resOf Proofs.Tryz.prog 48) ((eL eS) o)))) := by
  intro kx8
  induction kx8 with
  | zero => intro v5 v6  ox7 h; exact (iter_zero h).elim
  | succ kx8 ihx10 =>
   intro v5 v6  ox7 h nx9 hnx13 hrx11 hxx12
   obtain ⟨nx9, rfl⟩ : ∃ q, nx9 = q + 1 := ⟨nx9 - 1, by omega⟩
   obtain ⟨sx14, h, hsx15⟩ := iter_some h
   have h : f48_B1 m a0 v5 v6 = some sx14 := h
   unfold f48_B1 at h
   refine Lp.succ (Wp.sq (Wp.rg (Ops.sg 1 1 (Ops.dn (seqQ.n (Wp.sq ?_))))))
   refine Wp.cd h [0, 2, 3, 9, 10, 11] 1 (fun h => ?_) (fun h => ?_)
   ·refine Wp.sk (sqQ.n' (seqQ.n (Wp.sq (Wp.bk 1 [0, 2, 3, 9, 10, 11] 2 (Wp.sq (Wp.rg ?_))))))
    obtain ⟨v16, ev16, h⟩ := bnd_some h
    refine Ops.on 1 (fun h0 e0 => (ix_r (T := T) h0 116 39 1 .plain (eL eS) a0 v6 v16 ev16 (by kernel_rfl) (by kernel_rfl) (fun _ => rfl))) ?_
    refine Ops.sg 2 3 (Ops.dn (seqQ.n (Wp.sq (Wp.rg (Ops.sg 2 2 ?_)))))
    refine Ops.on 3 (fun h0 e0 => (len_r (T := T) h0 39 9 .plain eS v16 (by kernel_rfl))) ?_
    refine Ops.sg 2 5 (Ops.dn (seqQ.n (Wp.sq (Wp.rg (Ops.sg 2 2 (Ops.dn (seqQ.n ?_)))))))
    refine Wp.cd h [0, 2, 3, 9, 10, 11] 2 (fun h => ?_) (fun h => ?_)
    ·cases h
    ·refine Wp.sk (sqQ.n' (blkQ.n' (seqQ.n (Wp.rg (Ops.sg 2 2 (Ops.dn (lpQ.m ⟨(dP (eL eS) a0)::q1 ((.v (.sl .nil (List.map eS [])))::(dI (w64 (v5 + (v16.length : Int))))::q5 ((dP (eL eS) a0)::(dI (a0.length : Int))::(dI (w64 (v6 + 1)))::q24 [])), [.dead]⟩ ?_)))))))
     cases h
     exact ihx10 (w64 (v5 + (v16.length : Int))) (w64 (v6 + 1))  _ hsx15 _ (by omega) hrx11 hxx12
   ·refine Wp.ex 0 (sqQ.x (seqQ.x ?_))
    cases h
    refine lpQ.x (blkQ.w ⟨(dP (eL eS) a0)::q1 ((.v (.sl .nil (List.map eS [])))::(dI v5)::q32 []), [.dead]⟩ ?_)
    exact hxx12 (v5, v6)  hsx15
 refine Wp.loop' [0, 2, 3, 9, 10, 11] 0 (by kernel_rfl) ⟨(dP (eL eS) a0)::q1 ((.v (.sl .nil (List.map eS [])))::(dI 0)::q5 ((dP (eL eS) a0)::(dI (a0.length : Int))::(dI 0)::q24 [])), [.dead]⟩ (by kernel_rfl) ?_
 rcases brk_some h with ⟨r19, er19, h⟩ | ⟨y18, ey18, h⟩
 ·refine hLx17 _ 0 0  _ er19 n (by omega) (fun r er σ hσ => ?_) (fun y  ey => by cases ey)
  cases er
  refine seqQ.r ?_
  exact fnQ.r' (X48 n) (fun z => ((eL eS) z)) h hσ
 ·refine hLx17 _ 0 0  _ ey18 n (by omega) (fun r er => by cases er) (fun y  ey => ?_)
  cases ey
  refine seqQ.n (Wp.sq (Wp.rg (Ops.sg 1 1 ?_)))
  obtain ⟨v20, ev20, h⟩ := bnd_some h
  refine Ops.on 2 (fun h0 e0 => (callD_own (P := Proofs.Tryz.prog) (E := E) (E' := E) (n := n) (f := 74) (by kernel_rfl) (by kernel_rfl) (by kernel_rfl) (row_growT h0 1 16 y18.1 v20 ev20) (by omega))) ?_
  refine Ops.sg 1 3 (Ops.dn (seqQ.n (Wp.sq (Wp.sq (Wp.rg (Ops.sg 1 1 ?_))))))
  refine Ops.on 2 (fun h0 e0 => (len_r (T := T) h0 116 39 .plain (eL eS) a0 (by kernel_rfl))) ?_
  refine Ops.sg 1 3 (Ops.dn (seqQ.n (Wp.bk 2 [2, 6] 2 ?_)))
  have hLx42 : ∀ (kx32 : Nat) (v28 : (List ByteArray)) (v30 : Int) (ag29 : AG) (ox31 : (List ByteArray) ⊕ ((List ByteArray) × Int)), iter (fun (y : (List ByteArray) × Int) => f48_B2 m a0 y.1 y.2) kx32 (v28, v30) = some ox31 → ∀ nx33, kx32 ≤ nx33 → (∀ r, ox31 = .inl r → ∀ σ, RetOk (X48 n) (resOf Proofs.Tryz.prog 48) ((eL eS) r) σ → (seqQ (X48 n) (cR (cR (cR (cR (cR C48))))) (fnQ (X48 n).E.T (resOf Proofs.Tryz.prog 48) ((eL eS) o))) .ret σ) → (∀ (y : (List ByteArray) × Int) (ag29 : AG), ox31 = .inr y → (seqQ (X48 n) (cR (cR (cR (cR (cR C48))))) (fnQ (X48 n).E.T (resOf Proofs.Tryz.prog 48) ((eL eS) o))) .normal ⟨q2 ((.v (.sl .nil (List.map eS [])))::q3 ((AG.d ag29 2 (List.map eS y.1))::q29 [])), [.dead, .dead, (AG.o ag29 1 (List.map eS y.1))]⟩) → Lp (X48 n) [2, 6, 25, 26, 27] 2 (cL (cL (cR (cL (cR (cR (cR (cR C48)))))))) nx33 ⟨Zs33 (.v (.sl .nil (List.map eS []))) (AG.d ag29 2 (List.map eS v28)) a0 (a0.length : Int) ((dI v30)::q8 []), [.dead, .dead, (AG.o ag29 1 (List.map eS v28))]⟩ (blkQ (X48 n) 2 [2, 6] 2 (seqQ (X48 n) (cR (cR (cR (cR (cR C48))))) (fnQ (X48 n).E.T (resOf Proofs.Tryz.prog 48) ((eL eS) o)))) := by
   intro kx32
   induction kx32 with
   | zero => intro v28 v30 ag29 ox31 h; exact (iter_zero h).elim
   | succ kx32 ihx34 =>
    intro v28 v30 ag29 ox31 h nx33 hnx37 hrx35 hxx36
    obtain ⟨nx33, rfl⟩ : ∃ q, nx33 = q + 1 := ⟨nx33 - 1, by omega⟩
    obtain ⟨sx38, h, hsx39⟩ := iter_some h
    have h : f48_B2 m a0 v28 v30 = some sx38 := h
    unfold f48_B2 at h
    refine Lp.succ (Wp.sq (Wp.rg (Ops.sg 1 1 (Ops.dn (seqQ.n (Wp.sq ?_))))))
    refine Wp.cd h [2, 6, 25, 26, 27] 3 (fun h => ?_) (fun h => ?_)
    ·refine Wp.sk (sqQ.n ⟨Zs33 (.v (.sl .nil (List.map eS []))) (AG.d ag29 3 (List.map eS v28)) a0 (a0.length : Int) ((dI v30)::q8 []), (dd 3 [(AG.o ag29 1 (List.map eS v28))])⟩ (by cases ag29 <;> kernel_rfl) (seqQ.n (Wp.sq (Wp.bk 3 [2, 6, 25, 26, 27] 4 (Wp.sq (Wp.rg ?_))))))
     obtain ⟨v40, ev40, h⟩ := bnd_some h
     refine Ops.on 1 (fun h0 e0 => (ix_r (T := T) h0 116 39 1 .plain (eL eS) a0 v30 v40 ev40 (by kernel_rfl) (by kernel_rfl) (fun _ => rfl))) ?_
     refine Ops.sg 2 3 (Ops.dn (seqQ.n (Wp.rg (Ops.sg 2 2 ?_))))
     obtain ⟨v41, ev41, h⟩ := bnd_some h
     refine Ops.on 3 (fun h0 e0 => (app_g (T := T) h0 39 9 3 1 ti9 ag29 .plain eS v28 v40 v41 ev41 (by kernel_rfl) (by kernel_rfl) (by kernel_rfl) (by kernel_rfl) (fun _ => rfl) (hq_of e0 (by kernel_rfl)))) ?_
     refine Ops.sg 1 4 (Ops.dn (blkQ.n ⟨Zs33 (.v (.sl .nil (List.map eS []))) (AG.d (AG.app ag29 (List.map eS v40)) 4 (List.map eS v41)) a0 (a0.length : Int) ((dI v30)::q8 []), (dd 4 [(AG.o (AG.app ag29 (List.map eS v40)) 1 (List.map eS v41))])⟩ (by generalize (AG.app ag29 (List.map eS v40)) = g0; cases g0 <;> kernel_rfl) (seqQ.n (Wp.rg (Ops.sg 2 2 (Ops.dn (lpQ.n ⟨Zs33 (.v (.sl .nil (List.map eS []))) (AG.d (AG.app ag29 (List.map eS v40)) 2 (List.map eS v41)) a0 (a0.length : Int) ((dI (w64 (v30 + 1)))::q8 []), [.dead, .dead, (AG.o (AG.app ag29 (List.map eS v40)) 1 (List.map eS v41))]⟩ (by generalize (AG.app ag29 (List.map eS v40)) = g0; cases g0 <;> kernel_rfl) ?_)))))))
     cases h
     exact ihx34 v41 (w64 (v30 + 1)) _ _ hsx39 _ (by omega) hrx35 hxx36
    ·refine Wp.ex 2 (sqQ.x (seqQ.x ?_))
     cases h
     refine lpQ.x (blkQ.x ⟨q2 ((.v (.sl .nil (List.map eS [])))::q3 ((AG.d ag29 2 (List.map eS v28))::q29 [])), [.dead, .dead, (AG.o ag29 1 (List.map eS v28))]⟩ (by cases ag29 <;> kernel_rfl) ?_)
     exact hxx36 (v28, v30) _ hsx39
  refine Wp.loop' [2, 6, 25, 26, 27] 2 (by kernel_rfl) ⟨Zs33 (.v (.sl .nil (List.map eS []))) (AG.d (AG.grown y18.1) 2 (List.map eS [])) a0 (a0.length : Int) ((dI 0)::q8 []), [.dead, .dead, (AG.o (AG.grown y18.1) 1 (List.map eS []))]⟩ (by generalize (AG.grown y18.1) = g0; cases g0 <;> kernel_rfl) ?_
  rcases brk_some h with ⟨r44, er44, h⟩ | ⟨y43, ey43, h⟩
  ·refine hLx42 _ [] 0 _ _ er44 n (by omega) (fun r er σ hσ => ?_) (fun y ag29 ey => by cases ey)
   cases er
   refine seqQ.r ?_
   exact fnQ.r' (X48 n) (fun z => ((eL eS) z)) h hσ
  ·refine hLx42 _ [] 0 _ _ ey43 n (by omega) (fun r er => by cases er) (fun y ag29 ey => ?_)
   cases ey
   refine seqQ.n (Wp.sq (Wp.rg (Ops.sg 2 2 (Ops.dn (seqQ.n (Wp.rt ?_))))))
   exact fnQ.r' (X48 n) (fun z => ((eL eS) z)) h (RetOk.mk' (AG.d ag29 2 (List.map eS y43.1)) (by kernel_rfl) (AG.frz _ _ _ _ _))
def f69_r1 (m : Nat) (v7 : Bool) : Option Bool :=
 some v7
def f69 (m : Nat) (a0 a1 a2 : Int) : Option Bool :=
 f69_r1 m ((decide (a0 ≥ a1)) && (decide (a0 ≤ a2)))
noncomputable abbrev X69 (n : Nat) : Cx := cxOf Proofs.Tryz.prog E 69 n
theorem ok69 (m : Nat) (a0 a1 a2 : Int) (o : Bool) (h : f69 m a0 a1 a2 = some o) (n : Nat) (hn : m + 1 ≤ n) : Fn Proofs.Tryz.prog E n 69 [.v (eI a0), .v (eI a1), .v (eI a2)] (eB o) := by
 obtain ⟨n, rfl⟩ : ∃ q, n = q + 1 := ⟨n - 1, by omega⟩
 unfold f69 at h
 refine Fn.of (by kernel_rfl) (by kernel_rfl) (by kernel_rfl) ⟨(dI a0)::(dI a1)::(dI a2)::u12 [], []⟩ (by kernel_rfl) (Wp.sq (Wp.rg (Ops.sg 1 1 (Ops.dn (seqQ.n (Wp.sq (Wp.rg (Ops.sg 4 4 ?_))))))))
 refine Ops.hv (fun KQ => ∀ (d3 d4 d5 : D) (v6 v7 : Bool), f69_r1 m v7 = some o → KQ 8 ⟨(dI a0)::(dI a1)::(dI a2)::u3 ((dB false)::(dI a0)::(dI a1)::(dB v6)::(dB v6)::d3::d4::d5::(dB v7)::[]), []⟩) ?_ fun J69j8 => ?_
 ·intro d3 d4 d5 v6 v7 h
  unfold f69_r1 at h
  refine Ops.sg 1 9 (Ops.dn (seqQ.n (Wp.rt ?_)))
  exact fnQ.r' (X69 n) (fun z => (eB z)) h (RetOk.mk' (dB v7) (by kernel_rfl) (by kernel_rfl))
 refine Ops.hv (fun KQ => ∀ v1 : Bool, f69_r1 m (v1 && (decide (a0 ≤ a2))) = some o → KQ 4 ⟨(dI a0)::(dI a1)::(dI a2)::u3 ((dB false)::(dI a0)::(dI a1)::(dB v1)::(dB v1)::u4 []), []⟩) ?_ fun G69g2 => Ops.sx (G69g2 (decide (a0 ≥ a1)) h)
 intro v1 h
 cases v1
 ·refine Ops.sg 4 8 ?_
  exact Ops.sx (J69j8 U U U false false h)
 ·refine Ops.sg 4 8 ?_
  exact Ops.sx (J69j8 (dI a0) (dI a2) (dB (decide (a0 ≤ a2))) true (decide (a0 ≤ a2)) h)
def f70 (m : Nat) (a0 a1 : Int) : Option S31 :=
 some ((⟨a0, a1⟩ : S31))
noncomputable abbrev X70 (n : Nat) : Cx := cxOf Proofs.Tryz.prog E 70 n
theorem ok70 (m : Nat) (a0 a1 : Int) (o : S31) (h : f70 m a0 a1 = some o) (n : Nat) (hn : m + 1 ≤ n) : Fn Proofs.Tryz.prog E n 70 [.v (eI a0), .v (eI a1)] (e31 o) := by
 obtain ⟨n, rfl⟩ : ∃ q, n = q + 1 := ⟨n - 1, by omega⟩
 unfold f70 at h
 refine Fn.of (by kernel_rfl) (by kernel_rfl) (by kernel_rfl) ⟨(dI a0)::(dI a1)::u6 [], []⟩ (by kernel_rfl) (Wp.sq (Wp.rg (Ops.sg 1 1 (Ops.dn (seqQ.n (Wp.sq (Wp.rg (Ops.sg 4 4 (Ops.dn (seqQ.n (Wp.rt ?_)))))))))))
 exact fnQ.r' (X70 n) (fun z => (e31 z)) h (RetOk.mk' (.v (.agg [(vI a0), (vI a1)])) (by kernel_rfl) (by kernel_rfl))
def f45_r1 (m : Nat) (v131 : Int) (v195 : Bool) : Option (Stp S31 (Int)) :=
 cnd v195
 (bnd (f70 m 13 v131) fun v197 =>
 some (.ret v197))
 (some (.nxt (w64 (v131 + 1))))
def f45_r2 (m : Nat) (a0 : S29) (v131 : Int) (v141 : S61) (v180 : Bool) : Option (Stp S31 (Int)) :=
 cnd v180
 (bnd (f70 m 3 v131) fun v182 =>
 some (.ret v182))
 (bnd (cnd (decide (v131 > 0))
 (bnd (idx a0.fArcs (w64 (v131 - 1))) fun v198 =>
 bnd (f20 m v198 v141) fun v199 =>
 some (decide (v199 ≥ 0)))
 (some false)) fun v195 =>
 f45_r1 m v131 v195)
def f45_r3 (m : Nat) (a0 : S29) (v131 : Int) (v141 : S61) (v171 : Bool) : Option (Stp S31 (Int)) :=
 bnd (cnd v171
 (some true)
 (bnd (f69 m v141.fWeight 0 1000000) fun v200 =>
 some (!v200))) fun v180 =>
 f45_r2 m a0 v131 v141 v180
def f45_r4 (m : Nat) (a0 : S29) (v131 : Int) (v141 : S61) (v162 : Bool) : Option (Stp S31 (Int)) :=
 bnd (cnd v162
 (some true)
 (bnd (f69 m v141.fOut 0 1114111) fun v201 =>
 some (!v201))) fun v171 =>
 f45_r3 m a0 v131 v141 v171
def f45_r5 (m : Nat) (a0 : S29) (v131 : Int) (v141 : S61) (v153 : Bool) : Option (Stp S31 (Int)) :=
 bnd (cnd v153
 (some true)
 (bnd (f69 m v141.fIn 0 1114111) fun v202 =>
 some (!v202))) fun v162 =>
 f45_r4 m a0 v131 v141 v162
def f45_B6 (m : Nat) (a0 : S29) (v131 : Int) : Option (Stp S31 (Int)) :=
 cnd (decide (v131 < (a0.fArcs.length : Int)))
 (bnd (idx a0.fArcs v131) fun v141 =>
 bnd (f69 m v141.fFrom 0 (w64 (a0.fStates - 1))) fun v142 =>
 bnd (cnd (!v142)
 (some true)
 (bnd (f69 m v141.fTo 0 (w64 (a0.fStates - 1))) fun v203 =>
 some (!v203))) fun v153 =>
 f45_r5 m a0 v131 v141 v153)
 (some (.brk v131))
def f45_r7 (m : Nat) (a0 : S29) (v268 : Int) (v303 : Bool) : Option (Stp S31 (Int)) :=
 cnd v303
 (bnd (f70 m 13 (w64 ((a0.fArcs.length : Int) + v268))) fun v305 =>
 some (.ret v305))
 (some (.nxt (w64 (v268 + 1))))
def f45_r8 (m : Nat) (a0 : S29) (v268 : Int) (v278 : S52) (v287 : Bool) : Option (Stp S31 (Int)) :=
 cnd v287
 (bnd (f70 m 3 (w64 ((a0.fArcs.length : Int) + v268))) fun v289 =>
 some (.ret v289))
 (bnd (cnd (decide (v268 > 0))
 (bnd (idx a0.fFinals (w64 (v268 - 1))) fun v306 =>
 some (decide (v306.fState ≥ v278.fState)))
 (some false)) fun v303 =>
 f45_r7 m a0 v268 v303)
def f45_B9 (m : Nat) (a0 : S29) (v268 : Int) : Option (Stp S31 (Int)) :=
 cnd (decide (v268 < (a0.fFinals.length : Int)))
 (bnd (idx a0.fFinals v268) fun v278 =>
 bnd (f69 m v278.fState 0 (w64 (a0.fStates - 1))) fun v279 =>
 bnd (cnd (!v279)
 (some true)
 (bnd (f69 m v278.fWeight 0 1000000) fun v307 =>
 some (!v307))) fun v287 =>
 f45_r8 m a0 v268 v278 v287)
 (some (.brk v268))
def f45 (m : Nat) (a0 : S29) : Option S31 :=
 bnd (f69 m a0.fStates 0 400) fun v1 =>
 cnd (!v1)
 (bnd (f70 m 3 (-1)) fun v2 =>
 some v2)
 (cnd (decide ((a0.fArcs.length : Int) > 2000))
 (bnd (f70 m 2 (-1)) fun v3 =>
 some v3)
 (brk (iter (fun (y : Int) => f45_B6 m a0 y) m 0) some fun y205 =>
 brk (iter (fun (y : Int) => f45_B9 m a0 y) m 0) some fun y309 =>
 some ((⟨0, 0⟩ : S31))))
noncomputable abbrev X45 (n : Nat) : Cx := cxOf Proofs.Tryz.prog E 45 n
noncomputable def C45 : Code := bodyOf Proofs.Tryz.prog 45
abbrev b45_0 (w0 : S29) : AObj := .cells [(dI w0.fStates), (dP e61 w0.fArcs), (dP e52 w0.fFinals)]
abbrev b45_1 : AObj := .cells [(dI 0), (dI 0)]
abbrev b45_2 (w0 : S61) : AObj := .cells [(dI w0.fFrom), (dI w0.fTo), (dI w0.fIn), (dI w0.fOut), (dI w0.fWeight)]
abbrev k45_0 : List Nat := [1, 2, 18, 19, 20]
abbrev k45_1 : List Nat := [1, 2, 78, 79, 80]
theorem ok45 (m : Nat) (a0 : S29) (o : S31) (h : f45 m a0 = some o) (n : Nat) (hn : m + 4 ≤ n) : Fn Proofs.Tryz.prog E n 45 [.v (e29 a0)] (e31 o) := by
 obtain ⟨n, rfl⟩ : ∃ q, n = q + 1 := ⟨n - 1, by omega⟩
 unfold f45 at h
 refine Fn.of (by kernel_rfl) (by kernel_rfl) (by kernel_rfl) ⟨(.v (.agg [(vI a0.fStates), (vP e61 a0.fArcs), (vP e52 a0.fFinals)]))::u40 (u40 (u40 (u5 []))), []⟩ (by kernel_rfl) (Wp.sq (Wp.rg (Ops.sg 2 2 (Ops.dn (seqQ.n (Wp.sq (Wp.sq (Wp.rg (Ops.sg 2 2 ?_)))))))))
 obtain ⟨v1, ev1, h⟩ := bnd_some h
 refine Ops.on 3 (fun h0 e0 => (call_ok (E' := E) (h := h0) (by kernel_rfl) (Args.v (vI a0.fStates) (eI a0.fStates) (by kernel_rfl) (Args.v (vI 0) (eI 0) (by kernel_rfl) (Args.v (vI 400) (eI 400) (by kernel_rfl) Args.nil))) (ok69 m a0.fStates 0 400 v1 ev1 n (by omega)))) ?_
 refine Ops.sg 1 4 (Ops.dn (seqQ.n ?_))
 refine Wp.cd h [1, 2] 2 (fun h => ?_) (fun h => ?_)
 ·refine Wp.sq (Wp.rg ?_)
  obtain ⟨v2, ev2, h⟩ := bnd_some h
  refine Ops.on 1 (fun h0 e0 => (call_ok (E' := E) (h := h0) (by kernel_rfl) (Args.v (vI 3) (eI 3) (by kernel_rfl) (Args.v (vI (-1)) (eI (-1)) (by kernel_rfl) Args.nil)) (ok70 m 3 (-1) v2 ev2 n (by omega)))) ?_
  refine Ops.sg 1 2 (Ops.dn (seqQ.n (Wp.rt (sqQ.r (seqQ.r ?_)))))
  exact fnQ.r' (X45 n) (fun z => (e31 z)) h (RetOk.mk' (.v (.agg [(vI v2.fCode), (vI v2.fIndex)])) (by kernel_rfl) (by kernel_rfl))
 ·refine Wp.sk (sqQ.n' (seqQ.n (Wp.sq (Wp.sq (Wp.rg (Ops.sg 2 2 ?_))))))
  refine Ops.on 3 (fun h0 e0 => (len_r (T := T) h0 27 62 .plain e61 a0.fArcs (by kernel_rfl))) ?_
  refine Ops.sg 1 4 (Ops.dn (seqQ.n ?_))
  refine Wp.cd h [1, 2] 2 (fun h => ?_) (fun h => ?_)
  ·refine Wp.sq (Wp.rg ?_)
   obtain ⟨v3, ev3, h⟩ := bnd_some h
   refine Ops.on 1 (fun h0 e0 => (call_ok (E' := E) (h := h0) (by kernel_rfl) (Args.v (vI 2) (eI 2) (by kernel_rfl) (Args.v (vI (-1)) (eI (-1)) (by kernel_rfl) Args.nil)) (ok70 m 2 (-1) v3 ev3 n (by omega)))) ?_
   refine Ops.sg 1 2 (Ops.dn (seqQ.n (Wp.rt (sqQ.r (seqQ.r ?_)))))
   exact fnQ.r' (X45 n) (fun z => (e31 z)) h (RetOk.mk' (.v (.agg [(vI v3.fCode), (vI v3.fIndex)])) (by kernel_rfl) (by kernel_rfl))
  ·refine Wp.sk (sqQ.n' (seqQ.n (Wp.sq (Wp.sq (Wp.rg (Ops.sg 2 2 ?_))))))
   refine Ops.on 3 (fun h0 e0 => (len_r (T := T) h0 27 62 .plain e61 a0.fArcs (by kernel_rfl))) ?_
   refine Ops.sg 1 4 (Ops.dn (seqQ.n (Wp.bk 0 [1, 2] 2 ?_)))
   have hLx204 : ∀ (kx133 : Nat) (v131 : Int)  (ox132 : S31 ⊕ (Int)), iter (fun (y : Int) => f45_B6 m a0 y) kx133 v131 = some ox132 → ∀ nx134, kx133 ≤ nx134 → (∀ r, ox132 = .inl r → ∀ σ, RetOk (X45 n) (resOf Proofs.Tryz.prog 45) (e31 r) σ → (seqQ (X45 n) (cR (cR (cR (cR C45)))) (fnQ (X45 n).E.T (resOf Proofs.Tryz.prog 45) (e31 o))) .ret σ) → (∀ (y : Int) , ox132 = .inr y → (seqQ (X45 n) (cR (cR (cR (cR C45)))) (fnQ (X45 n).E.T (resOf Proofs.Tryz.prog 45) (e31 o))) .normal ⟨Zs17 (q15 ((dP e61 a0.fArcs)::(dI (a0.fArcs.length : Int))::(dI y)::q40 (q40 (q25 [])))), [(b45_0 a0), b45_1]⟩) → Lp (X45 n) k45_0 2 (cL (cL (cR (cL (cR (cR (cR C45))))))) nx134 ⟨Zs17 (q15 ((dP e61 a0.fArcs)::(dI (a0.fArcs.length : Int))::(dI v131)::q40 (q40 (q25 [])))), [(b45_0 a0), b45_1]⟩ (blkQ (X45 n) 0 [1, 2] 2 (seqQ (X45 n) (cR (cR (cR (cR C45)))) (fnQ (X45 n).E.T (resOf Proofs.Tryz.prog 45) (e31 o)))) := by
    intro kx133
    induction kx133 with
    | zero => intro v131  ox132 h; exact (iter_zero h).elim
    | succ kx133 ihx135 =>
     intro v131  ox132 h nx134 hnx138 hrx136 hxx137
     obtain ⟨nx134, rfl⟩ : ∃ q, nx134 = q + 1 := ⟨nx134 - 1, by omega⟩
     obtain ⟨sx139, h, hsx140⟩ := iter_some h
     have h : f45_B6 m a0 v131 = some sx139 := h
     unfold f45_B6 at h
     refine Lp.succ (Wp.sq (Wp.rg (Ops.sg 1 1 (Ops.dn (seqQ.n (Wp.sq ?_))))))
     refine Wp.cd h k45_0 2 (fun h => ?_) (fun h => ?_)
     ·refine Wp.sk (sqQ.n' (seqQ.n (Wp.sq (Wp.bk 1 k45_0 2 (Wp.sq (Wp.rg (Ops.sg 1 1 ?_)))))))
      obtain ⟨v141, ev141, h⟩ := bnd_some h
      refine Ops.on 2 (fun h0 e0 => (ix_r (T := T) h0 27 62 5 .plain e61 a0.fArcs v131 v141 ev141 (by kernel_rfl) (by kernel_rfl) (fun _ => rfl))) ?_
      refine Ops.sg 4 6 (Ops.dn (seqQ.n (Wp.sq (Wp.sq (Wp.rg (Ops.sg 5 5 ?_))))))
      obtain ⟨v142, ev142, h⟩ := bnd_some h
      refine Ops.on 6 (fun h0 e0 => (call_ok (E' := E) (h := h0) (by kernel_rfl) (Args.v (vI v141.fFrom) (eI v141.fFrom) (by kernel_rfl) (Args.v (vI 0) (eI 0) (by kernel_rfl) (Args.v (vI (w64 (a0.fStates - 1))) (eI (w64 (a0.fStates - 1))) (by kernel_rfl) Args.nil))) (ok69 m v141.fFrom 0 (w64 (a0.fStates - 1)) v142 ev142 n (by omega)))) ?_
      refine Ops.sg 2 8 ?_
      refine Ops.hv (fun KQ => ∀ (d145 d146 d147 d148 d149 d150 d151 : D) (v152 v153 : Bool), f45_r5 m a0 v131 v141 v153 = some sx139 → KQ 16 ⟨Zs4 v131 a0.fArcs (a0.fArcs.length : Int) (decide (v131 < (a0.fArcs.length : Int))) (.vptr [(vI v141.fFrom), (vI v141.fTo), (vI v141.fIn), (vI v141.fOut), (vI v141.fWeight)]) (.v (.agg [(vI v141.fFrom), (vI v141.fTo), (vI v141.fIn), (vI v141.fOut), (vI v141.fWeight)])) v141.fFrom a0.fStates (w64 (a0.fStates - 1)) v142 v152 (d145::d146::d147::d148::d149::d150::d151::(dB v153)::q40 (q40 (q5 []))), [(b45_0 a0), b45_1, (b45_2 v141)]⟩) ?_ fun J45j154 => ?_
      ·intro d145 d146 d147 d148 d149 d150 d151 v152 v153 h
       unfold f45_r5 at h
       refine Ops.sg 1 17 ?_
       refine Ops.hv (fun KQ => ∀ (d157 d158 d159 d160 : D) (v161 v162 : Bool), f45_r4 m a0 v131 v141 v162 = some sx139 → KQ 22 ⟨Zs4 v131 a0.fArcs (a0.fArcs.length : Int) (decide (v131 < (a0.fArcs.length : Int))) (.vptr [(vI v141.fFrom), (vI v141.fTo), (vI v141.fIn), (vI v141.fOut), (vI v141.fWeight)]) (.v (.agg [(vI v141.fFrom), (vI v141.fTo), (vI v141.fIn), (vI v141.fOut), (vI v141.fWeight)])) v141.fFrom a0.fStates (w64 (a0.fStates - 1)) v142 v152 (d145::d146::d147::d148::d149::d150::d151::(dB v161)::(dB v161)::d157::d158::d159::d160::(dB v162)::q40 (q39 [])), [(b45_0 a0), b45_1, (b45_2 v141)]⟩) ?_ fun J45j163 => ?_
       ·intro d157 d158 d159 d160 v161 v162 h
        unfold f45_r4 at h
        refine Ops.sg 1 23 ?_
        refine Ops.hv (fun KQ => ∀ (d166 d167 d168 d169 : D) (v170 v171 : Bool), f45_r3 m a0 v131 v141 v171 = some sx139 → KQ 28 ⟨Zs4 v131 a0.fArcs (a0.fArcs.length : Int) (decide (v131 < (a0.fArcs.length : Int))) (.vptr [(vI v141.fFrom), (vI v141.fTo), (vI v141.fIn), (vI v141.fOut), (vI v141.fWeight)]) (.v (.agg [(vI v141.fFrom), (vI v141.fTo), (vI v141.fIn), (vI v141.fOut), (vI v141.fWeight)])) v141.fFrom a0.fStates (w64 (a0.fStates - 1)) v142 v152 (d145::d146::d147::d148::d149::d150::d151::(dB v161)::(dB v161)::d157::d158::d159::d160::(dB v170)::(dB v170)::d166::d167::d168::d169::(dB v171)::q40 (q33 [])), [(b45_0 a0), b45_1, (b45_2 v141)]⟩) ?_ fun J45j172 => ?_
        ·intro d166 d167 d168 d169 v170 v171 h
         unfold f45_r3 at h
         refine Ops.sg 1 29 ?_
         refine Ops.hv (fun KQ => ∀ (d175 d176 d177 d178 : D) (v179 v180 : Bool), f45_r2 m a0 v131 v141 v180 = some sx139 → KQ 34 ⟨Zs4 v131 a0.fArcs (a0.fArcs.length : Int) (decide (v131 < (a0.fArcs.length : Int))) (.vptr [(vI v141.fFrom), (vI v141.fTo), (vI v141.fIn), (vI v141.fOut), (vI v141.fWeight)]) (.v (.agg [(vI v141.fFrom), (vI v141.fTo), (vI v141.fIn), (vI v141.fOut), (vI v141.fWeight)])) v141.fFrom a0.fStates (w64 (a0.fStates - 1)) v142 v152 (d145::d146::d147::d148::d149::d150::d151::(dB v161)::(dB v161)::d157::d158::d159::d160::(dB v170)::(dB v170)::d166::d167::d168::d169::(dB v179)::(dB v179)::d175::d176::d177::d178::(dB v180)::q40 (q27 [])), [(b45_0 a0), b45_1, (b45_2 v141)]⟩) ?_ fun J45j181 => ?_
         ·intro d175 d176 d177 d178 v179 v180 h
          unfold f45_r2 at h
          refine Ops.dn (seqQ.n ?_)
          refine Wp.cd h [1, 2, 3, 4, 18, 19, 20] 3 (fun h => ?_) (fun h => ?_)
          ·refine Wp.sq (Wp.rg (Ops.sg 1 1 ?_))
           obtain ⟨v182, ev182, h⟩ := bnd_some h
           refine Ops.on 2 (fun h0 e0 => (call_ok (E' := E) (h := h0) (by kernel_rfl) (Args.v (vI 3) (eI 3) (by kernel_rfl) (Args.v (vI v131) (eI v131) (by kernel_rfl) Args.nil)) (ok70 m 3 v131 v182 ev182 n (by omega)))) ?_
           refine Ops.sg 1 3 (Ops.dn (seqQ.n (Wp.rt (sqQ.r (seqQ.r (blkQ.r (seqQ.r ?_)))))))
           cases h
           refine lpQ.r (blkQ.r ?_)
           exact hrx136 _ hsx140 _ (RetOk.forget k45_0 (by kernel_rfl) (RetOk.mk' (.v (.agg [(vI v182.fCode), (vI v182.fIndex)])) (by kernel_rfl) (by kernel_rfl)))
          ·refine Wp.sk (sqQ.n' (seqQ.n (Wp.sq (Wp.rg (Ops.sg 3 3 ?_)))))
           refine Ops.hv (fun KQ => ∀ (d185 d186 d187 d188 d189 d190 d191 d192 d193 : D) (v194 v195 : Bool), f45_r1 m v131 v195 = some sx139 → KQ 13 ⟨Zs4 v131 a0.fArcs (a0.fArcs.length : Int) (decide (v131 < (a0.fArcs.length : Int))) (.vptr [(vI v141.fFrom), (vI v141.fTo), (vI v141.fIn), (vI v141.fOut), (vI v141.fWeight)]) (.v (.agg [(vI v141.fFrom), (vI v141.fTo), (vI v141.fIn), (vI v141.fOut), (vI v141.fWeight)])) v141.fFrom a0.fStates (w64 (a0.fStates - 1)) v142 v152 (d145::d146::d147::d148::d149::d150::d151::(dB v161)::(dB v161)::d157::d158::d159::d160::(dB v170)::(dB v170)::d166::d167::d168::d169::(dB v179)::(dB v179)::d175::d176::d177::d178::(dB v180)::q2 ((dI v131)::(dB v194)::(dB v194)::d185::d186::d187::d188::d189::d190::d191::d192::d193::(dB v195)::q40 (q12 []))), [(b45_0 a0), b45_1, (b45_2 v141)]⟩) ?_ fun J45j196 => ?_
           ·intro d185 d186 d187 d188 d189 d190 d191 d192 d193 v194 v195 h
            unfold f45_r1 at h
            refine Ops.dn (seqQ.n ?_)
            refine Wp.cd h k45_0 3 (fun h => ?_) (fun h => ?_)
            ·refine Wp.sq (Wp.rg (Ops.sg 1 1 ?_))
             obtain ⟨v197, ev197, h⟩ := bnd_some h
             refine Ops.on 2 (fun h0 e0 => (call_ok (E' := E) (h := h0) (by kernel_rfl) (Args.v (vI 13) (eI 13) (by kernel_rfl) (Args.v (vI v131) (eI v131) (by kernel_rfl) Args.nil)) (ok70 m 13 v131 v197 ev197 n (by omega)))) ?_
             refine Ops.sg 1 3 (Ops.dn (seqQ.n (Wp.rt (sqQ.r (blkQ.r (seqQ.r ?_))))))
             cases h
             refine lpQ.r (blkQ.r ?_)
             exact hrx136 _ hsx140 _ (RetOk.forget k45_0 (by kernel_rfl) (RetOk.mk' (.v (.agg [(vI v197.fCode), (vI v197.fIndex)])) (by kernel_rfl) (by kernel_rfl)))
            ·refine Wp.sk (sqQ.n' (blkQ.n' (seqQ.n (Wp.rg (Ops.sg 2 2 (Ops.dn (lpQ.m ⟨Zs17 (q15 ((dP e61 a0.fArcs)::(dI (a0.fArcs.length : Int))::(dI (w64 (v131 + 1)))::q40 (q40 (q25 [])))), [(b45_0 a0), b45_1]⟩ ?_)))))))
             cases h
             exact ihx135 (w64 (v131 + 1))  _ hsx140 _ (by omega) hrx136 hxx137
           obtain ⟨v195, ev195, h⟩ := bnd_some h
           refine Ops.hv (fun KQ => ∀ v183 : Bool, (cnd v183 (bnd (idx a0.fArcs (w64 (v131 - 1))) fun v198 => bnd (f20 m v198 v141) fun v199 => some (decide (v199 ≥ 0))) (some false)) = some v195 → KQ 3 ⟨Zs4 v131 a0.fArcs (a0.fArcs.length : Int) (decide (v131 < (a0.fArcs.length : Int))) (.vptr [(vI v141.fFrom), (vI v141.fTo), (vI v141.fIn), (vI v141.fOut), (vI v141.fWeight)]) (.v (.agg [(vI v141.fFrom), (vI v141.fTo), (vI v141.fIn), (vI v141.fOut), (vI v141.fWeight)])) v141.fFrom a0.fStates (w64 (a0.fStates - 1)) v142 v152 (d145::d146::d147::d148::d149::d150::d151::(dB v161)::(dB v161)::d157::d158::d159::d160::(dB v170)::(dB v170)::d166::d167::d168::d169::(dB v179)::(dB v179)::d175::d176::d177::d178::(dB v180)::q2 ((dI v131)::(dB v183)::(dB v183)::q40 (q22 []))), [(b45_0 a0), b45_1, (b45_2 v141)]⟩) ?_ fun G45g184 => Ops.sx (G45g184 (decide (v131 > 0)) ev195)
           intro v183 ev195
           cases v183
           ·have ev195 := cnd_f ev195
            refine Ops.sg 10 13 ?_
            exact Ops.sx (J45j196 U U U U U U U U U false false (some_sub (fun v195 => f45_r1 m v131 v195 = some sx139) ev195 h))
           ·have ev195 := cnd_t ev195
            refine Ops.sg 4 7 ?_
            obtain ⟨v198, ev198, ev195⟩ := bnd_some ev195
            refine Ops.on 8 (fun h0 e0 => (ix_r (T := T) h0 27 62 5 .plain e61 a0.fArcs (w64 (v131 - 1)) v198 ev198 (by kernel_rfl) (by kernel_rfl) (fun _ => rfl))) ?_
            refine Ops.sg 2 10 ?_
            obtain ⟨v199, ev199, ev195⟩ := bnd_some ev195
            refine Ops.on 11 (fun h0 e0 => (call_ok (E' := E) (h := h0) (by kernel_rfl) (Args.v (.agg [(vI v198.fFrom), (vI v198.fTo), (vI v198.fIn), (vI v198.fOut), (vI v198.fWeight)]) (e61 v198) (by kernel_rfl) (Args.v (.agg [(vI v141.fFrom), (vI v141.fTo), (vI v141.fIn), (vI v141.fOut), (vI v141.fWeight)]) (e61 v141) (by kernel_rfl) Args.nil)) (ok20 m v198 v141 v199 ev199 n (by omega)))) ?_
            refine Ops.sg 2 13 ?_
            exact Ops.sx (J45j196 (.ptr 0 1) (dP e61 a0.fArcs) (dI v131) (dI (w64 (v131 - 1))) ((.vptr [(vI v198.fFrom), (vI v198.fTo), (vI v198.fIn), (vI v198.fOut), (vI v198.fWeight)])) ((.v (.agg [(vI v198.fFrom), (vI v198.fTo), (vI v198.fIn), (vI v198.fOut), (vI v198.fWeight)]))) ((.v (.agg [(vI v141.fFrom), (vI v141.fTo), (vI v141.fIn), (vI v141.fOut), (vI v141.fWeight)]))) (dI v199) (dB (decide (v199 ≥ 0))) true (decide (v199 ≥ 0)) (some_sub (fun v195 => f45_r1 m v131 v195 = some sx139) ev195 h))
         obtain ⟨v180, ev180, h⟩ := bnd_some h
         refine Ops.hv (fun KQ => ∀ v173 : Bool, (cnd v173 (some true) (bnd (f69 m v141.fWeight 0 1000000) fun v200 => some (!v200))) = some v180 → KQ 29 ⟨Zs4 v131 a0.fArcs (a0.fArcs.length : Int) (decide (v131 < (a0.fArcs.length : Int))) (.vptr [(vI v141.fFrom), (vI v141.fTo), (vI v141.fIn), (vI v141.fOut), (vI v141.fWeight)]) (.v (.agg [(vI v141.fFrom), (vI v141.fTo), (vI v141.fIn), (vI v141.fOut), (vI v141.fWeight)])) v141.fFrom a0.fStates (w64 (a0.fStates - 1)) v142 v152 (d145::d146::d147::d148::d149::d150::d151::(dB v161)::(dB v161)::d157::d158::d159::d160::(dB v170)::(dB v170)::d166::d167::d168::d169::(dB v173)::(dB v173)::q40 (q32 [])), [(b45_0 a0), b45_1, (b45_2 v141)]⟩) ?_ fun G45g174 => Ops.sx (G45g174 v171 ev180)
         intro v173 ev180
         cases v173
         ·have ev180 := cnd_f ev180
          refine Ops.sg 2 31 ?_
          obtain ⟨v200, ev200, ev180⟩ := bnd_some ev180
          refine Ops.on 32 (fun h0 e0 => (call_ok (E' := E) (h := h0) (by kernel_rfl) (Args.v (vI v141.fWeight) (eI v141.fWeight) (by kernel_rfl) (Args.v (vI 0) (eI 0) (by kernel_rfl) (Args.v (vI 1000000) (eI 1000000) (by kernel_rfl) Args.nil))) (ok69 m v141.fWeight 0 1000000 v200 ev200 n (by omega)))) ?_
          refine Ops.sg 2 34 ?_
          exact Ops.sx (J45j181 (.ptr 2 4) (dI v141.fWeight) (dB v200) (dB (!v200)) false (!v200) (some_sub (fun v180 => f45_r2 m a0 v131 v141 v180 = some sx139) ev180 h))
         ·have ev180 := cnd_t ev180
          refine Ops.sg 5 34 ?_
          exact Ops.sx (J45j181 U U U U true true (some_sub (fun v180 => f45_r2 m a0 v131 v141 v180 = some sx139) ev180 h))
        obtain ⟨v171, ev171, h⟩ := bnd_some h
        refine Ops.hv (fun KQ => ∀ v164 : Bool, (cnd v164 (some true) (bnd (f69 m v141.fOut 0 1114111) fun v201 => some (!v201))) = some v171 → KQ 23 ⟨Zs4 v131 a0.fArcs (a0.fArcs.length : Int) (decide (v131 < (a0.fArcs.length : Int))) (.vptr [(vI v141.fFrom), (vI v141.fTo), (vI v141.fIn), (vI v141.fOut), (vI v141.fWeight)]) (.v (.agg [(vI v141.fFrom), (vI v141.fTo), (vI v141.fIn), (vI v141.fOut), (vI v141.fWeight)])) v141.fFrom a0.fStates (w64 (a0.fStates - 1)) v142 v152 (d145::d146::d147::d148::d149::d150::d151::(dB v161)::(dB v161)::d157::d158::d159::d160::(dB v164)::(dB v164)::q40 (q38 [])), [(b45_0 a0), b45_1, (b45_2 v141)]⟩) ?_ fun G45g165 => Ops.sx (G45g165 v162 ev171)
        intro v164 ev171
        cases v164
        ·have ev171 := cnd_f ev171
         refine Ops.sg 2 25 ?_
         obtain ⟨v201, ev201, ev171⟩ := bnd_some ev171
         refine Ops.on 26 (fun h0 e0 => (call_ok (E' := E) (h := h0) (by kernel_rfl) (Args.v (vI v141.fOut) (eI v141.fOut) (by kernel_rfl) (Args.v (vI 0) (eI 0) (by kernel_rfl) (Args.v (vI 1114111) (eI 1114111) (by kernel_rfl) Args.nil))) (ok69 m v141.fOut 0 1114111 v201 ev201 n (by omega)))) ?_
         refine Ops.sg 2 28 ?_
         exact Ops.sx (J45j172 (.ptr 2 3) (dI v141.fOut) (dB v201) (dB (!v201)) false (!v201) (some_sub (fun v171 => f45_r3 m a0 v131 v141 v171 = some sx139) ev171 h))
        ·have ev171 := cnd_t ev171
         refine Ops.sg 5 28 ?_
         exact Ops.sx (J45j172 U U U U true true (some_sub (fun v171 => f45_r3 m a0 v131 v141 v171 = some sx139) ev171 h))
       obtain ⟨v162, ev162, h⟩ := bnd_some h
       refine Ops.hv (fun KQ => ∀ v155 : Bool, (cnd v155 (some true) (bnd (f69 m v141.fIn 0 1114111) fun v202 => some (!v202))) = some v162 → KQ 17 ⟨Zs4 v131 a0.fArcs (a0.fArcs.length : Int) (decide (v131 < (a0.fArcs.length : Int))) (.vptr [(vI v141.fFrom), (vI v141.fTo), (vI v141.fIn), (vI v141.fOut), (vI v141.fWeight)]) (.v (.agg [(vI v141.fFrom), (vI v141.fTo), (vI v141.fIn), (vI v141.fOut), (vI v141.fWeight)])) v141.fFrom a0.fStates (w64 (a0.fStates - 1)) v142 v152 (d145::d146::d147::d148::d149::d150::d151::(dB v155)::(dB v155)::q40 (q40 (q4 []))), [(b45_0 a0), b45_1, (b45_2 v141)]⟩) ?_ fun G45g156 => Ops.sx (G45g156 v153 ev162)
       intro v155 ev162
       cases v155
       ·have ev162 := cnd_f ev162
        refine Ops.sg 2 19 ?_
        obtain ⟨v202, ev202, ev162⟩ := bnd_some ev162
        refine Ops.on 20 (fun h0 e0 => (call_ok (E' := E) (h := h0) (by kernel_rfl) (Args.v (vI v141.fIn) (eI v141.fIn) (by kernel_rfl) (Args.v (vI 0) (eI 0) (by kernel_rfl) (Args.v (vI 1114111) (eI 1114111) (by kernel_rfl) Args.nil))) (ok69 m v141.fIn 0 1114111 v202 ev202 n (by omega)))) ?_
        refine Ops.sg 2 22 ?_
        exact Ops.sx (J45j163 (.ptr 2 2) (dI v141.fIn) (dB v202) (dB (!v202)) false (!v202) (some_sub (fun v162 => f45_r4 m a0 v131 v141 v162 = some sx139) ev162 h))
       ·have ev162 := cnd_t ev162
        refine Ops.sg 5 22 ?_
        exact Ops.sx (J45j163 U U U U true true (some_sub (fun v162 => f45_r4 m a0 v131 v141 v162 = some sx139) ev162 h))
      obtain ⟨v153, ev153, h⟩ := bnd_some h
      refine Ops.hv (fun KQ => ∀ v143 : Bool, (cnd v143 (some true) (bnd (f69 m v141.fTo 0 (w64 (a0.fStates - 1))) fun v203 => some (!v203))) = some v153 → KQ 8 ⟨Zs4 v131 a0.fArcs (a0.fArcs.length : Int) (decide (v131 < (a0.fArcs.length : Int))) (.vptr [(vI v141.fFrom), (vI v141.fTo), (vI v141.fIn), (vI v141.fOut), (vI v141.fWeight)]) (.v (.agg [(vI v141.fFrom), (vI v141.fTo), (vI v141.fIn), (vI v141.fOut), (vI v141.fWeight)])) v141.fFrom a0.fStates (w64 (a0.fStates - 1)) v142 v143 (q40 (q40 (q13 []))), [(b45_0 a0), b45_1, (b45_2 v141)]⟩) ?_ fun G45g144 => Ops.sx (G45g144 (!v142) ev153)
      intro v143 ev153
      cases v143
      ·have ev153 := cnd_f ev153
       refine Ops.sg 5 13 ?_
       obtain ⟨v203, ev203, ev153⟩ := bnd_some ev153
       refine Ops.on 14 (fun h0 e0 => (call_ok (E' := E) (h := h0) (by kernel_rfl) (Args.v (vI v141.fTo) (eI v141.fTo) (by kernel_rfl) (Args.v (vI 0) (eI 0) (by kernel_rfl) (Args.v (vI (w64 (a0.fStates - 1))) (eI (w64 (a0.fStates - 1))) (by kernel_rfl) Args.nil))) (ok69 m v141.fTo 0 (w64 (a0.fStates - 1)) v203 ev203 n (by omega)))) ?_
       refine Ops.sg 2 16 ?_
       exact Ops.sx (J45j154 (.ptr 2 1) (dI v141.fTo) (.ptr 0 0) (dI a0.fStates) (dI (w64 (a0.fStates - 1))) (dB v203) (dB (!v203)) false (!v203) (some_sub (fun v153 => f45_r5 m a0 v131 v141 v153 = some sx139) ev153 h))
      ·have ev153 := cnd_t ev153
       refine Ops.sg 8 16 ?_
       exact Ops.sx (J45j154 U U U U U U U true true (some_sub (fun v153 => f45_r5 m a0 v131 v141 v153 = some sx139) ev153 h))
     ·refine Wp.ex 0 (sqQ.x (seqQ.x ?_))
      cases h
      refine lpQ.x (blkQ.w ⟨Zs17 (q15 ((dP e61 a0.fArcs)::(dI (a0.fArcs.length : Int))::(dI v131)::q40 (q40 (q25 [])))), [(b45_0 a0), b45_1]⟩ ?_)
      exact hxx137 v131  hsx140
   refine Wp.loop' k45_0 2 (by kernel_rfl) ⟨Zs17 (q15 ((dP e61 a0.fArcs)::(dI (a0.fArcs.length : Int))::(dI 0)::q40 (q40 (q25 [])))), [(b45_0 a0), b45_1]⟩ (by kernel_rfl) ?_
   rcases brk_some h with ⟨r206, er206, h⟩ | ⟨y205, ey205, h⟩
   ·refine hLx204 _ 0  _ er206 n (by omega) (fun r er σ hσ => ?_) (fun y  ey => by cases ey)
    cases er
    refine seqQ.r ?_
    exact fnQ.r' (X45 n) (fun z => (e31 z)) h hσ
   ·refine hLx204 _ 0  _ ey205 n (by omega) (fun r er => by cases er) (fun y  ey => ?_)
    cases ey
    refine seqQ.n (Wp.sq (Wp.sq (Wp.rg (Ops.sg 2 2 ?_))))
    refine Ops.on 3 (fun h0 e0 => (len_r (T := T) h0 28 53 .plain e52 a0.fFinals (by kernel_rfl))) ?_
    refine Ops.sg 1 4 (Ops.dn (seqQ.n (Wp.bk 2 [2] 2 ?_)))
    have hLx308 : ∀ (kx270 : Nat) (v268 : Int)  (ox269 : S31 ⊕ (Int)), iter (fun (y : Int) => f45_B9 m a0 y) kx270 v268 = some ox269 → ∀ nx271, kx270 ≤ nx271 → (∀ r, ox269 = .inl r → ∀ σ, RetOk (X45 n) (resOf Proofs.Tryz.prog 45) (e31 r) σ → (seqQ (X45 n) (cR (cR (cR (cR (cR C45))))) (fnQ (X45 n).E.T (resOf Proofs.Tryz.prog 45) (e31 o))) .ret σ) → (∀ (y : Int) , ox269 = .inr y → (seqQ (X45 n) (cR (cR (cR (cR (cR C45))))) (fnQ (X45 n).E.T (resOf Proofs.Tryz.prog 45) (e31 o))) .normal ⟨Zs17 (q40 (q35 ((dP e52 a0.fFinals)::(dI (a0.fFinals.length : Int))::(dI y)::q40 (q5 [])))), [(b45_0 a0), b45_1]⟩) → Lp (X45 n) k45_1 2 (cL (cL (cR (cL (cR (cR (cR (cR C45)))))))) nx271 ⟨Zs17 (q40 (q35 ((dP e52 a0.fFinals)::(dI (a0.fFinals.length : Int))::(dI v268)::q40 (q5 [])))), [(b45_0 a0), b45_1]⟩ (blkQ (X45 n) 2 [2] 2 (seqQ (X45 n) (cR (cR (cR (cR (cR C45))))) (fnQ (X45 n).E.T (resOf Proofs.Tryz.prog 45) (e31 o)))) := by
     intro kx270
     induction kx270 with
     | zero => intro v268  ox269 h; exact (iter_zero h).elim
     | succ kx270 ihx272 =>
      intro v268  ox269 h nx271 hnx275 hrx273 hxx274
      obtain ⟨nx271, rfl⟩ : ∃ q, nx271 = q + 1 := ⟨nx271 - 1, by omega⟩
      obtain ⟨sx276, h, hsx277⟩ := iter_some h
      have h : f45_B9 m a0 v268 = some sx276 := h
      unfold f45_B9 at h
      refine Lp.succ (Wp.sq (Wp.rg (Ops.sg 1 1 (Ops.dn (seqQ.n (Wp.sq ?_))))))
      refine Wp.cd h k45_1 2 (fun h => ?_) (fun h => ?_)
      ·refine Wp.sk (sqQ.n' (seqQ.n (Wp.sq (Wp.bk 3 k45_1 2 (Wp.sq (Wp.rg (Ops.sg 1 1 ?_)))))))
       obtain ⟨v278, ev278, h⟩ := bnd_some h
       refine Ops.on 2 (fun h0 e0 => (ix_r (T := T) h0 28 53 2 .plain e52 a0.fFinals v268 v278 ev278 (by kernel_rfl) (by kernel_rfl) (fun _ => rfl))) ?_
       refine Ops.sg 4 6 (Ops.dn (seqQ.n (Wp.sq (Wp.sq (Wp.rg (Ops.sg 5 5 ?_))))))
       obtain ⟨v279, ev279, h⟩ := bnd_some h
       refine Ops.on 6 (fun h0 e0 => (call_ok (E' := E) (h := h0) (by kernel_rfl) (Args.v (vI v278.fState) (eI v278.fState) (by kernel_rfl) (Args.v (vI 0) (eI 0) (by kernel_rfl) (Args.v (vI (w64 (a0.fStates - 1))) (eI (w64 (a0.fStates - 1))) (by kernel_rfl) Args.nil))) (ok69 m v278.fState 0 (w64 (a0.fStates - 1)) v279 ev279 n (by omega)))) ?_
       refine Ops.sg 2 8 ?_
       refine Ops.hv (fun KQ => ∀ (d282 d283 d284 d285 : D) (v286 v287 : Bool), f45_r8 m a0 v268 v278 v287 = some sx276 → KQ 13 ⟨Zs12 v268 a0.fFinals (a0.fFinals.length : Int) (decide (v268 < (a0.fFinals.length : Int))) (.vptr [(vI v278.fState), (vI v278.fWeight)]) (.v (.agg [(vI v278.fState), (vI v278.fWeight)])) v278.fState a0.fStates (w64 (a0.fStates - 1)) v279 v286 (d282::d283::d284::d285::(dB v287)::q28 []), [(b45_0 a0), b45_1, (.cells [(dI v278.fState), (dI v278.fWeight)])]⟩) ?_ fun J45j288 => ?_
       ·intro d282 d283 d284 d285 v286 v287 h
        unfold f45_r8 at h
        refine Ops.dn (seqQ.n ?_)
        refine Wp.cd h [1, 2, 5, 6, 78, 79, 80] 3 (fun h => ?_) (fun h => ?_)
        ·refine Wp.sq (Wp.rg (Ops.sg 2 2 ?_))
         refine Ops.on 3 (fun h0 e0 => (len_r (T := T) h0 27 62 .plain e61 a0.fArcs (by kernel_rfl))) ?_
         refine Ops.sg 2 5 ?_
         obtain ⟨v289, ev289, h⟩ := bnd_some h
         refine Ops.on 6 (fun h0 e0 => (call_ok (E' := E) (h := h0) (by kernel_rfl) (Args.v (vI 3) (eI 3) (by kernel_rfl) (Args.v (vI (w64 ((a0.fArcs.length : Int) + v268))) (eI (w64 ((a0.fArcs.length : Int) + v268))) (by kernel_rfl) Args.nil)) (ok70 m 3 (w64 ((a0.fArcs.length : Int) + v268)) v289 ev289 n (by omega)))) ?_
         refine Ops.sg 1 7 (Ops.dn (seqQ.n (Wp.rt (sqQ.r (seqQ.r (blkQ.r (seqQ.r ?_)))))))
         cases h
         refine lpQ.r (blkQ.r ?_)
         exact hrx273 _ hsx277 _ (RetOk.forget k45_1 (by kernel_rfl) (RetOk.mk' (.v (.agg [(vI v289.fCode), (vI v289.fIndex)])) (by kernel_rfl) (by kernel_rfl)))
        ·refine Wp.sk (sqQ.n' (seqQ.n (Wp.sq (Wp.rg (Ops.sg 3 3 ?_)))))
         refine Ops.hv (fun KQ => ∀ (d292 d293 d294 d295 d296 d297 d298 d299 d300 d301 : D) (v302 v303 : Bool), f45_r7 m a0 v268 v303 = some sx276 → KQ 14 ⟨Zs12 v268 a0.fFinals (a0.fFinals.length : Int) (decide (v268 < (a0.fFinals.length : Int))) (.vptr [(vI v278.fState), (vI v278.fWeight)]) (.v (.agg [(vI v278.fState), (vI v278.fWeight)])) v278.fState a0.fStates (w64 (a0.fStates - 1)) v279 v286 (d282::d283::d284::d285::(dB v287)::q6 ((dI v268)::(dB v302)::(dB v302)::d292::d293::d294::d295::d296::d297::d298::d299::d300::d301::(dB v303)::q8 [])), [(b45_0 a0), b45_1, (.cells [(dI v278.fState), (dI v278.fWeight)])]⟩) ?_ fun J45j304 => ?_
         ·intro d292 d293 d294 d295 d296 d297 d298 d299 d300 d301 v302 v303 h
          unfold f45_r7 at h
          refine Ops.dn (seqQ.n ?_)
          refine Wp.cd h k45_1 3 (fun h => ?_) (fun h => ?_)
          ·refine Wp.sq (Wp.rg (Ops.sg 2 2 ?_))
           refine Ops.on 3 (fun h0 e0 => (len_r (T := T) h0 27 62 .plain e61 a0.fArcs (by kernel_rfl))) ?_
           refine Ops.sg 2 5 ?_
           obtain ⟨v305, ev305, h⟩ := bnd_some h
           refine Ops.on 6 (fun h0 e0 => (call_ok (E' := E) (h := h0) (by kernel_rfl) (Args.v (vI 13) (eI 13) (by kernel_rfl) (Args.v (vI (w64 ((a0.fArcs.length : Int) + v268))) (eI (w64 ((a0.fArcs.length : Int) + v268))) (by kernel_rfl) Args.nil)) (ok70 m 13 (w64 ((a0.fArcs.length : Int) + v268)) v305 ev305 n (by omega)))) ?_
           refine Ops.sg 1 7 (Ops.dn (seqQ.n (Wp.rt (sqQ.r (blkQ.r (seqQ.r ?_))))))
           cases h
           refine lpQ.r (blkQ.r ?_)
           exact hrx273 _ hsx277 _ (RetOk.forget k45_1 (by kernel_rfl) (RetOk.mk' (.v (.agg [(vI v305.fCode), (vI v305.fIndex)])) (by kernel_rfl) (by kernel_rfl)))
          ·refine Wp.sk (sqQ.n' (blkQ.n' (seqQ.n (Wp.rg (Ops.sg 2 2 (Ops.dn (lpQ.m ⟨Zs17 (q40 (q35 ((dP e52 a0.fFinals)::(dI (a0.fFinals.length : Int))::(dI (w64 (v268 + 1)))::q40 (q5 [])))), [(b45_0 a0), b45_1]⟩ ?_)))))))
           cases h
           exact ihx272 (w64 (v268 + 1))  _ hsx277 _ (by omega) hrx273 hxx274
         obtain ⟨v303, ev303, h⟩ := bnd_some h
         refine Ops.hv (fun KQ => ∀ v290 : Bool, (cnd v290 (bnd (idx a0.fFinals (w64 (v268 - 1))) fun v306 => some (decide (v306.fState ≥ v278.fState))) (some false)) = some v303 → KQ 3 ⟨Zs12 v268 a0.fFinals (a0.fFinals.length : Int) (decide (v268 < (a0.fFinals.length : Int))) (.vptr [(vI v278.fState), (vI v278.fWeight)]) (.v (.agg [(vI v278.fState), (vI v278.fWeight)])) v278.fState a0.fStates (w64 (a0.fStates - 1)) v279 v286 (d282::d283::d284::d285::(dB v287)::q6 ((dI v268)::(dB v290)::(dB v290)::q19 [])), [(b45_0 a0), b45_1, (.cells [(dI v278.fState), (dI v278.fWeight)])]⟩) ?_ fun G45g291 => Ops.sx (G45g291 (decide (v268 > 0)) ev303)
         intro v290 ev303
         cases v290
         ·have ev303 := cnd_f ev303
          refine Ops.sg 11 14 ?_
          exact Ops.sx (J45j304 U U U U U U U U U U false false (some_sub (fun v303 => f45_r7 m a0 v268 v303 = some sx276) ev303 h))
         ·have ev303 := cnd_t ev303
          refine Ops.sg 4 7 ?_
          obtain ⟨v306, ev306, ev303⟩ := bnd_some ev303
          refine Ops.on 8 (fun h0 e0 => (ix_r (T := T) h0 28 53 2 .plain e52 a0.fFinals (w64 (v268 - 1)) v306 ev306 (by kernel_rfl) (by kernel_rfl) (fun _ => rfl))) ?_
          refine Ops.sg 6 14 ?_
          exact Ops.sx (J45j304 (.ptr 0 2) (dP e52 a0.fFinals) (dI v268) (dI (w64 (v268 - 1))) ((.vptr [(vI v306.fState), (vI v306.fWeight)])) ((.vptr [(vI v306.fState), (vI v306.fWeight)])) (dI v306.fState) (.ptr 2 0) (dI v278.fState) (dB (decide (v306.fState ≥ v278.fState))) true (decide (v306.fState ≥ v278.fState)) (some_sub (fun v303 => f45_r7 m a0 v268 v303 = some sx276) ev303 h))
       obtain ⟨v287, ev287, h⟩ := bnd_some h
       refine Ops.hv (fun KQ => ∀ v280 : Bool, (cnd v280 (some true) (bnd (f69 m v278.fWeight 0 1000000) fun v307 => some (!v307))) = some v287 → KQ 8 ⟨Zs12 v268 a0.fFinals (a0.fFinals.length : Int) (decide (v268 < (a0.fFinals.length : Int))) (.vptr [(vI v278.fState), (vI v278.fWeight)]) (.v (.agg [(vI v278.fState), (vI v278.fWeight)])) v278.fState a0.fStates (w64 (a0.fStates - 1)) v279 v280 (q33 []), [(b45_0 a0), b45_1, (.cells [(dI v278.fState), (dI v278.fWeight)])]⟩) ?_ fun G45g281 => Ops.sx (G45g281 (!v279) ev287)
       intro v280 ev287
       cases v280
       ·have ev287 := cnd_f ev287
        refine Ops.sg 2 10 ?_
        obtain ⟨v307, ev307, ev287⟩ := bnd_some ev287
        refine Ops.on 11 (fun h0 e0 => (call_ok (E' := E) (h := h0) (by kernel_rfl) (Args.v (vI v278.fWeight) (eI v278.fWeight) (by kernel_rfl) (Args.v (vI 0) (eI 0) (by kernel_rfl) (Args.v (vI 1000000) (eI 1000000) (by kernel_rfl) Args.nil))) (ok69 m v278.fWeight 0 1000000 v307 ev307 n (by omega)))) ?_
        refine Ops.sg 2 13 ?_
        exact Ops.sx (J45j288 (.ptr 2 1) (dI v278.fWeight) (dB v307) (dB (!v307)) false (!v307) (some_sub (fun v287 => f45_r8 m a0 v268 v278 v287 = some sx276) ev287 h))
       ·have ev287 := cnd_t ev287
        refine Ops.sg 5 13 ?_
        exact Ops.sx (J45j288 U U U U true true (some_sub (fun v287 => f45_r8 m a0 v268 v278 v287 = some sx276) ev287 h))
      ·refine Wp.ex 2 (sqQ.x (seqQ.x ?_))
       cases h
       refine lpQ.x (blkQ.w ⟨Zs17 (q40 (q35 ((dP e52 a0.fFinals)::(dI (a0.fFinals.length : Int))::(dI v268)::q40 (q5 [])))), [(b45_0 a0), b45_1]⟩ ?_)
       exact hxx274 v268  hsx277
    refine Wp.loop' k45_1 2 (by kernel_rfl) ⟨Zs17 (q40 (q35 ((dP e52 a0.fFinals)::(dI (a0.fFinals.length : Int))::(dI 0)::q40 (q5 [])))), [(b45_0 a0), b45_1]⟩ (by kernel_rfl) ?_
    rcases brk_some h with ⟨r310, er310, h⟩ | ⟨y309, ey309, h⟩
    ·refine hLx308 _ 0  _ er310 n (by omega) (fun r er σ hσ => ?_) (fun y  ey => by cases ey)
     cases er
     refine seqQ.r ?_
     exact fnQ.r' (X45 n) (fun z => (e31 z)) h hσ
    ·refine hLx308 _ 0  _ ey309 n (by omega) (fun r er => by cases er) (fun y  ey => ?_)
     cases ey
     refine seqQ.n (Wp.sq (Wp.rg (Ops.sg 2 2 (Ops.dn (seqQ.n (Wp.rt ?_))))))
     exact fnQ.r' (X45 n) (fun z => (e31 z)) h (RetOk.mk' (.v (.agg [(vI 0), (vI 0)])) (by kernel_rfl) (by kernel_rfl))
def f46 (m : Nat) (a0 : (List S52)) : Option (List S52) := app 16 [] a0
theorem ok46 (m : Nat) (a0 o : (List S52)) (h : f46 m a0 = some o) (n : Nat) (hn : m + 1 ≤ n) : Fn Proofs.Tryz.prog E n 46 [.v ((eL e52) a0)] ((eL e52) o) :=
 clone_fn (k := 2) (b := 16) (by kernel_rfl) (by kernel_rfl) (by kernel_rfl) (fun _ => rfl) h hn
def f71 (m : Nat) (a0 : (List S61)) : Option (List S61) := app 40 [] a0
end Go.Abs
