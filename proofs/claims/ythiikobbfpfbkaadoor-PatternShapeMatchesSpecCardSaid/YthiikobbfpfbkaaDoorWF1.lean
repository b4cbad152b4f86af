import Derived.Test.YthiikobbfpfbkaaDoorWEnv
namespace Go.Abs
set_option linter.unusedVariables false
set_option maxRecDepth 100000

/-! ### 8 glosswright/glosswrightlaw6.read -/
noncomputable def f8 (m : Nat) : Option Bool := some true
theorem ok8 (m : Nat) (o : Bool) (h : f8 m = some o) (n : Nat) (hn : m + 1 ≤ n) : Fn Proofs.Tryd.prog E n 8 [] (eB o) := by
  cases h
  obtain ⟨n, rfl⟩ : ∃ q, n = q + 1 := ⟨n - 1, by omega⟩
  exact ora_fn (xs := []) (by kernel_rfl) (by kernel_rfl) (by kernel_rfl) (F := trueF) rfl rfl

/-! ### 23 glosswright/pattern.fault -/
noncomputable def f23 (m : Nat) (a0 : Int) (a1 : Int) : Option S27 :=
  some ((⟨a0, a1⟩ : S27))
noncomputable abbrev X23 (n : Nat) : Cx := cxOf Proofs.Tryd.prog E 23 n
noncomputable def C23 : Code := bodyOf Proofs.Tryd.prog 23
theorem ok23 (m : Nat) (a0 : Int) (a1 : Int) (o : S27) (h : f23 m a0 a1 = some o) (n : Nat) (hn : m + 1 ≤ n) : Fn Proofs.Tryd.prog E n 23 [.v (eI a0), .v (eI a1)] (e27 o) := by
  obtain ⟨n, rfl⟩ : ∃ q, n = q + 1 := ⟨n - 1, by omega⟩
  unfold f23 at h
  refine Fn.of (by kernel_rfl) (by kernel_rfl) (by kernel_rfl) ⟨(dI a0) :: (dI a1) :: u6 [], []⟩ (by kernel_rfl) ?_
  refine Wp.sq ?_
  refine Wp.rg ?_
  refine Ops.sg 1 1 ?_
  refine Ops.dn ?_
  refine seqQ.n ?_
  refine Wp.sq ?_
  refine Wp.rg ?_
  refine Ops.sg 4 4 ?_
  refine Ops.dn ?_
  refine seqQ.n ?_
  refine Wp.ret (by kernel_rfl) ?_
  exact fnQ.r' (X23 n) (fun z => (e27 z)) h (RetOk.mk' (.v (.agg [(vI a0), (vI a1)])) (by kernel_rfl) (by kernel_rfl))

/-! ### 37 glosswright/pattern.scalar -/
noncomputable def f37_r1 (m : Nat) (v17 : Bool) : Option Bool :=
  some v17
noncomputable def f37_r2 (m : Nat) (a0 : Int) (v6 : Bool) : Option Bool :=
  f37_r1 m (v6 && ((decide (a0 < 55296)) || (decide (a0 > 57343))))
noncomputable def f37 (m : Nat) (a0 : Int) : Option Bool :=
  f37_r2 m a0 ((decide (a0 ≥ 1)) && (decide (a0 ≤ 1114111)))
noncomputable abbrev X37 (n : Nat) : Cx := cxOf Proofs.Tryd.prog E 37 n
noncomputable def C37 : Code := bodyOf Proofs.Tryd.prog 37
theorem ok37 (m : Nat) (a0 : Int) (o : Bool) (h : f37 m a0 = some o) (n : Nat) (hn : m + 1 ≤ n) : Fn Proofs.Tryd.prog E n 37 [.v (eI a0)] (eB o) := by
  obtain ⟨n, rfl⟩ : ∃ q, n = q + 1 := ⟨n - 1, by omega⟩
  unfold f37 at h
  refine Fn.of (by kernel_rfl) (by kernel_rfl) (by kernel_rfl) ⟨(dI a0) :: u16 [], []⟩ (by kernel_rfl) ?_
  refine Wp.sq ?_
  refine Wp.rg ?_
  refine Ops.sg 1 1 ?_
  refine Ops.dn ?_
  refine seqQ.n ?_
  refine Wp.sq ?_
  refine Wp.rg ?_
  refine Ops.sg 3 3 ?_
  refine Ops.hv (fun KQ => ∀ (d3 d4 : D) (v5 : Bool) (v6 : Bool), f37_r2 m a0 v6 = some o → KQ 6 ⟨(dI a0) :: u1 ((dB false) :: (dI a0) :: (dB v5) :: (dB v5) :: d3 :: d4 :: (dB v6) :: u8 []), []⟩) ?_ fun J37j7 => ?_
  · intro d3 d4 v5 v6 h
    unfold f37_r2 at h
    refine Ops.sg 1 7 ?_
    refine Ops.hv (fun KQ => ∀ (d10 d11 d12 d13 d14 d15 : D) (v16 : Bool) (v17 : Bool), f37_r1 m v17 = some o → KQ 14 ⟨(dI a0) :: u1 ((dB false) :: (dI a0) :: (dB v5) :: (dB v5) :: d3 :: d4 :: (dB v16) :: (dB v16) :: d10 :: d11 :: d12 :: d13 :: d14 :: d15 :: (dB v17) :: []), []⟩) ?_ fun J37j18 => ?_
    · intro d10 d11 d12 d13 d14 d15 v16 v17 h
      unfold f37_r1 at h
      refine Ops.sg 1 15 ?_
      refine Ops.dn ?_
      refine seqQ.n ?_
      refine Wp.ret (by kernel_rfl) ?_
      exact fnQ.r' (X37 n) (fun z => (eB z)) h (RetOk.mk' (dB v17) (by kernel_rfl) (by kernel_rfl))
    refine Ops.hv (fun KQ => ∀ v8 : Bool, f37_r1 m (v8 && ((decide (a0 < 55296)) || (decide (a0 > 57343)))) = some o → KQ 7 ⟨(dI a0) :: u1 ((dB false) :: (dI a0) :: (dB v5) :: (dB v5) :: d3 :: d4 :: (dB v8) :: (dB v8) :: u7 []), []⟩) ?_ fun G37g9 => Ops.st _ (by kernel_rfl) (G37g9 v6 h)
    intro v8 h
    cases v8
    · refine Ops.sg 7 14 ?_
      exact Ops.st _ (by kernel_rfl) (J37j18 U U U U U U false false h)
    · refine Ops.sg 3 10 ?_
      refine Ops.hv (fun KQ => ∀ v19 : Bool, (f37_r1 m (true && (v19 || (decide (a0 > 57343))))) = some o → KQ 10 ⟨(dI a0) :: u1 ((dB false) :: (dI a0) :: (dB v5) :: (dB v5) :: d3 :: d4 :: (dB true) :: (dB true) :: (dI a0) :: (dB v19) :: (dB v19) :: u4 []), []⟩) ?_ fun G37g20 => Ops.st _ (by kernel_rfl) (G37g20 (decide (a0 < 55296)) h)
      intro v19 h
      cases v19
      · refine Ops.sg 4 14 ?_
        exact Ops.st _ (by kernel_rfl) (J37j18 (dI a0) (dB false) (dB false) (dI a0) (dB (decide (a0 > 57343))) (dB (decide (a0 > 57343))) true (decide (a0 > 57343)) h)
      · refine Ops.sg 4 14 ?_
        exact Ops.st _ (by kernel_rfl) (J37j18 (dI a0) (dB true) (dB true) U U (dB true) true true h)
  refine Ops.hv (fun KQ => ∀ v1 : Bool, f37_r2 m a0 (v1 && (decide (a0 ≤ 1114111))) = some o → KQ 3 ⟨(dI a0) :: u1 ((dB false) :: (dI a0) :: (dB v1) :: (dB v1) :: u11 []), []⟩) ?_ fun G37g2 => Ops.st _ (by kernel_rfl) (G37g2 (decide (a0 ≥ 1)) h)
  intro v1 h
  cases v1
  · refine Ops.sg 3 6 ?_
    exact Ops.st _ (by kernel_rfl) (J37j7 U U false false h)
  · refine Ops.sg 3 6 ?_
    exact Ops.st _ (by kernel_rfl) (J37j7 (dI a0) (dB (decide (a0 ≤ 1114111))) true (decide (a0 ≤ 1114111)) h)

/-! ### a group of functions: (*glosswright/pattern.count).check -/
structure Rec21 where
  r21 : S45 → S24 → Int → Option (S27 × S45)
structure OkRec21 (m : Nat) (K : Rec21) (nn : Nat) : Prop where
  ok21 : ∀ (a0 : S45) (a1 : S24) (a2 : Int) (o : (S27 × S45)), K.r21 a0 a1 a2 = some o → ∀ n, nn ≤ n → FnP Proofs.Tryd.prog E n 21 (c45 a0) [.v (e24 a1), .v (eI a2)] (e27 o.1) (c45 o.2)
/-! ### 21 (*glosswright/pattern.count).check -/
noncomputable def f21_r1 (m : Nat) (K : Rec21) (a0 : S45) (v83 : Int) (v107 : Bool) : Option (Stp (S27 × S45) (Int)) :=
  cnd v107
  (bnd (f23 m 13 a0.fNodes) fun v109 =>
  some (.ret ((v109, (⟨w64 (a0.fNodes + 1)⟩ : S45)))))
  (some (.nxt (w64 (v83 + 1))))
noncomputable def f21_B2 (m : Nat) (K : Rec21) (a0 : S45) (a1 : S24) (v83 : Int) : Option (Stp (S27 × S45) (Int)) :=
  cnd (decide (v83 < (a1.fLabels.length : Int)))
  (bnd (idx a1.fLabels v83) fun v93 =>
  bnd (f37 m v93) fun v94 =>
  cnd (!v94)
  (bnd (f23 m 3 a0.fNodes) fun v95 =>
  some (.ret ((v95, (⟨w64 (a0.fNodes + 1)⟩ : S45)))))
  (bnd (cnd (decide (v83 > 0))
  (bnd (idx a1.fLabels (w64 (v83 - 1))) fun v110 =>
  some (decide (v110 ≥ v93)))
  (some false)) fun v107 =>
  f21_r1 m K a0 v83 v107))
  (some (.brk v83))
noncomputable def f21_B3 (m : Nat) (K : Rec21) (a1 : S24) (a2 : Int) (v157 : Int) (v158 : Int) : Option (Stp (S27 × S45) (Int × Int)) :=
  cnd (decide (v157 < (a1.fSubs.length : Int)))
  (bnd (idx a1.fSubs v157) fun v168 =>
  bnd (K.r21 (⟨v158⟩ : S45) v168.vw (w64 (a2 + 1))) fun v169 =>
  cnd (!((v169.1.fCode == 0) && ((v169.1.fIndex == 0) && true)))
  (some (.ret ((v169.1, v169.2))))
  (some (.nxt (w64 (v157 + 1), v169.2.fNodes))))
  (some (.brk (v157, v158)))
noncomputable def f21_j4 (m : Nat) (K : Rec21) (a0 : S45) (a1 : S24) (a2 : Int) : Option (S27 × S45) :=
  brk (iter (fun (y : Int × Int) => f21_B3 m K a1 a2 y.1 y.2) m (0, w64 (a0.fNodes + 1))) some fun y171 =>
  some (((⟨0, 0⟩ : S27), (⟨y171.2⟩ : S45)))
noncomputable def f21_r5 (m : Nat) (K : Rec21) (a0 : S45) (a1 : S24) (a2 : Int) (v206 : Bool) : Option (S27 × S45) :=
  cnd v206
  (bnd (f23 m 13 a0.fNodes) fun v208 =>
  some ((v208, (⟨w64 (a0.fNodes + 1)⟩ : S45))))
  (f21_j4 m K a0 a1 a2)
noncomputable def f21_r6 (m : Nat) (K : Rec21) (a0 : S45) (a1 : S24) (a2 : Int) (v195 : Bool) : Option (S27 × S45) :=
  cnd v195
  (bnd (f23 m 3 a0.fNodes) fun v197 =>
  some ((v197, (⟨w64 (a0.fNodes + 1)⟩ : S45))))
  (f21_r5 m K a0 a1 a2 ((decide (a1.fMost ≥ 0)) && (decide (a1.fMost < a1.fLeast))))
noncomputable def f21_r7 (m : Nat) (K : Rec21) (a0 : S45) (a1 : S24) (a2 : Int) (v187 : Bool) : Option (S27 × S45) :=
  f21_r6 m K a0 a1 a2 (v187 || (decide (a1.fMost > 9)))
noncomputable def f21_r8 (m : Nat) (K : Rec21) (a0 : S45) (a1 : S24) (a2 : Int) (v179 : Bool) : Option (S27 × S45) :=
  f21_r7 m K a0 a1 a2 (v179 || (decide (a1.fMost < (-1))))
noncomputable def f21_r9 (m : Nat) (K : Rec21) (a0 : S45) (a1 : S24) (a2 : Int) (v215 : Bool) : Option (S27 × S45) :=
  cnd v215
  (bnd (f23 m 5 a0.fNodes) fun v217 =>
  some ((v217, (⟨w64 (a0.fNodes + 1)⟩ : S45))))
  (f21_j4 m K a0 a1 a2)
noncomputable def f21_r10 (m : Nat) (K : Rec21) (a0 : S45) (a1 : S24) (a2 : Int) (v43 : Bool) : Option (S27 × S45) :=
  cnd v43
  (bnd (f23 m 9 a0.fNodes) fun v45 =>
  some ((v45, (⟨w64 (a0.fNodes + 1)⟩ : S45))))
  (brk (iter (fun (y : Int) => f21_B2 m K a0 a1 y) m 0) some fun y112 =>
  cnd (a1.fKind == 5)
  (f21_r8 m K a0 a1 a2 ((decide (a1.fLeast < 0)) || (decide (a1.fLeast > 9))))
  (f21_r9 m K a0 a1 a2 ((a1.fLeast != 0) || (a1.fMost != 0))))
noncomputable def f21_r11 (m : Nat) (K : Rec21) (a0 : S45) (a1 : S24) (a2 : Int) (v36 : Bool) : Option (S27 × S45) :=
  f21_r10 m K a0 a1 a2 (v36 || (decide ((a1.fLabels.length : Int) > 300)))
noncomputable def f21_j12 (m : Nat) (K : Rec21) (a0 : S45) (a1 : S24) (a2 : Int) (v9 : Int) (v12 : Bool) : Option (S27 × S45) :=
  f21_r11 m K a0 a1 a2 (((a1.fSubs.length : Int) != v9) || (!((a1.fKind == 2) == (decide ((a1.fLabels.length : Int) > 0)))))
noncomputable def f21_j13 (m : Nat) (K : Rec21) (a0 : S45) (a1 : S24) (a2 : Int) (v220 : Bool) (v223 : Int) : Option (S27 × S45) :=
  f21_j12 m K a0 a1 a2 v223 v220
noncomputable def f21_j14 (m : Nat) (K : Rec21) (a0 : S45) (a1 : S24) (a2 : Int) (v220 : Bool) (v246 : Int) : Option (S27 × S45) :=
  f21_j13 m K a0 a1 a2 v220 v246
noncomputable def f21_j15 (m : Nat) (K : Rec21) (a0 : S45) (a1 : S24) (a2 : Int) (v220 : Bool) (v261 : Int) : Option (S27 × S45) :=
  f21_j14 m K a0 a1 a2 v220 v261
noncomputable def f21_j16 (m : Nat) (K : Rec21) (a0 : S45) (a1 : S24) (a2 : Int) (v220 : Bool) (v274 : Bool) : Option (S27 × S45) :=
  cnd v274
  (f21_j15 m K a0 a1 a2 v220 2)
  (bnd (f23 m 4 a0.fNodes) fun v277 =>
  some ((v277, (⟨w64 (a0.fNodes + 1)⟩ : S45))))
noncomputable def f21_j17 (m : Nat) (K : Rec21) (a0 : S45) (a1 : S24) (a2 : Int) (v220 : Bool) (v243 : Bool) : Option (S27 × S45) :=
  cnd v243
  (f21_j14 m K a0 a1 a2 v220 (if (a1.fSubs.length : Int) > 2 then (a1.fSubs.length : Int) else 2))
  (cnd (a1.fKind == 5)
  (f21_j15 m K a0 a1 a2 v220 1)
  (cnd (a1.fKind == 6)
  (f21_j16 m K a0 a1 a2 v220 (a1.fKind == 6))
  (f21_j16 m K a0 a1 a2 v220 (a1.fKind == 7))))
noncomputable def f21_j18 (m : Nat) (K : Rec21) (a0 : S45) (a1 : S24) (a2 : Int) (v220 : Bool) : Option (S27 × S45) :=
  cnd v220
  (f21_j13 m K a0 a1 a2 v220 0)
  (cnd (a1.fKind == 3)
  (f21_j17 m K a0 a1 a2 v220 (a1.fKind == 3))
  (f21_j17 m K a0 a1 a2 v220 (a1.fKind == 4)))
noncomputable def f21_r19 (m : Nat) (K : Rec21) (a0 : S45) (a1 : S24) (a2 : Int) (v6 : Bool) : Option (S27 × S45) :=
  cnd v6
  (bnd (f23 m 2 a0.fNodes) fun v8 =>
  some ((v8, (⟨w64 (a0.fNodes + 1)⟩ : S45))))
  (cnd (a1.fKind == 1)
  (f21_j18 m K a0 a1 a2 (a1.fKind == 1))
  (f21_j18 m K a0 a1 a2 (a1.fKind == 2)))
noncomputable def b21 (m : Nat) (K : Rec21) (a0 : S45) (a1 : S24) (a2 : Int) : Option (S27 × S45) :=
  f21_r19 m K a0 a1 a2 ((decide (w64 (a0.fNodes + 1) > 200)) || (decide (a2 > 40)))
noncomputable abbrev X21 (n : Nat) : Cx := cxOf Proofs.Tryd.prog E 21 n
noncomputable def C21 : Code := bodyOf Proofs.Tryd.prog 21
noncomputable abbrev p21_0 : Code := cR (cR (cR (cR (cR (cR C21)))))
noncomputable abbrev p21_1 : Code := cR (cR p21_0)
noncomputable abbrev p21_2 : Code := cR (cR p21_1)
noncomputable abbrev b21_0 (w0 : S45) : AObj := .cells [(dI (w64 (w0.fNodes + 1)))]
noncomputable abbrev b21_1 (w0 : S24) : AObj := .cells [(dI w0.fKind), (dP eI w0.fLabels), (dP ep24 w0.fSubs), (dI w0.fLeast), (dI w0.fMost)]
noncomputable abbrev b21_2 : AObj := .cells [(dI 0), (dI 0)]
noncomputable abbrev k21_0 : List Nat := [0, 2, 4, 6, 7, 79, 80, 81]
noncomputable abbrev k21_1 : List Nat := [0, 2, 6, 152, 153, 154]
noncomputable abbrev k21_2 : List Nat := [0, 2, 4, 6, 7, 8, 9]
noncomputable abbrev k21_3 : List Nat := [0, 2, 4, 6, 7, 8, 9, 41, 44]
noncomputable abbrev k21_4 : List Nat := [0, 2, 4, 6, 7, 8, 9, 41, 47]
theorem okb21 (m : Nat) (K : Rec21) (nn : Nat) (hK : OkRec21 m K nn) (a0 : S45) (a1 : S24) (a2 : Int) (o : (S27 × S45)) (h : b21 m K a0 a1 a2 = some o) (n : Nat) (hn : m + 2 ≤ n) (hk : nn + 1 ≤ n) : FnP Proofs.Tryd.prog E n 21 (c45 a0) [.v (e24 a1), .v (eI a2)] (e27 o.1) (c45 o.2) := by
  obtain ⟨n, rfl⟩ : ∃ q, n = q + 1 := ⟨n - 1, by omega⟩
  unfold b21 at h
  refine FnP.of (by kernel_rfl) (by kernel_rfl) (by kernel_rfl) ⟨(.ptr 0 0) :: (.v (.agg [(vI a1.fKind), (vP eI a1.fLabels), (vP ep24 a1.fSubs), (vI a1.fLeast), (vI a1.fMost)])) :: (dI a2) :: u40 (u40 (u40 (u40 (u6 [])))), [(.cells [(dI a0.fNodes)])]⟩ (by kernel_rfl) ?_
  refine Wp.sq ?_
  refine Wp.rg ?_
  refine Ops.sg 2 2 ?_
  refine Ops.dn ?_
  refine seqQ.n ?_
  refine Wp.sq ?_
  refine Wp.rg ?_
  refine Ops.sg 5 5 ?_
  refine Ops.dn ?_
  refine seqQ.n ?_
  refine Wp.sq ?_
  refine Wp.rg ?_
  refine Ops.sg 8 8 ?_
  refine Ops.dn ?_
  refine seqQ.n ?_
  refine Wp.sq ?_
  refine Wp.sq ?_
  refine Wp.rg ?_
  refine Ops.sg 6 6 ?_
  refine Ops.hv (fun KQ => ∀ (d3 d4 : D) (v5 : Bool) (v6 : Bool), f21_r19 m K a0 a1 a2 v6 = some o → KQ 9 ⟨(.ptr 0 0) :: (.v (.agg [(vI a1.fKind), (vP eI a1.fLabels), (vP ep24 a1.fSubs), (vI a1.fLeast), (vI a1.fMost)])) :: (dI a2) :: u1 ((.ptr 1 0) :: u1 ((.ptr 2 0) :: (dI a0.fNodes) :: u7 ((.ptr 0 0) :: (.ptr 0 0) :: (.ptr 0 0) :: (dI a0.fNodes) :: (.ptr 0 0) :: (.ptr 0 0) :: (.ptr 0 0) :: (dI a0.fNodes) :: (dI (w64 (a0.fNodes + 1))) :: (.ptr 0 0) :: (.ptr 0 0) :: (.ptr 0 0) :: (.ptr 0 0) :: (.ptr 0 0) :: (dI (w64 (a0.fNodes + 1))) :: (dB v5) :: (dB v5) :: d3 :: d4 :: (dB v6) :: u40 (u40 (u40 (u14 [])))))), [(b21_0 a0), (b21_1 a1), b21_2]⟩) ?_ fun J21j7 => ?_
  · intro d3 d4 v5 v6 h
    unfold f21_r19 at h
    refine Ops.dn ?_
    refine seqQ.n ?_
    refine Wp.cnd h [0, 2, 4, 6, 7] 3 (by kernel_rfl) (fun h => ?_) (fun h => ?_)
    · refine Wp.sq ?_
      refine Wp.rg ?_
      refine Ops.sg 1 1 ?_
      obtain ⟨v8, ev8, h⟩ := bnd_some h
      refine Ops.on 2 (fun h0 e0 => (call_ok (E' := E) (h := h0) (by kernel_rfl) (Args.v (vI 2) (eI 2) (by kernel_rfl) (Args.v (vI a0.fNodes) (eI a0.fNodes) (by kernel_rfl) Args.nil)) (ok23 m 2 a0.fNodes v8 ev8 n (by omega)))) ?_
      refine Ops.sg 1 3 ?_
      refine Ops.dn ?_
      refine seqQ.n ?_
      refine Wp.ret (by kernel_rfl) ?_
      refine sqQ.r ?_
      refine seqQ.r ?_
      exact fnQP.r' (X21 n) (fun z => (e27 z)) c45 h (RetOkP.mk' (.v (.agg [(vI v8.fCode), (vI v8.fIndex)])) (by kernel_rfl) (by kernel_rfl) (by kernel_rfl) (by kernel_rfl))
    · refine Wp.sk ?_
      refine sqQ.n' ?_
      refine seqQ.n ?_
      refine Wp.sq ?_
      refine Wp.rg ?_
      refine Ops.sg 2 2 ?_
      refine Ops.on 3 (fun h0 e0 => (len_r (T := T) h0 22 3 .plain eI a1.fLabels (by kernel_rfl))) ?_
      refine Ops.sg 2 5 ?_
      refine Ops.dn ?_
      refine seqQ.n ?_
      refine Wp.sq ?_
      refine Wp.sq ?_
      refine Wp.rg ?_
      refine Ops.sg 2 2 ?_
      refine Ops.dn ?_
      refine seqQ.n ?_
      have J21j26 : ∀ (v9 : Int) (v12 : Bool) (d10 : D) (d11 : D) (d13 : D) (d14 : D) (d15 : D) (d16 : D) (d17 : D) (d18 : D) (d19 : D) (d20 : D) (d21 : D) (d22 : D) (d23 : D) (d24 : D) (d25 : D), f21_j12 m K a0 a1 a2 v9 v12 = some o → (seqQ (X21 n) p21_0 (fnQP (X21 n).E.T (resOf Proofs.Tryd.prog 21) (e27 o.1) (c45 o.2))) .normal ⟨(.ptr 0 0) :: (.v (.agg [(vI a1.fKind), (vP eI a1.fLabels), (vP ep24 a1.fSubs), (vI a1.fLeast), (vI a1.fMost)])) :: (dI a2) :: u1 ((.ptr 1 0) :: u1 ((.ptr 2 0) :: (dI a0.fNodes) :: (dI v9) :: (dI (a1.fLabels.length : Int)) :: u5 ((.ptr 0 0) :: (.ptr 0 0) :: (.ptr 0 0) :: (dI a0.fNodes) :: (.ptr 0 0) :: (.ptr 0 0) :: (.ptr 0 0) :: (dI a0.fNodes) :: (dI (w64 (a0.fNodes + 1))) :: (.ptr 0 0) :: (.ptr 0 0) :: (.ptr 0 0) :: (.ptr 0 0) :: (.ptr 0 0) :: (dI (w64 (a0.fNodes + 1))) :: (dB v5) :: (dB v5) :: d10 :: d11 :: (dB v6) :: u2 ((.ptr 1 1) :: (dP eI a1.fLabels) :: (dI (a1.fLabels.length : Int)) :: (.ptr 1 0) :: (dI a1.fKind) :: u2 ((dB v12) :: (dB (a1.fKind == 1)) :: d13 :: d14 :: d15 :: d16 :: d17 :: d18 :: d19 :: d20 :: d21 :: d22 :: d23 :: d24 :: d25 :: u40 (u40 (u30 []))))))), [(b21_0 a0), (b21_1 a1), b21_2]⟩ := by
        intro v9 v12 d10 d11 d13 d14 d15 d16 d17 d18 d19 d20 d21 d22 d23 d24 d25 h
        unfold f21_j12 at h
        refine seqQ.n ?_
        refine Wp.sq ?_
        refine Wp.sq ?_
        refine Wp.rg ?_
        refine Ops.sg 2 2 ?_
        refine Ops.on 3 (fun h0 e0 => (len_r (T := T) h0 23 25 .plain ep24 a1.fSubs (by kernel_rfl))) ?_
        refine Ops.sg 3 6 ?_
        refine Ops.hv (fun KQ => ∀ (d29 d30 d31 d32 d33 d34 : D) (v35 : Bool) (v36 : Bool), f21_r11 m K a0 a1 a2 v36 = some o → KQ 13 ⟨(.ptr 0 0) :: (.v (.agg [(vI a1.fKind), (vP eI a1.fLabels), (vP ep24 a1.fSubs), (vI a1.fLeast), (vI a1.fMost)])) :: (dI a2) :: u1 ((.ptr 1 0) :: u1 ((.ptr 2 0) :: (dI a0.fNodes) :: (dI v9) :: (dI (a1.fLabels.length : Int)) :: u5 ((.ptr 0 0) :: (.ptr 0 0) :: (.ptr 0 0) :: (dI a0.fNodes) :: (.ptr 0 0) :: (.ptr 0 0) :: (.ptr 0 0) :: (dI a0.fNodes) :: (dI (w64 (a0.fNodes + 1))) :: (.ptr 0 0) :: (.ptr 0 0) :: (.ptr 0 0) :: (.ptr 0 0) :: (.ptr 0 0) :: (dI (w64 (a0.fNodes + 1))) :: (dB v5) :: (dB v5) :: d10 :: d11 :: (dB v6) :: u2 ((.ptr 1 1) :: (dP eI a1.fLabels) :: (dI (a1.fLabels.length : Int)) :: (.ptr 1 0) :: (dI a1.fKind) :: u2 ((dB v12) :: (dB (a1.fKind == 1)) :: d13 :: d14 :: d15 :: d16 :: d17 :: d18 :: d19 :: d20 :: d21 :: d22 :: d23 :: d24 :: d25 :: (.ptr 1 2) :: (dP ep24 a1.fSubs) :: (dI (a1.fSubs.length : Int)) :: (dI v9) :: (dB v35) :: (dB v35) :: d29 :: d30 :: d31 :: d32 :: d33 :: d34 :: (dB v36) :: u40 (u40 (u17 []))))))), [(b21_0 a0), (b21_1 a1), b21_2]⟩) ?_ fun J21j37 => ?_
        · intro d29 d30 d31 d32 d33 d34 v35 v36 h
          unfold f21_r11 at h
          refine Ops.sg 1 14 ?_
          refine Ops.hv (fun KQ => ∀ (d40 d41 : D) (v42 : Bool) (v43 : Bool), f21_r10 m K a0 a1 a2 v43 = some o → KQ 17 ⟨(.ptr 0 0) :: (.v (.agg [(vI a1.fKind), (vP eI a1.fLabels), (vP ep24 a1.fSubs), (vI a1.fLeast), (vI a1.fMost)])) :: (dI a2) :: u1 ((.ptr 1 0) :: u1 ((.ptr 2 0) :: (dI a0.fNodes) :: (dI v9) :: (dI (a1.fLabels.length : Int)) :: u5 ((.ptr 0 0) :: (.ptr 0 0) :: (.ptr 0 0) :: (dI a0.fNodes) :: (.ptr 0 0) :: (.ptr 0 0) :: (.ptr 0 0) :: (dI a0.fNodes) :: (dI (w64 (a0.fNodes + 1))) :: (.ptr 0 0) :: (.ptr 0 0) :: (.ptr 0 0) :: (.ptr 0 0) :: (.ptr 0 0) :: (dI (w64 (a0.fNodes + 1))) :: (dB v5) :: (dB v5) :: d10 :: d11 :: (dB v6) :: u2 ((.ptr 1 1) :: (dP eI a1.fLabels) :: (dI (a1.fLabels.length : Int)) :: (.ptr 1 0) :: (dI a1.fKind) :: u2 ((dB v12) :: (dB (a1.fKind == 1)) :: d13 :: d14 :: d15 :: d16 :: d17 :: d18 :: d19 :: d20 :: d21 :: d22 :: d23 :: d24 :: d25 :: (.ptr 1 2) :: (dP ep24 a1.fSubs) :: (dI (a1.fSubs.length : Int)) :: (dI v9) :: (dB v35) :: (dB v35) :: d29 :: d30 :: d31 :: d32 :: d33 :: d34 :: (dB v42) :: (dB v42) :: d40 :: d41 :: (dB v43) :: u40 (u40 (u13 []))))))), [(b21_0 a0), (b21_1 a1), b21_2]⟩) ?_ fun J21j44 => ?_
          · intro d40 d41 v42 v43 h
            unfold f21_r10 at h
            refine Ops.dn ?_
            refine seqQ.n ?_
            refine Wp.cnd h [0, 2, 4, 6, 7] 3 (by kernel_rfl) (fun h => ?_) (fun h => ?_)
            · refine Wp.sq ?_
              refine Wp.rg ?_
              refine Ops.sg 1 1 ?_
              obtain ⟨v45, ev45, h⟩ := bnd_some h
              refine Ops.on 2 (fun h0 e0 => (call_ok (E' := E) (h := h0) (by kernel_rfl) (Args.v (vI 9) (eI 9) (by kernel_rfl) (Args.v (vI a0.fNodes) (eI a0.fNodes) (by kernel_rfl) Args.nil)) (ok23 m 9 a0.fNodes v45 ev45 n (by omega)))) ?_
              refine Ops.sg 1 3 ?_
              refine Ops.dn ?_
              refine seqQ.n ?_
              refine Wp.ret (by kernel_rfl) ?_
              refine sqQ.r ?_
              refine seqQ.r ?_
              exact fnQP.r' (X21 n) (fun z => (e27 z)) c45 h (RetOkP.mk' (.v (.agg [(vI v45.fCode), (vI v45.fIndex)])) (by kernel_rfl) (by kernel_rfl) (by kernel_rfl) (by kernel_rfl))
            · refine Wp.sk ?_
              refine sqQ.n' ?_
              refine seqQ.n ?_
              refine Wp.sq ?_
              refine Wp.sq ?_
              refine Wp.rg ?_
              refine Ops.sg 2 2 ?_
              refine Ops.on 3 (fun h0 e0 => (len_r (T := T) h0 22 3 .plain eI a1.fLabels (by kernel_rfl))) ?_
              refine Ops.sg 1 4 ?_
              refine Ops.dn ?_
              refine seqQ.n ?_
              refine Wp.block' 1 [0, 2, 4, 6, 7] 3 (by kernel_rfl) ?_
              have hLx111 : ∀ (kx85 : Nat) (v83 : Int)  (ox84 : (S27 × S45) ⊕ (Int)), iter (fun (y : Int) => f21_B2 m K a0 a1 y) kx85 v83 = some ox84 → ∀ nx86, kx85 ≤ nx86 → (∀ r, ox84 = .inl r → ∀ σ, RetOkP (X21 n) (resOf Proofs.Tryd.prog 21) (e27 r.1) (c45 r.2) σ → (seqQ (X21 n) p21_1 (fnQP (X21 n).E.T (resOf Proofs.Tryd.prog 21) (e27 o.1) (c45 o.2))) .ret σ) → (∀ (y : Int) , ox84 = .inr y → (seqQ (X21 n) p21_1 (fnQP (X21 n).E.T (resOf Proofs.Tryd.prog 21) (e27 o.1) (c45 o.2))) .normal ⟨(.ptr 0 0) :: q1 ((dI a2) :: q1 ((.ptr 1 0) :: q1 ((.ptr 2 0) :: (dI a0.fNodes) :: q40 (q31 ((dP eI a1.fLabels) :: (dI (a1.fLabels.length : Int)) :: (dI y) :: q40 (q40 (q7 []))))))), [(b21_0 a0), (b21_1 a1), b21_2]⟩) → Lp (X21 n) k21_0 3 (cL (cL (cR (cL (cR p21_0))))) nx86 ⟨(.ptr 0 0) :: q1 ((dI a2) :: q1 ((.ptr 1 0) :: q1 ((.ptr 2 0) :: (dI a0.fNodes) :: q40 (q31 ((dP eI a1.fLabels) :: (dI (a1.fLabels.length : Int)) :: (dI v83) :: q40 (q40 (q7 []))))))), [(b21_0 a0), (b21_1 a1), b21_2]⟩ (blkQ (X21 n) 1 [0, 2, 4, 6, 7] 3 (seqQ (X21 n) p21_1 (fnQP (X21 n).E.T (resOf Proofs.Tryd.prog 21) (e27 o.1) (c45 o.2)))) := by
                intro kx85
                induction kx85 with
                | zero => intro v83  ox84 h; exact (iter_zero h).elim
                | succ kx85 ihx87 =>
                  intro v83  ox84 h nx86 hnx90 hrx88 hxx89
                  obtain ⟨nx86, rfl⟩ : ∃ q, nx86 = q + 1 := ⟨nx86 - 1, by omega⟩
                  obtain ⟨sx91, h, hsx92⟩ := iter_some h
                  have h : f21_B2 m K a0 a1 v83 = some sx91 := h
                  unfold f21_B2 at h
                  refine Lp.succ ?_
                  refine Wp.sq ?_
                  refine Wp.rg ?_
                  refine Ops.sg 1 1 ?_
                  refine Ops.dn ?_
                  refine seqQ.n ?_
                  refine Wp.sq ?_
                  refine Wp.cnd h k21_0 3 (by kernel_rfl) (fun h => ?_) (fun h => ?_)
                  · refine Wp.sk ?_
                    refine sqQ.n' ?_
                    refine seqQ.n ?_
                    refine Wp.sq ?_
                    refine Wp.block' 2 k21_0 3 (by kernel_rfl) ?_
                    refine Wp.sq ?_
                    refine Wp.rg ?_
                    refine Ops.sg 1 1 ?_
                    obtain ⟨v93, ev93, h⟩ := bnd_some h
                    refine Ops.on 2 (fun h0 e0 => (ix_r (T := T) h0 22 3 1 .plain eI a1.fLabels v83 v93 ev93 (by kernel_rfl) (by kernel_rfl) (fun _ => rfl))) ?_
                    refine Ops.sg 3 5 ?_
                    refine Ops.dn ?_
                    refine seqQ.n ?_
                    refine Wp.sq ?_
                    refine Wp.sq ?_
                    refine Wp.rg ?_
                    refine Ops.sg 1 1 ?_
                    obtain ⟨v94, ev94, h⟩ := bnd_some h
                    refine Ops.on 2 (fun h0 e0 => (call_ok (E' := E) (h := h0) (by kernel_rfl) (Args.v (vI v93) (eI v93) (by kernel_rfl) Args.nil) (ok37 m v93 v94 ev94 n (by omega)))) ?_
                    refine Ops.sg 1 3 ?_
                    refine Ops.dn ?_
                    refine seqQ.n ?_
                    refine Wp.cnd h [0, 2, 4, 6, 7, 10, 11, 79, 80, 81] 3 (by kernel_rfl) (fun h => ?_) (fun h => ?_)
                    · refine Wp.sq ?_
                      refine Wp.rg ?_
                      refine Ops.sg 1 1 ?_
                      obtain ⟨v95, ev95, h⟩ := bnd_some h
                      refine Ops.on 2 (fun h0 e0 => (call_ok (E' := E) (h := h0) (by kernel_rfl) (Args.v (vI 3) (eI 3) (by kernel_rfl) (Args.v (vI a0.fNodes) (eI a0.fNodes) (by kernel_rfl) Args.nil)) (ok23 m 3 a0.fNodes v95 ev95 n (by omega)))) ?_
                      refine Ops.sg 1 3 ?_
                      refine Ops.dn ?_
                      refine seqQ.n ?_
                      refine Wp.ret (by kernel_rfl) ?_
                      refine sqQ.r ?_
                      refine seqQ.r ?_
                      refine blkQ.r ?_
                      refine seqQ.r ?_
                      cases h
                      refine lpQ.r ?_
                      refine blkQ.r ?_
                      exact hrx88 _ hsx92 _ (RetOkP.forget k21_0 (by kernel_rfl) (RetOkP.mk' (.v (.agg [(vI v95.fCode), (vI v95.fIndex)])) (by kernel_rfl) (by kernel_rfl) (by kernel_rfl) (by kernel_rfl)))
                    · refine Wp.sk ?_
                      refine sqQ.n' ?_
                      refine seqQ.n ?_
                      refine Wp.sq ?_
                      refine Wp.rg ?_
                      refine Ops.sg 3 3 ?_
                      refine Ops.hv (fun KQ => ∀ (d98 d99 d100 d101 d102 d103 d104 d105 : D) (v106 : Bool) (v107 : Bool), f21_r1 m K a0 v83 v107 = some sx91 → KQ 12 ⟨(.ptr 0 0) :: q1 ((dI a2) :: q1 ((.ptr 1 0) :: q1 ((.ptr 2 0) :: (dI a0.fNodes) :: q2 ((dI v83) :: (dI v93) :: q40 (q27 ((dP eI a1.fLabels) :: (dI (a1.fLabels.length : Int)) :: (dI v83) :: (dB (decide (v83 < (a1.fLabels.length : Int)))) :: (dI v83) :: (.vptr [(vI v93)]) :: (dI v93) :: (dI v93) :: (dB v94) :: (dB (!v94)) :: q2 ((dI v83) :: (dB v106) :: (dB v106) :: d98 :: d99 :: d100 :: d101 :: d102 :: d103 :: d104 :: d105 :: (dB v107) :: q40 (q26 [])))))))), [(b21_0 a0), (b21_1 a1), b21_2]⟩) ?_ fun J21j108 => ?_
                      · intro d98 d99 d100 d101 d102 d103 d104 d105 v106 v107 h
                        unfold f21_r1 at h
                        refine Ops.dn ?_
                        refine seqQ.n ?_
                        refine Wp.cnd h k21_0 3 (by kernel_rfl) (fun h => ?_) (fun h => ?_)
                        · refine Wp.sq ?_
                          refine Wp.rg ?_
                          refine Ops.sg 1 1 ?_
                          obtain ⟨v109, ev109, h⟩ := bnd_some h
                          refine Ops.on 2 (fun h0 e0 => (call_ok (E' := E) (h := h0) (by kernel_rfl) (Args.v (vI 13) (eI 13) (by kernel_rfl) (Args.v (vI a0.fNodes) (eI a0.fNodes) (by kernel_rfl) Args.nil)) (ok23 m 13 a0.fNodes v109 ev109 n (by omega)))) ?_
                          refine Ops.sg 1 3 ?_
                          refine Ops.dn ?_
                          refine seqQ.n ?_
                          refine Wp.ret (by kernel_rfl) ?_
                          refine sqQ.r ?_
                          refine blkQ.r ?_
                          refine seqQ.r ?_
                          cases h
                          refine lpQ.r ?_
                          refine blkQ.r ?_
                          exact hrx88 _ hsx92 _ (RetOkP.forget k21_0 (by kernel_rfl) (RetOkP.mk' (.v (.agg [(vI v109.fCode), (vI v109.fIndex)])) (by kernel_rfl) (by kernel_rfl) (by kernel_rfl) (by kernel_rfl)))
                        · refine Wp.sk ?_
                          refine sqQ.n' ?_
                          refine blkQ.n' ?_
                          refine seqQ.n ?_
                          refine Wp.rg ?_
                          refine Ops.sg 2 2 ?_
                          refine Ops.dn ?_
                          refine lpQ.n ⟨(.ptr 0 0) :: q1 ((dI a2) :: q1 ((.ptr 1 0) :: q1 ((.ptr 2 0) :: (dI a0.fNodes) :: q40 (q31 ((dP eI a1.fLabels) :: (dI (a1.fLabels.length : Int)) :: (dI (w64 (v83 + 1))) :: q40 (q40 (q7 []))))))), [(b21_0 a0), (b21_1 a1), b21_2]⟩ (by kernel_rfl) ?_
                          cases h
                          exact ihx87 (w64 (v83 + 1))  _ hsx92 _ (by omega) hrx88 hxx89
                      obtain ⟨v107, ev107, h⟩ := bnd_some h
                      refine Ops.hv (fun KQ => ∀ v96 : Bool, (cnd v96 (bnd (idx a1.fLabels (w64 (v83 - 1))) fun v110 => some (decide (v110 ≥ v93))) (some false)) = some v107 → KQ 3 ⟨(.ptr 0 0) :: q1 ((dI a2) :: q1 ((.ptr 1 0) :: q1 ((.ptr 2 0) :: (dI a0.fNodes) :: q2 ((dI v83) :: (dI v93) :: q40 (q27 ((dP eI a1.fLabels) :: (dI (a1.fLabels.length : Int)) :: (dI v83) :: (dB (decide (v83 < (a1.fLabels.length : Int)))) :: (dI v83) :: (.vptr [(vI v93)]) :: (dI v93) :: (dI v93) :: (dB v94) :: (dB (!v94)) :: q2 ((dI v83) :: (dB v96) :: (dB v96) :: q40 (q35 [])))))))), [(b21_0 a0), (b21_1 a1), b21_2]⟩) ?_ fun G21g97 => Ops.st _ (by kernel_rfl) (G21g97 (decide (v83 > 0)) ev107)
                      intro v96 ev107
                      cases v96
                      · have ev107 := cnd_f ev107
                        refine Ops.sg 9 12 ?_
                        exact Ops.st _ (by kernel_rfl) (J21j108 U U U U U U U U false false (some_sub (fun v107 => f21_r1 m K a0 v83 v107 = some sx91) ev107 h))
                      · have ev107 := cnd_t ev107
                        refine Ops.sg 4 7 ?_
                        obtain ⟨v110, ev110, ev107⟩ := bnd_some ev107
                        refine Ops.on 8 (fun h0 e0 => (ix_r (T := T) h0 22 3 1 .plain eI a1.fLabels (w64 (v83 - 1)) v110 ev110 (by kernel_rfl) (by kernel_rfl) (fun _ => rfl))) ?_
                        refine Ops.sg 4 12 ?_
                        exact Ops.st _ (by kernel_rfl) (J21j108 (.ptr 1 1) (dP eI a1.fLabels) (dI v83) (dI (w64 (v83 - 1))) (.vptr [(vI v110)]) (dI v110) (dI v93) (dB (decide (v110 ≥ v93))) true (decide (v110 ≥ v93)) (some_sub (fun v107 => f21_r1 m K a0 v83 v107 = some sx91) ev107 h))
                  · refine Wp.exit (id := 1) (by kernel_rfl) ?_
                    refine sqQ.x ?_
                    refine seqQ.x ?_
                    cases h
                    refine lpQ.x ?_
                    refine blkQ.x ⟨(.ptr 0 0) :: q1 ((dI a2) :: q1 ((.ptr 1 0) :: q1 ((.ptr 2 0) :: (dI a0.fNodes) :: q40 (q31 ((dP eI a1.fLabels) :: (dI (a1.fLabels.length : Int)) :: (dI v83) :: q40 (q40 (q7 []))))))), [(b21_0 a0), (b21_1 a1), b21_2]⟩ (by kernel_rfl) ?_
                    exact hxx89 v83  hsx92
              refine Wp.loop' k21_0 3 (by kernel_rfl) ⟨(.ptr 0 0) :: q1 ((dI a2) :: q1 ((.ptr 1 0) :: q1 ((.ptr 2 0) :: (dI a0.fNodes) :: q40 (q31 ((dP eI a1.fLabels) :: (dI (a1.fLabels.length : Int)) :: (dI 0) :: q40 (q40 (q7 []))))))), [(b21_0 a0), (b21_1 a1), b21_2]⟩ (by kernel_rfl) ?_
              rcases brk_some h with ⟨r113, er113, h⟩ | ⟨y112, ey112, h⟩
              · refine hLx111 _ 0  _ er113 n (by omega) (fun r er σ hσ => ?_) (fun y  ey => by cases ey)
                cases er
                refine seqQ.r ?_
                exact fnQP.r' (X21 n) (fun z => (e27 z)) c45 h hσ
              · refine hLx111 _ 0  _ ey112 n (by omega) (fun r er => by cases er) (fun y  ey => ?_)
                cases ey
                refine seqQ.n ?_
                refine Wp.sq ?_
                refine Wp.sq ?_
                refine Wp.rg ?_
                refine Ops.sg 3 3 ?_
                refine Ops.dn ?_
                refine seqQ.n ?_
                have J21j150 : ∀  (d114 : D) (d115 : D) (d116 : D) (d117 : D) (d118 : D) (d119 : D) (d120 : D) (d121 : D) (d122 : D) (d123 : D) (d124 : D) (d125 : D) (d126 : D) (d127 : D) (d128 : D) (d129 : D) (d130 : D) (d131 : D) (d132 : D) (d133 : D) (d134 : D) (d135 : D) (d136 : D) (d137 : D) (d138 : D) (d139 : D) (d140 : D) (d141 : D) (d142 : D) (d143 : D) (d144 : D) (d145 : D) (d146 : D) (d147 : D) (d148 : D) (d149 : D), f21_j4 m K a0 a1 a2 = some o → (seqQ (X21 n) (cR p21_1) (fnQP (X21 n).E.T (resOf Proofs.Tryd.prog 21) (e27 o.1) (c45 o.2))) .normal ⟨(.ptr 0 0) :: q1 ((dI a2) :: q1 ((.ptr 1 0) :: q1 ((.ptr 2 0) :: (dI a0.fNodes) :: q40 (q31 ((dP eI a1.fLabels) :: (dI (a1.fLabels.length : Int)) :: (dI y112) :: q24 ((.ptr 1 0) :: (dI a1.fKind) :: (dB (a1.fKind == 5)) :: d114 :: d115 :: d116 :: d117 :: d118 :: d119 :: d120 :: d121 :: d122 :: d123 :: d124 :: d125 :: d126 :: d127 :: d128 :: d129 :: d130 :: d131 :: q2 (d132 :: d133 :: d134 :: d135 :: d136 :: d137 :: d138 :: d139 :: d140 :: d141 :: q2 (d142 :: d143 :: d144 :: d145 :: d146 :: d147 :: d148 :: d149 :: q20 [])))))))), [(b21_0 a0), (b21_1 a1), b21_2]⟩ := by
                  intro  d114 d115 d116 d117 d118 d119 d120 d121 d122 d123 d124 d125 d126 d127 d128 d129 d130 d131 d132 d133 d134 d135 d136 d137 d138 d139 d140 d141 d142 d143 d144 d145 d146 d147 d148 d149 h
                  unfold f21_j4 at h
                  refine seqQ.n ?_
                  refine Wp.sq ?_
                  refine Wp.sq ?_
                  refine Wp.rg ?_
                  refine Ops.sg 2 2 ?_
                  refine Ops.on 3 (fun h0 e0 => (len_r (T := T) h0 23 25 .plain ep24 a1.fSubs (by kernel_rfl))) ?_
                  refine Ops.sg 1 4 ?_
                  refine Ops.dn ?_
                  refine seqQ.n ?_
                  refine Wp.block' 3 [6] 3 (by kernel_rfl) ?_
                  have hLx170 : ∀ (kx160 : Nat) (v157 : Int) (v158 : Int)  (ox159 : (S27 × S45) ⊕ (Int × Int)), iter (fun (y : Int × Int) => f21_B3 m K a1 a2 y.1 y.2) kx160 (v157, v158) = some ox159 → ∀ nx161, kx160 ≤ nx161 → (∀ r, ox159 = .inl r → ∀ σ, RetOkP (X21 n) (resOf Proofs.Tryd.prog 21) (e27 r.1) (c45 r.2) σ → (seqQ (X21 n) p21_2 (fnQP (X21 n).E.T (resOf Proofs.Tryd.prog 21) (e27 o.1) (c45 o.2))) .ret σ) → (∀ (y : Int × Int) , ox159 = .inr y → (seqQ (X21 n) p21_2 (fnQP (X21 n).E.T (resOf Proofs.Tryd.prog 21) (e27 o.1) (c45 o.2))) .normal ⟨(.ptr 0 0) :: q1 ((dI a2) :: q3 ((.ptr 2 0) :: q40 (q40 (q40 (q25 ((dP ep24 a1.fSubs) :: (dI (a1.fSubs.length : Int)) :: (dI y.1) :: q14 [])))))), [(.cells [(dI y.2)]), (b21_1 a1), b21_2]⟩) → Lp (X21 n) k21_1 3 (cL (cL (cR (cL (cR p21_1))))) nx161 ⟨(.ptr 0 0) :: q1 ((dI a2) :: q3 ((.ptr 2 0) :: q40 (q40 (q40 (q25 ((dP ep24 a1.fSubs) :: (dI (a1.fSubs.length : Int)) :: (dI v157) :: q14 [])))))), [(.cells [(dI v158)]), (b21_1 a1), b21_2]⟩ (blkQ (X21 n) 3 [6] 3 (seqQ (X21 n) p21_2 (fnQP (X21 n).E.T (resOf Proofs.Tryd.prog 21) (e27 o.1) (c45 o.2)))) := by
                    intro kx160
                    induction kx160 with
                    | zero => intro v157 v158  ox159 h; exact (iter_zero h).elim
                    | succ kx160 ihx162 =>
                      intro v157 v158  ox159 h nx161 hnx165 hrx163 hxx164
                      obtain ⟨nx161, rfl⟩ : ∃ q, nx161 = q + 1 := ⟨nx161 - 1, by omega⟩
                      obtain ⟨sx166, h, hsx167⟩ := iter_some h
                      have h : f21_B3 m K a1 a2 v157 v158 = some sx166 := h
                      unfold f21_B3 at h
                      refine Lp.succ ?_
                      refine Wp.sq ?_
                      refine Wp.rg ?_
                      refine Ops.sg 1 1 ?_
                      refine Ops.dn ?_
                      refine seqQ.n ?_
                      refine Wp.sq ?_
                      refine Wp.cnd h k21_1 3 (by kernel_rfl) (fun h => ?_) (fun h => ?_)
                      · refine Wp.sk ?_
                        refine sqQ.n' ?_
                        refine seqQ.n ?_
                        refine Wp.sq ?_
                        refine Wp.block' 4 k21_1 3 (by kernel_rfl) ?_
                        refine Wp.sq ?_
                        refine Wp.rg ?_
                        obtain ⟨v168, ev168, h⟩ := bnd_some h
                        refine Ops.on 1 (fun h0 e0 => (ixb24 (ix_r (T := T) h0 23 25 5 .plain ep24 a1.fSubs v157 v168 ev168 (by kernel_rfl) (by kernel_rfl) ep24_len))) ?_
                        refine Ops.sg 3 4 ?_
                        refine Ops.dn ?_
                        refine seqQ.n ?_
                        refine Wp.sq ?_
                        refine Wp.rg ?_
                        refine Ops.sg 4 4 ?_
                        obtain ⟨v169, ev169, h⟩ := bnd_some h
                        refine Ops.on 5 (fun h0 e0 => (call_ptr (E' := E) (h := h0) (q := 0) (cs := c45 (⟨v158⟩ : S45)) (by kernel_rfl) (by kernel_rfl) (by kernel_rfl) (hq_of e0 (by kernel_rfl)) (by kernel_rfl) (Args.v (.agg [(vI v168.vw.fKind), (vP eI v168.vw.fLabels), (vP ep24 v168.vw.fSubs), (vI v168.vw.fLeast), (vI v168.vw.fMost)]) (e24 v168.vw) (by kernel_rfl) (Args.v (vI (w64 (a2 + 1))) (eI (w64 (a2 + 1))) (by kernel_rfl) Args.nil)) (hK.ok21 (⟨v158⟩ : S45) v168.vw (w64 (a2 + 1)) v169 ev169 n (by omega)))) ?_
                        refine Ops.sg 2 7 ?_
                        refine Ops.dn ?_
                        refine seqQ.n ?_
                        refine Wp.sq ?_
                        refine Wp.rg ?_
                        refine Ops.sg 3 3 ?_
                        refine Ops.dn ?_
                        refine seqQ.n ?_
                        refine Wp.cnd h k21_1 5 (by kernel_rfl) (fun h => ?_) (fun h => ?_)
                        · refine Wp.sq ?_
                          refine Wp.rg ?_
                          refine Ops.sg 2 2 ?_
                          refine Ops.dn ?_
                          refine seqQ.n ?_
                          refine Wp.ret (by kernel_rfl) ?_
                          refine sqQ.r ?_
                          refine blkQ.r ?_
                          refine seqQ.r ?_
                          cases h
                          refine lpQ.r ?_
                          refine blkQ.r ?_
                          exact hrx163 _ hsx167 _ (RetOkP.forget k21_1 (by kernel_rfl) (RetOkP.mk' (.v (.agg [(vI v169.1.fCode), (vI v169.1.fIndex)])) (by kernel_rfl) (by kernel_rfl) (by kernel_rfl) (by kernel_rfl)))
                        · refine Wp.sk ?_
                          refine sqQ.n' ?_
                          refine blkQ.n' ?_
                          refine seqQ.n ?_
                          refine Wp.rg ?_
                          refine Ops.sg 2 2 ?_
                          refine Ops.dn ?_
                          refine lpQ.n ⟨(.ptr 0 0) :: q1 ((dI a2) :: q3 ((.ptr 2 0) :: q40 (q40 (q40 (q25 ((dP ep24 a1.fSubs) :: (dI (a1.fSubs.length : Int)) :: (dI (w64 (v157 + 1))) :: q14 [])))))), [(.cells [(dI v169.2.fNodes)]), (b21_1 a1), b21_2]⟩ (by kernel_rfl) ?_
                          cases h
                          exact ihx162 (w64 (v157 + 1)) v169.2.fNodes  _ hsx167 _ (by omega) hrx163 hxx164
                      · refine Wp.exit (id := 3) (by kernel_rfl) ?_
                        refine sqQ.x ?_
                        refine seqQ.x ?_
                        cases h
                        refine lpQ.x ?_
                        refine blkQ.x ⟨(.ptr 0 0) :: q1 ((dI a2) :: q3 ((.ptr 2 0) :: q40 (q40 (q40 (q25 ((dP ep24 a1.fSubs) :: (dI (a1.fSubs.length : Int)) :: (dI v157) :: q14 [])))))), [(.cells [(dI v158)]), (b21_1 a1), b21_2]⟩ (by kernel_rfl) ?_
                        exact hxx164 (v157, v158)  hsx167
                  refine Wp.loop' k21_1 3 (by kernel_rfl) ⟨(.ptr 0 0) :: q1 ((dI a2) :: q3 ((.ptr 2 0) :: q40 (q40 (q40 (q25 ((dP ep24 a1.fSubs) :: (dI (a1.fSubs.length : Int)) :: (dI 0) :: q14 [])))))), [(b21_0 a0), (b21_1 a1), b21_2]⟩ (by kernel_rfl) ?_
                  rcases brk_some h with ⟨r172, er172, h⟩ | ⟨y171, ey171, h⟩
                  · refine hLx170 _ 0 (w64 (a0.fNodes + 1))  _ er172 n (by omega) (fun r er σ hσ => ?_) (fun y  ey => by cases ey)
                    cases er
                    refine seqQ.r ?_
                    exact fnQP.r' (X21 n) (fun z => (e27 z)) c45 h hσ
                  · refine hLx170 _ 0 (w64 (a0.fNodes + 1))  _ ey171 n (by omega) (fun r er => by cases er) (fun y  ey => ?_)
                    cases ey
                    refine seqQ.n ?_
                    refine Wp.sq ?_
                    refine Wp.rg ?_
                    refine Ops.sg 2 2 ?_
                    refine Ops.dn ?_
                    refine seqQ.n ?_
                    refine Wp.ret (by kernel_rfl) ?_
                    exact fnQP.r' (X21 n) (fun z => (e27 z)) c45 h (RetOkP.mk' (.v (.agg [(vI 0), (vI 0)])) (by kernel_rfl) (by kernel_rfl) (by kernel_rfl) (by kernel_rfl))
                refine Wp.cnd h [0, 2, 4, 6] 3 (by kernel_rfl) (fun h => ?_) (fun h => ?_)
                · refine Wp.sq ?_
                  refine Wp.sq ?_
                  refine Wp.rg ?_
                  refine Ops.sg 4 4 ?_
                  refine Ops.hv (fun KQ => ∀ (d175 d176 d177 : D) (v178 : Bool) (v179 : Bool), f21_r8 m K a0 a1 a2 v179 = some o → KQ 8 ⟨(.ptr 0 0) :: q1 ((dI a2) :: q1 ((.ptr 1 0) :: q1 ((.ptr 2 0) :: (dI a0.fNodes) :: q40 (q31 ((dP eI a1.fLabels) :: (dI (a1.fLabels.length : Int)) :: (dI y112) :: q24 ((.ptr 1 0) :: (dI a1.fKind) :: (dB (a1.fKind == 5)) :: (.ptr 1 3) :: (dI a1.fLeast) :: (dB v178) :: (dB v178) :: d175 :: d176 :: d177 :: (dB v179) :: q40 (q12 []))))))), [(b21_0 a0), (b21_1 a1), b21_2]⟩) ?_ fun J21j180 => ?_
                  · intro d175 d176 d177 v178 v179 h
                    unfold f21_r8 at h
                    refine Ops.sg 1 9 ?_
                    refine Ops.hv (fun KQ => ∀ (d183 d184 d185 : D) (v186 : Bool) (v187 : Bool), f21_r7 m K a0 a1 a2 v187 = some o → KQ 13 ⟨(.ptr 0 0) :: q1 ((dI a2) :: q1 ((.ptr 1 0) :: q1 ((.ptr 2 0) :: (dI a0.fNodes) :: q40 (q31 ((dP eI a1.fLabels) :: (dI (a1.fLabels.length : Int)) :: (dI y112) :: q24 ((.ptr 1 0) :: (dI a1.fKind) :: (dB (a1.fKind == 5)) :: (.ptr 1 3) :: (dI a1.fLeast) :: (dB v178) :: (dB v178) :: d175 :: d176 :: d177 :: (dB v186) :: (dB v186) :: d183 :: d184 :: d185 :: (dB v187) :: q40 (q7 []))))))), [(b21_0 a0), (b21_1 a1), b21_2]⟩) ?_ fun J21j188 => ?_
                    · intro d183 d184 d185 v186 v187 h
                      unfold f21_r7 at h
                      refine Ops.sg 1 14 ?_
                      refine Ops.hv (fun KQ => ∀ (d191 d192 d193 : D) (v194 : Bool) (v195 : Bool), f21_r6 m K a0 a1 a2 v195 = some o → KQ 18 ⟨(.ptr 0 0) :: q1 ((dI a2) :: q1 ((.ptr 1 0) :: q1 ((.ptr 2 0) :: (dI a0.fNodes) :: q40 (q31 ((dP eI a1.fLabels) :: (dI (a1.fLabels.length : Int)) :: (dI y112) :: q24 ((.ptr 1 0) :: (dI a1.fKind) :: (dB (a1.fKind == 5)) :: (.ptr 1 3) :: (dI a1.fLeast) :: (dB v178) :: (dB v178) :: d175 :: d176 :: d177 :: (dB v186) :: (dB v186) :: d183 :: d184 :: d185 :: (dB v194) :: (dB v194) :: d191 :: d192 :: d193 :: (dB v195) :: q40 (q2 []))))))), [(b21_0 a0), (b21_1 a1), b21_2]⟩) ?_ fun J21j196 => ?_
                      · intro d191 d192 d193 v194 v195 h
                        unfold f21_r6 at h
                        refine Ops.dn ?_
                        refine seqQ.n ?_
                        refine Wp.cnd h [0, 2, 4, 6, 7] 3 (by kernel_rfl) (fun h => ?_) (fun h => ?_)
                        · refine Wp.sq ?_
                          refine Wp.rg ?_
                          refine Ops.sg 1 1 ?_
                          obtain ⟨v197, ev197, h⟩ := bnd_some h
                          refine Ops.on 2 (fun h0 e0 => (call_ok (E' := E) (h := h0) (by kernel_rfl) (Args.v (vI 3) (eI 3) (by kernel_rfl) (Args.v (vI a0.fNodes) (eI a0.fNodes) (by kernel_rfl) Args.nil)) (ok23 m 3 a0.fNodes v197 ev197 n (by omega)))) ?_
                          refine Ops.sg 1 3 ?_
                          refine Ops.dn ?_
                          refine seqQ.n ?_
                          refine Wp.ret (by kernel_rfl) ?_
                          refine sqQ.r ?_
                          refine seqQ.r ?_
                          refine sqQ.r ?_
                          refine seqQ.r ?_
                          exact fnQP.r' (X21 n) (fun z => (e27 z)) c45 h (RetOkP.mk' (.v (.agg [(vI v197.fCode), (vI v197.fIndex)])) (by kernel_rfl) (by kernel_rfl) (by kernel_rfl) (by kernel_rfl))
                        · refine Wp.sk ?_
                          refine sqQ.n' ?_
                          refine seqQ.n ?_
                          refine Wp.sq ?_
                          refine Wp.rg ?_
                          refine Ops.sg 4 4 ?_
                          refine Ops.hv (fun KQ => ∀ (d200 d201 d202 d203 d204 : D) (v205 : Bool) (v206 : Bool), f21_r5 m K a0 a1 a2 v206 = some o → KQ 10 ⟨(.ptr 0 0) :: q1 ((dI a2) :: q1 ((.ptr 1 0) :: q1 ((.ptr 2 0) :: (dI a0.fNodes) :: q40 (q31 ((dP eI a1.fLabels) :: (dI (a1.fLabels.length : Int)) :: (dI y112) :: q24 ((.ptr 1 0) :: (dI a1.fKind) :: (dB (a1.fKind == 5)) :: (.ptr 1 3) :: (dI a1.fLeast) :: (dB v178) :: (dB v178) :: d175 :: d176 :: d177 :: (dB v186) :: (dB v186) :: d183 :: d184 :: d185 :: (dB v194) :: (dB v194) :: d191 :: d192 :: d193 :: (dB v195) :: q2 ((.ptr 1 4) :: (dI a1.fMost) :: (dB v205) :: (dB v205) :: d200 :: d201 :: d202 :: d203 :: d204 :: (dB v206) :: q30 []))))))), [(b21_0 a0), (b21_1 a1), b21_2]⟩) ?_ fun J21j207 => ?_
                          · intro d200 d201 d202 d203 d204 v205 v206 h
                            unfold f21_r5 at h
                            refine Ops.dn ?_
                            refine seqQ.n ?_
                            refine Wp.cnd h [0, 2, 4, 6] 3 (by kernel_rfl) (fun h => ?_) (fun h => ?_)
                            · refine Wp.sq ?_
                              refine Wp.rg ?_
                              refine Ops.sg 1 1 ?_
                              obtain ⟨v208, ev208, h⟩ := bnd_some h
                              refine Ops.on 2 (fun h0 e0 => (call_ok (E' := E) (h := h0) (by kernel_rfl) (Args.v (vI 13) (eI 13) (by kernel_rfl) (Args.v (vI a0.fNodes) (eI a0.fNodes) (by kernel_rfl) Args.nil)) (ok23 m 13 a0.fNodes v208 ev208 n (by omega)))) ?_
                              refine Ops.sg 1 3 ?_
                              refine Ops.dn ?_
                              refine seqQ.n ?_
                              refine Wp.ret (by kernel_rfl) ?_
                              refine sqQ.r ?_
                              refine sqQ.r ?_
                              refine seqQ.r ?_
                              exact fnQP.r' (X21 n) (fun z => (e27 z)) c45 h (RetOkP.mk' (.v (.agg [(vI v208.fCode), (vI v208.fIndex)])) (by kernel_rfl) (by kernel_rfl) (by kernel_rfl) (by kernel_rfl))
                            · refine Wp.sk ?_
                              refine sqQ.n' ?_
                              refine sqQ.n ⟨(.ptr 0 0) :: q1 ((dI a2) :: q1 ((.ptr 1 0) :: q1 ((.ptr 2 0) :: (dI a0.fNodes) :: q40 (q31 ((dP eI a1.fLabels) :: (dI (a1.fLabels.length : Int)) :: (dI y112) :: q24 ((.ptr 1 0) :: (dI a1.fKind) :: (dB (a1.fKind == 5)) :: (.ptr 1 3) :: (dI a1.fLeast) :: (dB v178) :: (dB v178) :: d175 :: d176 :: d177 :: (dB v186) :: (dB v186) :: d183 :: d184 :: d185 :: (dB v194) :: (dB v194) :: d191 :: d192 :: d193 :: (dB v195) :: q2 ((.ptr 1 4) :: (dI a1.fMost) :: (dB v205) :: (dB v205) :: d200 :: d201 :: d202 :: d203 :: d204 :: (dB v206) :: q30 []))))))), [(b21_0 a0), (b21_1 a1), b21_2]⟩ (by kernel_rfl) ?_
                              exact J21j150  _ _ _ _ _ _ _ _ _ _ _ _ _ _ _ _ _ _ _ _ _ _ _ _ _ _ _ _ _ _ _ _ _ _ _ _ h
                          refine Ops.hv (fun KQ => ∀ v198 : Bool, f21_r5 m K a0 a1 a2 (v198 && (decide (a1.fMost < a1.fLeast))) = some o → KQ 4 ⟨(.ptr 0 0) :: q1 ((dI a2) :: q1 ((.ptr 1 0) :: q1 ((.ptr 2 0) :: (dI a0.fNodes) :: q40 (q31 ((dP eI a1.fLabels) :: (dI (a1.fLabels.length : Int)) :: (dI y112) :: q24 ((.ptr 1 0) :: (dI a1.fKind) :: (dB (a1.fKind == 5)) :: (.ptr 1 3) :: (dI a1.fLeast) :: (dB v178) :: (dB v178) :: d175 :: d176 :: d177 :: (dB v186) :: (dB v186) :: d183 :: d184 :: d185 :: (dB v194) :: (dB v194) :: d191 :: d192 :: d193 :: (dB v195) :: q2 ((.ptr 1 4) :: (dI a1.fMost) :: (dB v198) :: (dB v198) :: q36 []))))))), [(b21_0 a0), (b21_1 a1), b21_2]⟩) ?_ fun G21g199 => Ops.st _ (by kernel_rfl) (G21g199 (decide (a1.fMost ≥ 0)) h)
                          intro v198 h
                          cases v198
                          · refine Ops.sg 6 10 ?_
                            exact Ops.st _ (by kernel_rfl) (J21j207 U U U U U false false h)
                          · refine Ops.sg 6 10 ?_
                            exact Ops.st _ (by kernel_rfl) (J21j207 (.ptr 1 4) (dI a1.fMost) (.ptr 1 3) (dI a1.fLeast) (dB (decide (a1.fMost < a1.fLeast))) true (decide (a1.fMost < a1.fLeast)) h)
                      refine Ops.hv (fun KQ => ∀ v189 : Bool, f21_r6 m K a0 a1 a2 (v189 || (decide (a1.fMost > 9))) = some o → KQ 14 ⟨(.ptr 0 0) :: q1 ((dI a2) :: q1 ((.ptr 1 0) :: q1 ((.ptr 2 0) :: (dI a0.fNodes) :: q40 (q31 ((dP eI a1.fLabels) :: (dI (a1.fLabels.length : Int)) :: (dI y112) :: q24 ((.ptr 1 0) :: (dI a1.fKind) :: (dB (a1.fKind == 5)) :: (.ptr 1 3) :: (dI a1.fLeast) :: (dB v178) :: (dB v178) :: d175 :: d176 :: d177 :: (dB v186) :: (dB v186) :: d183 :: d184 :: d185 :: (dB v189) :: (dB v189) :: q40 (q6 []))))))), [(b21_0 a0), (b21_1 a1), b21_2]⟩) ?_ fun G21g190 => Ops.st _ (by kernel_rfl) (G21g190 v187 h)
                      intro v189 h
                      cases v189
                      · refine Ops.sg 4 18 ?_
                        exact Ops.st _ (by kernel_rfl) (J21j196 (.ptr 1 4) (dI a1.fMost) (dB (decide (a1.fMost > 9))) false (decide (a1.fMost > 9)) h)
                      · refine Ops.sg 4 18 ?_
                        exact Ops.st _ (by kernel_rfl) (J21j196 U U U true true h)
                    refine Ops.hv (fun KQ => ∀ v181 : Bool, f21_r7 m K a0 a1 a2 (v181 || (decide (a1.fMost < (-1)))) = some o → KQ 9 ⟨(.ptr 0 0) :: q1 ((dI a2) :: q1 ((.ptr 1 0) :: q1 ((.ptr 2 0) :: (dI a0.fNodes) :: q40 (q31 ((dP eI a1.fLabels) :: (dI (a1.fLabels.length : Int)) :: (dI y112) :: q24 ((.ptr 1 0) :: (dI a1.fKind) :: (dB (a1.fKind == 5)) :: (.ptr 1 3) :: (dI a1.fLeast) :: (dB v178) :: (dB v178) :: d175 :: d176 :: d177 :: (dB v181) :: (dB v181) :: q40 (q11 []))))))), [(b21_0 a0), (b21_1 a1), b21_2]⟩) ?_ fun G21g182 => Ops.st _ (by kernel_rfl) (G21g182 v179 h)
                    intro v181 h
                    cases v181
                    · refine Ops.sg 4 13 ?_
                      exact Ops.st _ (by kernel_rfl) (J21j188 (.ptr 1 4) (dI a1.fMost) (dB (decide (a1.fMost < (-1)))) false (decide (a1.fMost < (-1))) h)
                    · refine Ops.sg 4 13 ?_
                      exact Ops.st _ (by kernel_rfl) (J21j188 U U U true true h)
                  refine Ops.hv (fun KQ => ∀ v173 : Bool, f21_r8 m K a0 a1 a2 (v173 || (decide (a1.fLeast > 9))) = some o → KQ 4 ⟨(.ptr 0 0) :: q1 ((dI a2) :: q1 ((.ptr 1 0) :: q1 ((.ptr 2 0) :: (dI a0.fNodes) :: q40 (q31 ((dP eI a1.fLabels) :: (dI (a1.fLabels.length : Int)) :: (dI y112) :: q24 ((.ptr 1 0) :: (dI a1.fKind) :: (dB (a1.fKind == 5)) :: (.ptr 1 3) :: (dI a1.fLeast) :: (dB v173) :: (dB v173) :: q40 (q16 []))))))), [(b21_0 a0), (b21_1 a1), b21_2]⟩) ?_ fun G21g174 => Ops.st _ (by kernel_rfl) (G21g174 (decide (a1.fLeast < 0)) h)
                  intro v173 h
                  cases v173
                  · refine Ops.sg 4 8 ?_
                    exact Ops.st _ (by kernel_rfl) (J21j180 (.ptr 1 3) (dI a1.fLeast) (dB (decide (a1.fLeast > 9))) false (decide (a1.fLeast > 9)) h)
                  · refine Ops.sg 4 8 ?_
                    exact Ops.st _ (by kernel_rfl) (J21j180 U U U true true h)
                · refine Wp.sq ?_
                  refine Wp.rg ?_
                  refine Ops.sg 4 4 ?_
                  refine Ops.hv (fun KQ => ∀ (d211 d212 d213 : D) (v214 : Bool) (v215 : Bool), f21_r9 m K a0 a1 a2 v215 = some o → KQ 8 ⟨(.ptr 0 0) :: q1 ((dI a2) :: q1 ((.ptr 1 0) :: q1 ((.ptr 2 0) :: (dI a0.fNodes) :: q40 (q31 ((dP eI a1.fLabels) :: (dI (a1.fLabels.length : Int)) :: (dI y112) :: q24 ((.ptr 1 0) :: (dI a1.fKind) :: (dB (a1.fKind == 5)) :: q32 ((.ptr 1 3) :: (dI a1.fLeast) :: (dB v214) :: (dB v214) :: d211 :: d212 :: d213 :: (dB v215) :: q20 []))))))), [(b21_0 a0), (b21_1 a1), b21_2]⟩) ?_ fun J21j216 => ?_
                  · intro d211 d212 d213 v214 v215 h
                    unfold f21_r9 at h
                    refine Ops.dn ?_
                    refine seqQ.n ?_
                    refine Wp.cnd h [0, 2, 4, 6] 3 (by kernel_rfl) (fun h => ?_) (fun h => ?_)
                    · refine Wp.sq ?_
                      refine Wp.rg ?_
                      refine Ops.sg 1 1 ?_
                      obtain ⟨v217, ev217, h⟩ := bnd_some h
                      refine Ops.on 2 (fun h0 e0 => (call_ok (E' := E) (h := h0) (by kernel_rfl) (Args.v (vI 5) (eI 5) (by kernel_rfl) (Args.v (vI a0.fNodes) (eI a0.fNodes) (by kernel_rfl) Args.nil)) (ok23 m 5 a0.fNodes v217 ev217 n (by omega)))) ?_
                      refine Ops.sg 1 3 ?_
                      refine Ops.dn ?_
                      refine seqQ.n ?_
                      refine Wp.ret (by kernel_rfl) ?_
                      refine sqQ.r ?_
                      refine sqQ.r ?_
                      refine seqQ.r ?_
                      exact fnQP.r' (X21 n) (fun z => (e27 z)) c45 h (RetOkP.mk' (.v (.agg [(vI v217.fCode), (vI v217.fIndex)])) (by kernel_rfl) (by kernel_rfl) (by kernel_rfl) (by kernel_rfl))
                    · refine Wp.sk ?_
                      refine sqQ.n' ?_
                      refine sqQ.n ⟨(.ptr 0 0) :: q1 ((dI a2) :: q1 ((.ptr 1 0) :: q1 ((.ptr 2 0) :: (dI a0.fNodes) :: q40 (q31 ((dP eI a1.fLabels) :: (dI (a1.fLabels.length : Int)) :: (dI y112) :: q24 ((.ptr 1 0) :: (dI a1.fKind) :: (dB (a1.fKind == 5)) :: q32 ((.ptr 1 3) :: (dI a1.fLeast) :: (dB v214) :: (dB v214) :: d211 :: d212 :: d213 :: (dB v215) :: q20 []))))))), [(b21_0 a0), (b21_1 a1), b21_2]⟩ (by kernel_rfl) ?_
                      exact J21j150  _ _ _ _ _ _ _ _ _ _ _ _ _ _ _ _ _ _ _ _ _ _ _ _ _ _ _ _ _ _ _ _ _ _ _ _ h
                  refine Ops.hv (fun KQ => ∀ v209 : Bool, f21_r9 m K a0 a1 a2 (v209 || (a1.fMost != 0)) = some o → KQ 4 ⟨(.ptr 0 0) :: q1 ((dI a2) :: q1 ((.ptr 1 0) :: q1 ((.ptr 2 0) :: (dI a0.fNodes) :: q40 (q31 ((dP eI a1.fLabels) :: (dI (a1.fLabels.length : Int)) :: (dI y112) :: q24 ((.ptr 1 0) :: (dI a1.fKind) :: (dB (a1.fKind == 5)) :: q32 ((.ptr 1 3) :: (dI a1.fLeast) :: (dB v209) :: (dB v209) :: q24 []))))))), [(b21_0 a0), (b21_1 a1), b21_2]⟩) ?_ fun G21g210 => Ops.st _ (by kernel_rfl) (G21g210 (a1.fLeast != 0) h)
                  intro v209 h
                  cases v209
                  · refine Ops.sg 4 8 ?_
                    exact Ops.st _ (by kernel_rfl) (J21j216 (.ptr 1 4) (dI a1.fMost) (dB (a1.fMost != 0)) false (a1.fMost != 0) h)
                  · refine Ops.sg 4 8 ?_
                    exact Ops.st _ (by kernel_rfl) (J21j216 U U U true true h)
          refine Ops.hv (fun KQ => ∀ v38 : Bool, f21_r10 m K a0 a1 a2 (v38 || (decide ((a1.fLabels.length : Int) > 300))) = some o → KQ 14 ⟨(.ptr 0 0) :: (.v (.agg [(vI a1.fKind), (vP eI a1.fLabels), (vP ep24 a1.fSubs), (vI a1.fLeast), (vI a1.fMost)])) :: (dI a2) :: u1 ((.ptr 1 0) :: u1 ((.ptr 2 0) :: (dI a0.fNodes) :: (dI v9) :: (dI (a1.fLabels.length : Int)) :: u5 ((.ptr 0 0) :: (.ptr 0 0) :: (.ptr 0 0) :: (dI a0.fNodes) :: (.ptr 0 0) :: (.ptr 0 0) :: (.ptr 0 0) :: (dI a0.fNodes) :: (dI (w64 (a0.fNodes + 1))) :: (.ptr 0 0) :: (.ptr 0 0) :: (.ptr 0 0) :: (.ptr 0 0) :: (.ptr 0 0) :: (dI (w64 (a0.fNodes + 1))) :: (dB v5) :: (dB v5) :: d10 :: d11 :: (dB v6) :: u2 ((.ptr 1 1) :: (dP eI a1.fLabels) :: (dI (a1.fLabels.length : Int)) :: (.ptr 1 0) :: (dI a1.fKind) :: u2 ((dB v12) :: (dB (a1.fKind == 1)) :: d13 :: d14 :: d15 :: d16 :: d17 :: d18 :: d19 :: d20 :: d21 :: d22 :: d23 :: d24 :: d25 :: (.ptr 1 2) :: (dP ep24 a1.fSubs) :: (dI (a1.fSubs.length : Int)) :: (dI v9) :: (dB v35) :: (dB v35) :: d29 :: d30 :: d31 :: d32 :: d33 :: d34 :: (dB v38) :: (dB v38) :: u40 (u40 (u16 []))))))), [(b21_0 a0), (b21_1 a1), b21_2]⟩) ?_ fun G21g39 => Ops.st _ (by kernel_rfl) (G21g39 v36 h)
          intro v38 h
          cases v38
          · refine Ops.sg 3 17 ?_
            exact Ops.st _ (by kernel_rfl) (J21j44 (dI (a1.fLabels.length : Int)) (dB (decide ((a1.fLabels.length : Int) > 300))) false (decide ((a1.fLabels.length : Int) > 300)) h)
          · refine Ops.sg 3 17 ?_
            exact Ops.st _ (by kernel_rfl) (J21j44 U U true true h)
        refine Ops.hv (fun KQ => ∀ v27 : Bool, f21_r11 m K a0 a1 a2 (v27 || (!((a1.fKind == 2) == (decide ((a1.fLabels.length : Int) > 0))))) = some o → KQ 6 ⟨(.ptr 0 0) :: (.v (.agg [(vI a1.fKind), (vP eI a1.fLabels), (vP ep24 a1.fSubs), (vI a1.fLeast), (vI a1.fMost)])) :: (dI a2) :: u1 ((.ptr 1 0) :: u1 ((.ptr 2 0) :: (dI a0.fNodes) :: (dI v9) :: (dI (a1.fLabels.length : Int)) :: u5 ((.ptr 0 0) :: (.ptr 0 0) :: (.ptr 0 0) :: (dI a0.fNodes) :: (.ptr 0 0) :: (.ptr 0 0) :: (.ptr 0 0) :: (dI a0.fNodes) :: (dI (w64 (a0.fNodes + 1))) :: (.ptr 0 0) :: (.ptr 0 0) :: (.ptr 0 0) :: (.ptr 0 0) :: (.ptr 0 0) :: (dI (w64 (a0.fNodes + 1))) :: (dB v5) :: (dB v5) :: d10 :: d11 :: (dB v6) :: u2 ((.ptr 1 1) :: (dP eI a1.fLabels) :: (dI (a1.fLabels.length : Int)) :: (.ptr 1 0) :: (dI a1.fKind) :: u2 ((dB v12) :: (dB (a1.fKind == 1)) :: d13 :: d14 :: d15 :: d16 :: d17 :: d18 :: d19 :: d20 :: d21 :: d22 :: d23 :: d24 :: d25 :: (.ptr 1 2) :: (dP ep24 a1.fSubs) :: (dI (a1.fSubs.length : Int)) :: (dI v9) :: (dB v27) :: (dB v27) :: u40 (u40 (u24 []))))))), [(b21_0 a0), (b21_1 a1), b21_2]⟩) ?_ fun G21g28 => Ops.st _ (by kernel_rfl) (G21g28 ((a1.fSubs.length : Int) != v9) h)
        intro v27 h
        cases v27
        · refine Ops.sg 7 13 ?_
          exact Ops.st _ (by kernel_rfl) (J21j37 (.ptr 1 0) (dI a1.fKind) (dB (a1.fKind == 2)) (dI (a1.fLabels.length : Int)) (dB (decide ((a1.fLabels.length : Int) > 0))) (dB (!((a1.fKind == 2) == (decide ((a1.fLabels.length : Int) > 0))))) false (!((a1.fKind == 2) == (decide ((a1.fLabels.length : Int) > 0)))) h)
        · refine Ops.sg 7 13 ?_
          exact Ops.st _ (by kernel_rfl) (J21j37 U U U U U U true true h)
      refine Wp.block' 0 k21_2 3 (by kernel_rfl) ?_
      refine Wp.sq ?_
      refine Wp.sq ?_
      refine Wp.rg ?_
      refine Ops.sg 2 2 ?_
      refine Ops.dn ?_
      refine seqQ.n ?_
      have J21j222 : ∀ (v220 : Bool) (d218 : D) (d219 : D) (d221 : D), f21_j18 m K a0 a1 a2 v220 = some o → (seqQ (X21 n) (cR (cL (cR (cL (cR (cR (cR (cR (cR C21))))))))) (blkQ (X21 n) 0 k21_2 3 (seqQ (X21 n) p21_0 (fnQP (X21 n).E.T (resOf Proofs.Tryd.prog 21) (e27 o.1) (c45 o.2))))) .normal ⟨(.ptr 0 0) :: (.v (.agg [(vI a1.fKind), (vP eI a1.fLabels), (vP ep24 a1.fSubs), (vI a1.fLeast), (vI a1.fMost)])) :: (dI a2) :: u1 ((.ptr 1 0) :: u1 ((.ptr 2 0) :: (dI a0.fNodes) :: (dI 0) :: (dI (a1.fLabels.length : Int)) :: u5 ((.ptr 0 0) :: (.ptr 0 0) :: (.ptr 0 0) :: (dI a0.fNodes) :: (.ptr 0 0) :: (.ptr 0 0) :: (.ptr 0 0) :: (dI a0.fNodes) :: (dI (w64 (a0.fNodes + 1))) :: (.ptr 0 0) :: (.ptr 0 0) :: (.ptr 0 0) :: (.ptr 0 0) :: (.ptr 0 0) :: (dI (w64 (a0.fNodes + 1))) :: (dB v5) :: (dB v5) :: d218 :: d219 :: (dB v6) :: u2 ((.ptr 1 1) :: (dP eI a1.fLabels) :: (dI (a1.fLabels.length : Int)) :: (.ptr 1 0) :: (dI a1.fKind) :: u2 ((dB v220) :: (dB (a1.fKind == 1)) :: d221 :: u40 (u40 (u40 (u2 [])))))))), [(b21_0 a0), (b21_1 a1), b21_2]⟩ := by
        intro v220 d218 d219 d221 h
        unfold f21_j18 at h
        refine seqQ.n ?_
        have J21j239 : ∀ (v223 : Int) (d224 : D) (d225 : D) (d226 : D) (d227 : D) (d228 : D) (d229 : D) (d230 : D) (d231 : D) (d232 : D) (d233 : D) (d234 : D) (d235 : D) (d236 : D) (d237 : D) (d238 : D), f21_j13 m K a0 a1 a2 v220 v223 = some o → (blkQ (X21 n) 0 k21_2 3 (seqQ (X21 n) p21_0 (fnQP (X21 n).E.T (resOf Proofs.Tryd.prog 21) (e27 o.1) (c45 o.2)))) .normal ⟨(.ptr 0 0) :: (.v (.agg [(vI a1.fKind), (vP eI a1.fLabels), (vP ep24 a1.fSubs), (vI a1.fLeast), (vI a1.fMost)])) :: (dI a2) :: u1 ((.ptr 1 0) :: u1 ((.ptr 2 0) :: (dI a0.fNodes) :: (dI v223) :: (dI (a1.fLabels.length : Int)) :: u5 ((.ptr 0 0) :: (.ptr 0 0) :: (.ptr 0 0) :: (dI a0.fNodes) :: (.ptr 0 0) :: (.ptr 0 0) :: (.ptr 0 0) :: (dI a0.fNodes) :: (dI (w64 (a0.fNodes + 1))) :: (.ptr 0 0) :: (.ptr 0 0) :: (.ptr 0 0) :: (.ptr 0 0) :: (.ptr 0 0) :: (dI (w64 (a0.fNodes + 1))) :: (dB v5) :: (dB v5) :: d224 :: d225 :: (dB v6) :: u2 ((.ptr 1 1) :: (dP eI a1.fLabels) :: (dI (a1.fLabels.length : Int)) :: (.ptr 1 0) :: (dI a1.fKind) :: u2 ((dB v220) :: (dB (a1.fKind == 1)) :: d226 :: d227 :: d228 :: d229 :: d230 :: d231 :: d232 :: d233 :: d234 :: d235 :: d236 :: d237 :: d238 :: u40 (u40 (u30 []))))))), [(b21_0 a0), (b21_1 a1), b21_2]⟩ := by
          intro v223 d224 d225 d226 d227 d228 d229 d230 d231 d232 d233 d234 d235 d236 d237 d238 h
          unfold f21_j13 at h
          refine blkQ.n ⟨(.ptr 0 0) :: (.v (.agg [(vI a1.fKind), (vP eI a1.fLabels), (vP ep24 a1.fSubs), (vI a1.fLeast), (vI a1.fMost)])) :: (dI a2) :: u1 ((.ptr 1 0) :: u1 ((.ptr 2 0) :: (dI a0.fNodes) :: (dI v223) :: (dI (a1.fLabels.length : Int)) :: u5 ((.ptr 0 0) :: (.ptr 0 0) :: (.ptr 0 0) :: (dI a0.fNodes) :: (.ptr 0 0) :: (.ptr 0 0) :: (.ptr 0 0) :: (dI a0.fNodes) :: (dI (w64 (a0.fNodes + 1))) :: (.ptr 0 0) :: (.ptr 0 0) :: (.ptr 0 0) :: (.ptr 0 0) :: (.ptr 0 0) :: (dI (w64 (a0.fNodes + 1))) :: (dB v5) :: (dB v5) :: d224 :: d225 :: (dB v6) :: u2 ((.ptr 1 1) :: (dP eI a1.fLabels) :: (dI (a1.fLabels.length : Int)) :: (.ptr 1 0) :: (dI a1.fKind) :: u2 ((dB v220) :: (dB (a1.fKind == 1)) :: d226 :: d227 :: d228 :: d229 :: d230 :: d231 :: d232 :: d233 :: d234 :: d235 :: d236 :: d237 :: d238 :: u40 (u40 (u30 []))))))), [(b21_0 a0), (b21_1 a1), b21_2]⟩ (by kernel_rfl) ?_
          exact J21j26 v223 v220 _ _ _ _ _ _ _ _ _ _ _ _ _ _ _ h
        refine Wp.cnd h k21_3 3 (by kernel_rfl) (fun h => ?_) (fun h => ?_)
        · refine Wp.sk ?_
          refine sqQ.n ⟨(.ptr 0 0) :: (.v (.agg [(vI a1.fKind), (vP eI a1.fLabels), (vP ep24 a1.fSubs), (vI a1.fLeast), (vI a1.fMost)])) :: (dI a2) :: u1 ((.ptr 1 0) :: u1 ((.ptr 2 0) :: (dI a0.fNodes) :: (dI 0) :: (dI (a1.fLabels.length : Int)) :: u5 ((.ptr 0 0) :: (.ptr 0 0) :: (.ptr 0 0) :: (dI a0.fNodes) :: (.ptr 0 0) :: (.ptr 0 0) :: (.ptr 0 0) :: (dI a0.fNodes) :: (dI (w64 (a0.fNodes + 1))) :: (.ptr 0 0) :: (.ptr 0 0) :: (.ptr 0 0) :: (.ptr 0 0) :: (.ptr 0 0) :: (dI (w64 (a0.fNodes + 1))) :: (dB v5) :: (dB v5) :: d218 :: d219 :: (dB v6) :: u2 ((.ptr 1 1) :: (dP eI a1.fLabels) :: (dI (a1.fLabels.length : Int)) :: (.ptr 1 0) :: (dI a1.fKind) :: u2 ((dB v220) :: (dB (a1.fKind == 1)) :: d221 :: u40 (u40 (u40 (u2 [])))))))), [(b21_0 a0), (b21_1 a1), b21_2]⟩ (by kernel_rfl) ?_
          exact J21j239 0 _ _ _ _ _ _ _ _ _ _ _ _ _ _ _ h
        · refine Wp.sq ?_
          refine Wp.sq ?_
          refine Wp.rg ?_
          refine Ops.sg 2 2 ?_
          refine Ops.dn ?_
          refine seqQ.n ?_
          have J21j245 : ∀ (v243 : Bool) (d240 : D) (d241 : D) (d242 : D) (d244 : D), f21_j17 m K a0 a1 a2 v220 v243 = some o → (seqQ (X21 n) (cR (cR (cR (cL (cR (cL (cR (cR (cR (cR (cR C21))))))))))) (sqQ (X21 n) k21_3 3 (blkQ (X21 n) 0 k21_2 3 (seqQ (X21 n) p21_0 (fnQP (X21 n).E.T (resOf Proofs.Tryd.prog 21) (e27 o.1) (c45 o.2)))))) .normal ⟨(.ptr 0 0) :: (.v (.agg [(vI a1.fKind), (vP eI a1.fLabels), (vP ep24 a1.fSubs), (vI a1.fLeast), (vI a1.fMost)])) :: (dI a2) :: u1 ((.ptr 1 0) :: u1 ((.ptr 2 0) :: (dI a0.fNodes) :: (dI 0) :: (dI (a1.fLabels.length : Int)) :: u5 ((.ptr 0 0) :: (.ptr 0 0) :: (.ptr 0 0) :: (dI a0.fNodes) :: (.ptr 0 0) :: (.ptr 0 0) :: (.ptr 0 0) :: (dI a0.fNodes) :: (dI (w64 (a0.fNodes + 1))) :: (.ptr 0 0) :: (.ptr 0 0) :: (.ptr 0 0) :: (.ptr 0 0) :: (.ptr 0 0) :: (dI (w64 (a0.fNodes + 1))) :: (dB v5) :: (dB v5) :: d240 :: d241 :: (dB v6) :: u2 ((.ptr 1 1) :: (dP eI a1.fLabels) :: (dI (a1.fLabels.length : Int)) :: (.ptr 1 0) :: (dI a1.fKind) :: u2 ((dB v220) :: (dB (a1.fKind == 1)) :: d242 :: (dB v243) :: (dB (a1.fKind == 3)) :: d244 :: u40 (u40 (u39 []))))))), [(b21_0 a0), (b21_1 a1), b21_2]⟩ := by
            intro v243 d240 d241 d242 d244 h
            unfold f21_j17 at h
            refine seqQ.n ?_
            have J21j260 : ∀ (v246 : Int) (d247 : D) (d248 : D) (d249 : D) (d250 : D) (d251 : D) (d252 : D) (d253 : D) (d254 : D) (d255 : D) (d256 : D) (d257 : D) (d258 : D) (d259 : D), f21_j14 m K a0 a1 a2 v220 v246 = some o → (sqQ (X21 n) k21_3 3 (blkQ (X21 n) 0 k21_2 3 (seqQ (X21 n) p21_0 (fnQP (X21 n).E.T (resOf Proofs.Tryd.prog 21) (e27 o.1) (c45 o.2))))) .normal ⟨(.ptr 0 0) :: (.v (.agg [(vI a1.fKind), (vP eI a1.fLabels), (vP ep24 a1.fSubs), (vI a1.fLeast), (vI a1.fMost)])) :: (dI a2) :: u1 ((.ptr 1 0) :: u1 ((.ptr 2 0) :: (dI a0.fNodes) :: (dI v246) :: (dI (a1.fLabels.length : Int)) :: u5 ((.ptr 0 0) :: (.ptr 0 0) :: (.ptr 0 0) :: (dI a0.fNodes) :: (.ptr 0 0) :: (.ptr 0 0) :: (.ptr 0 0) :: (dI a0.fNodes) :: (dI (w64 (a0.fNodes + 1))) :: (.ptr 0 0) :: (.ptr 0 0) :: (.ptr 0 0) :: (.ptr 0 0) :: (.ptr 0 0) :: (dI (w64 (a0.fNodes + 1))) :: (dB v5) :: (dB v5) :: d247 :: d248 :: (dB v6) :: u2 ((.ptr 1 1) :: (dP eI a1.fLabels) :: (dI (a1.fLabels.length : Int)) :: (.ptr 1 0) :: (dI a1.fKind) :: u2 ((dB v220) :: (dB (a1.fKind == 1)) :: d249 :: (dB v243) :: (dB (a1.fKind == 3)) :: d250 :: d251 :: d252 :: d253 :: d254 :: d255 :: d256 :: d257 :: d258 :: d259 :: u40 (u40 (u30 []))))))), [(b21_0 a0), (b21_1 a1), b21_2]⟩ := by
              intro v246 d247 d248 d249 d250 d251 d252 d253 d254 d255 d256 d257 d258 d259 h
              unfold f21_j14 at h
              refine sqQ.n ⟨(.ptr 0 0) :: (.v (.agg [(vI a1.fKind), (vP eI a1.fLabels), (vP ep24 a1.fSubs), (vI a1.fLeast), (vI a1.fMost)])) :: (dI a2) :: u1 ((.ptr 1 0) :: u1 ((.ptr 2 0) :: (dI a0.fNodes) :: (dI v246) :: (dI (a1.fLabels.length : Int)) :: u5 ((.ptr 0 0) :: (.ptr 0 0) :: (.ptr 0 0) :: (dI a0.fNodes) :: (.ptr 0 0) :: (.ptr 0 0) :: (.ptr 0 0) :: (dI a0.fNodes) :: (dI (w64 (a0.fNodes + 1))) :: (.ptr 0 0) :: (.ptr 0 0) :: (.ptr 0 0) :: (.ptr 0 0) :: (.ptr 0 0) :: (dI (w64 (a0.fNodes + 1))) :: (dB v5) :: (dB v5) :: d247 :: d248 :: (dB v6) :: u2 ((.ptr 1 1) :: (dP eI a1.fLabels) :: (dI (a1.fLabels.length : Int)) :: (.ptr 1 0) :: (dI a1.fKind) :: u2 ((dB v220) :: (dB (a1.fKind == 1)) :: d249 :: (dB v243) :: (dB (a1.fKind == 3)) :: d250 :: d251 :: d252 :: d253 :: d254 :: d255 :: d256 :: d257 :: d258 :: d259 :: u40 (u40 (u30 []))))))), [(b21_0 a0), (b21_1 a1), b21_2]⟩ (by kernel_rfl) ?_
              exact J21j239 v246 _ _ _ _ _ _ _ _ _ _ _ _ _ _ _ h
            refine Wp.cnd h k21_4 3 (by kernel_rfl) (fun h => ?_) (fun h => ?_)
            · refine Wp.rg ?_
              refine Ops.sg 2 2 ?_
              refine Ops.on 3 (fun h0 e0 => (len_r (T := T) h0 23 25 .plain ep24 a1.fSubs (by kernel_rfl))) ?_
              refine Ops.sg 2 5 ?_
              refine Ops.dn ?_
              refine sqQ.n ⟨(.ptr 0 0) :: (.v (.agg [(vI a1.fKind), (vP eI a1.fLabels), (vP ep24 a1.fSubs), (vI a1.fLeast), (vI a1.fMost)])) :: (dI a2) :: u1 ((.ptr 1 0) :: u1 ((.ptr 2 0) :: (dI a0.fNodes) :: (dI (if (a1.fSubs.length : Int) > 2 then (a1.fSubs.length : Int) else 2)) :: (dI (a1.fLabels.length : Int)) :: u5 ((.ptr 0 0) :: (.ptr 0 0) :: (.ptr 0 0) :: (dI a0.fNodes) :: (.ptr 0 0) :: (.ptr 0 0) :: (.ptr 0 0) :: (dI a0.fNodes) :: (dI (w64 (a0.fNodes + 1))) :: (.ptr 0 0) :: (.ptr 0 0) :: (.ptr 0 0) :: (.ptr 0 0) :: (.ptr 0 0) :: (dI (w64 (a0.fNodes + 1))) :: (dB v5) :: (dB v5) :: d240 :: d241 :: (dB v6) :: u2 ((.ptr 1 1) :: (dP eI a1.fLabels) :: (dI (a1.fLabels.length : Int)) :: (.ptr 1 0) :: (dI a1.fKind) :: u2 ((dB v220) :: (dB (a1.fKind == 1)) :: d242 :: (dB v243) :: (dB (a1.fKind == 3)) :: d244 :: (.ptr 1 2) :: (dP ep24 a1.fSubs) :: (dI (a1.fSubs.length : Int)) :: (dI (if (a1.fSubs.length : Int) > 2 then (a1.fSubs.length : Int) else 2)) :: u40 (u40 (u35 []))))))), [(b21_0 a0), (b21_1 a1), b21_2]⟩ (by kernel_rfl) ?_
              exact J21j260 (if (a1.fSubs.length : Int) > 2 then (a1.fSubs.length : Int) else 2) _ _ _ _ _ _ _ _ _ _ _ _ _ h
            · refine Wp.sq ?_
              refine Wp.rg ?_
              refine Ops.sg 2 2 ?_
              refine Ops.dn ?_
              refine seqQ.n ?_
              have J21j269 : ∀ (v261 : Int) (d262 : D) (d263 : D) (d264 : D) (d265 : D) (d266 : D) (d267 : D) (d268 : D), f21_j15 m K a0 a1 a2 v220 v261 = some o → (sqQ (X21 n) k21_4 3 (sqQ (X21 n) k21_3 3 (blkQ (X21 n) 0 k21_2 3 (seqQ (X21 n) p21_0 (fnQP (X21 n).E.T (resOf Proofs.Tryd.prog 21) (e27 o.1) (c45 o.2)))))) .normal ⟨(.ptr 0 0) :: (.v (.agg [(vI a1.fKind), (vP eI a1.fLabels), (vP ep24 a1.fSubs), (vI a1.fLeast), (vI a1.fMost)])) :: (dI a2) :: u1 ((.ptr 1 0) :: u1 ((.ptr 2 0) :: (dI a0.fNodes) :: (dI v261) :: (dI (a1.fLabels.length : Int)) :: u5 ((.ptr 0 0) :: (.ptr 0 0) :: (.ptr 0 0) :: (dI a0.fNodes) :: (.ptr 0 0) :: (.ptr 0 0) :: (.ptr 0 0) :: (dI a0.fNodes) :: (dI (w64 (a0.fNodes + 1))) :: (.ptr 0 0) :: (.ptr 0 0) :: (.ptr 0 0) :: (.ptr 0 0) :: (.ptr 0 0) :: (dI (w64 (a0.fNodes + 1))) :: (dB v5) :: (dB v5) :: d262 :: d263 :: (dB v6) :: u2 ((.ptr 1 1) :: (dP eI a1.fLabels) :: (dI (a1.fLabels.length : Int)) :: (.ptr 1 0) :: (dI a1.fKind) :: u2 ((dB v220) :: (dB (a1.fKind == 1)) :: d264 :: (dB v243) :: (dB (a1.fKind == 3)) :: d265 :: u4 ((dB (a1.fKind == 5)) :: (dB (a1.fKind == 5)) :: d266 :: d267 :: d268 :: u40 (u40 (u30 [])))))))), [(b21_0 a0), (b21_1 a1), b21_2]⟩ := by
                intro v261 d262 d263 d264 d265 d266 d267 d268 h
                unfold f21_j15 at h
                refine sqQ.n ⟨(.ptr 0 0) :: (.v (.agg [(vI a1.fKind), (vP eI a1.fLabels), (vP ep24 a1.fSubs), (vI a1.fLeast), (vI a1.fMost)])) :: (dI a2) :: u1 ((.ptr 1 0) :: u1 ((.ptr 2 0) :: (dI a0.fNodes) :: (dI v261) :: (dI (a1.fLabels.length : Int)) :: u5 ((.ptr 0 0) :: (.ptr 0 0) :: (.ptr 0 0) :: (dI a0.fNodes) :: (.ptr 0 0) :: (.ptr 0 0) :: (.ptr 0 0) :: (dI a0.fNodes) :: (dI (w64 (a0.fNodes + 1))) :: (.ptr 0 0) :: (.ptr 0 0) :: (.ptr 0 0) :: (.ptr 0 0) :: (.ptr 0 0) :: (dI (w64 (a0.fNodes + 1))) :: (dB v5) :: (dB v5) :: d262 :: d263 :: (dB v6) :: u2 ((.ptr 1 1) :: (dP eI a1.fLabels) :: (dI (a1.fLabels.length : Int)) :: (.ptr 1 0) :: (dI a1.fKind) :: u2 ((dB v220) :: (dB (a1.fKind == 1)) :: d264 :: (dB v243) :: (dB (a1.fKind == 3)) :: d265 :: u4 ((dB (a1.fKind == 5)) :: (dB (a1.fKind == 5)) :: d266 :: d267 :: d268 :: u40 (u40 (u30 [])))))))), [(b21_0 a0), (b21_1 a1), b21_2]⟩ (by kernel_rfl) ?_
                exact J21j260 v261 _ _ _ _ _ _ _ _ _ _ _ _ _ h
              refine Wp.cnd h k21_2 3 (by kernel_rfl) (fun h => ?_) (fun h => ?_)
              · refine Wp.rg ?_
                refine Ops.sg 1 1 ?_
                refine Ops.dn ?_
                refine sqQ.n ⟨(.ptr 0 0) :: (.v (.agg [(vI a1.fKind), (vP eI a1.fLabels), (vP ep24 a1.fSubs), (vI a1.fLeast), (vI a1.fMost)])) :: (dI a2) :: u1 ((.ptr 1 0) :: u1 ((.ptr 2 0) :: (dI a0.fNodes) :: (dI 1) :: (dI (a1.fLabels.length : Int)) :: u5 ((.ptr 0 0) :: (.ptr 0 0) :: (.ptr 0 0) :: (dI a0.fNodes) :: (.ptr 0 0) :: (.ptr 0 0) :: (.ptr 0 0) :: (dI a0.fNodes) :: (dI (w64 (a0.fNodes + 1))) :: (.ptr 0 0) :: (.ptr 0 0) :: (.ptr 0 0) :: (.ptr 0 0) :: (.ptr 0 0) :: (dI (w64 (a0.fNodes + 1))) :: (dB v5) :: (dB v5) :: d240 :: d241 :: (dB v6) :: u2 ((.ptr 1 1) :: (dP eI a1.fLabels) :: (dI (a1.fLabels.length : Int)) :: (.ptr 1 0) :: (dI a1.fKind) :: u2 ((dB v220) :: (dB (a1.fKind == 1)) :: d242 :: (dB v243) :: (dB (a1.fKind == 3)) :: d244 :: u4 ((dB (a1.fKind == 5)) :: (dB (a1.fKind == 5)) :: u40 (u40 (u33 [])))))))), [(b21_0 a0), (b21_1 a1), b21_2]⟩ (by kernel_rfl) ?_
                exact J21j269 1 _ _ _ _ _ _ _ h
              · refine Wp.sq ?_
                refine Wp.sq ?_
                refine Wp.rg ?_
                refine Ops.sg 2 2 ?_
                refine Ops.dn ?_
                refine seqQ.n ?_
                have J21j276 : ∀ (v274 : Bool) (d270 : D) (d271 : D) (d272 : D) (d273 : D) (d275 : D), f21_j16 m K a0 a1 a2 v220 v274 = some o → (seqQ (X21 n) (cR (cR (cR (cR (cR (cR (cR (cL (cR (cL (cR (cR (cR (cR (cR C21))))))))))))))) (sqQ (X21 n) k21_2 3 (sqQ (X21 n) k21_4 3 (sqQ (X21 n) k21_3 3 (blkQ (X21 n) 0 k21_2 3 (seqQ (X21 n) p21_0 (fnQP (X21 n).E.T (resOf Proofs.Tryd.prog 21) (e27 o.1) (c45 o.2)))))))) .normal ⟨(.ptr 0 0) :: (.v (.agg [(vI a1.fKind), (vP eI a1.fLabels), (vP ep24 a1.fSubs), (vI a1.fLeast), (vI a1.fMost)])) :: (dI a2) :: u1 ((.ptr 1 0) :: u1 ((.ptr 2 0) :: (dI a0.fNodes) :: (dI 0) :: (dI (a1.fLabels.length : Int)) :: u5 ((.ptr 0 0) :: (.ptr 0 0) :: (.ptr 0 0) :: (dI a0.fNodes) :: (.ptr 0 0) :: (.ptr 0 0) :: (.ptr 0 0) :: (dI a0.fNodes) :: (dI (w64 (a0.fNodes + 1))) :: (.ptr 0 0) :: (.ptr 0 0) :: (.ptr 0 0) :: (.ptr 0 0) :: (.ptr 0 0) :: (dI (w64 (a0.fNodes + 1))) :: (dB v5) :: (dB v5) :: d270 :: d271 :: (dB v6) :: u2 ((.ptr 1 1) :: (dP eI a1.fLabels) :: (dI (a1.fLabels.length : Int)) :: (.ptr 1 0) :: (dI a1.fKind) :: u2 ((dB v220) :: (dB (a1.fKind == 1)) :: d272 :: (dB v243) :: (dB (a1.fKind == 3)) :: d273 :: u4 ((dB (a1.fKind == 5)) :: (dB (a1.fKind == 5)) :: (dB v274) :: (dB (a1.fKind == 6)) :: d275 :: u40 (u40 (u30 [])))))))), [(b21_0 a0), (b21_1 a1), b21_2]⟩ := by
                  intro v274 d270 d271 d272 d273 d275 h
                  unfold f21_j16 at h
                  refine seqQ.n ?_
                  refine Wp.cnd h [0, 2, 4, 6, 7, 8, 9, 56] 3 (by kernel_rfl) (fun h => ?_) (fun h => ?_)
                  · refine Wp.rg ?_
                    refine Ops.sg 1 1 ?_
                    refine Ops.dn ?_
                    refine sqQ.n' ?_
                    refine sqQ.n ⟨(.ptr 0 0) :: (.v (.agg [(vI a1.fKind), (vP eI a1.fLabels), (vP ep24 a1.fSubs), (vI a1.fLeast), (vI a1.fMost)])) :: (dI a2) :: u1 ((.ptr 1 0) :: u1 ((.ptr 2 0) :: (dI a0.fNodes) :: (dI 2) :: (dI (a1.fLabels.length : Int)) :: u5 ((.ptr 0 0) :: (.ptr 0 0) :: (.ptr 0 0) :: (dI a0.fNodes) :: (.ptr 0 0) :: (.ptr 0 0) :: (.ptr 0 0) :: (dI a0.fNodes) :: (dI (w64 (a0.fNodes + 1))) :: (.ptr 0 0) :: (.ptr 0 0) :: (.ptr 0 0) :: (.ptr 0 0) :: (.ptr 0 0) :: (dI (w64 (a0.fNodes + 1))) :: (dB v5) :: (dB v5) :: d270 :: d271 :: (dB v6) :: u2 ((.ptr 1 1) :: (dP eI a1.fLabels) :: (dI (a1.fLabels.length : Int)) :: (.ptr 1 0) :: (dI a1.fKind) :: u2 ((dB v220) :: (dB (a1.fKind == 1)) :: d272 :: (dB v243) :: (dB (a1.fKind == 3)) :: d273 :: u4 ((dB (a1.fKind == 5)) :: (dB (a1.fKind == 5)) :: (dB v274) :: (dB (a1.fKind == 6)) :: d275 :: u40 (u40 (u30 [])))))))), [(b21_0 a0), (b21_1 a1), b21_2]⟩ (by kernel_rfl) ?_
                    exact J21j269 2 _ _ _ _ _ _ _ h
                  · refine Wp.sq ?_
                    refine Wp.rg ?_
                    refine Ops.sg 1 1 ?_
                    obtain ⟨v277, ev277, h⟩ := bnd_some h
                    refine Ops.on 2 (fun h0 e0 => (call_ok (E' := E) (h := h0) (by kernel_rfl) (Args.v (vI 4) (eI 4) (by kernel_rfl) (Args.v (vI a0.fNodes) (eI a0.fNodes) (by kernel_rfl) Args.nil)) (ok23 m 4 a0.fNodes v277 ev277 n (by omega)))) ?_
                    refine Ops.sg 1 3 ?_
                    refine Ops.dn ?_
                    refine seqQ.n ?_
                    refine Wp.ret (by kernel_rfl) ?_
                    refine sqQ.r ?_
                    refine sqQ.r ?_
                    refine sqQ.r ?_
                    refine sqQ.r ?_
                    refine blkQ.r ?_
                    refine seqQ.r ?_
                    exact fnQP.r' (X21 n) (fun z => (e27 z)) c45 h (RetOkP.mk' (.v (.agg [(vI v277.fCode), (vI v277.fIndex)])) (by kernel_rfl) (by kernel_rfl) (by kernel_rfl) (by kernel_rfl))
                refine Wp.cnd h [0, 2, 4, 6, 7, 8, 9, 56] 3 (by kernel_rfl) (fun h => ?_) (fun h => ?_)
                · refine Wp.sk ?_
                  refine sqQ.n ⟨(.ptr 0 0) :: (.v (.agg [(vI a1.fKind), (vP eI a1.fLabels), (vP ep24 a1.fSubs), (vI a1.fLeast), (vI a1.fMost)])) :: (dI a2) :: u1 ((.ptr 1 0) :: u1 ((.ptr 2 0) :: (dI a0.fNodes) :: (dI 0) :: (dI (a1.fLabels.length : Int)) :: u5 ((.ptr 0 0) :: (.ptr 0 0) :: (.ptr 0 0) :: (dI a0.fNodes) :: (.ptr 0 0) :: (.ptr 0 0) :: (.ptr 0 0) :: (dI a0.fNodes) :: (dI (w64 (a0.fNodes + 1))) :: (.ptr 0 0) :: (.ptr 0 0) :: (.ptr 0 0) :: (.ptr 0 0) :: (.ptr 0 0) :: (dI (w64 (a0.fNodes + 1))) :: (dB v5) :: (dB v5) :: d240 :: d241 :: (dB v6) :: u2 ((.ptr 1 1) :: (dP eI a1.fLabels) :: (dI (a1.fLabels.length : Int)) :: (.ptr 1 0) :: (dI a1.fKind) :: u2 ((dB v220) :: (dB (a1.fKind == 1)) :: d242 :: (dB v243) :: (dB (a1.fKind == 3)) :: d244 :: u4 ((dB (a1.fKind == 5)) :: (dB (a1.fKind == 5)) :: (dB (a1.fKind == 6)) :: (dB (a1.fKind == 6)) :: u40 (u40 (u31 [])))))))), [(b21_0 a0), (b21_1 a1), b21_2]⟩ (by kernel_rfl) ?_
                  exact J21j276 (a1.fKind == 6) _ _ _ _ _ h
                · refine Wp.rg ?_
                  refine Ops.sg 2 2 ?_
                  refine Ops.dn ?_
                  refine sqQ.n ⟨(.ptr 0 0) :: (.v (.agg [(vI a1.fKind), (vP eI a1.fLabels), (vP ep24 a1.fSubs), (vI a1.fLeast), (vI a1.fMost)])) :: (dI a2) :: u1 ((.ptr 1 0) :: u1 ((.ptr 2 0) :: (dI a0.fNodes) :: (dI 0) :: (dI (a1.fLabels.length : Int)) :: u5 ((.ptr 0 0) :: (.ptr 0 0) :: (.ptr 0 0) :: (dI a0.fNodes) :: (.ptr 0 0) :: (.ptr 0 0) :: (.ptr 0 0) :: (dI a0.fNodes) :: (dI (w64 (a0.fNodes + 1))) :: (.ptr 0 0) :: (.ptr 0 0) :: (.ptr 0 0) :: (.ptr 0 0) :: (.ptr 0 0) :: (dI (w64 (a0.fNodes + 1))) :: (dB v5) :: (dB v5) :: d240 :: d241 :: (dB v6) :: u2 ((.ptr 1 1) :: (dP eI a1.fLabels) :: (dI (a1.fLabels.length : Int)) :: (.ptr 1 0) :: (dI a1.fKind) :: u2 ((dB v220) :: (dB (a1.fKind == 1)) :: d242 :: (dB v243) :: (dB (a1.fKind == 3)) :: d244 :: u4 ((dB (a1.fKind == 5)) :: (dB (a1.fKind == 5)) :: (dB (a1.fKind == 7)) :: (dB (a1.fKind == 6)) :: (dB (a1.fKind == 7)) :: u40 (u40 (u30 [])))))))), [(b21_0 a0), (b21_1 a1), b21_2]⟩ (by kernel_rfl) ?_
                  exact J21j276 (a1.fKind == 7) _ _ _ _ _ h
          refine Wp.cnd h k21_4 3 (by kernel_rfl) (fun h => ?_) (fun h => ?_)
          · refine Wp.sk ?_
            refine sqQ.n ⟨(.ptr 0 0) :: (.v (.agg [(vI a1.fKind), (vP eI a1.fLabels), (vP ep24 a1.fSubs), (vI a1.fLeast), (vI a1.fMost)])) :: (dI a2) :: u1 ((.ptr 1 0) :: u1 ((.ptr 2 0) :: (dI a0.fNodes) :: (dI 0) :: (dI (a1.fLabels.length : Int)) :: u5 ((.ptr 0 0) :: (.ptr 0 0) :: (.ptr 0 0) :: (dI a0.fNodes) :: (.ptr 0 0) :: (.ptr 0 0) :: (.ptr 0 0) :: (dI a0.fNodes) :: (dI (w64 (a0.fNodes + 1))) :: (.ptr 0 0) :: (.ptr 0 0) :: (.ptr 0 0) :: (.ptr 0 0) :: (.ptr 0 0) :: (dI (w64 (a0.fNodes + 1))) :: (dB v5) :: (dB v5) :: d218 :: d219 :: (dB v6) :: u2 ((.ptr 1 1) :: (dP eI a1.fLabels) :: (dI (a1.fLabels.length : Int)) :: (.ptr 1 0) :: (dI a1.fKind) :: u2 ((dB v220) :: (dB (a1.fKind == 1)) :: d221 :: (dB (a1.fKind == 3)) :: (dB (a1.fKind == 3)) :: u40 (u40 (u40 []))))))), [(b21_0 a0), (b21_1 a1), b21_2]⟩ (by kernel_rfl) ?_
            exact J21j245 (a1.fKind == 3) _ _ _ _ h
          · refine Wp.rg ?_
            refine Ops.sg 2 2 ?_
            refine Ops.dn ?_
            refine sqQ.n ⟨(.ptr 0 0) :: (.v (.agg [(vI a1.fKind), (vP eI a1.fLabels), (vP ep24 a1.fSubs), (vI a1.fLeast), (vI a1.fMost)])) :: (dI a2) :: u1 ((.ptr 1 0) :: u1 ((.ptr 2 0) :: (dI a0.fNodes) :: (dI 0) :: (dI (a1.fLabels.length : Int)) :: u5 ((.ptr 0 0) :: (.ptr 0 0) :: (.ptr 0 0) :: (dI a0.fNodes) :: (.ptr 0 0) :: (.ptr 0 0) :: (.ptr 0 0) :: (dI a0.fNodes) :: (dI (w64 (a0.fNodes + 1))) :: (.ptr 0 0) :: (.ptr 0 0) :: (.ptr 0 0) :: (.ptr 0 0) :: (.ptr 0 0) :: (dI (w64 (a0.fNodes + 1))) :: (dB v5) :: (dB v5) :: d218 :: d219 :: (dB v6) :: u2 ((.ptr 1 1) :: (dP eI a1.fLabels) :: (dI (a1.fLabels.length : Int)) :: (.ptr 1 0) :: (dI a1.fKind) :: u2 ((dB v220) :: (dB (a1.fKind == 1)) :: d221 :: (dB (a1.fKind == 4)) :: (dB (a1.fKind == 3)) :: (dB (a1.fKind == 4)) :: u40 (u40 (u39 []))))))), [(b21_0 a0), (b21_1 a1), b21_2]⟩ (by kernel_rfl) ?_
            exact J21j245 (a1.fKind == 4) _ _ _ _ h
      refine Wp.cnd h k21_3 3 (by kernel_rfl) (fun h => ?_) (fun h => ?_)
      · refine Wp.sk ?_
        refine sqQ.n ⟨(.ptr 0 0) :: (.v (.agg [(vI a1.fKind), (vP eI a1.fLabels), (vP ep24 a1.fSubs), (vI a1.fLeast), (vI a1.fMost)])) :: (dI a2) :: u1 ((.ptr 1 0) :: u1 ((.ptr 2 0) :: (dI a0.fNodes) :: (dI 0) :: (dI (a1.fLabels.length : Int)) :: u5 ((.ptr 0 0) :: (.ptr 0 0) :: (.ptr 0 0) :: (dI a0.fNodes) :: (.ptr 0 0) :: (.ptr 0 0) :: (.ptr 0 0) :: (dI a0.fNodes) :: (dI (w64 (a0.fNodes + 1))) :: (.ptr 0 0) :: (.ptr 0 0) :: (.ptr 0 0) :: (.ptr 0 0) :: (.ptr 0 0) :: (dI (w64 (a0.fNodes + 1))) :: (dB v5) :: (dB v5) :: d3 :: d4 :: (dB v6) :: u2 ((.ptr 1 1) :: (dP eI a1.fLabels) :: (dI (a1.fLabels.length : Int)) :: (.ptr 1 0) :: (dI a1.fKind) :: u2 ((dB (a1.fKind == 1)) :: (dB (a1.fKind == 1)) :: u40 (u40 (u40 (u3 [])))))))), [(b21_0 a0), (b21_1 a1), b21_2]⟩ (by kernel_rfl) ?_
        exact J21j222 (a1.fKind == 1) _ _ _ h
      · refine Wp.rg ?_
        refine Ops.sg 2 2 ?_
        refine Ops.dn ?_
        refine sqQ.n ⟨(.ptr 0 0) :: (.v (.agg [(vI a1.fKind), (vP eI a1.fLabels), (vP ep24 a1.fSubs), (vI a1.fLeast), (vI a1.fMost)])) :: (dI a2) :: u1 ((.ptr 1 0) :: u1 ((.ptr 2 0) :: (dI a0.fNodes) :: (dI 0) :: (dI (a1.fLabels.length : Int)) :: u5 ((.ptr 0 0) :: (.ptr 0 0) :: (.ptr 0 0) :: (dI a0.fNodes) :: (.ptr 0 0) :: (.ptr 0 0) :: (.ptr 0 0) :: (dI a0.fNodes) :: (dI (w64 (a0.fNodes + 1))) :: (.ptr 0 0) :: (.ptr 0 0) :: (.ptr 0 0) :: (.ptr 0 0) :: (.ptr 0 0) :: (dI (w64 (a0.fNodes + 1))) :: (dB v5) :: (dB v5) :: d3 :: d4 :: (dB v6) :: u2 ((.ptr 1 1) :: (dP eI a1.fLabels) :: (dI (a1.fLabels.length : Int)) :: (.ptr 1 0) :: (dI a1.fKind) :: u2 ((dB (a1.fKind == 2)) :: (dB (a1.fKind == 1)) :: (dB (a1.fKind == 2)) :: u40 (u40 (u40 (u2 [])))))))), [(b21_0 a0), (b21_1 a1), b21_2]⟩ (by kernel_rfl) ?_
        exact J21j222 (a1.fKind == 2) _ _ _ h
  refine Ops.hv (fun KQ => ∀ v1 : Bool, f21_r19 m K a0 a1 a2 (v1 || (decide (a2 > 40))) = some o → KQ 6 ⟨(.ptr 0 0) :: (.v (.agg [(vI a1.fKind), (vP eI a1.fLabels), (vP ep24 a1.fSubs), (vI a1.fLeast), (vI a1.fMost)])) :: (dI a2) :: u1 ((.ptr 1 0) :: u1 ((.ptr 2 0) :: (dI a0.fNodes) :: u7 ((.ptr 0 0) :: (.ptr 0 0) :: (.ptr 0 0) :: (dI a0.fNodes) :: (.ptr 0 0) :: (.ptr 0 0) :: (.ptr 0 0) :: (dI a0.fNodes) :: (dI (w64 (a0.fNodes + 1))) :: (.ptr 0 0) :: (.ptr 0 0) :: (.ptr 0 0) :: (.ptr 0 0) :: (.ptr 0 0) :: (dI (w64 (a0.fNodes + 1))) :: (dB v1) :: (dB v1) :: u40 (u40 (u40 (u17 [])))))), [(b21_0 a0), (b21_1 a1), b21_2]⟩) ?_ fun G21g2 => Ops.st _ (by kernel_rfl) (G21g2 (decide (w64 (a0.fNodes + 1) > 200)) h)
  intro v1 h
  cases v1
  · refine Ops.sg 3 9 ?_
    exact Ops.st _ (by kernel_rfl) (J21j7 (dI a2) (dB (decide (a2 > 40))) false (decide (a2 > 40)) h)
  · refine Ops.sg 3 9 ?_
    exact Ops.st _ (by kernel_rfl) (J21j7 U U true true h)
noncomputable def K21 (m : Nat) : Nat → Rec21
  | 0 => ⟨fun _ _ _ => none⟩
  | r + 1 => ⟨fun a0 a1 a2 => b21 m (K21 m r) a0 a1 a2⟩
theorem okK21 (m : Nat) : ∀ r, OkRec21 m (K21 m r) (m + 2 + r)
  | 0 => ⟨fun _ _ _ o h => (by cases h)⟩
  | r + 1 => ⟨fun a0 a1 a2 o h n hn => okb21 m (K21 m r) (m + 2 + r) (okK21 m r) a0 a1 a2 o h n (by omega) (by omega)⟩
noncomputable def f21 (m : Nat) (a0 : S45) (a1 : S24) (a2 : Int) : Option (S27 × S45) := (K21 m m).r21 a0 a1 a2
theorem ok21 (m : Nat) (a0 : S45) (a1 : S24) (a2 : Int) (o : (S27 × S45)) (h : f21 m a0 a1 a2 = some o) (n : Nat) (hn : 2 * m + 2 ≤ n) : FnP Proofs.Tryd.prog E n 21 (c45 a0) [.v (e24 a1), .v (eI a2)] (e27 o.1) (c45 o.2) := (okK21 m m).ok21 a0 a1 a2 o h n (by omega)

/-! ### 9 glosswright/pattern.Validate -/
noncomputable def f9 (m : Nat) (a0 : S24) : Option S27 :=
  bnd (f21 m (⟨0⟩ : S45) a0 1) fun v1 =>
  some v1.1
noncomputable abbrev X9 (n : Nat) : Cx := cxOf Proofs.Tryd.prog E 9 n
noncomputable def C9 : Code := bodyOf Proofs.Tryd.prog 9
theorem ok9 (m : Nat) (a0 : S24) (o : S27) (h : f9 m a0 = some o) (n : Nat) (hn : 2 * m + 3 ≤ n) : Fn Proofs.Tryd.prog E n 9 [.v (e24 a0)] (e27 o) := by
  obtain ⟨n, rfl⟩ : ∃ q, n = q + 1 := ⟨n - 1, by omega⟩
  unfold f9 at h
  refine Fn.of (by kernel_rfl) (by kernel_rfl) (by kernel_rfl) ⟨(.v (.agg [(vI a0.fKind), (vP eI a0.fLabels), (vP ep24 a0.fSubs), (vI a0.fLeast), (vI a0.fMost)])) :: u6 [], []⟩ (by kernel_rfl) ?_
  refine Wp.sq ?_
  refine Wp.rg ?_
  refine Ops.sg 2 2 ?_
  refine Ops.dn ?_
  refine seqQ.n ?_
  refine Wp.sq ?_
  refine Wp.rg ?_
  refine Ops.sg 3 3 ?_
  obtain ⟨v1, ev1, h⟩ := bnd_some h
  refine Ops.on 4 (fun h0 e0 => (call_ptr (E' := E) (h := h0) (q := 2) (cs := c45 (⟨0⟩ : S45)) (by kernel_rfl) (by kernel_rfl) (by kernel_rfl) (hq_of e0 (by kernel_rfl)) (by kernel_rfl) (Args.v (.agg [(vI a0.fKind), (vP eI a0.fLabels), (vP ep24 a0.fSubs), (vI a0.fLeast), (vI a0.fMost)]) (e24 a0) (by kernel_rfl) (Args.v (vI 1) (eI 1) (by kernel_rfl) Args.nil)) (ok21 m (⟨0⟩ : S45) a0 1 v1 ev1 n (by omega)))) ?_
  refine Ops.sg 1 5 ?_
  refine Ops.dn ?_
  refine seqQ.n ?_
  refine Wp.ret (by kernel_rfl) ?_
  exact fnQ.r' (X9 n) (fun z => (e27 z)) h (RetOk.mk' (.v (.agg [(vI v1.1.fCode), (vI v1.1.fIndex)])) (by kernel_rfl) (by kernel_rfl))

/-! ### 38 glosswright/pattern.level -/
noncomputable def f38_j1 (m : Nat) (a0 : Int) (v1 : Bool) : Option Int :=
  cnd v1
  (some 2)
  (cnd (a0 == 3)
  (some 3)
  (cnd (a0 == 5)
  (some 4)
  (some 5)))
noncomputable def f38 (m : Nat) (a0 : Int) : Option Int :=
  cnd (a0 == 4)
  (some 1)
  (cnd (a0 == 6)
  (f38_j1 m a0 (a0 == 6))
  (f38_j1 m a0 (a0 == 7)))
noncomputable abbrev X38 (n : Nat) : Cx := cxOf Proofs.Tryd.prog E 38 n
noncomputable def C38 : Code := bodyOf Proofs.Tryd.prog 38
theorem ok38 (m : Nat) (a0 : Int) (o : Int) (h : f38 m a0 = some o) (n : Nat) (hn : m + 1 ≤ n) : Fn Proofs.Tryd.prog E n 38 [.v (eI a0)] (eI o) := by
  obtain ⟨n, rfl⟩ : ∃ q, n = q + 1 := ⟨n - 1, by omega⟩
  unfold f38 at h
  refine Fn.of (by kernel_rfl) (by kernel_rfl) (by kernel_rfl) ⟨(dI a0) :: u12 [], []⟩ (by kernel_rfl) ?_
  refine Wp.sq ?_
  refine Wp.rg ?_
  refine Ops.sg 1 1 ?_
  refine Ops.dn ?_
  refine seqQ.n ?_
  refine Wp.sq ?_
  refine Wp.sq ?_
  refine Wp.rg ?_
  refine Ops.sg 1 1 ?_
  refine Ops.dn ?_
  refine seqQ.n ?_
  refine Wp.block' 0 [2] 0 (by kernel_rfl) ?_
  refine Wp.sq ?_
  refine Wp.rg ?_
  refine Ops.sg 2 2 ?_
  refine Ops.dn ?_
  refine seqQ.n ?_
  refine Wp.cnd h [2] 0 (by kernel_rfl) (fun h => ?_) (fun h => ?_)
  · refine Wp.sq ?_
    refine Wp.rg ?_
    refine Ops.sg 1 1 ?_
    refine Ops.dn ?_
    refine seqQ.n ?_
    refine Wp.ret (by kernel_rfl) ?_
    refine sqQ.r ?_
    refine blkQ.r ?_
    refine seqQ.r ?_
    exact fnQ.r' (X38 n) (fun z => (eI z)) h (RetOk.mk' (dI 1) (by kernel_rfl) (by kernel_rfl))
  · refine Wp.sq ?_
    refine Wp.sq ?_
    refine Wp.rg ?_
    refine Ops.sg 2 2 ?_
    refine Ops.dn ?_
    refine seqQ.n ?_
    have J38j3 : ∀ (v1 : Bool) (d2 : D), f38_j1 m a0 v1 = some o → (seqQ (X38 n) (cR (cR (cR (cL (cR (cL (cR C38))))))) (sqQ (X38 n) [2] 0 (blkQ (X38 n) 0 [2] 0 (seqQ (X38 n) (cR (cR C38)) (fnQ (X38 n).E.T (resOf Proofs.Tryd.prog 38) (eI o)))))) .normal ⟨(dI a0) :: u1 ((dI 0) :: (dI a0) :: (dB (a0 == 4)) :: (dB (a0 == 4)) :: (dB v1) :: (dB (a0 == 6)) :: d2 :: u4 []), []⟩ := by
      intro v1 d2 h
      unfold f38_j1 at h
      refine seqQ.n ?_
      refine Wp.cnd h [2, 3, 6] 0 (by kernel_rfl) (fun h => ?_) (fun h => ?_)
      · refine Wp.sq ?_
        refine Wp.rg ?_
        refine Ops.sg 1 1 ?_
        refine Ops.dn ?_
        refine seqQ.n ?_
        refine Wp.ret (by kernel_rfl) ?_
        refine sqQ.r ?_
        refine sqQ.r ?_
        refine blkQ.r ?_
        refine seqQ.r ?_
        exact fnQ.r' (X38 n) (fun z => (eI z)) h (RetOk.mk' (dI 2) (by kernel_rfl) (by kernel_rfl))
      · refine Wp.sq ?_
        refine Wp.rg ?_
        refine Ops.sg 2 2 ?_
        refine Ops.dn ?_
        refine seqQ.n ?_
        refine Wp.cnd h [2] 0 (by kernel_rfl) (fun h => ?_) (fun h => ?_)
        · refine Wp.sq ?_
          refine Wp.rg ?_
          refine Ops.sg 1 1 ?_
          refine Ops.dn ?_
          refine seqQ.n ?_
          refine Wp.ret (by kernel_rfl) ?_
          refine sqQ.r ?_
          refine sqQ.r ?_
          refine sqQ.r ?_
          refine blkQ.r ?_
          refine seqQ.r ?_
          exact fnQ.r' (X38 n) (fun z => (eI z)) h (RetOk.mk' (dI 3) (by kernel_rfl) (by kernel_rfl))
        · refine Wp.sq ?_
          refine Wp.rg ?_
          refine Ops.sg 2 2 ?_
          refine Ops.dn ?_
          refine seqQ.n ?_
          refine Wp.cnd h [2] 0 (by kernel_rfl) (fun h => ?_) (fun h => ?_)
          · refine Wp.sq ?_
            refine Wp.rg ?_
            refine Ops.sg 1 1 ?_
            refine Ops.dn ?_
            refine seqQ.n ?_
            refine Wp.ret (by kernel_rfl) ?_
            refine sqQ.r ?_
            refine sqQ.r ?_
            refine sqQ.r ?_
            refine sqQ.r ?_
            refine blkQ.r ?_
            refine seqQ.r ?_
            exact fnQ.r' (X38 n) (fun z => (eI z)) h (RetOk.mk' (dI 4) (by kernel_rfl) (by kernel_rfl))
          · refine Wp.sk ?_
            refine sqQ.n' ?_
            refine sqQ.n' ?_
            refine sqQ.n' ?_
            refine sqQ.n' ?_
            refine blkQ.n' ?_
            refine seqQ.n ?_
            refine Wp.sq ?_
            refine Wp.rg ?_
            refine Ops.sg 1 1 ?_
            refine Ops.dn ?_
            refine seqQ.n ?_
            refine Wp.ret (by kernel_rfl) ?_
            exact fnQ.r' (X38 n) (fun z => (eI z)) h (RetOk.mk' (dI 5) (by kernel_rfl) (by kernel_rfl))
    refine Wp.cnd h [2, 3, 6] 0 (by kernel_rfl) (fun h => ?_) (fun h => ?_)
    · refine Wp.sk ?_
      refine sqQ.n ⟨(dI a0) :: u1 ((dI 0) :: (dI a0) :: (dB (a0 == 4)) :: (dB (a0 == 4)) :: (dB (a0 == 6)) :: (dB (a0 == 6)) :: u5 []), []⟩ (by kernel_rfl) ?_
      exact J38j3 (a0 == 6) _ h
    · refine Wp.rg ?_
      refine Ops.sg 2 2 ?_
      refine Ops.dn ?_
      refine sqQ.n ⟨(dI a0) :: u1 ((dI 0) :: (dI a0) :: (dB (a0 == 4)) :: (dB (a0 == 4)) :: (dB (a0 == 7)) :: (dB (a0 == 6)) :: (dB (a0 == 7)) :: u4 []), []⟩ (by kernel_rfl) ?_
      exact J38j3 (a0 == 7) _ h

/-! ### 56 strings.IndexByte -/
noncomputable def f56 (m : Nat) (a0 : ByteArray) (a1 : Int) : Option Int := some (Lib.indexByte a0.data.toList a1.toNat.toUInt8)
theorem ok56 (m : Nat) (a0 : ByteArray) (a1 : Int) (o : Int) (h : f56 m a0 a1 = some o) (n : Nat) (hn : m + 1 ≤ n) : Fn Proofs.Tryd.prog E n 56 [.v (eS a0), .v ((eK .u8) a1)] (eI o) := by
  obtain ⟨n, rfl⟩ : ∃ q, n = q + 1 := ⟨n - 1, by omega⟩
  refine ora_fn (xs := [eS a0, (eK .u8) a1]) (by kernel_rfl) (by kernel_rfl) (by kernel_rfl) (F := ixbyteF) ?_ rfl
  cases h
  rfl

/-! ### 65 unicode/utf8.appendRuneNonASCII -/
noncomputable def f65_r1 (m : Nat) (a0 : (List Int)) (a1 : Int) (v10 : Bool) : Option (List Int) :=
  cnd v10
  (bnd (app 1 a0 ([bits .or .u8 240 (IntKind.u8.wrap (Int.fdiv a1 (2 ^ (min (18 : Int).toNat IntKind.i32.bits)))), bits .or .u8 128 (bits .and .u8 (IntKind.u8.wrap (Int.fdiv a1 (2 ^ (min (12 : Int).toNat IntKind.i32.bits)))) 63), bits .or .u8 128 (bits .and .u8 (IntKind.u8.wrap (Int.fdiv a1 (2 ^ (min (6 : Int).toNat IntKind.i32.bits)))) 63), bits .or .u8 128 (bits .and .u8 (IntKind.u8.wrap a1) 63)])) fun v12 =>
  some v12)
  (bnd (app 1 a0 ([239, 191, 189])) fun v13 =>
  some v13)
noncomputable def f65_j2 (m : Nat) (a0 : (List Int)) (a1 : Int) (v2 : Bool) : Option (List Int) :=
  cnd v2
  (bnd (app 1 a0 ([bits .or .u8 224 (IntKind.u8.wrap (Int.fdiv a1 (2 ^ (min (12 : Int).toNat IntKind.i32.bits)))), bits .or .u8 128 (bits .and .u8 (IntKind.u8.wrap (Int.fdiv a1 (2 ^ (min (6 : Int).toNat IntKind.i32.bits)))) 63), bits .or .u8 128 (bits .and .u8 (IntKind.u8.wrap a1) 63)])) fun v4 =>
  some v4)
  (f65_r1 m a0 a1 ((decide (IntKind.u32.wrap a1 > 65535)) && (decide (IntKind.u32.wrap a1 ≤ 1114111))))
noncomputable def f65_r3 (m : Nat) (a0 : (List Int)) (a1 : Int) (v19 : Bool) : Option (List Int) :=
  f65_j2 m a0 a1 v19
noncomputable def f65 (m : Nat) (a0 : (List Int)) (a1 : Int) : Option (List Int) :=
  cnd (decide (IntKind.u32.wrap a1 ≤ 2047))
  (bnd (app 1 a0 ([bits .or .u8 192 (IntKind.u8.wrap (Int.fdiv a1 (2 ^ (min (6 : Int).toNat IntKind.i32.bits)))), bits .or .u8 128 (bits .and .u8 (IntKind.u8.wrap a1) 63)])) fun v1 =>
  some v1)
  (cnd (decide (IntKind.u32.wrap a1 < 55296))
  (f65_j2 m a0 a1 (decide (IntKind.u32.wrap a1 < 55296)))
  (f65_r3 m a0 a1 ((decide (57343 < IntKind.u32.wrap a1)) && (decide (IntKind.u32.wrap a1 ≤ 65535)))))
noncomputable abbrev X65 (n : Nat) : Cx := cxOf Proofs.Tryd.prog E 65 n
noncomputable def C65 : Code := bodyOf Proofs.Tryd.prog 65
theorem ok65 (m : Nat) (a0 : (List Int)) (a1 : Int) (o : (List Int)) (h : f65 m a0 a1 = some o) (n : Nat) (hn : m + 1 ≤ n) : FnT Proofs.Tryd.prog E n 65 1 (List.map (eK .u8) a0) [.v ((eK .i32) a1)] (List.map (eK .u8) o) := by
  obtain ⟨n, rfl⟩ : ∃ q, n = q + 1 := ⟨n - 1, by omega⟩
  unfold f65 at h
  refine FnT.of (by kernel_rfl) (by kernel_rfl) (by kernel_rfl) ⟨(appD 0 (List.map (eK .u8) a0)) :: (.v (.int .i32 a1)) :: u40 (u36 []), [(appO 1 (List.map (eK .u8) a0))]⟩ (by kernel_rfl) ?_
  refine Wp.sq ?_
  refine Wp.rg ?_
  refine Ops.sg 1 1 ?_
  refine Ops.dn ?_
  refine seqQ.n ?_
  refine Wp.sq ?_
  refine Wp.rg ?_
  refine Ops.sg 3 3 ?_
  refine Ops.dn ?_
  refine seqQ.n ?_
  refine Wp.block' 0 [4] 1 (by kernel_rfl) ?_
  refine Wp.sq ?_
  refine Wp.rg ?_
  refine Ops.sg 3 3 ?_
  refine Ops.dn ?_
  refine seqQ.n ?_
  refine Wp.cnd h [4] 1 (by kernel_rfl) (fun h => ?_) (fun h => ?_)
  · refine Wp.sq ?_
    refine Wp.rg ?_
    refine Ops.sg 10 10 ?_
    obtain ⟨v1, ev1, h⟩ := bnd_some h
    refine Ops.on 11 (fun h0 e0 => (app_r (T := T) (g := .nil) h0 48 5 0 1 ti5 .nonfull (eK .u8) a0 ([bits .or .u8 192 (IntKind.u8.wrap (Int.fdiv a1 (2 ^ (min (6 : Int).toNat IntKind.i32.bits)))), bits .or .u8 128 (bits .and .u8 (IntKind.u8.wrap a1) 63)]) v1 ev1 (by kernel_rfl) (by kernel_rfl) (by kernel_rfl) (by kernel_rfl) (fun _ => rfl) (hq_of e0 (by kernel_rfl)))) ?_
    refine Ops.sg 1 12 ?_
    refine Ops.dn ?_
    refine seqQ.n ?_
    refine Wp.ret (by kernel_rfl) ?_
    refine sqQ.r ?_
    refine blkQ.r ?_
    exact fnQT.r' (X65 n) (eK .u8) h (RetOkT.mk' 1 (by kernel_rfl) (by kernel_rfl))
  · refine Wp.sq ?_
    refine Wp.sq ?_
    refine Wp.rg ?_
    refine Ops.sg 3 3 ?_
    refine Ops.dn ?_
    refine seqQ.n ?_
    have J65j3 : ∀ (v2 : Bool) , f65_j2 m a0 a1 v2 = some o → (seqQ (X65 n) (cR (cR (cR (cL (cR (cR C65)))))) (sqQ (X65 n) [4] 1 (blkQ (X65 n) 0 [4] 1 (fnQT (X65 n).E.T (resOf Proofs.Tryd.prog 65) 1 (List.map (eK .u8) o))))) .normal ⟨(appD 0 (List.map (eK .u8) a0)) :: (.v (.int .i32 a1)) :: q2 ((.v (.sl .nil (List.map (eK .u8) []))) :: (.v (.int .u32 (IntKind.u32.wrap a1))) :: q19 ((dB v2) :: q40 (q12 []))), [(appO 1 (List.map (eK .u8) a0)), .dead]⟩ := by
      intro v2  h
      unfold f65_j2 at h
      refine seqQ.n ?_
      refine Wp.cnd h [0, 1, 4, 5, 25] 2 (by kernel_rfl) (fun h => ?_) (fun h => ?_)
      · refine Wp.sq ?_
        refine Wp.rg ?_
        refine Ops.sg 15 15 ?_
        obtain ⟨v4, ev4, h⟩ := bnd_some h
        refine Ops.on 16 (fun h0 e0 => (app_r (T := T) (g := .nil) h0 48 5 0 1 ti5 .nonfull (eK .u8) a0 ([bits .or .u8 224 (IntKind.u8.wrap (Int.fdiv a1 (2 ^ (min (12 : Int).toNat IntKind.i32.bits)))), bits .or .u8 128 (bits .and .u8 (IntKind.u8.wrap (Int.fdiv a1 (2 ^ (min (6 : Int).toNat IntKind.i32.bits)))) 63), bits .or .u8 128 (bits .and .u8 (IntKind.u8.wrap a1) 63)]) v4 ev4 (by kernel_rfl) (by kernel_rfl) (by kernel_rfl) (by kernel_rfl) (fun _ => rfl) (hq_of e0 (by kernel_rfl)))) ?_
        refine Ops.sg 1 17 ?_
        refine Ops.dn ?_
        refine seqQ.n ?_
        refine Wp.ret (by kernel_rfl) ?_
        refine sqQ.r ?_
        refine sqQ.r ?_
        refine blkQ.r ?_
        exact fnQT.r' (X65 n) (eK .u8) h (RetOkT.mk' 2 (by kernel_rfl) (by kernel_rfl))
      · refine Wp.sq ?_
        refine Wp.rg ?_
        refine Ops.sg 3 3 ?_
        refine Ops.hv (fun KQ => ∀ (d7 d8 : D) (v9 : Bool) (v10 : Bool), f65_r1 m a0 a1 v10 = some o → KQ 6 ⟨(appD 0 (List.map (eK .u8) a0)) :: (.v (.int .i32 a1)) :: q2 ((.v (.sl .nil (List.map (eK .u8) []))) :: (.v (.int .u32 (IntKind.u32.wrap a1))) :: q19 ((dB v2) :: q25 ((.v (.int .u32 (IntKind.u32.wrap a1))) :: (dB v9) :: (dB v9) :: d7 :: d8 :: (dB v10) :: q21 []))), [(appO 1 (List.map (eK .u8) a0)), .dead]⟩) ?_ fun J65j11 => ?_
        · intro d7 d8 v9 v10 h
          unfold f65_r1 at h
          refine Ops.sg 1 7 ?_
          refine Ops.dn ?_
          refine seqQ.n ?_
          refine Wp.cnd h [4] 2 (by kernel_rfl) (fun h => ?_) (fun h => ?_)
          · refine Wp.sq ?_
            refine Wp.rg ?_
            refine Ops.sg 20 20 ?_
            obtain ⟨v12, ev12, h⟩ := bnd_some h
            refine Ops.on 21 (fun h0 e0 => (app_r (T := T) (g := .nil) h0 48 5 0 1 ti5 .nonfull (eK .u8) a0 ([bits .or .u8 240 (IntKind.u8.wrap (Int.fdiv a1 (2 ^ (min (18 : Int).toNat IntKind.i32.bits)))), bits .or .u8 128 (bits .and .u8 (IntKind.u8.wrap (Int.fdiv a1 (2 ^ (min (12 : Int).toNat IntKind.i32.bits)))) 63), bits .or .u8 128 (bits .and .u8 (IntKind.u8.wrap (Int.fdiv a1 (2 ^ (min (6 : Int).toNat IntKind.i32.bits)))) 63), bits .or .u8 128 (bits .and .u8 (IntKind.u8.wrap a1) 63)]) v12 ev12 (by kernel_rfl) (by kernel_rfl) (by kernel_rfl) (by kernel_rfl) (fun _ => rfl) (hq_of e0 (by kernel_rfl)))) ?_
            refine Ops.sg 1 22 ?_
            refine Ops.dn ?_
            refine seqQ.n ?_
            refine Wp.ret (by kernel_rfl) ?_
            refine sqQ.r ?_
            refine sqQ.r ?_
            refine sqQ.r ?_
            refine blkQ.r ?_
            exact fnQT.r' (X65 n) (eK .u8) h (RetOkT.mk' 2 (by kernel_rfl) (by kernel_rfl))
          · refine Wp.sq ?_
            refine Wp.rg ?_
            refine Ops.sg 2 2 ?_
            obtain ⟨v13, ev13, h⟩ := bnd_some h
            refine Ops.on 3 (fun h0 e0 => (app_r (T := T) (g := .nil) h0 48 5 0 1 ti5 .nonfull (eK .u8) a0 ([239, 191, 189]) v13 ev13 (by kernel_rfl) (by kernel_rfl) (by kernel_rfl) (by kernel_rfl) (fun _ => rfl) (hq_of e0 (by kernel_rfl)))) ?_
            refine Ops.sg 1 4 ?_
            refine Ops.dn ?_
            refine seqQ.n ?_
            refine Wp.ret (by kernel_rfl) ?_
            refine sqQ.r ?_
            refine sqQ.r ?_
            refine sqQ.r ?_
            refine blkQ.r ?_
            exact fnQT.r' (X65 n) (eK .u8) h (RetOkT.mk' 2 (by kernel_rfl) (by kernel_rfl))
        refine Ops.hv (fun KQ => ∀ v5 : Bool, f65_r1 m a0 a1 (v5 && (decide (IntKind.u32.wrap a1 ≤ 1114111))) = some o → KQ 3 ⟨(appD 0 (List.map (eK .u8) a0)) :: (.v (.int .i32 a1)) :: q2 ((.v (.sl .nil (List.map (eK .u8) []))) :: (.v (.int .u32 (IntKind.u32.wrap a1))) :: q19 ((dB v2) :: q25 ((.v (.int .u32 (IntKind.u32.wrap a1))) :: (dB v5) :: (dB v5) :: q24 []))), [(appO 1 (List.map (eK .u8) a0)), .dead]⟩) ?_ fun G65g6 => Ops.st _ (by kernel_rfl) (G65g6 (decide (IntKind.u32.wrap a1 > 65535)) h)
        intro v5 h
        cases v5
        · refine Ops.sg 3 6 ?_
          exact Ops.st _ (by kernel_rfl) (J65j11 U U false false h)
        · refine Ops.sg 3 6 ?_
          exact Ops.st _ (by kernel_rfl) (J65j11 (.v (.int .u32 (IntKind.u32.wrap a1))) (dB (decide (IntKind.u32.wrap a1 ≤ 1114111))) true (decide (IntKind.u32.wrap a1 ≤ 1114111)) h)
    refine Wp.cnd h [0, 1, 4, 5, 25] 1 (by kernel_rfl) (fun h => ?_) (fun h => ?_)
    · refine Wp.sk ?_
      refine sqQ.n ⟨(appD 0 (List.map (eK .u8) a0)) :: (.v (.int .i32 a1)) :: q2 ((.v (.sl .nil (List.map (eK .u8) []))) :: (.v (.int .u32 (IntKind.u32.wrap a1))) :: q19 ((dB (decide (IntKind.u32.wrap a1 < 55296))) :: q40 (q12 []))), [(appO 1 (List.map (eK .u8) a0)), .dead]⟩ (by generalize a0 = z0; cases z0 <;> kernel_rfl) ?_
      exact J65j3 (decide (IntKind.u32.wrap a1 < 55296))  h
    · refine Wp.rg ?_
      refine Ops.sg 3 3 ?_
      refine Ops.hv (fun KQ => ∀ (d16 d17 : D) (v18 : Bool) (v19 : Bool), f65_r3 m a0 a1 v19 = some o → KQ 6 ⟨(appD 0 (List.map (eK .u8) a0)) :: (.v (.int .i32 a1)) :: u2 ((.v (.sl .nil (List.map (eK .u8) []))) :: (.v (.int .u32 (IntKind.u32.wrap a1))) :: (.v (.int .i32 a1)) :: (.v (.int .u32 (IntKind.u32.wrap a1))) :: u3 ((dB (decide (IntKind.u32.wrap a1 ≤ 2047))) :: (.v (.int .u32 (IntKind.u32.wrap a1))) :: (dB (decide (IntKind.u32.wrap a1 ≤ 2047))) :: u11 ((dB (decide (IntKind.u32.wrap a1 < 55296))) :: (.v (.int .u32 (IntKind.u32.wrap a1))) :: (dB (decide (IntKind.u32.wrap a1 < 55296))) :: (.v (.int .u32 (IntKind.u32.wrap a1))) :: (dB v18) :: (dB v18) :: d16 :: d17 :: (dB v19) :: u40 (u4 [])))), [(appO 1 (List.map (eK .u8) a0))]⟩) ?_ fun J65j20 => ?_
      · intro d16 d17 v18 v19 h
        unfold f65_r3 at h
        refine Ops.sg 1 7 ?_
        refine Ops.dn ?_
        refine sqQ.n ⟨(appD 0 (List.map (eK .u8) a0)) :: (.v (.int .i32 a1)) :: q2 ((.v (.sl .nil (List.map (eK .u8) []))) :: (.v (.int .u32 (IntKind.u32.wrap a1))) :: q19 ((dB v19) :: q40 (q12 []))), [(appO 1 (List.map (eK .u8) a0)), .dead]⟩ (by generalize a0 = z0; cases z0 <;> kernel_rfl) ?_
        exact J65j3 v19  h
      refine Ops.hv (fun KQ => ∀ v14 : Bool, f65_r3 m a0 a1 (v14 && (decide (IntKind.u32.wrap a1 ≤ 65535))) = some o → KQ 3 ⟨(appD 0 (List.map (eK .u8) a0)) :: (.v (.int .i32 a1)) :: u2 ((.v (.sl .nil (List.map (eK .u8) []))) :: (.v (.int .u32 (IntKind.u32.wrap a1))) :: (.v (.int .i32 a1)) :: (.v (.int .u32 (IntKind.u32.wrap a1))) :: u3 ((dB (decide (IntKind.u32.wrap a1 ≤ 2047))) :: (.v (.int .u32 (IntKind.u32.wrap a1))) :: (dB (decide (IntKind.u32.wrap a1 ≤ 2047))) :: u11 ((dB (decide (IntKind.u32.wrap a1 < 55296))) :: (.v (.int .u32 (IntKind.u32.wrap a1))) :: (dB (decide (IntKind.u32.wrap a1 < 55296))) :: (.v (.int .u32 (IntKind.u32.wrap a1))) :: (dB v14) :: (dB v14) :: u40 (u7 [])))), [(appO 1 (List.map (eK .u8) a0))]⟩) ?_ fun G65g15 => Ops.st _ (by kernel_rfl) (G65g15 (decide (57343 < IntKind.u32.wrap a1)) h)
      intro v14 h
      cases v14
      · refine Ops.sg 3 6 ?_
        exact Ops.st _ (by kernel_rfl) (J65j20 U U false false h)
      · refine Ops.sg 3 6 ?_
        exact Ops.st _ (by kernel_rfl) (J65j20 (.v (.int .u32 (IntKind.u32.wrap a1))) (dB (decide (IntKind.u32.wrap a1 ≤ 65535))) true (decide (IntKind.u32.wrap a1 ≤ 65535)) h)

/-! ### 57 unicode/utf8.AppendRune -/
noncomputable def f57 (m : Nat) (a0 : (List Int)) (a1 : Int) : Option (List Int) :=
  cnd (decide (IntKind.u32.wrap a1 ≤ 127))
  (bnd (app 1 a0 ([IntKind.u8.wrap a1])) fun v1 =>
  some v1)
  (bnd (f65 m a0 a1) fun v2 =>
  some v2)
noncomputable abbrev X57 (n : Nat) : Cx := cxOf Proofs.Tryd.prog E 57 n
noncomputable def C57 : Code := bodyOf Proofs.Tryd.prog 57
theorem ok57 (m : Nat) (a0 : (List Int)) (a1 : Int) (o : (List Int)) (h : f57 m a0 a1 = some o) (n : Nat) (hn : m + 2 ≤ n) : FnT Proofs.Tryd.prog E n 57 1 (List.map (eK .u8) a0) [.v ((eK .i32) a1)] (List.map (eK .u8) o) := by
  obtain ⟨n, rfl⟩ : ∃ q, n = q + 1 := ⟨n - 1, by omega⟩
  unfold f57 at h
  refine FnT.of (by kernel_rfl) (by kernel_rfl) (by kernel_rfl) ⟨(appD 0 (List.map (eK .u8) a0)) :: (.v (.int .i32 a1)) :: u14 [], [(appO 1 (List.map (eK .u8) a0))]⟩ (by kernel_rfl) ?_
  refine Wp.sq ?_
  refine Wp.rg ?_
  refine Ops.sg 1 1 ?_
  refine Ops.dn ?_
  refine seqQ.n ?_
  refine Wp.sq ?_
  refine Wp.sq ?_
  refine Wp.rg ?_
  refine Ops.sg 3 3 ?_
  refine Ops.dn ?_
  refine seqQ.n ?_
  refine Wp.cnd h [0, 1, 4] 1 (by kernel_rfl) (fun h => ?_) (fun h => ?_)
  · refine Wp.sq ?_
    refine Wp.rg ?_
    refine Ops.sg 4 4 ?_
    obtain ⟨v1, ev1, h⟩ := bnd_some h
    refine Ops.on 5 (fun h0 e0 => (app_r (T := T) (g := .nil) h0 48 5 0 1 ti5 .nonfull (eK .u8) a0 ([IntKind.u8.wrap a1]) v1 ev1 (by kernel_rfl) (by kernel_rfl) (by kernel_rfl) (by kernel_rfl) (fun _ => rfl) (hq_of e0 (by kernel_rfl)))) ?_
    refine Ops.sg 1 6 ?_
    refine Ops.dn ?_
    refine seqQ.n ?_
    refine Wp.ret (by kernel_rfl) ?_
    refine sqQ.r ?_
    refine seqQ.r ?_
    exact fnQT.r' (X57 n) (eK .u8) h (RetOkT.mk' 1 (by kernel_rfl) (by kernel_rfl))
  · refine Wp.sk ?_
    refine sqQ.n ⟨(appD 0 (List.map (eK .u8) a0)) :: (.v (.int .i32 a1)) :: q2 ((.v (.sl .nil (List.map (eK .u8) []))) :: q11 []), [(appO 1 (List.map (eK .u8) a0)), .dead]⟩ (by generalize a0 = z0; cases z0 <;> kernel_rfl) ?_
    refine seqQ.n ?_
    refine Wp.sq ?_
    refine Wp.rg ?_
    refine Ops.sg 2 2 ?_
    obtain ⟨v2, ev2, h⟩ := bnd_some h
    refine Ops.on 3 (fun h0 e0 => (call_tok (E' := E) (h := h0) (q := 0) (l := List.map (eK .u8) a0) (by kernel_rfl) (by kernel_rfl) (by kernel_rfl) (hq_of e0 (by kernel_rfl)) (Args.v (.int .i32 a1) ((eK .i32) a1) (by kernel_rfl) Args.nil) (ok65 m a0 a1 v2 ev2 n (by omega)))) ?_
    refine Ops.sg 1 4 ?_
    refine Ops.dn ?_
    refine seqQ.n ?_
    refine Wp.ret (by kernel_rfl) ?_
    exact fnQT.r' (X57 n) (eK .u8) h (RetOkT.mk' 2 (by kernel_rfl) (by kernel_rfl))

/-! ### 39 glosswright/pattern.char -/
noncomputable def f39_j1 (m : Nat) (a1 : Int) (v10 : (List Int)) : Option (List Int) :=
  bnd (f57 m v10 (IntKind.i32.wrap a1)) fun v12 =>
  some v12
noncomputable def f39_r2 (m : Nat) (a0 : (List Int)) (a1 : Int) (v8 : Bool) : Option (List Int) :=
  cnd v8
  (bnd (app 1 a0 [92]) fun v13 =>
  f39_j1 m a1 v13)
  (f39_j1 m a1 a0)
noncomputable def f39 (m : Nat) (a0 : (List Int)) (a1 : Int) : Option (List Int) :=
  bnd (cnd (decide (a1 < 128))
  (bnd (f56 m ((⟨#[40, 41, 91, 93, 124, 38, 45, 42, 43, 63, 123, 125, 44, 92]⟩ : ByteArray)) (IntKind.u8.wrap a1)) fun v14 =>
  some (decide (v14 ≥ 0)))
  (some false)) fun v8 =>
  f39_r2 m a0 a1 v8
noncomputable abbrev X39 (n : Nat) : Cx := cxOf Proofs.Tryd.prog E 39 n
noncomputable def C39 : Code := bodyOf Proofs.Tryd.prog 39
theorem ok39 (m : Nat) (a0 : (List Int)) (a1 : Int) (o : (List Int)) (h : f39 m a0 a1 = some o) (n : Nat) (hn : m + 3 ≤ n) : FnT Proofs.Tryd.prog E n 39 1 (List.map (eK .u8) a0) [.v (eI a1)] (List.map (eK .u8) o) := by
  obtain ⟨n, rfl⟩ : ∃ q, n = q + 1 := ⟨n - 1, by omega⟩
  unfold f39 at h
  refine FnT.of (by kernel_rfl) (by kernel_rfl) (by kernel_rfl) ⟨(appD 0 (List.map (eK .u8) a0)) :: (dI a1) :: u18 [], [(appO 1 (List.map (eK .u8) a0))]⟩ (by kernel_rfl) ?_
  refine Wp.sq ?_
  refine Wp.rg ?_
  refine Ops.sg 1 1 ?_
  refine Ops.dn ?_
  refine seqQ.n ?_
  refine Wp.sq ?_
  refine Wp.sq ?_
  refine Wp.rg ?_
  refine Ops.sg 3 3 ?_
  refine Ops.hv (fun KQ => ∀ (d3 d4 d5 d6 : D) (v7 : Bool) (v8 : Bool), f39_r2 m a0 a1 v8 = some o → KQ 8 ⟨(appD 0 (List.map (eK .u8) a0)) :: (dI a1) :: u2 ((.v (.sl .nil (List.map (eK .u8) []))) :: (dI a1) :: (dB v7) :: (dB v7) :: d3 :: d4 :: d5 :: d6 :: (dB v8) :: u7 []), [(appO 1 (List.map (eK .u8) a0))]⟩) ?_ fun J39j9 => ?_
  · intro d3 d4 d5 d6 v7 v8 h
    unfold f39_r2 at h
    refine Ops.dn ?_
    refine seqQ.n ?_
    have J39j11 : ∀ (v10 : (List Int)) , f39_j1 m a1 v10 = some o → (seqQ (X39 n) (cR (cR C39)) (fnQT (X39 n).E.T (resOf Proofs.Tryd.prog 39) 1 (List.map (eK .u8) o))) .normal ⟨(appD 1 (List.map (eK .u8) v10)) :: (dI a1) :: q2 ((.v (.sl .nil (List.map (eK .u8) []))) :: q15 []), [.dead, (appO 1 (List.map (eK .u8) v10))]⟩ := by
      intro v10  h
      unfold f39_j1 at h
      refine seqQ.n ?_
      refine Wp.sq ?_
      refine Wp.rg ?_
      refine Ops.sg 3 3 ?_
      obtain ⟨v12, ev12, h⟩ := bnd_some h
      refine Ops.on 4 (fun h0 e0 => (call_tok (E' := E) (h := h0) (q := 1) (l := List.map (eK .u8) v10) (by kernel_rfl) (by kernel_rfl) (by kernel_rfl) (hq_of e0 (by kernel_rfl)) (Args.v (.int .i32 (IntKind.i32.wrap a1)) ((eK .i32) (IntKind.i32.wrap a1)) (by kernel_rfl) Args.nil) (ok57 m v10 (IntKind.i32.wrap a1) v12 ev12 n (by omega)))) ?_
      refine Ops.sg 1 5 ?_
      refine Ops.dn ?_
      refine seqQ.n ?_
      refine Wp.ret (by kernel_rfl) ?_
      exact fnQT.r' (X39 n) (eK .u8) h (RetOkT.mk' 2 (by kernel_rfl) (by kernel_rfl))
    refine Wp.cnd h [0, 1, 4] 1 (by kernel_rfl) (fun h => ?_) (fun h => ?_)
    · refine Wp.rg ?_
      refine Ops.sg 2 2 ?_
      obtain ⟨v13, ev13, h⟩ := bnd_some h
      refine Ops.on 3 (fun h0 e0 => (app_r (T := T) (g := .nil) h0 48 5 0 1 ti5 .nonfull (eK .u8) a0 [92] v13 ev13 (by kernel_rfl) (by kernel_rfl) (by kernel_rfl) (by kernel_rfl) (fun _ => rfl) (hq_of e0 (by kernel_rfl)))) ?_
      refine Ops.sg 1 4 ?_
      refine Ops.dn ?_
      refine sqQ.n ⟨(appD 1 (List.map (eK .u8) v13)) :: (dI a1) :: q2 ((.v (.sl .nil (List.map (eK .u8) []))) :: q15 []), [.dead, (appO 1 (List.map (eK .u8) v13))]⟩ (by generalize v13 = z0; cases z0 <;> kernel_rfl) ?_
      exact J39j11 v13  h
    · refine Wp.sk ?_
      refine sqQ.n ⟨(appD 1 (List.map (eK .u8) a0)) :: (dI a1) :: q2 ((.v (.sl .nil (List.map (eK .u8) []))) :: q15 []), [.dead, (appO 1 (List.map (eK .u8) a0))]⟩ (by generalize a0 = z0; cases z0 <;> kernel_rfl) ?_
      exact J39j11 a0  h
  obtain ⟨v8, ev8, h⟩ := bnd_some h
  refine Ops.hv (fun KQ => ∀ v1 : Bool, (cnd v1 (bnd (f56 m ((⟨#[40, 41, 91, 93, 124, 38, 45, 42, 43, 63, 123, 125, 44, 92]⟩ : ByteArray)) (IntKind.u8.wrap a1)) fun v14 => some (decide (v14 ≥ 0))) (some false)) = some v8 → KQ 3 ⟨(appD 0 (List.map (eK .u8) a0)) :: (dI a1) :: u2 ((.v (.sl .nil (List.map (eK .u8) []))) :: (dI a1) :: (dB v1) :: (dB v1) :: u12 []), [(appO 1 (List.map (eK .u8) a0))]⟩) ?_ fun G39g2 => Ops.st _ (by kernel_rfl) (G39g2 (decide (a1 < 128)) ev8)
  intro v1 ev8
  cases v1
  · have ev8 := cnd_f ev8
    refine Ops.sg 5 8 ?_
    exact Ops.st _ (by kernel_rfl) (J39j9 U U U U false false (some_sub (fun v8 => f39_r2 m a0 a1 v8 = some o) ev8 h))
  · have ev8 := cnd_t ev8
    refine Ops.sg 2 5 ?_
    obtain ⟨v14, ev14, ev8⟩ := bnd_some ev8
    refine Ops.on 6 (fun h0 e0 => (call_ok (E' := E) (h := h0) (by kernel_rfl) (Args.v (.str ((⟨#[40, 41, 91, 93, 124, 38, 45, 42, 43, 63, 123, 125, 44, 92]⟩ : ByteArray))) (eS ((⟨#[40, 41, 91, 93, 124, 38, 45, 42, 43, 63, 123, 125, 44, 92]⟩ : ByteArray))) (by kernel_rfl) (Args.v (.int .u8 (IntKind.u8.wrap a1)) ((eK .u8) (IntKind.u8.wrap a1)) (by kernel_rfl) Args.nil)) (ok56 m ((⟨#[40, 41, 91, 93, 124, 38, 45, 42, 43, 63, 123, 125, 44, 92]⟩ : ByteArray)) (IntKind.u8.wrap a1) v14 ev14 n (by omega)))) ?_
    refine Ops.sg 2 8 ?_
    exact Ops.st _ (by kernel_rfl) (J39j9 (dI a1) (.v (.int .u8 (IntKind.u8.wrap a1))) (dI v14) (dB (decide (v14 ≥ 0))) true (decide (v14 ≥ 0)) (some_sub (fun v8 => f39_r2 m a0 a1 v8 = some o) ev8 h))

/-! ### 70 internal/strconv.small -/
noncomputable def f70 (m : Nat) (a0 : Int) : Option ByteArray :=
  cnd (decide (a0 < 10))
  (bnd (ssub ((⟨#[48, 49, 50, 51, 52, 53, 54, 55, 56, 57, 97, 98, 99, 100, 101, 102, 103, 104, 105, 106, 107, 108, 109, 110, 111, 112, 113, 114, 115, 116, 117, 118, 119, 120, 121, 122]⟩ : ByteArray)) a0 (w64 (a0 + 1))) fun v1 =>
  some v1)
  (bnd (ssub ((⟨#[48, 48, 48, 49, 48, 50, 48, 51, 48, 52, 48, 53, 48, 54, 48, 55, 48, 56, 48, 57, 49, 48, 49, 49, 49, 50, 49, 51, 49, 52, 49, 53, 49, 54, 49, 55, 49, 56, 49, 57, 50, 48, 50, 49, 50, 50, 50, 51, 50, 52, 50, 53, 50, 54, 50, 55, 50, 56, 50, 57, 51, 48, 51, 49, 51, 50, 51, 51, 51, 52, 51, 53, 51, 54, 51, 55, 51, 56, 51, 57, 52, 48, 52, 49, 52, 50, 52, 51, 52, 52, 52, 53, 52, 54, 52, 55, 52, 56, 52, 57, 53, 48, 53, 49, 53, 50, 53, 51, 53, 52, 53, 53, 53, 54, 53, 55, 53, 56, 53, 57, 54, 48, 54, 49, 54, 50, 54, 51, 54, 52, 54, 53, 54, 54, 54, 55, 54, 56, 54, 57, 55, 48, 55, 49, 55, 50, 55, 51, 55, 52, 55, 53, 55, 54, 55, 55, 55, 56, 55, 57, 56, 48, 56, 49, 56, 50, 56, 51, 56, 52, 56, 53, 56, 54, 56, 55, 56, 56, 56, 57, 57, 48, 57, 49, 57, 50, 57, 51, 57, 52, 57, 53, 57, 54, 57, 55, 57, 56, 57, 57]⟩ : ByteArray)) (w64 (a0 * 2)) (w64 (w64 (a0 * 2) + 2))) fun v2 =>
  some v2)
noncomputable abbrev X70 (n : Nat) : Cx := cxOf Proofs.Tryd.prog E 70 n
noncomputable def C70 : Code := bodyOf Proofs.Tryd.prog 70
theorem ok70 (m : Nat) (a0 : Int) (o : ByteArray) (h : f70 m a0 = some o) (n : Nat) (hn : m + 1 ≤ n) : Fn Proofs.Tryd.prog E n 70 [.v (eI a0)] (eS o) := by
  obtain ⟨n, rfl⟩ : ∃ q, n = q + 1 := ⟨n - 1, by omega⟩
  unfold f70 at h
  refine Fn.of (by kernel_rfl) (by kernel_rfl) (by kernel_rfl) ⟨(dI a0) :: u14 [], []⟩ (by kernel_rfl) ?_
  refine Wp.sq ?_
  refine Wp.rg ?_
  refine Ops.sg 1 1 ?_
  refine Ops.dn ?_
  refine seqQ.n ?_
  refine Wp.sq ?_
  refine Wp.sq ?_
  refine Wp.rg ?_
  refine Ops.sg 2 2 ?_
  refine Ops.dn ?_
  refine seqQ.n ?_
  refine Wp.cnd h [0, 2] 0 (by kernel_rfl) (fun h => ?_) (fun h => ?_)
  · refine Wp.sq ?_
    refine Wp.rg ?_
    refine Ops.sg 3 3 ?_
    obtain ⟨v1, ev1, h⟩ := bnd_some h
    refine Ops.on 4 (fun h0 e0 => (str_sub (T := T) h0 9 ((⟨#[48, 49, 50, 51, 52, 53, 54, 55, 56, 57, 97, 98, 99, 100, 101, 102, 103, 104, 105, 106, 107, 108, 109, 110, 111, 112, 113, 114, 115, 116, 117, 118, 119, 120, 121, 122]⟩ : ByteArray)) v1 (some a0) (some (w64 (a0 + 1))) ev1 (by kernel_rfl))) ?_
    refine Ops.sg 1 5 ?_
    refine Ops.dn ?_
    refine seqQ.n ?_
    refine Wp.ret (by kernel_rfl) ?_
    refine sqQ.r ?_
    refine seqQ.r ?_
    exact fnQ.r' (X70 n) (fun z => (eS z)) h (RetOk.mk' (.v (.str v1)) (by kernel_rfl) (by kernel_rfl))
  · refine Wp.sk ?_
    refine sqQ.n' ?_
    refine seqQ.n ?_
    refine Wp.sq ?_
    refine Wp.rg ?_
    refine Ops.sg 5 5 ?_
    obtain ⟨v2, ev2, h⟩ := bnd_some h
    refine Ops.on 6 (fun h0 e0 => (str_sub (T := T) h0 9 ((⟨#[48, 48, 48, 49, 48, 50, 48, 51, 48, 52, 48, 53, 48, 54, 48, 55, 48, 56, 48, 57, 49, 48, 49, 49, 49, 50, 49, 51, 49, 52, 49, 53, 49, 54, 49, 55, 49, 56, 49, 57, 50, 48, 50, 49, 50, 50, 50, 51, 50, 52, 50, 53, 50, 54, 50, 55, 50, 56, 50, 57, 51, 48, 51, 49, 51, 50, 51, 51, 51, 52, 51, 53, 51, 54, 51, 55, 51, 56, 51, 57, 52, 48, 52, 49, 52, 50, 52, 51, 52, 52, 52, 53, 52, 54, 52, 55, 52, 56, 52, 57, 53, 48, 53, 49, 53, 50, 53, 51, 53, 52, 53, 53, 53, 54, 53, 55, 53, 56, 53, 57, 54, 48, 54, 49, 54, 50, 54, 51, 54, 52, 54, 53, 54, 54, 54, 55, 54, 56, 54, 57, 55, 48, 55, 49, 55, 50, 55, 51, 55, 52, 55, 53, 55, 54, 55, 55, 55, 56, 55, 57, 56, 48, 56, 49, 56, 50, 56, 51, 56, 52, 56, 53, 56, 54, 56, 55, 56, 56, 56, 57, 57, 48, 57, 49, 57, 50, 57, 51, 57, 52, 57, 53, 57, 54, 57, 55, 57, 56, 57, 57]⟩ : ByteArray)) v2 (some (w64 (a0 * 2))) (some (w64 (w64 (a0 * 2) + 2))) ev2 (by kernel_rfl))) ?_
    refine Ops.sg 1 7 ?_
    refine Ops.dn ?_
    refine seqQ.n ?_
    refine Wp.ret (by kernel_rfl) ?_
    exact fnQ.r' (X70 n) (fun z => (eS z)) h (RetOk.mk' (.v (.str v2)) (by kernel_rfl) (by kernel_rfl))

/-! ### 66 internal/strconv.AppendUint -/
noncomputable def f66 (m : Nat) (a0 : (List Int)) (a1 : Int) (a2 : Int) : Option (List Int) :=
  cnd (a2 == 10)
  (cnd (decide (a1 < 100))
  (bnd (f70 m (w64 a1)) fun v1 =>
  bnd (app 1 a0 (bytesI v1)) fun v2 =>
  some v2)
  (none))
  (none)
noncomputable abbrev X66 (n : Nat) : Cx := cxOf Proofs.Tryd.prog E 66 n
noncomputable def C66 : Code := bodyOf Proofs.Tryd.prog 66
theorem ok66 (m : Nat) (a0 : (List Int)) (a1 : Int) (a2 : Int) (o : (List Int)) (h : f66 m a0 a1 a2 = some o) (n : Nat) (hn : m + 2 ≤ n) : FnT Proofs.Tryd.prog E n 66 1 (List.map (eK .u8) a0) [.v ((eK .u64) a1), .v (eI a2)] (List.map (eK .u8) o) := by
  obtain ⟨n, rfl⟩ : ∃ q, n = q + 1 := ⟨n - 1, by omega⟩
  unfold f66 at h
  refine FnT.of (by kernel_rfl) (by kernel_rfl) (by kernel_rfl) ⟨(appD 0 (List.map (eK .u8) a0)) :: (.v (.int .u64 a1)) :: (dI a2) :: u33 [], [(appO 1 (List.map (eK .u8) a0))]⟩ (by kernel_rfl) ?_
  refine Wp.sq ?_
  refine Wp.rg ?_
  refine Ops.sg 1 1 ?_
  refine Ops.dn ?_
  refine seqQ.n ?_
  refine Wp.sq ?_
  refine Wp.sq ?_
  refine Wp.rg ?_
  refine Ops.sg 2 2 ?_
  refine Ops.dn ?_
  refine seqQ.n ?_
  refine Wp.cnd h [0, 1, 2, 6] 1 (by kernel_rfl) (fun h => ?_) (fun h => ?_)
  · refine Wp.sq ?_
    refine Wp.sq ?_
    refine Wp.rg ?_
    refine Ops.sg 2 2 ?_
    refine Ops.dn ?_
    refine seqQ.n ?_
    refine Wp.cnd h [0, 1, 6] 1 (by kernel_rfl) (fun h => ?_) (fun h => ?_)
    · refine Wp.sq ?_
      refine Wp.rg ?_
      refine Ops.sg 3 3 ?_
      obtain ⟨v1, ev1, h⟩ := bnd_some h
      refine Ops.on 4 (fun h0 e0 => (call_ok (E' := E) (h := h0) (by kernel_rfl) (Args.v (vI (w64 a1)) (eI (w64 a1)) (by kernel_rfl) Args.nil) (ok70 m (w64 a1) v1 ev1 n (by omega)))) ?_
      obtain ⟨v2, ev2, h⟩ := bnd_some h
      refine Ops.on 5 (fun h0 e0 => (app_str (T := T) (t' := 9) (b := v1) (by kernel_rfl) (app_r (T := T) (g := .nil) h0 48 5 0 1 ti5 .plain (eK .u8) a0 (bytesI v1) v2 ev2 (by kernel_rfl) (by kernel_rfl) (by kernel_rfl) (by kernel_rfl) (fun _ => rfl) (hq_of e0 (by kernel_rfl))))) ?_
      refine Ops.sg 1 6 ?_
      refine Ops.dn ?_
      refine seqQ.n ?_
      refine Wp.ret (by kernel_rfl) ?_
      refine sqQ.r ?_
      refine seqQ.r ?_
      refine sqQ.r ?_
      refine seqQ.r ?_
      exact fnQT.r' (X66 n) (eK .u8) h (RetOkT.mk' 1 (by kernel_rfl) (by kernel_rfl))
    · refine Wp.sk ?_
      refine sqQ.n ⟨(appD 0 (List.map (eK .u8) a0)) :: (.v (.int .u64 a1)) :: q4 ((.v (.sl .nil (List.map (eK .u8) []))) :: q29 []), [(appO 1 (List.map (eK .u8) a0)), .dead]⟩ (by generalize a0 = z0; cases z0 <;> kernel_rfl) ?_
      refine seqQ.n ?_
      refine Wp.sq ?_
      cases h
  · refine Wp.sk ?_
    refine sqQ.n ⟨(appD 0 (List.map (eK .u8) a0)) :: (.v (.int .u64 a1)) :: (dI a2) :: q3 ((.v (.sl .nil (List.map (eK .u8) []))) :: q29 []), [(appO 1 (List.map (eK .u8) a0)), .dead]⟩ (by generalize a0 = z0; cases z0 <;> kernel_rfl) ?_
    refine seqQ.n ?_
    refine Wp.sq ?_
    cases h

/-! ### 58 internal/strconv.AppendInt -/
noncomputable def f58_j1 (m : Nat) (a2 : Int) (v1 : (List Int)) (v2 : Int) : Option (List Int) :=
  bnd (f66 m v1 v2 a2) fun v4 =>
  some v4
noncomputable def f58 (m : Nat) (a0 : (List Int)) (a1 : Int) (a2 : Int) : Option (List Int) :=
  cnd (decide (a1 < 0))
  (bnd (app 1 a0 [45]) fun v5 =>
  f58_j1 m a2 v5 (IntKind.u64.wrap (0 - IntKind.u64.wrap a1)))
  (f58_j1 m a2 a0 (IntKind.u64.wrap a1))
noncomputable abbrev X58 (n : Nat) : Cx := cxOf Proofs.Tryd.prog E 58 n
noncomputable def C58 : Code := bodyOf Proofs.Tryd.prog 58
theorem ok58 (m : Nat) (a0 : (List Int)) (a1 : Int) (a2 : Int) (o : (List Int)) (h : f58 m a0 a1 a2 = some o) (n : Nat) (hn : m + 3 ≤ n) : FnT Proofs.Tryd.prog E n 58 1 (List.map (eK .u8) a0) [.v (eI a1), .v (eI a2)] (List.map (eK .u8) o) := by
  obtain ⟨n, rfl⟩ : ∃ q, n = q + 1 := ⟨n - 1, by omega⟩
  unfold f58 at h
  refine FnT.of (by kernel_rfl) (by kernel_rfl) (by kernel_rfl) ⟨(appD 0 (List.map (eK .u8) a0)) :: (dI a1) :: (dI a2) :: u18 [], [(appO 1 (List.map (eK .u8) a0))]⟩ (by kernel_rfl) ?_
  refine Wp.sq ?_
  refine Wp.rg ?_
  refine Ops.sg 1 1 ?_
  refine Ops.dn ?_
  refine seqQ.n ?_
  refine Wp.sq ?_
  refine Wp.rg ?_
  refine Ops.sg 3 3 ?_
  refine Ops.dn ?_
  refine seqQ.n ?_
  refine Wp.sq ?_
  refine Wp.sq ?_
  refine Wp.rg ?_
  refine Ops.sg 2 2 ?_
  refine Ops.dn ?_
  refine seqQ.n ?_
  have J58j3 : ∀ (v1 : (List Int)) (v2 : Int) , f58_j1 m a2 v1 v2 = some o → (seqQ (X58 n) (cR (cR (cR C58))) (fnQT (X58 n).E.T (resOf Proofs.Tryd.prog 58) 1 (List.map (eK .u8) o))) .normal ⟨(appD 1 (List.map (eK .u8) v1)) :: q1 ((dI a2) :: q3 ((.v (.sl .nil (List.map (eK .u8) []))) :: (.v (.int .u64 v2)) :: q13 [])), [.dead, (appO 1 (List.map (eK .u8) v1))]⟩ := by
    intro v1 v2  h
    unfold f58_j1 at h
    refine seqQ.n ?_
    refine Wp.sq ?_
    refine Wp.rg ?_
    refine Ops.sg 3 3 ?_
    obtain ⟨v4, ev4, h⟩ := bnd_some h
    refine Ops.on 4 (fun h0 e0 => (call_tok (E' := E) (h := h0) (q := 1) (l := List.map (eK .u8) v1) (by kernel_rfl) (by kernel_rfl) (by kernel_rfl) (hq_of e0 (by kernel_rfl)) (Args.v (.int .u64 v2) ((eK .u64) v2) (by kernel_rfl) (Args.v (vI a2) (eI a2) (by kernel_rfl) Args.nil)) (ok66 m v1 v2 a2 v4 ev4 n (by omega)))) ?_
    refine Ops.sg 1 5 ?_
    refine Ops.dn ?_
    refine seqQ.n ?_
    refine Wp.ret (by kernel_rfl) ?_
    exact fnQT.r' (X58 n) (eK .u8) h (RetOkT.mk' 2 (by kernel_rfl) (by kernel_rfl))
  refine Wp.cnd h [0, 2, 6, 7] 1 (by kernel_rfl) (fun h => ?_) (fun h => ?_)
  · refine Wp.sq ?_
    refine Wp.rg ?_
    refine Ops.sg 2 2 ?_
    obtain ⟨v5, ev5, h⟩ := bnd_some h
    refine Ops.on 3 (fun h0 e0 => (app_r (T := T) (g := .nil) h0 48 5 0 1 ti5 .nonfull (eK .u8) a0 [45] v5 ev5 (by kernel_rfl) (by kernel_rfl) (by kernel_rfl) (by kernel_rfl) (fun _ => rfl) (hq_of e0 (by kernel_rfl)))) ?_
    refine Ops.sg 1 4 ?_
    refine Ops.dn ?_
    refine seqQ.n ?_
    refine Wp.rg ?_
    refine Ops.sg 3 3 ?_
    refine Ops.dn ?_
    refine sqQ.n ⟨(appD 1 (List.map (eK .u8) v5)) :: q1 ((dI a2) :: q3 ((.v (.sl .nil (List.map (eK .u8) []))) :: (.v (.int .u64 (IntKind.u64.wrap (0 - IntKind.u64.wrap a1)))) :: q13 [])), [.dead, (appO 1 (List.map (eK .u8) v5))]⟩ (by generalize v5 = z0; cases z0 <;> kernel_rfl) ?_
    exact J58j3 v5 (IntKind.u64.wrap (0 - IntKind.u64.wrap a1))  h
  · refine Wp.sk ?_
    refine sqQ.n ⟨(appD 1 (List.map (eK .u8) a0)) :: q1 ((dI a2) :: q3 ((.v (.sl .nil (List.map (eK .u8) []))) :: (.v (.int .u64 (IntKind.u64.wrap a1))) :: q13 [])), [.dead, (appO 1 (List.map (eK .u8) a0))]⟩ (by generalize a0 = z0; cases z0 <;> kernel_rfl) ?_
    exact J58j3 a0 (IntKind.u64.wrap a1)  h

/-! ### 40 strconv.AppendInt -/
noncomputable def f40 (m : Nat) (a0 : (List Int)) (a1 : Int) (a2 : Int) : Option (List Int) :=
  bnd (f58 m a0 a1 a2) fun v1 =>
  some v1
noncomputable abbrev X40 (n : Nat) : Cx := cxOf Proofs.Tryd.prog E 40 n
noncomputable def C40 : Code := bodyOf Proofs.Tryd.prog 40
theorem ok40 (m : Nat) (a0 : (List Int)) (a1 : Int) (a2 : Int) (o : (List Int)) (h : f40 m a0 a1 a2 = some o) (n : Nat) (hn : m + 4 ≤ n) : FnT Proofs.Tryd.prog E n 40 1 (List.map (eK .u8) a0) [.v (eI a1), .v (eI a2)] (List.map (eK .u8) o) := by
  obtain ⟨n, rfl⟩ : ∃ q, n = q + 1 := ⟨n - 1, by omega⟩
  unfold f40 at h
  refine FnT.of (by kernel_rfl) (by kernel_rfl) (by kernel_rfl) ⟨(appD 0 (List.map (eK .u8) a0)) :: (dI a1) :: (dI a2) :: u8 [], [(appO 1 (List.map (eK .u8) a0))]⟩ (by kernel_rfl) ?_
  refine Wp.sq ?_
  refine Wp.rg ?_
  refine Ops.sg 1 1 ?_
  refine Ops.dn ?_
  refine seqQ.n ?_
  refine Wp.sq ?_
  refine Wp.rg ?_
  refine Ops.sg 3 3 ?_
  obtain ⟨v1, ev1, h⟩ := bnd_some h
  refine Ops.on 4 (fun h0 e0 => (call_tok (E' := E) (h := h0) (q := 0) (l := List.map (eK .u8) a0) (by kernel_rfl) (by kernel_rfl) (by kernel_rfl) (hq_of e0 (by kernel_rfl)) (Args.v (vI a1) (eI a1) (by kernel_rfl) (Args.v (vI a2) (eI a2) (by kernel_rfl) Args.nil)) (ok58 m a0 a1 a2 v1 ev1 n (by omega)))) ?_
  refine Ops.sg 1 5 ?_
  refine Ops.dn ?_
  refine seqQ.n ?_
  refine Wp.ret (by kernel_rfl) ?_
  exact fnQT.r' (X40 n) (eK .u8) h (RetOkT.mk' 1 (by kernel_rfl) (by kernel_rfl))

/-! ### a group of functions: glosswright/pattern.put -/
structure Rec22 where
  r22 : (List Int) → S24 → Int → Option (List Int)
structure OkRec22 (m : Nat) (K : Rec22) (nn : Nat) : Prop where
  ok22 : ∀ (a0 : (List Int)) (a1 : S24) (a2 : Int) (o : (List Int)), K.r22 a0 a1 a2 = some o → ∀ n, nn ≤ n → FnT Proofs.Tryd.prog E n 22 1 (List.map (eK .u8) a0) [.v (e24 a1), .v (eI a2)] (List.map (eK .u8) o)
/-! ### 22 glosswright/pattern.put -/
noncomputable def f22_B1 (m : Nat) (K : Rec22) (a1 : S24) (v15 : (List Int)) (v16 : Int) : Option (Stp (List Int) ((List Int) × Int)) :=
  cnd (decide (v16 < (a1.fLabels.length : Int)))
  (bnd (idx a1.fLabels v16) fun v26 =>
  bnd (f39 m v15 v26) fun v27 =>
  some (.nxt (v27, w64 (v16 + 1))))
  (some (.brk (v15, v16)))
noncomputable def f22_B2 (m : Nat) (K : Rec22) (a1 : S24) (v38 : (List Int)) (v39 : Int) : Option (Stp (List Int) ((List Int) × Int)) :=
  cnd (decide (v39 < (a1.fSubs.length : Int)))
  (bnd (idx a1.fSubs v39) fun v49 =>
  bnd (K.r22 v38 v49.vw 4) fun v50 =>
  some (.nxt (v50, w64 (v39 + 1))))
  (some (.brk (v38, v39)))
noncomputable def f22_j3 (m : Nat) (K : Rec22) (v67 : Int) (v77 : P24) (v78 : (List Int)) : Option (Stp (List Int) ((List Int) × Int)) :=
  bnd (K.r22 v78 v77.vw 2) fun v80 =>
  some (.nxt (v80, w64 (v67 + 1)))
noncomputable def f22_B4 (m : Nat) (K : Rec22) (a1 : S24) (v66 : (List Int)) (v67 : Int) : Option (Stp (List Int) ((List Int) × Int)) :=
  cnd (decide (v67 < (a1.fSubs.length : Int)))
  (bnd (idx a1.fSubs v67) fun v77 =>
  cnd (decide (v67 > 0))
  (bnd (app 1 v66 [124]) fun v81 =>
  f22_j3 m K v67 v77 v81)
  (f22_j3 m K v67 v77 v66))
  (some (.brk (v66, v67)))
noncomputable def f22_j5 (m : Nat) (K : Rec22) (a1 : S24) (v89 : (List Int)) : Option (List Int) :=
  bnd (idx a1.fSubs 1) fun v91 =>
  bnd (K.r22 v89 v91.vw 3) fun v92 =>
  some v92
noncomputable def f22_j6 (m : Nat) (K : Rec22) (v127 : (List Int)) : Option (List Int) :=
  bnd (app 1 v127 [125]) fun v129 =>
  some v129
noncomputable def f22_r7 (m : Nat) (K : Rec22) (a1 : S24) (v96 : (List Int)) (v121 : Bool) : Option (List Int) :=
  cnd v121
  (bnd (app 1 v96 [63]) fun v123 =>
  some v123)
  (bnd (app 1 v96 [123]) fun v124 =>
  bnd (f40 m v124 a1.fLeast 10) fun v125 =>
  bnd (app 1 v125 [44]) fun v126 =>
  cnd (decide (a1.fMost ≥ 0))
  (bnd (f40 m v126 a1.fMost 10) fun v130 =>
  f22_j6 m K v130)
  (f22_j6 m K v126))
noncomputable def f22_r8 (m : Nat) (K : Rec22) (a1 : S24) (v96 : (List Int)) (v112 : Bool) : Option (List Int) :=
  cnd v112
  (bnd (app 1 v96 [43]) fun v114 =>
  some v114)
  (f22_r7 m K a1 v96 ((a1.fLeast == 0) && (a1.fMost == 1)))
noncomputable def f22_r9 (m : Nat) (K : Rec22) (a1 : S24) (v96 : (List Int)) (v103 : Bool) : Option (List Int) :=
  cnd v103
  (bnd (app 1 v96 [42]) fun v105 =>
  some v105)
  (f22_r8 m K a1 v96 ((a1.fLeast == 1) && (decide (a1.fMost < 0))))
noncomputable def f22_j10 (m : Nat) (K : Rec22) (a0 : (List Int)) (a1 : S24) (v85 : Bool) : Option (List Int) :=
  cnd v85
  (bnd (idx a1.fSubs 0) fun v87 =>
  bnd (K.r22 a0 v87.vw 2) fun v88 =>
  cnd (a1.fKind == 6)
  (bnd (app 1 v88 [38]) fun v93 =>
  f22_j5 m K a1 v93)
  (bnd (app 1 v88 [45]) fun v94 =>
  f22_j5 m K a1 v94))
  (bnd (idx a1.fSubs 0) fun v95 =>
  bnd (K.r22 a0 v95.vw 4) fun v96 =>
  f22_r9 m K a1 v96 ((a1.fLeast == 0) && (decide (a1.fMost < 0))))
noncomputable def b22 (m : Nat) (K : Rec22) (a0 : (List Int)) (a1 : S24) (a2 : Int) : Option (List Int) :=
  bnd (f38 m a1.fKind) fun v1 =>
  cnd (decide (v1 < a2))
  (bnd (app 1 a0 [40]) fun v2 =>
  bnd (K.r22 v2 a1 1) fun v3 =>
  bnd (app 1 v3 [41]) fun v4 =>
  some v4)
  (cnd (a1.fKind == 1)
  (bnd (app 1 a0 ((bytesI ((⟨#[40, 41]⟩ : ByteArray))))) fun v5 =>
  some v5)
  (cnd (a1.fKind == 2)
  (cnd ((a1.fLabels.length : Int) == 1)
  (bnd (idx a1.fLabels 0) fun v6 =>
  bnd (f39 m a0 v6) fun v7 =>
  some v7)
  (bnd (app 1 a0 [91]) fun v8 =>
  brk (iter (fun (y : (List Int) × Int) => f22_B1 m K a1 y.1 y.2) m (v8, 0)) some fun y29 =>
  bnd (app 1 y29.1 [93]) fun v31 =>
  some v31))
  (cnd (a1.fKind == 3)
  (brk (iter (fun (y : (List Int) × Int) => f22_B2 m K a1 y.1 y.2) m (a0, 0)) some fun y52 =>
  some y52.1)
  (cnd (a1.fKind == 4)
  (brk (iter (fun (y : (List Int) × Int) => f22_B4 m K a1 y.1 y.2) m (a0, 0)) some fun y83 =>
  some y83.1)
  (cnd (a1.fKind == 6)
  (f22_j10 m K a0 a1 (a1.fKind == 6))
  (f22_j10 m K a0 a1 (a1.fKind == 7)))))))
noncomputable abbrev X22 (n : Nat) : Cx := cxOf Proofs.Tryd.prog E 22 n
noncomputable def C22 : Code := bodyOf Proofs.Tryd.prog 22
noncomputable abbrev p22_0 : Code := cR (cR (cR C22))
noncomputable abbrev p22_1 : Code := cR (cL (cR (cR (cR (cR (cR (cL (cR (cL (cR (cR C22)))))))))))
noncomputable abbrev p22_2 : Code := cR (cR (cR (cL (cR (cR (cR (cL (cR (cL (cR (cR C22)))))))))))
noncomputable abbrev p22_3 : Code := cR (cL (cR (cR (cR (cR (cR (cR (cR (cL (cR (cL (cR (cR C22)))))))))))))
noncomputable abbrev p22_4 : Code := cL (cL (cR (cL (cL (cR (cR (cR (cR (cR (cR (cR (cL (cR (cL (cR (cR C22))))))))))))))))
noncomputable abbrev p22_5 : Code := cR (cR (cR p22_4))
noncomputable abbrev p22_6 : Code := cR (cR (cL (cL (cR (cR p22_4)))))
noncomputable abbrev b22_0 (w0 : S24) : AObj := .cells [(dI w0.fKind), (dP eI w0.fLabels), (dP ep24 w0.fSubs), (dI w0.fLeast), (dI w0.fMost)]
noncomputable abbrev b22_1 (w0 : P24) : AObj := .cells [(dI w0.vw.fKind), (dP eI w0.vw.fLabels), (dP ep24 w0.vw.fSubs), (dI w0.vw.fLeast), (dI w0.vw.fMost)]
theorem f22_J22j128 (m : Nat) (K : Rec22) (nn : Nat) (hK : OkRec22 m K nn) (a0 : (List Int)) (a1 : S24) (a2 : Int) (o : (List Int)) (n : Nat) (hn : m + 5 ≤ n + 1) (hk : nn + 1 ≤ n + 1)  : ∀ (v127 : (List Int)) , f22_j6 m K v127 = some o → (seqQ (X22 n) (cR (cR (cR (cR (cR (cR p22_0)))))) (fnQT (X22 n).E.T (resOf Proofs.Tryd.prog 22) 1 (List.map (eK .u8) o))) .normal ⟨(appD 12 (List.map (eK .u8) v127)) :: q5 ((.v (.sl .nil (List.map (eK .u8) []))) :: q40 (q40 (q40 (q40 (q13 []))))), [.dead, (b22_0 a1), .dead, .dead, .dead, .dead, .dead, .dead, .dead, .dead, .dead, .dead, (appO 1 (List.map (eK .u8) v127)), .dead]⟩ := by
  intro v127  h
  unfold f22_j6 at h
  refine seqQ.n ?_
  refine Wp.sq ?_
  refine Wp.rg ?_
  refine Ops.sg 2 2 ?_
  obtain ⟨v129, ev129, h⟩ := bnd_some h
  refine Ops.on 3 (fun h0 e0 => (app_r (T := T) (g := .nil) h0 48 5 12 1 ti5 .nonfull (eK .u8) v127 [125] v129 ev129 (by kernel_rfl) (by kernel_rfl) (by kernel_rfl) (by kernel_rfl) (fun _ => rfl) (hq_of e0 (by kernel_rfl)))) ?_
  refine Ops.sg 1 4 ?_
  refine Ops.dn ?_
  refine seqQ.n ?_
  refine Wp.ret (by kernel_rfl) ?_
  exact fnQT.r' (X22 n) (eK .u8) h (RetOkT.mk' 14 (by kernel_rfl) (by kernel_rfl))
theorem f22_J22j90 (m : Nat) (K : Rec22) (nn : Nat) (hK : OkRec22 m K nn) (a0 : (List Int)) (a1 : S24) (a2 : Int) (o : (List Int)) (n : Nat) (hn : m + 5 ≤ n + 1) (hk : nn + 1 ≤ n + 1)  : ∀ (v89 : (List Int)) , f22_j5 m K a1 v89 = some o → (seqQ (X22 n) (cR (cR (cL (cR (cR (cR (cR (cR (cR (cR (cR (cR (cL (cR (cL (cR (cR C22))))))))))))))))) (sqQ (X22 n) [0, 4, 6, 94] 6 (sqQ (X22 n) [0, 4, 6] 4 (sqQ (X22 n) [0, 4, 6] 4 (sqQ (X22 n) [0, 4, 6] 4 (sqQ (X22 n) [0, 4, 6] 4 (blkQ (X22 n) 0 [0, 4, 6] 4 (seqQ (X22 n) p22_0 (fnQT (X22 n).E.T (resOf Proofs.Tryd.prog 22) 1 (List.map (eK .u8) o)))))))))) .normal ⟨(appD 7 (List.map (eK .u8) v89)) :: q3 ((.ptr 1 0) :: q1 ((.v (.sl .nil (List.map (eK .u8) []))) :: q40 (q40 (q40 (q40 (q13 [])))))), [.dead, (b22_0 a1), .dead, .dead, .dead, .dead, .dead, (appO 1 (List.map (eK .u8) v89)), .dead]⟩ := by
  intro v89  h
  unfold f22_j5 at h
  refine seqQ.n ?_
  refine Wp.sq ?_
  refine Wp.rg ?_
  refine Ops.sg 3 3 ?_
  obtain ⟨v91, ev91, h⟩ := bnd_some h
  refine Ops.on 4 (fun h0 e0 => (ixb24 (ix_r (T := T) h0 23 25 5 .plain ep24 a1.fSubs 1 v91 ev91 (by kernel_rfl) (by kernel_rfl) ep24_len))) ?_
  refine Ops.sg 1 5 ?_
  obtain ⟨v92, ev92, h⟩ := bnd_some h
  refine Ops.on 6 (fun h0 e0 => (call_tok (E' := E) (h := h0) (q := 7) (l := List.map (eK .u8) v89) (by kernel_rfl) (by kernel_rfl) (by kernel_rfl) (hq_of e0 (by kernel_rfl)) (Args.v (.agg [(vI v91.vw.fKind), (vP eI v91.vw.fLabels), (vP ep24 v91.vw.fSubs), (vI v91.vw.fLeast), (vI v91.vw.fMost)]) (e24 v91.vw) (by kernel_rfl) (Args.v (vI 3) (eI 3) (by kernel_rfl) Args.nil)) (hK.ok22 v89 v91.vw 3 v92 ev92 n (by omega)))) ?_
  refine Ops.sg 1 7 ?_
  refine Ops.dn ?_
  refine seqQ.n ?_
  refine Wp.ret (by kernel_rfl) ?_
  refine sqQ.r ?_
  refine sqQ.r ?_
  refine sqQ.r ?_
  refine sqQ.r ?_
  refine sqQ.r ?_
  refine blkQ.r ?_
  refine seqQ.r ?_
  exact fnQT.r' (X22 n) (eK .u8) h (RetOkT.mk' 9 (by kernel_rfl) (by kernel_rfl))
theorem f22_J22j86 (m : Nat) (K : Rec22) (nn : Nat) (hK : OkRec22 m K nn) (a0 : (List Int)) (a1 : S24) (a2 : Int) (o : (List Int)) (n : Nat) (hn : m + 5 ≤ n + 1) (hk : nn + 1 ≤ n + 1)  : ∀ (v85 : Bool) , f22_j10 m K a0 a1 v85 = some o → (seqQ (X22 n) (cR (cR (cR (cR (cR (cR (cR (cR (cR (cL (cR (cL (cR (cR C22)))))))))))))) (sqQ (X22 n) [0, 4, 6] 4 (sqQ (X22 n) [0, 4, 6] 4 (sqQ (X22 n) [0, 4, 6] 4 (sqQ (X22 n) [0, 4, 6] 4 (blkQ (X22 n) 0 [0, 4, 6] 4 (seqQ (X22 n) p22_0 (fnQT (X22 n).E.T (resOf Proofs.Tryd.prog 22) 1 (List.map (eK .u8) o))))))))) .normal ⟨(appD 4 (List.map (eK .u8) a0)) :: q3 ((.ptr 1 0) :: q1 ((.v (.sl .nil (List.map (eK .u8) []))) :: q40 (q40 (q7 ((dB v85) :: q40 (q40 (q5 []))))))), [.dead, (b22_0 a1), .dead, .dead, (appO 1 (List.map (eK .u8) a0)), .dead]⟩ := by
  intro v85  h
  unfold f22_j10 at h
  refine seqQ.n ?_
  refine Wp.cnd h [0, 4, 6, 94] 6 (by kernel_rfl) (fun h => ?_) (fun h => ?_)
  · refine Wp.sq ?_
    refine Wp.rg ?_
    refine Ops.sg 3 3 ?_
    obtain ⟨v87, ev87, h⟩ := bnd_some h
    refine Ops.on 4 (fun h0 e0 => (ixb24 (ix_r (T := T) h0 23 25 5 .plain ep24 a1.fSubs 0 v87 ev87 (by kernel_rfl) (by kernel_rfl) ep24_len))) ?_
    refine Ops.sg 1 5 ?_
    obtain ⟨v88, ev88, h⟩ := bnd_some h
    refine Ops.on 6 (fun h0 e0 => (call_tok (E' := E) (h := h0) (q := 4) (l := List.map (eK .u8) a0) (by kernel_rfl) (by kernel_rfl) (by kernel_rfl) (hq_of e0 (by kernel_rfl)) (Args.v (.agg [(vI v87.vw.fKind), (vP eI v87.vw.fLabels), (vP ep24 v87.vw.fSubs), (vI v87.vw.fLeast), (vI v87.vw.fMost)]) (e24 v87.vw) (by kernel_rfl) (Args.v (vI 2) (eI 2) (by kernel_rfl) Args.nil)) (hK.ok22 a0 v87.vw 2 v88 ev88 n (by omega)))) ?_
    refine Ops.sg 1 7 ?_
    refine Ops.dn ?_
    refine seqQ.n ?_
    refine Wp.sq ?_
    refine Wp.sq ?_
    refine Wp.rg ?_
    refine Ops.seg 3 3 (by kernel_rfl) ⟨(appD 6 (List.map (eK .u8) v88)) :: q3 ((.ptr 1 0) :: q1 ((.v (.sl .nil (List.map (eK .u8) []))) :: q40 (q40 (q7 ((dB v85) :: q2 ((appD 4 (List.map (eK .u8) a0)) :: (.ptr 1 2) :: (dP ep24 a1.fSubs) :: (.vptr [(vI v87.vw.fKind), (vP eI v87.vw.fLabels), (vP ep24 v87.vw.fSubs), (vI v87.vw.fLeast), (vI v87.vw.fMost)]) :: (.v (.agg [(vI v87.vw.fKind), (vP eI v87.vw.fLabels), (vP ep24 v87.vw.fSubs), (vI v87.vw.fLeast), (vI v87.vw.fMost)])) :: (appD 6 (List.map (eK .u8) v88)) :: (.ptr 1 0) :: (dI a1.fKind) :: (dB (a1.fKind == 6)) :: q40 (q34 []))))))), [.dead, (b22_0 a1), .dead, .dead, .dead, .dead, (appO 1 (List.map (eK .u8) v88))]⟩ (by kernel_rfl) ?_
    refine Ops.dn ?_
    refine seqQ.n ?_
    have J22j90 := f22_J22j90 m K nn hK a0 a1 a2 o n hn hk 
    refine Wp.cnd h [0, 4, 6] 7 (by kernel_rfl) (fun h => ?_) (fun h => ?_)
    · refine Wp.rg ?_
      refine Ops.sg 2 2 ?_
      obtain ⟨v93, ev93, h⟩ := bnd_some h
      refine Ops.on 3 (fun h0 e0 => (app_r (T := T) (g := .nil) h0 48 5 6 1 ti5 .nonfull (eK .u8) v88 [38] v93 ev93 (by kernel_rfl) (by kernel_rfl) (by kernel_rfl) (by kernel_rfl) (fun _ => rfl) (hq_of e0 (by kernel_rfl)))) ?_
      refine Ops.sg 1 4 ?_
      refine Ops.dn ?_
      refine sqQ.n ⟨(appD 7 (List.map (eK .u8) v93)) :: q3 ((.ptr 1 0) :: q1 ((.v (.sl .nil (List.map (eK .u8) []))) :: q40 (q40 (q40 (q40 (q13 [])))))), [.dead, (b22_0 a1), .dead, .dead, .dead, .dead, .dead, (appO 1 (List.map (eK .u8) v93)), .dead]⟩ (by generalize v93 = z0; cases z0 <;> kernel_rfl) ?_
      exact J22j90 v93  h
    · refine Wp.rg ?_
      refine Ops.sg 2 2 ?_
      obtain ⟨v94, ev94, h⟩ := bnd_some h
      refine Ops.on 3 (fun h0 e0 => (app_r (T := T) (g := .nil) h0 48 5 6 1 ti5 .nonfull (eK .u8) v88 [45] v94 ev94 (by kernel_rfl) (by kernel_rfl) (by kernel_rfl) (by kernel_rfl) (fun _ => rfl) (hq_of e0 (by kernel_rfl)))) ?_
      refine Ops.sg 1 4 ?_
      refine Ops.dn ?_
      refine sqQ.n ⟨(appD 7 (List.map (eK .u8) v94)) :: q3 ((.ptr 1 0) :: q1 ((.v (.sl .nil (List.map (eK .u8) []))) :: q40 (q40 (q40 (q40 (q13 [])))))), [.dead, (b22_0 a1), .dead, .dead, .dead, .dead, .dead, (appO 1 (List.map (eK .u8) v94)), .dead]⟩ (by generalize v94 = z0; cases z0 <;> kernel_rfl) ?_
      exact J22j90 v94  h
  · refine Wp.sk ?_
    refine sqQ.n ⟨(appD 6 (List.map (eK .u8) a0)) :: q3 ((.ptr 1 0) :: q1 ((.v (.sl .nil (List.map (eK .u8) []))) :: q40 (q40 (q7 ((dB v85) :: q40 (q40 (q5 []))))))), [.dead, (b22_0 a1), .dead, .dead, .dead, .dead, (appO 1 (List.map (eK .u8) a0)), .dead]⟩ (by generalize a0 = z0; cases z0 <;> kernel_rfl) ?_
    refine sqQ.n ⟨(appD 4 (List.map (eK .u8) a0)) :: q3 ((.ptr 1 0) :: q1 ((.v (.sl .nil (List.map (eK .u8) []))) :: q40 (q40 (q40 (q40 (q13 [])))))), [.dead, (b22_0 a1), .dead, .dead, (appO 1 (List.map (eK .u8) a0)), .dead]⟩ (by generalize a0 = z0; cases z0 <;> kernel_rfl) ?_
    refine sqQ.n ⟨(appD 4 (List.map (eK .u8) a0)) :: q3 ((.ptr 1 0) :: q1 ((.v (.sl .nil (List.map (eK .u8) []))) :: q40 (q40 (q40 (q40 (q13 [])))))), [.dead, (b22_0 a1), .dead, .dead, (appO 1 (List.map (eK .u8) a0)), .dead]⟩ (by generalize a0 = z0; cases z0 <;> kernel_rfl) ?_
    refine sqQ.n ⟨(appD 4 (List.map (eK .u8) a0)) :: q3 ((.ptr 1 0) :: q1 ((.v (.sl .nil (List.map (eK .u8) []))) :: q40 (q40 (q40 (q40 (q13 [])))))), [.dead, (b22_0 a1), .dead, .dead, (appO 1 (List.map (eK .u8) a0)), .dead]⟩ (by generalize a0 = z0; cases z0 <;> kernel_rfl) ?_
    refine sqQ.n ⟨(appD 4 (List.map (eK .u8) a0)) :: q3 ((.ptr 1 0) :: q1 ((.v (.sl .nil (List.map (eK .u8) []))) :: q40 (q40 (q40 (q40 (q13 [])))))), [.dead, (b22_0 a1), .dead, .dead, (appO 1 (List.map (eK .u8) a0)), .dead]⟩ (by generalize a0 = z0; cases z0 <;> kernel_rfl) ?_
    refine blkQ.n ⟨(appD 4 (List.map (eK .u8) a0)) :: q3 ((.ptr 1 0) :: q1 ((.v (.sl .nil (List.map (eK .u8) []))) :: q40 (q40 (q40 (q40 (q13 [])))))), [.dead, (b22_0 a1), .dead, .dead, (appO 1 (List.map (eK .u8) a0)), .dead]⟩ (by generalize a0 = z0; cases z0 <;> kernel_rfl) ?_
    refine seqQ.n ?_
    refine Wp.sq ?_
    refine Wp.rg ?_
    refine Ops.sg 3 3 ?_
    obtain ⟨v95, ev95, h⟩ := bnd_some h
    refine Ops.on 4 (fun h0 e0 => (ixb24 (ix_r (T := T) h0 23 25 5 .plain ep24 a1.fSubs 0 v95 ev95 (by kernel_rfl) (by kernel_rfl) ep24_len))) ?_
    refine Ops.sg 1 5 ?_
    obtain ⟨v96, ev96, h⟩ := bnd_some h
    refine Ops.on 6 (fun h0 e0 => (call_tok (E' := E) (h := h0) (q := 4) (l := List.map (eK .u8) a0) (by kernel_rfl) (by kernel_rfl) (by kernel_rfl) (hq_of e0 (by kernel_rfl)) (Args.v (.agg [(vI v95.vw.fKind), (vP eI v95.vw.fLabels), (vP ep24 v95.vw.fSubs), (vI v95.vw.fLeast), (vI v95.vw.fMost)]) (e24 v95.vw) (by kernel_rfl) (Args.v (vI 4) (eI 4) (by kernel_rfl) Args.nil)) (hK.ok22 a0 v95.vw 4 v96 ev96 n (by omega)))) ?_
    refine Ops.sg 1 7 ?_
    refine Ops.dn ?_
    refine seqQ.n ?_
    refine Wp.sq ?_
    refine Wp.block' 7 [0, 4, 6] 7 (by kernel_rfl) ?_
    refine Wp.sq ?_
    refine Wp.rg ?_
    refine Ops.seg 4 4 (by kernel_rfl) ⟨(appD 6 (List.map (eK .u8) v96)) :: q3 ((.ptr 1 0) :: q1 ((.v (.sl .nil (List.map (eK .u8) []))) :: q40 (q40 (q31 ((appD 4 (List.map (eK .u8) a0)) :: (.ptr 1 2) :: (dP ep24 a1.fSubs) :: (.vptr [(vI v95.vw.fKind), (vP eI v95.vw.fLabels), (vP ep24 v95.vw.fSubs), (vI v95.vw.fLeast), (vI v95.vw.fMost)]) :: (.v (.agg [(vI v95.vw.fKind), (vP eI v95.vw.fLabels), (vP ep24 v95.vw.fSubs), (vI v95.vw.fLeast), (vI v95.vw.fMost)])) :: (appD 6 (List.map (eK .u8) v96)) :: q1 ((.ptr 1 3) :: (dI a1.fLeast) :: (dB (a1.fLeast == 0)) :: (dB (a1.fLeast == 0)) :: q40 (q11 []))))))), [.dead, (b22_0 a1), .dead, .dead, .dead, .dead, (appO 1 (List.map (eK .u8) v96))]⟩ (by kernel_rfl) ?_
    refine Ops.hv (fun KQ => ∀ (d99 d100 d101 : D) (v102 : Bool) (v103 : Bool), f22_r9 m K a1 v96 v103 = some o → KQ 8 ⟨(appD 6 (List.map (eK .u8) v96)) :: q3 ((.ptr 1 0) :: q1 ((.v (.sl .nil (List.map (eK .u8) []))) :: q40 (q40 (q31 ((appD 4 (List.map (eK .u8) a0)) :: (.ptr 1 2) :: (dP ep24 a1.fSubs) :: (.vptr [(vI v95.vw.fKind), (vP eI v95.vw.fLabels), (vP ep24 v95.vw.fSubs), (vI v95.vw.fLeast), (vI v95.vw.fMost)]) :: (.v (.agg [(vI v95.vw.fKind), (vP eI v95.vw.fLabels), (vP ep24 v95.vw.fSubs), (vI v95.vw.fLeast), (vI v95.vw.fMost)])) :: (appD 6 (List.map (eK .u8) v96)) :: q1 ((.ptr 1 3) :: (dI a1.fLeast) :: (dB v102) :: (dB v102) :: d99 :: d100 :: d101 :: (dB v103) :: q40 (q7 []))))))), [.dead, (b22_0 a1), .dead, .dead, .dead, .dead, (appO 1 (List.map (eK .u8) v96))]⟩) ?_ fun J22j104 => ?_
    · intro d99 d100 d101 v102 v103 h
      unfold f22_r9 at h
      refine Ops.sg 1 9 ?_
      refine Ops.dn ?_
      refine seqQ.n ?_
      refine Wp.cnd h [0, 4, 6] 7 (by kernel_rfl) (fun h => ?_) (fun h => ?_)
      · refine Wp.sq ?_
        refine Wp.rg ?_
        refine Ops.sg 2 2 ?_
        obtain ⟨v105, ev105, h⟩ := bnd_some h
        refine Ops.on 3 (fun h0 e0 => (app_r (T := T) (g := .nil) h0 48 5 6 1 ti5 .nonfull (eK .u8) v96 [42] v105 ev105 (by kernel_rfl) (by kernel_rfl) (by kernel_rfl) (by kernel_rfl) (fun _ => rfl) (hq_of e0 (by kernel_rfl)))) ?_
        refine Ops.sg 1 4 ?_
        refine Ops.dn ?_
        refine seqQ.n ?_
        refine Wp.ret (by kernel_rfl) ?_
        refine sqQ.r ?_
        refine blkQ.r ?_
        refine seqQ.r ?_
        exact fnQT.r' (X22 n) (eK .u8) h (RetOkT.mk' 7 (by kernel_rfl) (by kernel_rfl))
      · refine Wp.sq ?_
        refine Wp.rg ?_
        refine Ops.sg 4 4 ?_
        refine Ops.hv (fun KQ => ∀ (d108 d109 d110 : D) (v111 : Bool) (v112 : Bool), f22_r8 m K a1 v96 v112 = some o → KQ 8 ⟨(appD 6 (List.map (eK .u8) v96)) :: q3 ((.ptr 1 0) :: q1 ((.v (.sl .nil (List.map (eK .u8) []))) :: q40 (q40 (q31 ((appD 4 (List.map (eK .u8) a0)) :: (.ptr 1 2) :: (dP ep24 a1.fSubs) :: (.vptr [(vI v95.vw.fKind), (vP eI v95.vw.fLabels), (vP ep24 v95.vw.fSubs), (vI v95.vw.fLeast), (vI v95.vw.fMost)]) :: (.v (.agg [(vI v95.vw.fKind), (vP eI v95.vw.fLabels), (vP ep24 v95.vw.fSubs), (vI v95.vw.fLeast), (vI v95.vw.fMost)])) :: (appD 6 (List.map (eK .u8) v96)) :: (dB v103) :: (.ptr 1 3) :: (dI a1.fLeast) :: (dB v102) :: (dB v102) :: d99 :: d100 :: d101 :: (dB v103) :: q4 ((.ptr 1 3) :: (dI a1.fLeast) :: (dB v111) :: (dB v111) :: d108 :: d109 :: d110 :: (dB v112) :: q35 [])))))), [.dead, (b22_0 a1), .dead, .dead, .dead, .dead, (appO 1 (List.map (eK .u8) v96))]⟩) ?_ fun J22j113 => ?_
        · intro d108 d109 d110 v111 v112 h
          unfold f22_r8 at h
          refine Ops.sg 1 9 ?_
          refine Ops.dn ?_
          refine seqQ.n ?_
          refine Wp.cnd h [0, 4, 6] 7 (by kernel_rfl) (fun h => ?_) (fun h => ?_)
          · refine Wp.sq ?_
            refine Wp.rg ?_
            refine Ops.sg 2 2 ?_
            obtain ⟨v114, ev114, h⟩ := bnd_some h
            refine Ops.on 3 (fun h0 e0 => (app_r (T := T) (g := .nil) h0 48 5 6 1 ti5 .nonfull (eK .u8) v96 [43] v114 ev114 (by kernel_rfl) (by kernel_rfl) (by kernel_rfl) (by kernel_rfl) (fun _ => rfl) (hq_of e0 (by kernel_rfl)))) ?_
            refine Ops.sg 1 4 ?_
            refine Ops.dn ?_
            refine seqQ.n ?_
            refine Wp.ret (by kernel_rfl) ?_
            refine sqQ.r ?_
            refine sqQ.r ?_
            refine blkQ.r ?_
            refine seqQ.r ?_
            exact fnQT.r' (X22 n) (eK .u8) h (RetOkT.mk' 7 (by kernel_rfl) (by kernel_rfl))
          · refine Wp.sq ?_
            refine Wp.rg ?_
            refine Ops.sg 4 4 ?_
            refine Ops.hv (fun KQ => ∀ (d117 d118 d119 : D) (v120 : Bool) (v121 : Bool), f22_r7 m K a1 v96 v121 = some o → KQ 8 ⟨(appD 6 (List.map (eK .u8) v96)) :: q3 ((.ptr 1 0) :: q1 ((.v (.sl .nil (List.map (eK .u8) []))) :: q40 (q40 (q31 ((appD 4 (List.map (eK .u8) a0)) :: (.ptr 1 2) :: (dP ep24 a1.fSubs) :: (.vptr [(vI v95.vw.fKind), (vP eI v95.vw.fLabels), (vP ep24 v95.vw.fSubs), (vI v95.vw.fLeast), (vI v95.vw.fMost)]) :: (.v (.agg [(vI v95.vw.fKind), (vP eI v95.vw.fLabels), (vP ep24 v95.vw.fSubs), (vI v95.vw.fLeast), (vI v95.vw.fMost)])) :: (appD 6 (List.map (eK .u8) v96)) :: (dB v103) :: (.ptr 1 3) :: (dI a1.fLeast) :: (dB v102) :: (dB v102) :: d99 :: d100 :: d101 :: (dB v103) :: q3 ((dB v112) :: (.ptr 1 3) :: (dI a1.fLeast) :: (dB v111) :: (dB v111) :: d108 :: d109 :: d110 :: (dB v112) :: q4 ((.ptr 1 3) :: (dI a1.fLeast) :: (dB v120) :: (dB v120) :: d117 :: d118 :: d119 :: (dB v121) :: q23 []))))))), [.dead, (b22_0 a1), .dead, .dead, .dead, .dead, (appO 1 (List.map (eK .u8) v96))]⟩) ?_ fun J22j122 => ?_
            · intro d117 d118 d119 v120 v121 h
              unfold f22_r7 at h
              refine Ops.sg 1 9 ?_
              refine Ops.dn ?_
              refine seqQ.n ?_
              refine Wp.cnd h [0, 4, 6] 7 (by kernel_rfl) (fun h => ?_) (fun h => ?_)
              · refine Wp.sq ?_
                refine Wp.rg ?_
                refine Ops.sg 2 2 ?_
                obtain ⟨v123, ev123, h⟩ := bnd_some h
                refine Ops.on 3 (fun h0 e0 => (app_r (T := T) (g := .nil) h0 48 5 6 1 ti5 .nonfull (eK .u8) v96 [63] v123 ev123 (by kernel_rfl) (by kernel_rfl) (by kernel_rfl) (by kernel_rfl) (fun _ => rfl) (hq_of e0 (by kernel_rfl)))) ?_
                refine Ops.sg 1 4 ?_
                refine Ops.dn ?_
                refine seqQ.n ?_
                refine Wp.ret (by kernel_rfl) ?_
                refine sqQ.r ?_
                refine sqQ.r ?_
                refine sqQ.r ?_
                refine blkQ.r ?_
                refine seqQ.r ?_
                exact fnQT.r' (X22 n) (eK .u8) h (RetOkT.mk' 7 (by kernel_rfl) (by kernel_rfl))
              · refine Wp.sk ?_
                refine sqQ.n ⟨(appD 7 (List.map (eK .u8) v96)) :: q3 ((.ptr 1 0) :: q1 ((.v (.sl .nil (List.map (eK .u8) []))) :: q40 (q40 (q40 (q40 (q13 [])))))), [.dead, (b22_0 a1), .dead, .dead, .dead, .dead, .dead, (appO 1 (List.map (eK .u8) v96)), .dead]⟩ (by generalize v96 = z0; cases z0 <;> kernel_rfl) ?_
                refine sqQ.n ⟨(appD 7 (List.map (eK .u8) v96)) :: q3 ((.ptr 1 0) :: q1 ((.v (.sl .nil (List.map (eK .u8) []))) :: q40 (q40 (q40 (q40 (q13 [])))))), [.dead, (b22_0 a1), .dead, .dead, .dead, .dead, .dead, (appO 1 (List.map (eK .u8) v96)), .dead]⟩ (by generalize v96 = z0; cases z0 <;> kernel_rfl) ?_
                refine sqQ.n ⟨(appD 7 (List.map (eK .u8) v96)) :: q3 ((.ptr 1 0) :: q1 ((.v (.sl .nil (List.map (eK .u8) []))) :: q40 (q40 (q40 (q40 (q13 [])))))), [.dead, (b22_0 a1), .dead, .dead, .dead, .dead, .dead, (appO 1 (List.map (eK .u8) v96)), .dead]⟩ (by generalize v96 = z0; cases z0 <;> kernel_rfl) ?_
                refine blkQ.n ⟨(appD 7 (List.map (eK .u8) v96)) :: q3 ((.ptr 1 0) :: q1 ((.v (.sl .nil (List.map (eK .u8) []))) :: q40 (q40 (q40 (q40 (q13 [])))))), [.dead, (b22_0 a1), .dead, .dead, .dead, .dead, .dead, (appO 1 (List.map (eK .u8) v96)), .dead]⟩ (by generalize v96 = z0; cases z0 <;> kernel_rfl) ?_
                refine seqQ.n ?_
                refine Wp.sq ?_
                refine Wp.rg ?_
                refine Ops.sg 2 2 ?_
                obtain ⟨v124, ev124, h⟩ := bnd_some h
                refine Ops.on 3 (fun h0 e0 => (app_r (T := T) (g := .nil) h0 48 5 7 1 ti5 .nonfull (eK .u8) v96 [123] v124 ev124 (by kernel_rfl) (by kernel_rfl) (by kernel_rfl) (by kernel_rfl) (fun _ => rfl) (hq_of e0 (by kernel_rfl)))) ?_
                refine Ops.sg 1 4 ?_
                refine Ops.dn ?_
                refine seqQ.n ?_
                refine Wp.sq ?_
                refine Wp.rg ?_
                refine Ops.sg 3 3 ?_
                obtain ⟨v125, ev125, h⟩ := bnd_some h
                refine Ops.on 4 (fun h0 e0 => (call_tok (E' := E) (h := h0) (q := 9) (l := List.map (eK .u8) v124) (by kernel_rfl) (by kernel_rfl) (by kernel_rfl) (hq_of e0 (by kernel_rfl)) (Args.v (vI a1.fLeast) (eI a1.fLeast) (by kernel_rfl) (Args.v (vI 10) (eI 10) (by kernel_rfl) Args.nil)) (ok40 m v124 a1.fLeast 10 v125 ev125 n (by omega)))) ?_
                refine Ops.seg 1 5 (by kernel_rfl) ⟨(appD 10 (List.map (eK .u8) v125)) :: q3 ((.ptr 1 0) :: q1 ((.v (.sl .nil (List.map (eK .u8) []))) :: q40 (q40 (q40 (q33 ((appD 7 (List.map (eK .u8) v96)) :: (.v (.sl .nonfull (List.map (eK .u8) [123]))) :: (appD 9 (List.map (eK .u8) v124)) :: (appD 9 (List.map (eK .u8) v124)) :: (.ptr 1 3) :: (dI a1.fLeast) :: (appD 10 (List.map (eK .u8) v125)) :: q13 [])))))), [.dead, (b22_0 a1), .dead, .dead, .dead, .dead, .dead, .dead, .dead, .dead, (appO 1 (List.map (eK .u8) v125))]⟩ (by kernel_rfl) ?_
                refine Ops.dn ?_
                refine seqQ.n ?_
                refine Wp.sq ?_
                refine Wp.rg ?_
                refine Ops.sg 2 2 ?_
                obtain ⟨v126, ev126, h⟩ := bnd_some h
                refine Ops.on 3 (fun h0 e0 => (app_r (T := T) (g := .nil) h0 48 5 10 1 ti5 .nonfull (eK .u8) v125 [44] v126 ev126 (by kernel_rfl) (by kernel_rfl) (by kernel_rfl) (by kernel_rfl) (fun _ => rfl) (hq_of e0 (by kernel_rfl)))) ?_
                refine Ops.sg 1 4 ?_
                refine Ops.dn ?_
                refine seqQ.n ?_
                refine Wp.sq ?_
                refine Wp.sq ?_
                refine Wp.rg ?_
                refine Ops.sg 3 3 ?_
                refine Ops.dn ?_
                refine seqQ.n ?_
                have J22j128 := f22_J22j128 m K nn hK a0 a1 a2 o n hn hk 
                refine Wp.cnd h [0, 6] 12 (by kernel_rfl) (fun h => ?_) (fun h => ?_)
                · refine Wp.rg ?_
                  refine Ops.seg 3 3 (by kernel_rfl) ⟨(appD 11 (List.map (eK .u8) v126)) :: q3 ((.ptr 1 0) :: q1 ((.v (.sl .nil (List.map (eK .u8) []))) :: q40 (q40 (q40 (q33 ((appD 7 (List.map (eK .u8) v96)) :: (.v (.sl .nonfull (List.map (eK .u8) [123]))) :: (appD 9 (List.map (eK .u8) v124)) :: (appD 9 (List.map (eK .u8) v124)) :: (.ptr 1 3) :: (dI a1.fLeast) :: (appD 10 (List.map (eK .u8) v125)) :: (appD 10 (List.map (eK .u8) v125)) :: (.v (.sl .nonfull (List.map (eK .u8) [44]))) :: (appD 11 (List.map (eK .u8) v126)) :: (.ptr 1 4) :: (dI a1.fMost) :: (dB (decide (a1.fMost ≥ 0))) :: (appD 11 (List.map (eK .u8) v126)) :: (.ptr 1 4) :: (dI a1.fMost) :: q4 [])))))), [.dead, (b22_0 a1), .dead, .dead, .dead, .dead, .dead, .dead, .dead, .dead, .dead, (appO 1 (List.map (eK .u8) v126))]⟩ (by kernel_rfl) ?_
                  obtain ⟨v130, ev130, h⟩ := bnd_some h
                  refine Ops.on 4 (fun h0 e0 => (call_tok (E' := E) (h := h0) (q := 11) (l := List.map (eK .u8) v126) (by kernel_rfl) (by kernel_rfl) (by kernel_rfl) (hq_of e0 (by kernel_rfl)) (Args.v (vI a1.fMost) (eI a1.fMost) (by kernel_rfl) (Args.v (vI 10) (eI 10) (by kernel_rfl) Args.nil)) (ok40 m v126 a1.fMost 10 v130 ev130 n (by omega)))) ?_
                  refine Ops.sg 1 5 ?_
                  refine Ops.dn ?_
                  refine sqQ.n ⟨(appD 12 (List.map (eK .u8) v130)) :: q5 ((.v (.sl .nil (List.map (eK .u8) []))) :: q40 (q40 (q40 (q40 (q13 []))))), [.dead, (b22_0 a1), .dead, .dead, .dead, .dead, .dead, .dead, .dead, .dead, .dead, .dead, (appO 1 (List.map (eK .u8) v130)), .dead]⟩ (by generalize v130 = z0; cases z0 <;> kernel_rfl) ?_
                  exact J22j128 v130  h
                · refine Wp.sk ?_
                  refine sqQ.n ⟨(appD 12 (List.map (eK .u8) v126)) :: q5 ((.v (.sl .nil (List.map (eK .u8) []))) :: q40 (q40 (q40 (q40 (q13 []))))), [.dead, (b22_0 a1), .dead, .dead, .dead, .dead, .dead, .dead, .dead, .dead, .dead, .dead, (appO 1 (List.map (eK .u8) v126)), .dead]⟩ (by generalize v126 = z0; cases z0 <;> kernel_rfl) ?_
                  exact J22j128 v126  h
            refine Ops.hv (fun KQ => ∀ v115 : Bool, f22_r7 m K a1 v96 (v115 && (a1.fMost == 1)) = some o → KQ 4 ⟨(appD 6 (List.map (eK .u8) v96)) :: q3 ((.ptr 1 0) :: q1 ((.v (.sl .nil (List.map (eK .u8) []))) :: q40 (q40 (q31 ((appD 4 (List.map (eK .u8) a0)) :: (.ptr 1 2) :: (dP ep24 a1.fSubs) :: (.vptr [(vI v95.vw.fKind), (vP eI v95.vw.fLabels), (vP ep24 v95.vw.fSubs), (vI v95.vw.fLeast), (vI v95.vw.fMost)]) :: (.v (.agg [(vI v95.vw.fKind), (vP eI v95.vw.fLabels), (vP ep24 v95.vw.fSubs), (vI v95.vw.fLeast), (vI v95.vw.fMost)])) :: (appD 6 (List.map (eK .u8) v96)) :: (dB v103) :: (.ptr 1 3) :: (dI a1.fLeast) :: (dB v102) :: (dB v102) :: d99 :: d100 :: d101 :: (dB v103) :: q3 ((dB v112) :: (.ptr 1 3) :: (dI a1.fLeast) :: (dB v111) :: (dB v111) :: d108 :: d109 :: d110 :: (dB v112) :: q4 ((.ptr 1 3) :: (dI a1.fLeast) :: (dB v115) :: (dB v115) :: q27 []))))))), [.dead, (b22_0 a1), .dead, .dead, .dead, .dead, (appO 1 (List.map (eK .u8) v96))]⟩) ?_ fun G22g116 => Ops.st _ (by kernel_rfl) (G22g116 (a1.fLeast == 0) h)
            intro v115 h
            cases v115
            · refine Ops.sg 4 8 ?_
              exact Ops.st _ (by kernel_rfl) (J22j122 U U U false false h)
            · refine Ops.sg 4 8 ?_
              exact Ops.st _ (by kernel_rfl) (J22j122 (.ptr 1 4) (dI a1.fMost) (dB (a1.fMost == 1)) true (a1.fMost == 1) h)
        refine Ops.hv (fun KQ => ∀ v106 : Bool, f22_r8 m K a1 v96 (v106 && (decide (a1.fMost < 0))) = some o → KQ 4 ⟨(appD 6 (List.map (eK .u8) v96)) :: q3 ((.ptr 1 0) :: q1 ((.v (.sl .nil (List.map (eK .u8) []))) :: q40 (q40 (q31 ((appD 4 (List.map (eK .u8) a0)) :: (.ptr 1 2) :: (dP ep24 a1.fSubs) :: (.vptr [(vI v95.vw.fKind), (vP eI v95.vw.fLabels), (vP ep24 v95.vw.fSubs), (vI v95.vw.fLeast), (vI v95.vw.fMost)]) :: (.v (.agg [(vI v95.vw.fKind), (vP eI v95.vw.fLabels), (vP ep24 v95.vw.fSubs), (vI v95.vw.fLeast), (vI v95.vw.fMost)])) :: (appD 6 (List.map (eK .u8) v96)) :: (dB v103) :: (.ptr 1 3) :: (dI a1.fLeast) :: (dB v102) :: (dB v102) :: d99 :: d100 :: d101 :: (dB v103) :: q4 ((.ptr 1 3) :: (dI a1.fLeast) :: (dB v106) :: (dB v106) :: q39 [])))))), [.dead, (b22_0 a1), .dead, .dead, .dead, .dead, (appO 1 (List.map (eK .u8) v96))]⟩) ?_ fun G22g107 => Ops.st _ (by kernel_rfl) (G22g107 (a1.fLeast == 1) h)
        intro v106 h
        cases v106
        · refine Ops.sg 4 8 ?_
          exact Ops.st _ (by kernel_rfl) (J22j113 U U U false false h)
        · refine Ops.sg 4 8 ?_
          exact Ops.st _ (by kernel_rfl) (J22j113 (.ptr 1 4) (dI a1.fMost) (dB (decide (a1.fMost < 0))) true (decide (a1.fMost < 0)) h)
    refine Ops.hv (fun KQ => ∀ v97 : Bool, f22_r9 m K a1 v96 (v97 && (decide (a1.fMost < 0))) = some o → KQ 4 ⟨(appD 6 (List.map (eK .u8) v96)) :: q3 ((.ptr 1 0) :: q1 ((.v (.sl .nil (List.map (eK .u8) []))) :: q40 (q40 (q31 ((appD 4 (List.map (eK .u8) a0)) :: (.ptr 1 2) :: (dP ep24 a1.fSubs) :: (.vptr [(vI v95.vw.fKind), (vP eI v95.vw.fLabels), (vP ep24 v95.vw.fSubs), (vI v95.vw.fLeast), (vI v95.vw.fMost)]) :: (.v (.agg [(vI v95.vw.fKind), (vP eI v95.vw.fLabels), (vP ep24 v95.vw.fSubs), (vI v95.vw.fLeast), (vI v95.vw.fMost)])) :: (appD 6 (List.map (eK .u8) v96)) :: q1 ((.ptr 1 3) :: (dI a1.fLeast) :: (dB v97) :: (dB v97) :: q40 (q11 []))))))), [.dead, (b22_0 a1), .dead, .dead, .dead, .dead, (appO 1 (List.map (eK .u8) v96))]⟩) ?_ fun G22g98 => Ops.st _ (by kernel_rfl) (G22g98 (a1.fLeast == 0) h)
    intro v97 h
    cases v97
    · refine Ops.sg 4 8 ?_
      exact Ops.st _ (by kernel_rfl) (J22j104 U U U false false h)
    · refine Ops.sg 4 8 ?_
      exact Ops.st _ (by kernel_rfl) (J22j104 (.ptr 1 4) (dI a1.fMost) (dB (decide (a1.fMost < 0))) true (decide (a1.fMost < 0)) h)
theorem f22_hLx82 (m : Nat) (K : Rec22) (nn : Nat) (hK : OkRec22 m K nn) (a0 : (List Int)) (a1 : S24) (a2 : Int) (o : (List Int)) (n : Nat) (hn : m + 5 ≤ n + 1) (hk : nn + 1 ≤ n + 1)  : ∀ (kx69 : Nat) (v66 : (List Int)) (v67 : Int)  (ox68 : (List Int) ⊕ ((List Int) × Int)), iter (fun (y : (List Int) × Int) => f22_B4 m K a1 y.1 y.2) kx69 (v66, v67) = some ox68 → ∀ nx70, kx69 ≤ nx70 → (∀ r, ox68 = .inl r → ∀ σ, RetOkT (X22 n) (resOf Proofs.Tryd.prog 22) 1 (List.map (eK .u8) r) σ → (seqQ (X22 n) p22_3 (sqQ (X22 n) [0, 4, 6] 4 (sqQ (X22 n) [0, 4, 6] 4 (sqQ (X22 n) [0, 4, 6] 4 (sqQ (X22 n) [0, 4, 6] 4 (blkQ (X22 n) 0 [0, 4, 6] 4 (seqQ (X22 n) p22_0 (fnQT (X22 n).E.T (resOf Proofs.Tryd.prog 22) 1 (List.map (eK .u8) o))))))))) .ret σ) → (∀ (y : (List Int) × Int) , ox68 = .inr y → (seqQ (X22 n) p22_3 (sqQ (X22 n) [0, 4, 6] 4 (sqQ (X22 n) [0, 4, 6] 4 (sqQ (X22 n) [0, 4, 6] 4 (sqQ (X22 n) [0, 4, 6] 4 (blkQ (X22 n) 0 [0, 4, 6] 4 (seqQ (X22 n) p22_0 (fnQT (X22 n).E.T (resOf Proofs.Tryd.prog 22) 1 (List.map (eK .u8) o))))))))) .normal ⟨(appD 4 (List.map (eK .u8) y.1)) :: q5 ((appD 5 (List.map (eK .u8) [])) :: q40 (q40 (q40 (q40 (q13 []))))), [.dead, (b22_0 a1), .dead, .dead, (appO 1 (List.map (eK .u8) y.1)), .dead]⟩) → Lp (X22 n) [0, 6, 77, 78, 79] 4 p22_4 nx70 ⟨(appD 4 (List.map (eK .u8) v66)) :: q5 ((appD 5 (List.map (eK .u8) [])) :: q40 (q30 ((dP ep24 a1.fSubs) :: (dI (a1.fSubs.length : Int)) :: (dI v67) :: q40 (q40 (q20 []))))), [.dead, (b22_0 a1), .dead, .dead, (appO 1 (List.map (eK .u8) v66)), .dead]⟩ (blkQ (X22 n) 5 [0, 6] 4 (seqQ (X22 n) p22_3 (sqQ (X22 n) [0, 4, 6] 4 (sqQ (X22 n) [0, 4, 6] 4 (sqQ (X22 n) [0, 4, 6] 4 (sqQ (X22 n) [0, 4, 6] 4 (blkQ (X22 n) 0 [0, 4, 6] 4 (seqQ (X22 n) p22_0 (fnQT (X22 n).E.T (resOf Proofs.Tryd.prog 22) 1 (List.map (eK .u8) o)))))))))) := by
  intro kx69
  induction kx69 with
  | zero => intro v66 v67  ox68 h; exact (iter_zero h).elim
  | succ kx69 ihx71 =>
    intro v66 v67  ox68 h nx70 hnx74 hrx72 hxx73
    obtain ⟨nx70, rfl⟩ : ∃ q, nx70 = q + 1 := ⟨nx70 - 1, by omega⟩
    obtain ⟨sx75, h, hsx76⟩ := iter_some h
    have h : f22_B4 m K a1 v66 v67 = some sx75 := h
    unfold f22_B4 at h
    refine Lp.succ ?_
    refine Wp.sq ?_
    refine Wp.rg ?_
    refine Ops.sg 1 1 ?_
    refine Ops.dn ?_
    refine seqQ.n ?_
    refine Wp.sq ?_
    refine Wp.cnd h [0, 6, 77, 78, 79] 6 (by kernel_rfl) (fun h => ?_) (fun h => ?_)
    · refine Wp.sk ?_
      refine sqQ.n ⟨(appD 6 (List.map (eK .u8) v66)) :: q5 ((appD 7 (List.map (eK .u8) [])) :: q40 (q30 ((dP ep24 a1.fSubs) :: (dI (a1.fSubs.length : Int)) :: (dI v67) :: q40 (q40 (q20 []))))), [.dead, (b22_0 a1), .dead, .dead, .dead, .dead, (appO 1 (List.map (eK .u8) v66)), .dead]⟩ (by generalize v66 = z0; cases z0 <;> kernel_rfl) ?_
      refine seqQ.n ?_
      refine Wp.sq ?_
      refine Wp.block' 6 [0, 6, 77, 78, 79] 8 (by kernel_rfl) ?_
      refine Wp.sq ?_
      refine Wp.rg ?_
      refine Ops.sg 1 1 ?_
      obtain ⟨v77, ev77, h⟩ := bnd_some h
      refine Ops.on 2 (fun h0 e0 => (ixb24 (ix_r (T := T) h0 23 25 5 .plain ep24 a1.fSubs v67 v77 ev77 (by kernel_rfl) (by kernel_rfl) ep24_len))) ?_
      refine Ops.sg 4 6 ?_
      refine Ops.dn ?_
      refine seqQ.n ?_
      refine Wp.sq ?_
      refine Wp.sq ?_
      refine Wp.rg ?_
      refine Ops.sg 2 2 ?_
      refine Ops.dn ?_
      refine seqQ.n ?_
      have J22j79 : ∀ (v78 : (List Int)) , f22_j3 m K v67 v77 v78 = some sx75 → (seqQ (X22 n) p22_6 (blkQ (X22 n) 6 [0, 6, 77, 78, 79] 8 (seqQ (X22 n) p22_5 (lpQ (X22 n) [0, 6, 77, 78, 79] 4 p22_4 nx70 (blkQ (X22 n) 5 [0, 6] 4 (seqQ (X22 n) p22_3 (sqQ (X22 n) [0, 4, 6] 4 (sqQ (X22 n) [0, 4, 6] 4 (sqQ (X22 n) [0, 4, 6] 4 (sqQ (X22 n) [0, 4, 6] 4 (blkQ (X22 n) 0 [0, 4, 6] 4 (seqQ (X22 n) p22_0 (fnQT (X22 n).E.T (resOf Proofs.Tryd.prog 22) 1 (List.map (eK .u8) o)))))))))))))) .normal ⟨(appD 9 (List.map (eK .u8) v78)) :: q5 ((appD 10 (List.map (eK .u8) [])) :: q5 ((.ptr 8 0) :: q40 (q24 ((dP ep24 a1.fSubs) :: (dI (a1.fSubs.length : Int)) :: (dI v67) :: q40 (q40 (q20 [])))))), [.dead, (b22_0 a1), .dead, .dead, .dead, .dead, .dead, .dead, (b22_1 v77), (appO 1 (List.map (eK .u8) v78)), .dead]⟩ := by
        intro v78  h
        unfold f22_j3 at h
        refine seqQ.n ?_
        refine Wp.rg ?_
        refine Ops.sg 2 2 ?_
        obtain ⟨v80, ev80, h⟩ := bnd_some h
        refine Ops.on 3 (fun h0 e0 => (call_tok (E' := E) (h := h0) (q := 9) (l := List.map (eK .u8) v78) (by kernel_rfl) (by kernel_rfl) (by kernel_rfl) (hq_of e0 (by kernel_rfl)) (Args.v (.agg [(vI v77.vw.fKind), (vP eI v77.vw.fLabels), (vP ep24 v77.vw.fSubs), (vI v77.vw.fLeast), (vI v77.vw.fMost)]) (e24 v77.vw) (by kernel_rfl) (Args.v (vI 2) (eI 2) (by kernel_rfl) Args.nil)) (hK.ok22 v78 v77.vw 2 v80 ev80 n (by omega)))) ?_
        refine Ops.sg 1 4 ?_
        refine Ops.dn ?_
        refine blkQ.n ⟨(appD 8 (List.map (eK .u8) v80)) :: q5 ((appD 9 (List.map (eK .u8) [])) :: q40 (q30 ((dP ep24 a1.fSubs) :: (dI (a1.fSubs.length : Int)) :: (dI v67) :: q40 (q40 (q20 []))))), [.dead, (b22_0 a1), .dead, .dead, .dead, .dead, .dead, .dead, (appO 1 (List.map (eK .u8) v80)), .dead]⟩ (by generalize v80 = z0; cases z0 <;> kernel_rfl) ?_
        refine seqQ.n ?_
        refine Wp.rg ?_
        refine Ops.sg 2 2 ?_
        refine Ops.dn ?_
        refine lpQ.n ⟨(appD 4 (List.map (eK .u8) v80)) :: q5 ((appD 5 (List.map (eK .u8) [])) :: q40 (q30 ((dP ep24 a1.fSubs) :: (dI (a1.fSubs.length : Int)) :: (dI (w64 (v67 + 1))) :: q40 (q40 (q20 []))))), [.dead, (b22_0 a1), .dead, .dead, (appO 1 (List.map (eK .u8) v80)), .dead]⟩ (by generalize v80 = z0; cases z0 <;> kernel_rfl) ?_
        cases h
        exact ihx71 v80 (w64 (v67 + 1))  _ hsx76 _ (by omega) hrx72 hxx73
      refine Wp.cnd h [0, 6, 12, 77, 78, 79] 9 (by kernel_rfl) (fun h => ?_) (fun h => ?_)
      · refine Wp.rg ?_
        refine Ops.seg 2 2 (by kernel_rfl) ⟨(appD 6 (List.map (eK .u8) v66)) :: q5 ((appD 7 (List.map (eK .u8) [])) :: q4 ((dI v67) :: (.ptr 8 0) :: q40 (q24 ((dP ep24 a1.fSubs) :: (dI (a1.fSubs.length : Int)) :: (dI v67) :: q1 ((dI v67) :: (.vptr [(vI v77.vw.fKind), (vP eI v77.vw.fLabels), (vP ep24 v77.vw.fSubs), (vI v77.vw.fLeast), (vI v77.vw.fMost)]) :: (.v (.agg [(vI v77.vw.fKind), (vP eI v77.vw.fLabels), (vP ep24 v77.vw.fSubs), (vI v77.vw.fLeast), (vI v77.vw.fMost)])) :: (dI v67) :: (dB (decide (v67 > 0))) :: (appD 6 (List.map (eK .u8) v66)) :: (.v (.sl .nonfull (List.map (eK .u8) [124]))) :: q40 (q40 (q12 []))))))), [.dead, (b22_0 a1), .dead, .dead, .dead, .dead, (appO 1 (List.map (eK .u8) v66)), .dead, (b22_1 v77)]⟩ (by kernel_rfl) ?_
        obtain ⟨v81, ev81, h⟩ := bnd_some h
        refine Ops.on 3 (fun h0 e0 => (app_r (T := T) (g := .nil) h0 48 5 6 1 ti5 .nonfull (eK .u8) v66 [124] v81 ev81 (by kernel_rfl) (by kernel_rfl) (by kernel_rfl) (by kernel_rfl) (fun _ => rfl) (hq_of e0 (by kernel_rfl)))) ?_
        refine Ops.sg 1 4 ?_
        refine Ops.dn ?_
        refine sqQ.n ⟨(appD 9 (List.map (eK .u8) v81)) :: q5 ((appD 10 (List.map (eK .u8) [])) :: q5 ((.ptr 8 0) :: q40 (q24 ((dP ep24 a1.fSubs) :: (dI (a1.fSubs.length : Int)) :: (dI v67) :: q40 (q40 (q20 [])))))), [.dead, (b22_0 a1), .dead, .dead, .dead, .dead, .dead, .dead, (b22_1 v77), (appO 1 (List.map (eK .u8) v81)), .dead]⟩ (by generalize v81 = z0; cases z0 <;> kernel_rfl) ?_
        exact J22j79 v81  h
      · refine Wp.sk ?_
        refine sqQ.n ⟨(appD 9 (List.map (eK .u8) v66)) :: q5 ((appD 10 (List.map (eK .u8) [])) :: q5 ((.ptr 8 0) :: q40 (q24 ((dP ep24 a1.fSubs) :: (dI (a1.fSubs.length : Int)) :: (dI v67) :: q40 (q40 (q20 [])))))), [.dead, (b22_0 a1), .dead, .dead, .dead, .dead, .dead, .dead, (b22_1 v77), (appO 1 (List.map (eK .u8) v66)), .dead]⟩ (by generalize v66 = z0; cases z0 <;> kernel_rfl) ?_
        exact J22j79 v66  h
    · refine Wp.exit (id := 5) (by kernel_rfl) ?_
      refine sqQ.x ?_
      refine seqQ.x ?_
      cases h
      refine lpQ.x ?_
      refine blkQ.x ⟨(appD 4 (List.map (eK .u8) v66)) :: q5 ((appD 5 (List.map (eK .u8) [])) :: q40 (q40 (q40 (q40 (q13 []))))), [.dead, (b22_0 a1), .dead, .dead, (appO 1 (List.map (eK .u8) v66)), .dead]⟩ (by generalize v66 = z0; cases z0 <;> kernel_rfl) ?_
      exact hxx73 (v66, v67)  hsx76
theorem f22_hLx51 (m : Nat) (K : Rec22) (nn : Nat) (hK : OkRec22 m K nn) (a0 : (List Int)) (a1 : S24) (a2 : Int) (o : (List Int)) (n : Nat) (hn : m + 5 ≤ n + 1) (hk : nn + 1 ≤ n + 1)  : ∀ (kx41 : Nat) (v38 : (List Int)) (v39 : Int)  (ox40 : (List Int) ⊕ ((List Int) × Int)), iter (fun (y : (List Int) × Int) => f22_B2 m K a1 y.1 y.2) kx41 (v38, v39) = some ox40 → ∀ nx42, kx41 ≤ nx42 → (∀ r, ox40 = .inl r → ∀ σ, RetOkT (X22 n) (resOf Proofs.Tryd.prog 22) 1 (List.map (eK .u8) r) σ → (seqQ (X22 n) p22_1 (sqQ (X22 n) [0, 4, 6] 4 (sqQ (X22 n) [0, 4, 6] 4 (sqQ (X22 n) [0, 4, 6] 4 (blkQ (X22 n) 0 [0, 4, 6] 4 (seqQ (X22 n) p22_0 (fnQT (X22 n).E.T (resOf Proofs.Tryd.prog 22) 1 (List.map (eK .u8) o)))))))) .ret σ) → (∀ (y : (List Int) × Int) , ox40 = .inr y → (seqQ (X22 n) p22_1 (sqQ (X22 n) [0, 4, 6] 4 (sqQ (X22 n) [0, 4, 6] 4 (sqQ (X22 n) [0, 4, 6] 4 (blkQ (X22 n) 0 [0, 4, 6] 4 (seqQ (X22 n) p22_0 (fnQT (X22 n).E.T (resOf Proofs.Tryd.prog 22) 1 (List.map (eK .u8) o)))))))) .normal ⟨(appD 4 (List.map (eK .u8) y.1)) :: q5 ((appD 5 (List.map (eK .u8) [])) :: q40 (q40 (q40 (q40 (q13 []))))), [.dead, (b22_0 a1), .dead, .dead, (appO 1 (List.map (eK .u8) y.1)), .dead]⟩) → Lp (X22 n) [0, 6, 63, 64, 65] 4 (cL (cL (cR (cL (cL (cR (cR (cR (cR (cR (cL (cR (cL (cR (cR C22))))))))))))))) nx42 ⟨(appD 4 (List.map (eK .u8) v38)) :: q5 ((appD 5 (List.map (eK .u8) [])) :: q40 (q16 ((dP ep24 a1.fSubs) :: (dI (a1.fSubs.length : Int)) :: (dI v39) :: q40 (q40 (q34 []))))), [.dead, (b22_0 a1), .dead, .dead, (appO 1 (List.map (eK .u8) v38)), .dead]⟩ (blkQ (X22 n) 3 [0, 6] 4 (seqQ (X22 n) p22_1 (sqQ (X22 n) [0, 4, 6] 4 (sqQ (X22 n) [0, 4, 6] 4 (sqQ (X22 n) [0, 4, 6] 4 (blkQ (X22 n) 0 [0, 4, 6] 4 (seqQ (X22 n) p22_0 (fnQT (X22 n).E.T (resOf Proofs.Tryd.prog 22) 1 (List.map (eK .u8) o))))))))) := by
  intro kx41
  induction kx41 with
  | zero => intro v38 v39  ox40 h; exact (iter_zero h).elim
  | succ kx41 ihx43 =>
    intro v38 v39  ox40 h nx42 hnx46 hrx44 hxx45
    obtain ⟨nx42, rfl⟩ : ∃ q, nx42 = q + 1 := ⟨nx42 - 1, by omega⟩
    obtain ⟨sx47, h, hsx48⟩ := iter_some h
    have h : f22_B2 m K a1 v38 v39 = some sx47 := h
    unfold f22_B2 at h
    refine Lp.succ ?_
    refine Wp.sq ?_
    refine Wp.rg ?_
    refine Ops.sg 1 1 ?_
    refine Ops.dn ?_
    refine seqQ.n ?_
    refine Wp.sq ?_
    refine Wp.cnd h [0, 6, 63, 64, 65] 6 (by kernel_rfl) (fun h => ?_) (fun h => ?_)
    · refine Wp.sk ?_
      refine sqQ.n ⟨(appD 6 (List.map (eK .u8) v38)) :: q5 ((appD 7 (List.map (eK .u8) [])) :: q40 (q16 ((dP ep24 a1.fSubs) :: (dI (a1.fSubs.length : Int)) :: (dI v39) :: q40 (q40 (q34 []))))), [.dead, (b22_0 a1), .dead, .dead, .dead, .dead, (appO 1 (List.map (eK .u8) v38)), .dead]⟩ (by generalize v38 = z0; cases z0 <;> kernel_rfl) ?_
      refine seqQ.n ?_
      refine Wp.sq ?_
      refine Wp.block' 4 [0, 6, 63, 64, 65] 8 (by kernel_rfl) ?_
      refine Wp.sq ?_
      refine Wp.rg ?_
      obtain ⟨v49, ev49, h⟩ := bnd_some h
      refine Ops.on 1 (fun h0 e0 => (ixb24 (ix_r (T := T) h0 23 25 5 .plain ep24 a1.fSubs v39 v49 ev49 (by kernel_rfl) (by kernel_rfl) ep24_len))) ?_
      refine Ops.sg 3 4 ?_
      refine Ops.dn ?_
      refine seqQ.n ?_
      refine Wp.rg ?_
      refine Ops.sg 2 2 ?_
      obtain ⟨v50, ev50, h⟩ := bnd_some h
      refine Ops.on 3 (fun h0 e0 => (call_tok (E' := E) (h := h0) (q := 6) (l := List.map (eK .u8) v38) (by kernel_rfl) (by kernel_rfl) (by kernel_rfl) (hq_of e0 (by kernel_rfl)) (Args.v (.agg [(vI v49.vw.fKind), (vP eI v49.vw.fLabels), (vP ep24 v49.vw.fSubs), (vI v49.vw.fLeast), (vI v49.vw.fMost)]) (e24 v49.vw) (by kernel_rfl) (Args.v (vI 4) (eI 4) (by kernel_rfl) Args.nil)) (hK.ok22 v38 v49.vw 4 v50 ev50 n (by omega)))) ?_
      refine Ops.sg 1 4 ?_
      refine Ops.dn ?_
      refine blkQ.n ⟨(appD 8 (List.map (eK .u8) v50)) :: q5 ((appD 9 (List.map (eK .u8) [])) :: q40 (q16 ((dP ep24 a1.fSubs) :: (dI (a1.fSubs.length : Int)) :: (dI v39) :: q40 (q40 (q34 []))))), [.dead, (b22_0 a1), .dead, .dead, .dead, .dead, .dead, .dead, (appO 1 (List.map (eK .u8) v50)), .dead]⟩ (by generalize v50 = z0; cases z0 <;> kernel_rfl) ?_
      refine seqQ.n ?_
      refine Wp.rg ?_
      refine Ops.sg 2 2 ?_
      refine Ops.dn ?_
      refine lpQ.n ⟨(appD 4 (List.map (eK .u8) v50)) :: q5 ((appD 5 (List.map (eK .u8) [])) :: q40 (q16 ((dP ep24 a1.fSubs) :: (dI (a1.fSubs.length : Int)) :: (dI (w64 (v39 + 1))) :: q40 (q40 (q34 []))))), [.dead, (b22_0 a1), .dead, .dead, (appO 1 (List.map (eK .u8) v50)), .dead]⟩ (by generalize v50 = z0; cases z0 <;> kernel_rfl) ?_
      cases h
      exact ihx43 v50 (w64 (v39 + 1))  _ hsx48 _ (by omega) hrx44 hxx45
    · refine Wp.exit (id := 3) (by kernel_rfl) ?_
      refine sqQ.x ?_
      refine seqQ.x ?_
      cases h
      refine lpQ.x ?_
      refine blkQ.x ⟨(appD 4 (List.map (eK .u8) v38)) :: q5 ((appD 5 (List.map (eK .u8) [])) :: q40 (q40 (q40 (q40 (q13 []))))), [.dead, (b22_0 a1), .dead, .dead, (appO 1 (List.map (eK .u8) v38)), .dead]⟩ (by generalize v38 = z0; cases z0 <;> kernel_rfl) ?_
      exact hxx45 (v38, v39)  hsx48
theorem f22_hLx28 (m : Nat) (K : Rec22) (nn : Nat) (hK : OkRec22 m K nn) (a0 : (List Int)) (a1 : S24) (a2 : Int) (o : (List Int)) (n : Nat) (hn : m + 5 ≤ n + 1) (hk : nn + 1 ≤ n + 1)  : ∀ (kx18 : Nat) (v15 : (List Int)) (v16 : Int)  (ox17 : (List Int) ⊕ ((List Int) × Int)), iter (fun (y : (List Int) × Int) => f22_B1 m K a1 y.1 y.2) kx18 (v15, v16) = some ox17 → ∀ nx19, kx18 ≤ nx19 → (∀ r, ox17 = .inl r → ∀ σ, RetOkT (X22 n) (resOf Proofs.Tryd.prog 22) 1 (List.map (eK .u8) r) σ → (seqQ (X22 n) p22_2 (sqQ (X22 n) [0, 4, 6] 4 (sqQ (X22 n) [0, 4, 6] 4 (blkQ (X22 n) 0 [0, 4, 6] 4 (seqQ (X22 n) p22_0 (fnQT (X22 n).E.T (resOf Proofs.Tryd.prog 22) 1 (List.map (eK .u8) o))))))) .ret σ) → (∀ (y : (List Int) × Int) , ox17 = .inr y → (seqQ (X22 n) p22_2 (sqQ (X22 n) [0, 4, 6] 4 (sqQ (X22 n) [0, 4, 6] 4 (blkQ (X22 n) 0 [0, 4, 6] 4 (seqQ (X22 n) p22_0 (fnQT (X22 n).E.T (resOf Proofs.Tryd.prog 22) 1 (List.map (eK .u8) o))))))) .normal ⟨(appD 7 (List.map (eK .u8) y.1)) :: q5 ((appD 8 (List.map (eK .u8) [])) :: q40 (q40 (q40 (q40 (q13 []))))), [.dead, (b22_0 a1), .dead, .dead, .dead, .dead, .dead, (appO 1 (List.map (eK .u8) y.1)), .dead]⟩) → Lp (X22 n) [0, 6, 47, 48, 49] 7 (cL (cL (cR (cL (cR (cR (cL (cR (cR (cR (cL (cR (cL (cR (cR C22))))))))))))))) nx19 ⟨(appD 7 (List.map (eK .u8) v15)) :: q5 ((appD 8 (List.map (eK .u8) [])) :: q40 ((dP eI a1.fLabels) :: (dI (a1.fLabels.length : Int)) :: (dI v16) :: q40 (q40 (q40 (q10 []))))), [.dead, (b22_0 a1), .dead, .dead, .dead, .dead, .dead, (appO 1 (List.map (eK .u8) v15)), .dead]⟩ (blkQ (X22 n) 1 [0, 6] 7 (seqQ (X22 n) p22_2 (sqQ (X22 n) [0, 4, 6] 4 (sqQ (X22 n) [0, 4, 6] 4 (blkQ (X22 n) 0 [0, 4, 6] 4 (seqQ (X22 n) p22_0 (fnQT (X22 n).E.T (resOf Proofs.Tryd.prog 22) 1 (List.map (eK .u8) o)))))))) := by
  intro kx18
  induction kx18 with
  | zero => intro v15 v16  ox17 h; exact (iter_zero h).elim
  | succ kx18 ihx20 =>
    intro v15 v16  ox17 h nx19 hnx23 hrx21 hxx22
    obtain ⟨nx19, rfl⟩ : ∃ q, nx19 = q + 1 := ⟨nx19 - 1, by omega⟩
    obtain ⟨sx24, h, hsx25⟩ := iter_some h
    have h : f22_B1 m K a1 v15 v16 = some sx24 := h
    unfold f22_B1 at h
    refine Lp.succ ?_
    refine Wp.sq ?_
    refine Wp.rg ?_
    refine Ops.sg 1 1 ?_
    refine Ops.dn ?_
    refine seqQ.n ?_
    refine Wp.sq ?_
    refine Wp.cnd h [0, 6, 47, 48, 49] 9 (by kernel_rfl) (fun h => ?_) (fun h => ?_)
    · refine Wp.sk ?_
      refine sqQ.n ⟨(appD 9 (List.map (eK .u8) v15)) :: q5 ((appD 10 (List.map (eK .u8) [])) :: q40 ((dP eI a1.fLabels) :: (dI (a1.fLabels.length : Int)) :: (dI v16) :: q40 (q40 (q40 (q10 []))))), [.dead, (b22_0 a1), .dead, .dead, .dead, .dead, .dead, .dead, .dead, (appO 1 (List.map (eK .u8) v15)), .dead]⟩ (by generalize v15 = z0; cases z0 <;> kernel_rfl) ?_
      refine seqQ.n ?_
      refine Wp.sq ?_
      refine Wp.block' 2 [0, 6, 47, 48, 49] 11 (by kernel_rfl) ?_
      refine Wp.sq ?_
      refine Wp.rg ?_
      obtain ⟨v26, ev26, h⟩ := bnd_some h
      refine Ops.on 1 (fun h0 e0 => (ix_r (T := T) h0 22 3 1 .plain eI a1.fLabels v16 v26 ev26 (by kernel_rfl) (by kernel_rfl) (fun _ => rfl))) ?_
      refine Ops.sg 2 3 ?_
      refine Ops.dn ?_
      refine seqQ.n ?_
      refine Wp.rg ?_
      refine Ops.sg 2 2 ?_
      obtain ⟨v27, ev27, h⟩ := bnd_some h
      refine Ops.on 3 (fun h0 e0 => (call_tok (E' := E) (h := h0) (q := 9) (l := List.map (eK .u8) v15) (by kernel_rfl) (by kernel_rfl) (by kernel_rfl) (hq_of e0 (by kernel_rfl)) (Args.v (vI v26) (eI v26) (by kernel_rfl) Args.nil) (ok39 m v15 v26 v27 ev27 n (by omega)))) ?_
      refine Ops.sg 1 4 ?_
      refine Ops.dn ?_
      refine blkQ.n ⟨(appD 11 (List.map (eK .u8) v27)) :: q5 ((appD 12 (List.map (eK .u8) [])) :: q40 ((dP eI a1.fLabels) :: (dI (a1.fLabels.length : Int)) :: (dI v16) :: q40 (q40 (q40 (q10 []))))), [.dead, (b22_0 a1), .dead, .dead, .dead, .dead, .dead, .dead, .dead, .dead, .dead, (appO 1 (List.map (eK .u8) v27)), .dead]⟩ (by generalize v27 = z0; cases z0 <;> kernel_rfl) ?_
      refine seqQ.n ?_
      refine Wp.rg ?_
      refine Ops.sg 2 2 ?_
      refine Ops.dn ?_
      refine lpQ.n ⟨(appD 7 (List.map (eK .u8) v27)) :: q5 ((appD 8 (List.map (eK .u8) [])) :: q40 ((dP eI a1.fLabels) :: (dI (a1.fLabels.length : Int)) :: (dI (w64 (v16 + 1))) :: q40 (q40 (q40 (q10 []))))), [.dead, (b22_0 a1), .dead, .dead, .dead, .dead, .dead, (appO 1 (List.map (eK .u8) v27)), .dead]⟩ (by generalize v27 = z0; cases z0 <;> kernel_rfl) ?_
      cases h
      exact ihx20 v27 (w64 (v16 + 1))  _ hsx25 _ (by omega) hrx21 hxx22
    · refine Wp.exit (id := 1) (by kernel_rfl) ?_
      refine sqQ.x ?_
      refine seqQ.x ?_
      cases h
      refine lpQ.x ?_
      refine blkQ.x ⟨(appD 7 (List.map (eK .u8) v15)) :: q5 ((appD 8 (List.map (eK .u8) [])) :: q40 (q40 (q40 (q40 (q13 []))))), [.dead, (b22_0 a1), .dead, .dead, .dead, .dead, .dead, (appO 1 (List.map (eK .u8) v15)), .dead]⟩ (by generalize v15 = z0; cases z0 <;> kernel_rfl) ?_
      exact hxx22 (v15, v16)  hsx25
theorem okb22 (m : Nat) (K : Rec22) (nn : Nat) (hK : OkRec22 m K nn) (a0 : (List Int)) (a1 : S24) (a2 : Int) (o : (List Int)) (h : b22 m K a0 a1 a2 = some o) (n : Nat) (hn : m + 5 ≤ n) (hk : nn + 1 ≤ n) : FnT Proofs.Tryd.prog E n 22 1 (List.map (eK .u8) a0) [.v (e24 a1), .v (eI a2)] (List.map (eK .u8) o) := by
  obtain ⟨n, rfl⟩ : ∃ q, n = q + 1 := ⟨n - 1, by omega⟩
  unfold b22 at h
  refine FnT.of (by kernel_rfl) (by kernel_rfl) (by kernel_rfl) ⟨(appD 0 (List.map (eK .u8) a0)) :: (.v (.agg [(vI a1.fKind), (vP eI a1.fLabels), (vP ep24 a1.fSubs), (vI a1.fLeast), (vI a1.fMost)])) :: (dI a2) :: u40 (u40 (u40 (u40 (u17 [])))), [(appO 1 (List.map (eK .u8) a0))]⟩ (by kernel_rfl) ?_
  refine Wp.sq ?_
  refine Wp.rg ?_
  refine Ops.sg 2 2 ?_
  refine Ops.dn ?_
  refine seqQ.n ?_
  refine Wp.sq ?_
  refine Wp.sq ?_
  refine Wp.rg ?_
  refine Ops.sg 2 2 ?_
  obtain ⟨v1, ev1, h⟩ := bnd_some h
  refine Ops.on 3 (fun h0 e0 => (call_ok (E' := E) (h := h0) (by kernel_rfl) (Args.v (vI a1.fKind) (eI a1.fKind) (by kernel_rfl) Args.nil) (ok38 m a1.fKind v1 ev1 n (by omega)))) ?_
  refine Ops.sg 2 5 ?_
  refine Ops.dn ?_
  refine seqQ.n ?_
  refine Wp.cnd h [0, 4, 6] 2 (by kernel_rfl) (fun h => ?_) (fun h => ?_)
  · refine Wp.sq ?_
    refine Wp.rg ?_
    refine Ops.sg 2 2 ?_
    obtain ⟨v2, ev2, h⟩ := bnd_some h
    refine Ops.on 3 (fun h0 e0 => (app_r (T := T) (g := .nil) h0 48 5 0 1 ti5 .nonfull (eK .u8) a0 [40] v2 ev2 (by kernel_rfl) (by kernel_rfl) (by kernel_rfl) (by kernel_rfl) (fun _ => rfl) (hq_of e0 (by kernel_rfl)))) ?_
    refine Ops.seg 1 4 (by kernel_rfl) ⟨(appD 0 (List.map (eK .u8) a0)) :: (.v (.agg [(vI a1.fKind), (vP eI a1.fLabels), (vP ep24 a1.fSubs), (vI a1.fLeast), (vI a1.fMost)])) :: (dI a2) :: u1 ((.ptr 1 0) :: u1 ((.v (.sl .nil (List.map (eK .u8) []))) :: u6 ((.ptr 1 0) :: (dI a1.fKind) :: (dI v1) :: (dI a2) :: (dB (decide (v1 < a2))) :: (appD 0 (List.map (eK .u8) a0)) :: (.v (.sl .nonfull (List.map (eK .u8) [40]))) :: (appD 2 (List.map (eK .u8) v2)) :: (.v (.agg [(vI a1.fKind), (vP eI a1.fLabels), (vP ep24 a1.fSubs), (vI a1.fLeast), (vI a1.fMost)])) :: u40 (u40 (u40 (u38 [])))))), [.dead, (b22_0 a1), (appO 1 (List.map (eK .u8) v2))]⟩ (by kernel_rfl) ?_
    obtain ⟨v3, ev3, h⟩ := bnd_some h
    refine Ops.on 5 (fun h0 e0 => (call_tok (E' := E) (h := h0) (q := 2) (l := List.map (eK .u8) v2) (by kernel_rfl) (by kernel_rfl) (by kernel_rfl) (hq_of e0 (by kernel_rfl)) (Args.v (.agg [(vI a1.fKind), (vP eI a1.fLabels), (vP ep24 a1.fSubs), (vI a1.fLeast), (vI a1.fMost)]) (e24 a1) (by kernel_rfl) (Args.v (vI 1) (eI 1) (by kernel_rfl) Args.nil)) (hK.ok22 v2 a1 1 v3 ev3 n (by omega)))) ?_
    refine Ops.sg 1 6 ?_
    obtain ⟨v4, ev4, h⟩ := bnd_some h
    refine Ops.on 7 (fun h0 e0 => (app_r (T := T) (g := .nil) h0 48 5 3 1 ti5 .nonfull (eK .u8) v3 [41] v4 ev4 (by kernel_rfl) (by kernel_rfl) (by kernel_rfl) (by kernel_rfl) (fun _ => rfl) (hq_of e0 (by kernel_rfl)))) ?_
    refine Ops.sg 1 8 ?_
    refine Ops.dn ?_
    refine seqQ.n ?_
    refine Wp.ret (by kernel_rfl) ?_
    refine sqQ.r ?_
    refine seqQ.r ?_
    exact fnQT.r' (X22 n) (eK .u8) h (RetOkT.mk' 4 (by kernel_rfl) (by kernel_rfl))
  · refine Wp.sk ?_
    refine sqQ.n ⟨(appD 2 (List.map (eK .u8) a0)) :: q3 ((.ptr 1 0) :: q1 ((.v (.sl .nil (List.map (eK .u8) []))) :: q40 (q40 (q40 (q40 (q13 [])))))), [.dead, (b22_0 a1), (appO 1 (List.map (eK .u8) a0)), .dead]⟩ (by generalize a0 = z0; cases z0 <;> kernel_rfl) ?_
    refine seqQ.n ?_
    refine Wp.sq ?_
    refine Wp.sq ?_
    refine Wp.rg ?_
    refine Ops.sg 2 2 ?_
    refine Ops.dn ?_
    refine seqQ.n ?_
    refine Wp.block' 0 [0, 4, 6] 4 (by kernel_rfl) ?_
    refine Wp.sq ?_
    refine Wp.rg ?_
    refine Ops.sg 2 2 ?_
    refine Ops.dn ?_
    refine seqQ.n ?_
    refine Wp.cnd h [0, 4, 6] 4 (by kernel_rfl) (fun h => ?_) (fun h => ?_)
    · refine Wp.sq ?_
      refine Wp.rg ?_
      refine Ops.sg 1 1 ?_
      obtain ⟨v5, ev5, h⟩ := bnd_some h
      refine Ops.on 2 (fun h0 e0 => (app_str (T := T) (t' := 9) (b := ((⟨#[40, 41]⟩ : ByteArray))) (by kernel_rfl) (app_r (T := T) (g := .nil) h0 48 5 2 1 ti5 .plain (eK .u8) a0 ((bytesI ((⟨#[40, 41]⟩ : ByteArray)))) v5 ev5 (by kernel_rfl) (by kernel_rfl) (by kernel_rfl) (by kernel_rfl) (fun _ => rfl) (hq_of e0 (by kernel_rfl))))) ?_
      refine Ops.sg 1 3 ?_
      refine Ops.dn ?_
      refine seqQ.n ?_
      refine Wp.ret (by kernel_rfl) ?_
      refine sqQ.r ?_
      refine blkQ.r ?_
      refine seqQ.r ?_
      exact fnQT.r' (X22 n) (eK .u8) h (RetOkT.mk' 4 (by kernel_rfl) (by kernel_rfl))
    · refine Wp.sq ?_
      refine Wp.rg ?_
      refine Ops.sg 2 2 ?_
      refine Ops.dn ?_
      refine seqQ.n ?_
      refine Wp.cnd h [0, 4, 6] 4 (by kernel_rfl) (fun h => ?_) (fun h => ?_)
      · refine Wp.sq ?_
        refine Wp.sq ?_
        refine Wp.rg ?_
        refine Ops.sg 2 2 ?_
        refine Ops.on 3 (fun h0 e0 => (len_r (T := T) h0 22 3 .plain eI a1.fLabels (by kernel_rfl))) ?_
        refine Ops.seg 1 4 (by kernel_rfl) ⟨(appD 2 (List.map (eK .u8) a0)) :: q3 ((.ptr 1 0) :: q1 ((.v (.sl .nil (List.map (eK .u8) []))) :: q18 ((.ptr 1 0) :: (dI a1.fKind) :: (dB (a1.fKind == 1)) :: (dB (a1.fKind == 1)) :: q2 ((dB (a1.fKind == 2)) :: (dB (a1.fKind == 2)) :: (.ptr 1 1) :: (dP eI a1.fLabels) :: (dI (a1.fLabels.length : Int)) :: (dB ((a1.fLabels.length : Int) == 1)) :: q40 (q40 (q40 (q23 []))))))), [.dead, (b22_0 a1), (appO 1 (List.map (eK .u8) a0)), .dead]⟩ (by kernel_rfl) ?_
        refine Ops.dn ?_
        refine seqQ.n ?_
        refine Wp.cnd h [0, 4, 6] 4 (by kernel_rfl) (fun h => ?_) (fun h => ?_)
        · refine Wp.sq ?_
          refine Wp.rg ?_
          refine Ops.sg 3 3 ?_
          obtain ⟨v6, ev6, h⟩ := bnd_some h
          refine Ops.on 4 (fun h0 e0 => (ix_r (T := T) h0 22 3 1 .plain eI a1.fLabels 0 v6 ev6 (by kernel_rfl) (by kernel_rfl) (fun _ => rfl))) ?_
          refine Ops.sg 1 5 ?_
          obtain ⟨v7, ev7, h⟩ := bnd_some h
          refine Ops.on 6 (fun h0 e0 => (call_tok (E' := E) (h := h0) (q := 2) (l := List.map (eK .u8) a0) (by kernel_rfl) (by kernel_rfl) (by kernel_rfl) (hq_of e0 (by kernel_rfl)) (Args.v (vI v6) (eI v6) (by kernel_rfl) Args.nil) (ok39 m a0 v6 v7 ev7 n (by omega)))) ?_
          refine Ops.sg 1 7 ?_
          refine Ops.dn ?_
          refine seqQ.n ?_
          refine Wp.ret (by kernel_rfl) ?_
          refine sqQ.r ?_
          refine seqQ.r ?_
          refine sqQ.r ?_
          refine sqQ.r ?_
          refine blkQ.r ?_
          refine seqQ.r ?_
          exact fnQT.r' (X22 n) (eK .u8) h (RetOkT.mk' 4 (by kernel_rfl) (by kernel_rfl))
        · refine Wp.sk ?_
          refine sqQ.n ⟨(appD 4 (List.map (eK .u8) a0)) :: q3 ((.ptr 1 0) :: q1 ((.v (.sl .nil (List.map (eK .u8) []))) :: q40 (q40 (q40 (q40 (q13 [])))))), [.dead, (b22_0 a1), .dead, .dead, (appO 1 (List.map (eK .u8) a0)), .dead]⟩ (by generalize a0 = z0; cases z0 <;> kernel_rfl) ?_
          refine seqQ.n ?_
          refine Wp.sq ?_
          refine Wp.rg ?_
          refine Ops.sg 2 2 ?_
          obtain ⟨v8, ev8, h⟩ := bnd_some h
          refine Ops.on 3 (fun h0 e0 => (app_r (T := T) (g := .nil) h0 48 5 4 1 ti5 .nonfull (eK .u8) a0 [91] v8 ev8 (by kernel_rfl) (by kernel_rfl) (by kernel_rfl) (by kernel_rfl) (fun _ => rfl) (hq_of e0 (by kernel_rfl)))) ?_
          refine Ops.sg 1 4 ?_
          refine Ops.dn ?_
          refine seqQ.n ?_
          refine Wp.sq ?_
          refine Wp.sq ?_
          refine Wp.rg ?_
          refine Ops.sg 2 2 ?_
          refine Ops.on 3 (fun h0 e0 => (len_r (T := T) h0 22 3 .plain eI a1.fLabels (by kernel_rfl))) ?_
          refine Ops.sg 1 4 ?_
          refine Ops.dn ?_
          refine seqQ.n ?_
          refine Wp.block' 1 [0, 6] 7 (by kernel_rfl) ?_
          have hLx28 := f22_hLx28 m K nn hK a0 a1 a2 o n hn hk 
          refine Wp.loop' [0, 6, 47, 48, 49] 7 (by kernel_rfl) ⟨(appD 7 (List.map (eK .u8) v8)) :: q5 ((appD 8 (List.map (eK .u8) [])) :: q40 ((dP eI a1.fLabels) :: (dI (a1.fLabels.length : Int)) :: (dI 0) :: q40 (q40 (q40 (q10 []))))), [.dead, (b22_0 a1), .dead, .dead, .dead, .dead, .dead, (appO 1 (List.map (eK .u8) v8)), .dead]⟩ (by generalize v8 = z0; cases z0 <;> kernel_rfl) ?_
          rcases brk_some h with ⟨r30, er30, h⟩ | ⟨y29, ey29, h⟩
          · refine hLx28 _ v8 0  _ er30 n (by omega) (fun r er σ hσ => ?_) (fun y  ey => by cases ey)
            cases er
            refine seqQ.r ?_
            refine sqQ.r ?_
            refine sqQ.r ?_
            refine blkQ.r ?_
            refine seqQ.r ?_
            exact fnQT.r' (X22 n) (eK .u8) h hσ
          · refine hLx28 _ v8 0  _ ey29 n (by omega) (fun r er => by cases er) (fun y  ey => ?_)
            cases ey
            refine seqQ.n ?_
            refine Wp.sq ?_
            refine Wp.rg ?_
            refine Ops.sg 2 2 ?_
            obtain ⟨v31, ev31, h⟩ := bnd_some h
            refine Ops.on 3 (fun h0 e0 => (app_r (T := T) (g := .nil) h0 48 5 7 1 ti5 .nonfull (eK .u8) y29.1 [93] v31 ev31 (by kernel_rfl) (by kernel_rfl) (by kernel_rfl) (by kernel_rfl) (fun _ => rfl) (hq_of e0 (by kernel_rfl)))) ?_
            refine Ops.sg 1 4 ?_
            refine Ops.dn ?_
            refine seqQ.n ?_
            refine Wp.ret (by kernel_rfl) ?_
            refine sqQ.r ?_
            refine sqQ.r ?_
            refine blkQ.r ?_
            refine seqQ.r ?_
            exact fnQT.r' (X22 n) (eK .u8) h (RetOkT.mk' 9 (by kernel_rfl) (by kernel_rfl))
      · refine Wp.sq ?_
        refine Wp.rg ?_
        refine Ops.sg 2 2 ?_
        refine Ops.dn ?_
        refine seqQ.n ?_
        refine Wp.cnd h [0, 4, 6] 4 (by kernel_rfl) (fun h => ?_) (fun h => ?_)
        · refine Wp.sq ?_
          refine Wp.sq ?_
          refine Wp.rg ?_
          refine Ops.sg 2 2 ?_
          refine Ops.on 3 (fun h0 e0 => (len_r (T := T) h0 23 25 .plain ep24 a1.fSubs (by kernel_rfl))) ?_
          refine Ops.seg 1 4 (by kernel_rfl) ⟨(appD 2 (List.map (eK .u8) a0)) :: q3 ((.ptr 1 0) :: q1 ((.v (.sl .nil (List.map (eK .u8) []))) :: q18 ((.ptr 1 0) :: (dI a1.fKind) :: (dB (a1.fKind == 1)) :: (dB (a1.fKind == 1)) :: q2 ((dB (a1.fKind == 2)) :: (dB (a1.fKind == 2)) :: q27 ((dB (a1.fKind == 3)) :: (dB (a1.fKind == 3)) :: (.ptr 1 2) :: (dP ep24 a1.fSubs) :: (dI (a1.fSubs.length : Int)) :: (dI 0) :: q40 (q40 (q34 []))))))), [.dead, (b22_0 a1), (appO 1 (List.map (eK .u8) a0)), .dead]⟩ (by kernel_rfl) ?_
          refine Ops.dn ?_
          refine seqQ.n ?_
          refine Wp.block' 3 [0, 6] 4 (by kernel_rfl) ?_
          have hLx51 := f22_hLx51 m K nn hK a0 a1 a2 o n hn hk 
          refine Wp.loop' [0, 6, 63, 64, 65] 4 (by kernel_rfl) ⟨(appD 4 (List.map (eK .u8) a0)) :: q5 ((appD 5 (List.map (eK .u8) [])) :: q40 (q16 ((dP ep24 a1.fSubs) :: (dI (a1.fSubs.length : Int)) :: (dI 0) :: q40 (q40 (q34 []))))), [.dead, (b22_0 a1), .dead, .dead, (appO 1 (List.map (eK .u8) a0)), .dead]⟩ (by generalize a0 = z0; cases z0 <;> kernel_rfl) ?_
          rcases brk_some h with ⟨r53, er53, h⟩ | ⟨y52, ey52, h⟩
          · refine hLx51 _ a0 0  _ er53 n (by omega) (fun r er σ hσ => ?_) (fun y  ey => by cases ey)
            cases er
            refine seqQ.r ?_
            refine sqQ.r ?_
            refine sqQ.r ?_
            refine sqQ.r ?_
            refine blkQ.r ?_
            refine seqQ.r ?_
            exact fnQT.r' (X22 n) (eK .u8) h hσ
          · refine hLx51 _ a0 0  _ ey52 n (by omega) (fun r er => by cases er) (fun y  ey => ?_)
            cases ey
            refine seqQ.n ?_
            refine Wp.sq ?_
            refine Wp.rg ?_
            refine Ops.sg 2 2 ?_
            refine Ops.dn ?_
            refine seqQ.n ?_
            refine Wp.ret (by kernel_rfl) ?_
            refine sqQ.r ?_
            refine sqQ.r ?_
            refine sqQ.r ?_
            refine blkQ.r ?_
            refine seqQ.r ?_
            exact fnQT.r' (X22 n) (eK .u8) h (RetOkT.mk' 4 (by kernel_rfl) (by kernel_rfl))
        · refine Wp.sq ?_
          refine Wp.rg ?_
          refine Ops.sg 2 2 ?_
          refine Ops.dn ?_
          refine seqQ.n ?_
          refine Wp.cnd h [0, 4, 6] 4 (by kernel_rfl) (fun h => ?_) (fun h => ?_)
          · refine Wp.sq ?_
            refine Wp.sq ?_
            refine Wp.rg ?_
            refine Ops.seg 2 2 (by kernel_rfl) ⟨(appD 2 (List.map (eK .u8) a0)) :: q3 ((.ptr 1 0) :: q1 ((.v (.sl .nil (List.map (eK .u8) []))) :: q18 ((.ptr 1 0) :: (dI a1.fKind) :: (dB (a1.fKind == 1)) :: (dB (a1.fKind == 1)) :: q2 ((dB (a1.fKind == 2)) :: (dB (a1.fKind == 2)) :: q27 ((dB (a1.fKind == 3)) :: (dB (a1.fKind == 3)) :: q12 ((dB (a1.fKind == 4)) :: (dB (a1.fKind == 4)) :: (.ptr 1 2) :: (dP ep24 a1.fSubs) :: q40 (q40 (q22 [])))))))), [.dead, (b22_0 a1), (appO 1 (List.map (eK .u8) a0)), .dead]⟩ (by kernel_rfl) ?_
            refine Ops.on 3 (fun h0 e0 => (len_r (T := T) h0 23 25 .plain ep24 a1.fSubs (by kernel_rfl))) ?_
            refine Ops.sg 1 4 ?_
            refine Ops.dn ?_
            refine seqQ.n ?_
            refine Wp.block' 5 [0, 6] 4 (by kernel_rfl) ?_
            have hLx82 := f22_hLx82 m K nn hK a0 a1 a2 o n hn hk 
            refine Wp.loop' [0, 6, 77, 78, 79] 4 (by kernel_rfl) ⟨(appD 4 (List.map (eK .u8) a0)) :: q5 ((appD 5 (List.map (eK .u8) [])) :: q40 (q30 ((dP ep24 a1.fSubs) :: (dI (a1.fSubs.length : Int)) :: (dI 0) :: q40 (q40 (q20 []))))), [.dead, (b22_0 a1), .dead, .dead, (appO 1 (List.map (eK .u8) a0)), .dead]⟩ (by generalize a0 = z0; cases z0 <;> kernel_rfl) ?_
            rcases brk_some h with ⟨r84, er84, h⟩ | ⟨y83, ey83, h⟩
            · refine hLx82 _ a0 0  _ er84 n (by omega) (fun r er σ hσ => ?_) (fun y  ey => by cases ey)
              cases er
              refine seqQ.r ?_
              refine sqQ.r ?_
              refine sqQ.r ?_
              refine sqQ.r ?_
              refine sqQ.r ?_
              refine blkQ.r ?_
              refine seqQ.r ?_
              exact fnQT.r' (X22 n) (eK .u8) h hσ
            · refine hLx82 _ a0 0  _ ey83 n (by omega) (fun r er => by cases er) (fun y  ey => ?_)
              cases ey
              refine seqQ.n ?_
              refine Wp.sq ?_
              refine Wp.rg ?_
              refine Ops.sg 2 2 ?_
              refine Ops.dn ?_
              refine seqQ.n ?_
              refine Wp.ret (by kernel_rfl) ?_
              refine sqQ.r ?_
              refine sqQ.r ?_
              refine sqQ.r ?_
              refine sqQ.r ?_
              refine blkQ.r ?_
              refine seqQ.r ?_
              exact fnQT.r' (X22 n) (eK .u8) h (RetOkT.mk' 4 (by kernel_rfl) (by kernel_rfl))
          · refine Wp.sq ?_
            refine Wp.sq ?_
            refine Wp.rg ?_
            refine Ops.seg 2 2 (by kernel_rfl) ⟨(appD 2 (List.map (eK .u8) a0)) :: q3 ((.ptr 1 0) :: q1 ((.v (.sl .nil (List.map (eK .u8) []))) :: q18 ((.ptr 1 0) :: (dI a1.fKind) :: (dB (a1.fKind == 1)) :: (dB (a1.fKind == 1)) :: q2 ((dB (a1.fKind == 2)) :: (dB (a1.fKind == 2)) :: q27 ((dB (a1.fKind == 3)) :: (dB (a1.fKind == 3)) :: q12 ((dB (a1.fKind == 4)) :: (dB (a1.fKind == 4)) :: q18 ((dB (a1.fKind == 6)) :: (dB (a1.fKind == 6)) :: q40 (q40 (q4 []))))))))), [.dead, (b22_0 a1), (appO 1 (List.map (eK .u8) a0)), .dead]⟩ (by kernel_rfl) ?_
            refine Ops.dn ?_
            refine seqQ.n ?_
            have J22j86 := f22_J22j86 m K nn hK a0 a1 a2 o n hn hk 
            refine Wp.cnd h [0, 4, 6, 94] 4 (by kernel_rfl) (fun h => ?_) (fun h => ?_)
            · refine Wp.sk ?_
              refine sqQ.n ⟨(appD 4 (List.map (eK .u8) a0)) :: q3 ((.ptr 1 0) :: q1 ((.v (.sl .nil (List.map (eK .u8) []))) :: q40 (q40 (q7 ((dB (a1.fKind == 6)) :: q40 (q40 (q5 []))))))), [.dead, (b22_0 a1), .dead, .dead, (appO 1 (List.map (eK .u8) a0)), .dead]⟩ (by generalize a0 = z0; cases z0 <;> kernel_rfl) ?_
              exact J22j86 (a1.fKind == 6)  h
            · refine Wp.rg ?_
              refine Ops.sg 2 2 ?_
              refine Ops.dn ?_
              refine sqQ.n ⟨(appD 4 (List.map (eK .u8) a0)) :: q3 ((.ptr 1 0) :: q1 ((.v (.sl .nil (List.map (eK .u8) []))) :: q40 (q40 (q7 ((dB (a1.fKind == 7)) :: q40 (q40 (q5 []))))))), [.dead, (b22_0 a1), .dead, .dead, (appO 1 (List.map (eK .u8) a0)), .dead]⟩ (by generalize a0 = z0; cases z0 <;> kernel_rfl) ?_
              exact J22j86 (a1.fKind == 7)  h
noncomputable def K22 (m : Nat) : Nat → Rec22
  | 0 => ⟨fun _ _ _ => none⟩
  | r + 1 => ⟨fun a0 a1 a2 => b22 m (K22 m r) a0 a1 a2⟩
theorem okK22 (m : Nat) : ∀ r, OkRec22 m (K22 m r) (m + 5 + r)
  | 0 => ⟨fun _ _ _ o h => (by cases h)⟩
  | r + 1 => ⟨fun a0 a1 a2 o h n hn => okb22 m (K22 m r) (m + 5 + r) (okK22 m r) a0 a1 a2 o h n (by omega) (by omega)⟩
noncomputable def f22 (m : Nat) (a0 : (List Int)) (a1 : S24) (a2 : Int) : Option (List Int) := (K22 m m).r22 a0 a1 a2
theorem ok22 (m : Nat) (a0 : (List Int)) (a1 : S24) (a2 : Int) (o : (List Int)) (h : f22 m a0 a1 a2 = some o) (n : Nat) (hn : 2 * m + 5 ≤ n) : FnT Proofs.Tryd.prog E n 22 1 (List.map (eK .u8) a0) [.v (e24 a1), .v (eI a2)] (List.map (eK .u8) o) := (okK22 m m).ok22 a0 a1 a2 o h n (by omega)

/-! ### 10 glosswright/pattern.Print -/
noncomputable def f10 (m : Nat) (a0 : S24) : Option (ByteArray × S27) :=
  bnd (f9 m a0) fun v1 =>
  cnd (!((v1.fCode == 0) && ((v1.fIndex == 0) && true)))
  (some (((⟨#[]⟩ : ByteArray), v1)))
  (bnd (f22 m [] a0 1) fun v2 =>
  cnd (decide ((v2.length : Int) > 4000))
  (bnd (f23 m 1 (-1)) fun v3 =>
  some (((⟨#[]⟩ : ByteArray), v3)))
  (some (((strI v2), (⟨0, 0⟩ : S27)))))
noncomputable abbrev X10 (n : Nat) : Cx := cxOf Proofs.Tryd.prog E 10 n
noncomputable def C10 : Code := bodyOf Proofs.Tryd.prog 10
theorem ok10 (m : Nat) (a0 : S24) (o : (ByteArray × S27)) (h : f10 m a0 = some o) (n : Nat) (hn : 2 * m + 6 ≤ n) : Fn Proofs.Tryd.prog E n 10 [.v (e24 a0)] (.tuple [eS o.1, e27 o.2]) := by
  obtain ⟨n, rfl⟩ : ∃ q, n = q + 1 := ⟨n - 1, by omega⟩
  unfold f10 at h
  refine Fn.of (by kernel_rfl) (by kernel_rfl) (by kernel_rfl) ⟨(.v (.agg [(vI a0.fKind), (vP eI a0.fLabels), (vP ep24 a0.fSubs), (vI a0.fLeast), (vI a0.fMost)])) :: u20 [], []⟩ (by kernel_rfl) ?_
  refine Wp.sq ?_
  refine Wp.rg ?_
  refine Ops.sg 3 3 ?_
  refine Ops.dn ?_
  refine seqQ.n ?_
  refine Wp.sq ?_
  refine Wp.sq ?_
  refine Wp.rg ?_
  refine Ops.sg 1 1 ?_
  obtain ⟨v1, ev1, h⟩ := bnd_some h
  refine Ops.on 2 (fun h0 e0 => (call_ok (E' := E) (h := h0) (by kernel_rfl) (Args.v (.agg [(vI a0.fKind), (vP eI a0.fLabels), (vP ep24 a0.fSubs), (vI a0.fLeast), (vI a0.fMost)]) (e24 a0) (by kernel_rfl) Args.nil) (ok9 m a0 v1 ev1 n (by omega)))) ?_
  refine Ops.sg 2 4 ?_
  refine Ops.dn ?_
  refine seqQ.n ?_
  refine Wp.sq ?_
  refine Wp.rg ?_
  refine Ops.sg 3 3 ?_
  refine Ops.dn ?_
  refine seqQ.n ?_
  refine Wp.cnd h [1, 2, 3] 3 (by kernel_rfl) (fun h => ?_) (fun h => ?_)
  · refine Wp.sq ?_
    refine Wp.rg ?_
    refine Ops.sg 3 3 ?_
    refine Ops.dn ?_
    refine seqQ.n ?_
    refine Wp.ret (by kernel_rfl) ?_
    refine sqQ.r ?_
    refine seqQ.r ?_
    exact fnQ.r' (X10 n) (fun z => (.tuple [eS z.1, e27 z.2])) h (RetOk.mk' (.v (.tuple [(.str (⟨#[]⟩ : ByteArray)), (.agg [(vI v1.fCode), (vI v1.fIndex)])])) (by kernel_rfl) (by kernel_rfl))
  · refine Wp.sk ?_
    refine sqQ.n' ?_
    refine seqQ.n ?_
    refine Wp.sq ?_
    refine Wp.rg ?_
    refine Ops.sg 1 1 ?_
    obtain ⟨v2, ev2, h⟩ := bnd_some h
    refine Ops.on 2 (fun h0 e0 => (call_tok_nil (E' := E) (h := h0) (by kernel_rfl) (by kernel_rfl) (by kernel_rfl) (Args.v (.agg [(vI a0.fKind), (vP eI a0.fLabels), (vP ep24 a0.fSubs), (vI a0.fLeast), (vI a0.fMost)]) (e24 a0) (by kernel_rfl) (Args.v (vI 1) (eI 1) (by kernel_rfl) Args.nil)) (ok22 m [] a0 1 v2 ev2 n (by omega)))) ?_
    refine Ops.sg 1 3 ?_
    refine Ops.dn ?_
    refine seqQ.n ?_
    refine Wp.sq ?_
    refine Wp.sq ?_
    refine Wp.rg ?_
    refine Ops.sg 1 1 ?_
    refine Ops.on 2 (fun h0 e0 => (len_a (T := T) (g := .nil) h0 48 5 3 (eK .u8) v2 (by kernel_rfl))) ?_
    refine Ops.sg 1 3 ?_
    refine Ops.dn ?_
    refine seqQ.n ?_
    refine Wp.cnd h [2, 3, 5] 4 (by kernel_rfl) (fun h => ?_) (fun h => ?_)
    · refine Wp.sq ?_
      refine Wp.rg ?_
      obtain ⟨v3, ev3, h⟩ := bnd_some h
      refine Ops.on 1 (fun h0 e0 => (call_ok (E' := E) (h := h0) (by kernel_rfl) (Args.v (vI 1) (eI 1) (by kernel_rfl) (Args.v (vI (-1)) (eI (-1)) (by kernel_rfl) Args.nil)) (ok23 m 1 (-1) v3 ev3 n (by omega)))) ?_
      refine Ops.sg 2 3 ?_
      refine Ops.dn ?_
      refine seqQ.n ?_
      refine Wp.ret (by kernel_rfl) ?_
      refine sqQ.r ?_
      refine seqQ.r ?_
      exact fnQ.r' (X10 n) (fun z => (.tuple [eS z.1, e27 z.2])) h (RetOk.mk' (.v (.tuple [(.str (⟨#[]⟩ : ByteArray)), (.agg [(vI v3.fCode), (vI v3.fIndex)])])) (by kernel_rfl) (by kernel_rfl))
    · refine Wp.sk ?_
      refine sqQ.n ⟨(.v (.agg [(vI a0.fKind), (vP eI a0.fLabels), (vP ep24 a0.fSubs), (vI a0.fLeast), (vI a0.fMost)])) :: (.ptr 0 0) :: (.v (.str (⟨#[]⟩ : ByteArray))) :: (.ptr 1 0) :: (.ptr 2 0) :: (appD 3 (List.map (eK .u8) v2)) :: (.v (.agg [(vI a0.fKind), (vP eI a0.fLabels), (vP ep24 a0.fSubs), (vI a0.fLeast), (vI a0.fMost)])) :: (.v (.agg [(vI v1.fCode), (vI v1.fIndex)])) :: (.v (.agg [(vI v1.fCode), (vI v1.fIndex)])) :: (.v (.agg [(vI 0), (vI 0)])) :: (dB (!((v1.fCode == 0) && ((v1.fIndex == 0) && true)))) :: u1 ((.v (.agg [(vI a0.fKind), (vP eI a0.fLabels), (vP ep24 a0.fSubs), (vI a0.fLeast), (vI a0.fMost)])) :: (appD 3 (List.map (eK .u8) v2)) :: (appD 3 (List.map (eK .u8) v2)) :: (dI (v2.length : Int)) :: (dB (decide ((v2.length : Int) > 4000))) :: u4 []), [(.cells [(dI a0.fKind), (dP eI a0.fLabels), (dP ep24 a0.fSubs), (dI a0.fLeast), (dI a0.fMost)]), (.cells [(dI 0), (dI 0)]), (.cells [(dI v1.fCode), (dI v1.fIndex)]), (appO 1 (List.map (eK .u8) v2))]⟩ (by generalize v2 = z0; cases z0 <;> kernel_rfl) ?_
      refine seqQ.n ?_
      refine Wp.sq ?_
      refine Wp.rg ?_
      refine Ops.sg 1 1 ?_
      refine Ops.on 2 (fun h0 e0 => (conv_d (T := T) h0 48 9 5 (appD 3 (List.map (eK .u8) v2)) v2 (appF_hd _ _ _) (by kernel_rfl) (by kernel_rfl) (by kernel_rfl))) ?_
      refine Ops.sg 3 5 ?_
      refine Ops.dn ?_
      refine seqQ.n ?_
      refine Wp.ret (by kernel_rfl) ?_
      exact fnQ.r' (X10 n) (fun z => (.tuple [eS z.1, e27 z.2])) h (RetOk.mk' (.v (.tuple [(.str (strI v2)), (.agg [(vI 0), (vI 0)])])) (by kernel_rfl) (by kernel_rfl))

/-! ### 25 glosswright/glosswrightref6.fault -/
noncomputable def f25 (m : Nat) (a0 : Int) (a1 : Int) : Option S27 :=
  some ((⟨a0, a1⟩ : S27))
noncomputable abbrev X25 (n : Nat) : Cx := cxOf Proofs.Tryd.prog E 25 n
noncomputable def C25 : Code := bodyOf Proofs.Tryd.prog 25
theorem ok25 (m : Nat) (a0 : Int) (a1 : Int) (o : S27) (h : f25 m a0 a1 = some o) (n : Nat) (hn : m + 1 ≤ n) : Fn Proofs.Tryd.prog E n 25 [.v (eI a0), .v (eI a1)] (e27 o) := by
  obtain ⟨n, rfl⟩ : ∃ q, n = q + 1 := ⟨n - 1, by omega⟩
  unfold f25 at h
  refine Fn.of (by kernel_rfl) (by kernel_rfl) (by kernel_rfl) ⟨(dI a0) :: (dI a1) :: u6 [], []⟩ (by kernel_rfl) ?_
  refine Wp.sq ?_
  refine Wp.rg ?_
  refine Ops.sg 1 1 ?_
  refine Ops.dn ?_
  refine seqQ.n ?_
  refine Wp.sq ?_
  refine Wp.rg ?_
  refine Ops.sg 4 4 ?_
  refine Ops.dn ?_
  refine seqQ.n ?_
  refine Wp.ret (by kernel_rfl) ?_
  exact fnQ.r' (X25 n) (fun z => (e27 z)) h (RetOk.mk' (.v (.agg [(vI a0), (vI a1)])) (by kernel_rfl) (by kernel_rfl))

/-! ### 42 glosswright/glosswrightref5.Scalar -/
noncomputable def f42_r1 (m : Nat) (v17 : Bool) : Option Bool :=
  some v17
noncomputable def f42_r2 (m : Nat) (a0 : Int) (v6 : Bool) : Option Bool :=
  f42_r1 m (v6 || ((decide (a0 > 57343)) && (decide (a0 ≤ 1114111))))
noncomputable def f42 (m : Nat) (a0 : Int) : Option Bool :=
  f42_r2 m a0 ((decide (a0 ≥ 0)) && (decide (a0 < 55296)))
noncomputable abbrev X42 (n : Nat) : Cx := cxOf Proofs.Tryd.prog E 42 n
noncomputable def C42 : Code := bodyOf Proofs.Tryd.prog 42
theorem ok42 (m : Nat) (a0 : Int) (o : Bool) (h : f42 m a0 = some o) (n : Nat) (hn : m + 1 ≤ n) : Fn Proofs.Tryd.prog E n 42 [.v (eI a0)] (eB o) := by
  obtain ⟨n, rfl⟩ : ∃ q, n = q + 1 := ⟨n - 1, by omega⟩
  unfold f42 at h
  refine Fn.of (by kernel_rfl) (by kernel_rfl) (by kernel_rfl) ⟨(dI a0) :: u16 [], []⟩ (by kernel_rfl) ?_
  refine Wp.sq ?_
  refine Wp.rg ?_
  refine Ops.sg 1 1 ?_
  refine Ops.dn ?_
  refine seqQ.n ?_
  refine Wp.sq ?_
  refine Wp.rg ?_
  refine Ops.sg 3 3 ?_
  refine Ops.hv (fun KQ => ∀ (d3 d4 : D) (v5 : Bool) (v6 : Bool), f42_r2 m a0 v6 = some o → KQ 6 ⟨(dI a0) :: u1 ((dB false) :: (dI a0) :: (dB v5) :: (dB v5) :: d3 :: d4 :: (dB v6) :: u8 []), []⟩) ?_ fun J42j7 => ?_
  · intro d3 d4 v5 v6 h
    unfold f42_r2 at h
    refine Ops.sg 1 7 ?_
    refine Ops.hv (fun KQ => ∀ (d10 d11 d12 d13 d14 d15 : D) (v16 : Bool) (v17 : Bool), f42_r1 m v17 = some o → KQ 14 ⟨(dI a0) :: u1 ((dB false) :: (dI a0) :: (dB v5) :: (dB v5) :: d3 :: d4 :: (dB v16) :: (dB v16) :: d10 :: d11 :: d12 :: d13 :: d14 :: d15 :: (dB v17) :: []), []⟩) ?_ fun J42j18 => ?_
    · intro d10 d11 d12 d13 d14 d15 v16 v17 h
      unfold f42_r1 at h
      refine Ops.sg 1 15 ?_
      refine Ops.dn ?_
      refine seqQ.n ?_
      refine Wp.ret (by kernel_rfl) ?_
      exact fnQ.r' (X42 n) (fun z => (eB z)) h (RetOk.mk' (dB v17) (by kernel_rfl) (by kernel_rfl))
    refine Ops.hv (fun KQ => ∀ v8 : Bool, f42_r1 m (v8 || ((decide (a0 > 57343)) && (decide (a0 ≤ 1114111)))) = some o → KQ 7 ⟨(dI a0) :: u1 ((dB false) :: (dI a0) :: (dB v5) :: (dB v5) :: d3 :: d4 :: (dB v8) :: (dB v8) :: u7 []), []⟩) ?_ fun G42g9 => Ops.st _ (by kernel_rfl) (G42g9 v6 h)
    intro v8 h
    cases v8
    · refine Ops.sg 3 10 ?_
      refine Ops.hv (fun KQ => ∀ v19 : Bool, (f42_r1 m (false || (v19 && (decide (a0 ≤ 1114111))))) = some o → KQ 10 ⟨(dI a0) :: u1 ((dB false) :: (dI a0) :: (dB v5) :: (dB v5) :: d3 :: d4 :: (dB false) :: (dB false) :: (dI a0) :: (dB v19) :: (dB v19) :: u4 []), []⟩) ?_ fun G42g20 => Ops.st _ (by kernel_rfl) (G42g20 (decide (a0 > 57343)) h)
      intro v19 h
      cases v19
      · refine Ops.sg 4 14 ?_
        exact Ops.st _ (by kernel_rfl) (J42j18 (dI a0) (dB false) (dB false) U U (dB false) false false h)
      · refine Ops.sg 4 14 ?_
        exact Ops.st _ (by kernel_rfl) (J42j18 (dI a0) (dB true) (dB true) (dI a0) (dB (decide (a0 ≤ 1114111))) (dB (decide (a0 ≤ 1114111))) false (decide (a0 ≤ 1114111)) h)
    · refine Ops.sg 7 14 ?_
      exact Ops.st _ (by kernel_rfl) (J42j18 U U U U U U true true h)
  refine Ops.hv (fun KQ => ∀ v1 : Bool, f42_r2 m a0 (v1 && (decide (a0 < 55296))) = some o → KQ 3 ⟨(dI a0) :: u1 ((dB false) :: (dI a0) :: (dB v1) :: (dB v1) :: u11 []), []⟩) ?_ fun G42g2 => Ops.st _ (by kernel_rfl) (G42g2 (decide (a0 ≥ 0)) h)
  intro v1 h
  cases v1
  · refine Ops.sg 3 6 ?_
    exact Ops.st _ (by kernel_rfl) (J42j7 U U false false h)
  · refine Ops.sg 3 6 ?_
    exact Ops.st _ (by kernel_rfl) (J42j7 (dI a0) (dB (decide (a0 < 55296))) true (decide (a0 < 55296)) h)

/-! ### 26 glosswright/glosswrightref6.nodeFault -/
noncomputable def f26_r1 (m : Nat) (v109 : Int) (v139 : Bool) : Option (Stp Int (Int)) :=
  cnd v139
  (some (.ret 13))
  (some (.nxt (w64 (v109 + 1))))
noncomputable def f26_r2 (m : Nat) (a0 : S24) (v109 : Int) (v119 : Int) (v126 : Bool) : Option (Stp Int (Int)) :=
  cnd v126
  (some (.ret 3))
  (bnd (cnd (decide (v109 > 0))
  (bnd (idx a0.fLabels (w64 (v109 - 1))) fun v141 =>
  some (decide (v141 ≥ v119)))
  (some false)) fun v139 =>
  f26_r1 m v109 v139)
noncomputable def f26_B3 (m : Nat) (a0 : S24) (v109 : Int) : Option (Stp Int (Int)) :=
  cnd (decide (v109 < (a0.fLabels.length : Int)))
  (bnd (idx a0.fLabels v109) fun v119 =>
  bnd (cnd (decide (v119 < 1))
  (some true)
  (bnd (f42 m v119) fun v142 =>
  some (!v142))) fun v126 =>
  f26_r2 m a0 v109 v119 v126)
  (some (.brk v109))
noncomputable def f26_r4 (m : Nat) (v152 : Bool) : Option Int :=
  cnd v152
  (some 5)
  (some 0)
noncomputable def f26_r5 (m : Nat) (v186 : Bool) : Option Int :=
  cnd v186
  (some 13)
  (some 0)
noncomputable def f26_r6 (m : Nat) (a0 : S24) (v176 : Bool) : Option Int :=
  cnd v176
  (some 3)
  (f26_r5 m ((a0.fMost != (-1)) && (decide (a0.fMost < a0.fLeast))))
noncomputable def f26_r7 (m : Nat) (a0 : S24) (v168 : Bool) : Option Int :=
  f26_r6 m a0 (v168 || (decide (a0.fMost > 9)))
noncomputable def f26_r8 (m : Nat) (a0 : S24) (v160 : Bool) : Option Int :=
  f26_r7 m a0 (v160 || (decide (a0.fMost < (-1))))
noncomputable def f26_r9 (m : Nat) (a0 : S24) (v58 : Bool) : Option Int :=
  cnd v58
  (some 9)
  (brk (iter (fun (y : Int) => f26_B3 m a0 y) m 0) some fun y144 =>
  cnd (a0.fKind != 5)
  (f26_r4 m ((a0.fLeast != 0) || (a0.fMost != 0)))
  (f26_r8 m a0 ((decide (a0.fLeast < 0)) || (decide (a0.fLeast > 9)))))
noncomputable def f26_r10 (m : Nat) (a0 : S24) (v1 : Bool) (v51 : Bool) : Option Int :=
  f26_r9 m a0 (v51 || (!v1))
noncomputable def f26_r11 (m : Nat) (a0 : S24) (v1 : Bool) (v42 : Bool) : Option Int :=
  f26_r10 m a0 v1 (v42 || (decide ((a0.fLabels.length : Int) > 300)))
noncomputable def f26_r12 (m : Nat) (a0 : S24) (v1 : Bool) (v28 : Bool) : Option Int :=
  f26_r11 m a0 v1 (v28 || ((a0.fKind != 2) && (decide ((a0.fLabels.length : Int) > 0))))
noncomputable def f26_j13 (m : Nat) (a0 : S24) (v1 : Bool) (v2 : Bool) : Option Int :=
  f26_r12 m a0 v1 ((a0.fKind == 2) && ((a0.fLabels.length : Int) == 0))
noncomputable def f26_j14 (m : Nat) (a0 : S24) (v190 : Bool) (v193 : Bool) : Option Int :=
  f26_j13 m a0 v193 v190
noncomputable def f26_j15 (m : Nat) (a0 : S24) (v190 : Bool) (v216 : Bool) : Option Int :=
  f26_j14 m a0 v190 v216
noncomputable def f26_j16 (m : Nat) (a0 : S24) (v190 : Bool) (v231 : Bool) : Option Int :=
  f26_j15 m a0 v190 v231
noncomputable def f26_j17 (m : Nat) (a0 : S24) (v190 : Bool) (v244 : Bool) : Option Int :=
  cnd v244
  (f26_j16 m a0 v190 ((a0.fSubs.length : Int) == 2))
  (some 4)
noncomputable def f26_j18 (m : Nat) (a0 : S24) (v190 : Bool) (v213 : Bool) : Option Int :=
  cnd v213
  (f26_j15 m a0 v190 (decide ((a0.fSubs.length : Int) ≥ 2)))
  (cnd (a0.fKind == 5)
  (f26_j16 m a0 v190 ((a0.fSubs.length : Int) == 1))
  (cnd (a0.fKind == 6)
  (f26_j17 m a0 v190 (a0.fKind == 6))
  (f26_j17 m a0 v190 (a0.fKind == 7))))
noncomputable def f26_j19 (m : Nat) (a0 : S24) (v190 : Bool) : Option Int :=
  cnd v190
  (f26_j14 m a0 v190 ((a0.fSubs.length : Int) == 0))
  (cnd (a0.fKind == 3)
  (f26_j18 m a0 v190 (a0.fKind == 3))
  (f26_j18 m a0 v190 (a0.fKind == 4)))
noncomputable def f26 (m : Nat) (a0 : S24) : Option Int :=
  cnd (a0.fKind == 1)
  (f26_j19 m a0 (a0.fKind == 1))
  (f26_j19 m a0 (a0.fKind == 2))
noncomputable abbrev X26 (n : Nat) : Cx := cxOf Proofs.Tryd.prog E 26 n
noncomputable def C26 : Code := bodyOf Proofs.Tryd.prog 26
noncomputable abbrev p26_0 : Code := cR (cR (cR (cR C26)))
noncomputable abbrev b26_0 (w0 : S24) : AObj := .cells [(dI w0.fKind), (dP eI w0.fLabels), (dP ep24 w0.fSubs), (dI w0.fLeast), (dI w0.fMost)]
noncomputable abbrev k26_0 : List Nat := [1, 2, 62, 63, 64]
noncomputable abbrev k26_1 : List Nat := [1, 2, 3, 4, 11, 12]
theorem ok26 (m : Nat) (a0 : S24) (o : Int) (h : f26 m a0 = some o) (n : Nat) (hn : m + 2 ≤ n) : Fn Proofs.Tryd.prog E n 26 [.v (e24 a0)] (eI o) := by
  obtain ⟨n, rfl⟩ : ∃ q, n = q + 1 := ⟨n - 1, by omega⟩
  unfold f26 at h
  refine Fn.of (by kernel_rfl) (by kernel_rfl) (by kernel_rfl) ⟨(.v (.agg [(vI a0.fKind), (vP eI a0.fLabels), (vP ep24 a0.fSubs), (vI a0.fLeast), (vI a0.fMost)])) :: u40 (u40 (u40 (u7 []))), []⟩ (by kernel_rfl) ?_
  refine Wp.sq ?_
  refine Wp.rg ?_
  refine Ops.sg 2 2 ?_
  refine Ops.dn ?_
  refine seqQ.n ?_
  refine Wp.sq ?_
  refine Wp.rg ?_
  refine Ops.sg 2 2 ?_
  refine Ops.on 3 (fun h0 e0 => (len_r (T := T) h0 23 25 .plain ep24 a0.fSubs (by kernel_rfl))) ?_
  refine Ops.sg 1 4 ?_
  refine Ops.dn ?_
  refine seqQ.n ?_
  refine Wp.sq ?_
  refine Wp.rg ?_
  refine Ops.sg 1 1 ?_
  refine Ops.dn ?_
  refine seqQ.n ?_
  refine Wp.sq ?_
  refine Wp.sq ?_
  refine Wp.rg ?_
  refine Ops.sg 2 2 ?_
  refine Ops.dn ?_
  refine seqQ.n ?_
  have J26j20 : ∀ (v1 : Bool) (v2 : Bool) (d3 : D) (d4 : D) (d5 : D) (d6 : D) (d7 : D) (d8 : D) (d9 : D) (d10 : D) (d11 : D) (d12 : D) (d13 : D) (d14 : D) (d15 : D) (d16 : D) (d17 : D) (d18 : D) (d19 : D), f26_j13 m a0 v1 v2 = some o → (seqQ (X26 n) p26_0 (fnQ (X26 n).E.T (resOf Proofs.Tryd.prog 26) (eI o))) .normal ⟨(.v (.agg [(vI a0.fKind), (vP eI a0.fLabels), (vP ep24 a0.fSubs), (vI a0.fLeast), (vI a0.fMost)])) :: (.ptr 0 0) :: (dI 0) :: (dI (a0.fSubs.length : Int)) :: (dB v1) :: u2 ((.ptr 0 2) :: (dP ep24 a0.fSubs) :: (dI (a0.fSubs.length : Int)) :: (.ptr 0 0) :: (dI a0.fKind) :: (dB v2) :: (dB (a0.fKind == 1)) :: d3 :: d4 :: d5 :: d6 :: d7 :: d8 :: d9 :: d10 :: d11 :: d12 :: d13 :: d14 :: d15 :: d16 :: d17 :: d18 :: d19 :: u40 (u40 (u17 []))), [(b26_0 a0)]⟩ := by
    intro v1 v2 d3 d4 d5 d6 d7 d8 d9 d10 d11 d12 d13 d14 d15 d16 d17 d18 d19 h
    unfold f26_j13 at h
    refine seqQ.n ?_
    refine Wp.sq ?_
    refine Wp.sq ?_
    refine Wp.rg ?_
    refine Ops.sg 4 4 ?_
    refine Ops.hv (fun KQ => ∀ (d23 d24 d25 d26 : D) (v27 : Bool) (v28 : Bool), f26_r12 m a0 v1 v28 = some o → KQ 9 ⟨(.v (.agg [(vI a0.fKind), (vP eI a0.fLabels), (vP ep24 a0.fSubs), (vI a0.fLeast), (vI a0.fMost)])) :: (.ptr 0 0) :: (dI 0) :: (dI (a0.fSubs.length : Int)) :: (dB v1) :: u2 ((.ptr 0 2) :: (dP ep24 a0.fSubs) :: (dI (a0.fSubs.length : Int)) :: (.ptr 0 0) :: (dI a0.fKind) :: (dB v2) :: (dB (a0.fKind == 1)) :: d3 :: d4 :: d5 :: d6 :: d7 :: d8 :: d9 :: d10 :: d11 :: d12 :: d13 :: d14 :: d15 :: d16 :: d17 :: d18 :: d19 :: (.ptr 0 0) :: (dI a0.fKind) :: (dB v27) :: (dB v27) :: d23 :: d24 :: d25 :: d26 :: (dB v28) :: u40 (u40 (u8 []))), [(b26_0 a0)]⟩) ?_ fun J26j29 => ?_
    · intro d23 d24 d25 d26 v27 v28 h
      unfold f26_r12 at h
      refine Ops.sg 1 10 ?_
      refine Ops.hv (fun KQ => ∀ (d32 d33 d34 d35 d36 d37 d38 d39 d40 : D) (v41 : Bool) (v42 : Bool), f26_r11 m a0 v1 v42 = some o → KQ 20 ⟨(.v (.agg [(vI a0.fKind), (vP eI a0.fLabels), (vP ep24 a0.fSubs), (vI a0.fLeast), (vI a0.fMost)])) :: (.ptr 0 0) :: (dI 0) :: (dI (a0.fSubs.length : Int)) :: (dB v1) :: u2 ((.ptr 0 2) :: (dP ep24 a0.fSubs) :: (dI (a0.fSubs.length : Int)) :: (.ptr 0 0) :: (dI a0.fKind) :: (dB v2) :: (dB (a0.fKind == 1)) :: d3 :: d4 :: d5 :: d6 :: d7 :: d8 :: d9 :: d10 :: d11 :: d12 :: d13 :: d14 :: d15 :: d16 :: d17 :: d18 :: d19 :: (.ptr 0 0) :: (dI a0.fKind) :: (dB v27) :: (dB v27) :: d23 :: d24 :: d25 :: d26 :: (dB v41) :: (dB v41) :: d32 :: d33 :: d34 :: d35 :: d36 :: d37 :: d38 :: d39 :: d40 :: (dB v42) :: u40 (u37 [])), [(b26_0 a0)]⟩) ?_ fun J26j43 => ?_
      · intro d32 d33 d34 d35 d36 d37 d38 d39 d40 v41 v42 h
        unfold f26_r11 at h
        refine Ops.sg 1 21 ?_
        refine Ops.hv (fun KQ => ∀ (d46 d47 d48 d49 : D) (v50 : Bool) (v51 : Bool), f26_r10 m a0 v1 v51 = some o → KQ 26 ⟨(.v (.agg [(vI a0.fKind), (vP eI a0.fLabels), (vP ep24 a0.fSubs), (vI a0.fLeast), (vI a0.fMost)])) :: (.ptr 0 0) :: (dI 0) :: (dI (a0.fSubs.length : Int)) :: (dB v1) :: u2 ((.ptr 0 2) :: (dP ep24 a0.fSubs) :: (dI (a0.fSubs.length : Int)) :: (.ptr 0 0) :: (dI a0.fKind) :: (dB v2) :: (dB (a0.fKind == 1)) :: d3 :: d4 :: d5 :: d6 :: d7 :: d8 :: d9 :: d10 :: d11 :: d12 :: d13 :: d14 :: d15 :: d16 :: d17 :: d18 :: d19 :: (.ptr 0 0) :: (dI a0.fKind) :: (dB v27) :: (dB v27) :: d23 :: d24 :: d25 :: d26 :: (dB v41) :: (dB v41) :: d32 :: d33 :: d34 :: d35 :: d36 :: d37 :: d38 :: d39 :: d40 :: (dB v50) :: (dB v50) :: d46 :: d47 :: d48 :: d49 :: (dB v51) :: u40 (u31 [])), [(b26_0 a0)]⟩) ?_ fun J26j52 => ?_
        · intro d46 d47 d48 d49 v50 v51 h
          unfold f26_r10 at h
          refine Ops.sg 1 27 ?_
          refine Ops.hv (fun KQ => ∀ (d55 d56 : D) (v57 : Bool) (v58 : Bool), f26_r9 m a0 v58 = some o → KQ 30 ⟨(.v (.agg [(vI a0.fKind), (vP eI a0.fLabels), (vP ep24 a0.fSubs), (vI a0.fLeast), (vI a0.fMost)])) :: (.ptr 0 0) :: (dI 0) :: (dI (a0.fSubs.length : Int)) :: (dB v1) :: u2 ((.ptr 0 2) :: (dP ep24 a0.fSubs) :: (dI (a0.fSubs.length : Int)) :: (.ptr 0 0) :: (dI a0.fKind) :: (dB v2) :: (dB (a0.fKind == 1)) :: d3 :: d4 :: d5 :: d6 :: d7 :: d8 :: d9 :: d10 :: d11 :: d12 :: d13 :: d14 :: d15 :: d16 :: d17 :: d18 :: d19 :: (.ptr 0 0) :: (dI a0.fKind) :: (dB v27) :: (dB v27) :: d23 :: d24 :: d25 :: d26 :: (dB v41) :: (dB v41) :: d32 :: d33 :: d34 :: d35 :: d36 :: d37 :: d38 :: d39 :: d40 :: (dB v50) :: (dB v50) :: d46 :: d47 :: d48 :: d49 :: (dB v57) :: (dB v57) :: d55 :: d56 :: (dB v58) :: u40 (u27 [])), [(b26_0 a0)]⟩) ?_ fun J26j59 => ?_
          · intro d55 d56 v57 v58 h
            unfold f26_r9 at h
            refine Ops.dn ?_
            refine seqQ.n ?_
            refine Wp.cnd h [1, 2] 1 (by kernel_rfl) (fun h => ?_) (fun h => ?_)
            · refine Wp.sq ?_
              refine Wp.rg ?_
              refine Ops.sg 1 1 ?_
              refine Ops.dn ?_
              refine seqQ.n ?_
              refine Wp.ret (by kernel_rfl) ?_
              refine sqQ.r ?_
              refine seqQ.r ?_
              exact fnQ.r' (X26 n) (fun z => (eI z)) h (RetOk.mk' (dI 9) (by kernel_rfl) (by kernel_rfl))
            · refine Wp.sk ?_
              refine sqQ.n' ?_
              refine seqQ.n ?_
              refine Wp.sq ?_
              refine Wp.sq ?_
              refine Wp.rg ?_
              refine Ops.sg 2 2 ?_
              refine Ops.on 3 (fun h0 e0 => (len_r (T := T) h0 22 3 .plain eI a0.fLabels (by kernel_rfl))) ?_
              refine Ops.sg 1 4 ?_
              refine Ops.dn ?_
              refine seqQ.n ?_
              refine Wp.block' 1 [1, 2] 1 (by kernel_rfl) ?_
              have hLx143 : ∀ (kx111 : Nat) (v109 : Int)  (ox110 : Int ⊕ (Int)), iter (fun (y : Int) => f26_B3 m a0 y) kx111 v109 = some ox110 → ∀ nx112, kx111 ≤ nx112 → (∀ r, ox110 = .inl r → ∀ σ, RetOk (X26 n) (resOf Proofs.Tryd.prog 26) (eI r) σ → (seqQ (X26 n) (cR (cR p26_0)) (fnQ (X26 n).E.T (resOf Proofs.Tryd.prog 26) (eI o))) .ret σ) → (∀ (y : Int) , ox110 = .inr y → (seqQ (X26 n) (cR (cR p26_0)) (fnQ (X26 n).E.T (resOf Proofs.Tryd.prog 26) (eI o))) .normal ⟨q1 ((.ptr 0 0) :: (dI 0) :: q40 (q19 ((dP eI a0.fLabels) :: (dI (a0.fLabels.length : Int)) :: (dI y) :: q40 (q23 [])))), [(b26_0 a0)]⟩) → Lp (X26 n) k26_0 1 (cL (cL (cR (cL (cR p26_0))))) nx112 ⟨q1 ((.ptr 0 0) :: (dI 0) :: q40 (q19 ((dP eI a0.fLabels) :: (dI (a0.fLabels.length : Int)) :: (dI v109) :: q40 (q23 [])))), [(b26_0 a0)]⟩ (blkQ (X26 n) 1 [1, 2] 1 (seqQ (X26 n) (cR (cR p26_0)) (fnQ (X26 n).E.T (resOf Proofs.Tryd.prog 26) (eI o)))) := by
                intro kx111
                induction kx111 with
                | zero => intro v109  ox110 h; exact (iter_zero h).elim
                | succ kx111 ihx113 =>
                  intro v109  ox110 h nx112 hnx116 hrx114 hxx115
                  obtain ⟨nx112, rfl⟩ : ∃ q, nx112 = q + 1 := ⟨nx112 - 1, by omega⟩
                  obtain ⟨sx117, h, hsx118⟩ := iter_some h
                  have h : f26_B3 m a0 v109 = some sx117 := h
                  unfold f26_B3 at h
                  refine Lp.succ ?_
                  refine Wp.sq ?_
                  refine Wp.rg ?_
                  refine Ops.sg 1 1 ?_
                  refine Ops.dn ?_
                  refine seqQ.n ?_
                  refine Wp.sq ?_
                  refine Wp.cnd h k26_0 1 (by kernel_rfl) (fun h => ?_) (fun h => ?_)
                  · refine Wp.sk ?_
                    refine sqQ.n' ?_
                    refine seqQ.n ?_
                    refine Wp.sq ?_
                    refine Wp.block' 2 k26_0 1 (by kernel_rfl) ?_
                    refine Wp.sq ?_
                    refine Wp.rg ?_
                    refine Ops.sg 1 1 ?_
                    obtain ⟨v119, ev119, h⟩ := bnd_some h
                    refine Ops.on 2 (fun h0 e0 => (ix_r (T := T) h0 22 3 1 .plain eI a0.fLabels v109 v119 ev119 (by kernel_rfl) (by kernel_rfl) (fun _ => rfl))) ?_
                    refine Ops.sg 3 5 ?_
                    refine Ops.dn ?_
                    refine seqQ.n ?_
                    refine Wp.sq ?_
                    refine Wp.sq ?_
                    refine Wp.rg ?_
                    refine Ops.sg 3 3 ?_
                    refine Ops.hv (fun KQ => ∀ (d122 d123 d124 : D) (v125 : Bool) (v126 : Bool), f26_r2 m a0 v109 v119 v126 = some sx117 → KQ 7 ⟨q1 ((.ptr 0 0) :: (dI 0) :: q2 ((dI v109) :: (dI v119) :: q40 (q15 ((dP eI a0.fLabels) :: (dI (a0.fLabels.length : Int)) :: (dI v109) :: (dB (decide (v109 < (a0.fLabels.length : Int)))) :: (dI v109) :: (.vptr [(vI v119)]) :: (dI v119) :: (dI v119) :: (dB v125) :: (dB v125) :: d122 :: d123 :: d124 :: (dB v126) :: q40 (q12 []))))), [(b26_0 a0)]⟩) ?_ fun J26j127 => ?_
                    · intro d122 d123 d124 v125 v126 h
                      unfold f26_r2 at h
                      refine Ops.dn ?_
                      refine seqQ.n ?_
                      refine Wp.cnd h [1, 2, 5, 6, 62, 63, 64] 1 (by kernel_rfl) (fun h => ?_) (fun h => ?_)
                      · refine Wp.sq ?_
                        refine Wp.rg ?_
                        refine Ops.sg 1 1 ?_
                        refine Ops.dn ?_
                        refine seqQ.n ?_
                        refine Wp.ret (by kernel_rfl) ?_
                        refine sqQ.r ?_
                        refine seqQ.r ?_
                        refine blkQ.r ?_
                        refine seqQ.r ?_
                        cases h
                        refine lpQ.r ?_
                        refine blkQ.r ?_
                        exact hrx114 _ hsx118 _ (RetOk.forget k26_0 (by kernel_rfl) (RetOk.mk' (dI 3) (by kernel_rfl) (by kernel_rfl)))
                      · refine Wp.sk ?_
                        refine sqQ.n' ?_
                        refine seqQ.n ?_
                        refine Wp.sq ?_
                        refine Wp.rg ?_
                        refine Ops.sg 3 3 ?_
                        refine Ops.hv (fun KQ => ∀ (d130 d131 d132 d133 d134 d135 d136 d137 : D) (v138 : Bool) (v139 : Bool), f26_r1 m v109 v139 = some sx117 → KQ 12 ⟨q1 ((.ptr 0 0) :: (dI 0) :: q2 ((dI v109) :: (dI v119) :: q40 (q15 ((dP eI a0.fLabels) :: (dI (a0.fLabels.length : Int)) :: (dI v109) :: (dB (decide (v109 < (a0.fLabels.length : Int)))) :: (dI v109) :: (.vptr [(vI v119)]) :: (dI v119) :: (dI v119) :: (dB v125) :: (dB v125) :: d122 :: d123 :: d124 :: (dB v126) :: (dI v109) :: (dB v138) :: (dB v138) :: d130 :: d131 :: d132 :: d133 :: d134 :: d135 :: d136 :: d137 :: (dB v139) :: q40 [])))), [(b26_0 a0)]⟩) ?_ fun J26j140 => ?_
                        · intro d130 d131 d132 d133 d134 d135 d136 d137 v138 v139 h
                          unfold f26_r1 at h
                          refine Ops.dn ?_
                          refine seqQ.n ?_
                          refine Wp.cnd h k26_0 1 (by kernel_rfl) (fun h => ?_) (fun h => ?_)
                          · refine Wp.sq ?_
                            refine Wp.rg ?_
                            refine Ops.sg 1 1 ?_
                            refine Ops.dn ?_
                            refine seqQ.n ?_
                            refine Wp.ret (by kernel_rfl) ?_
                            refine sqQ.r ?_
                            refine blkQ.r ?_
                            refine seqQ.r ?_
                            cases h
                            refine lpQ.r ?_
                            refine blkQ.r ?_
                            exact hrx114 _ hsx118 _ (RetOk.forget k26_0 (by kernel_rfl) (RetOk.mk' (dI 13) (by kernel_rfl) (by kernel_rfl)))
                          · refine Wp.sk ?_
                            refine sqQ.n' ?_
                            refine blkQ.n' ?_
                            refine seqQ.n ?_
                            refine Wp.rg ?_
                            refine Ops.sg 2 2 ?_
                            refine Ops.dn ?_
                            refine lpQ.n ⟨q1 ((.ptr 0 0) :: (dI 0) :: q40 (q19 ((dP eI a0.fLabels) :: (dI (a0.fLabels.length : Int)) :: (dI (w64 (v109 + 1))) :: q40 (q23 [])))), [(b26_0 a0)]⟩ (by kernel_rfl) ?_
                            cases h
                            exact ihx113 (w64 (v109 + 1))  _ hsx118 _ (by omega) hrx114 hxx115
                        obtain ⟨v139, ev139, h⟩ := bnd_some h
                        refine Ops.hv (fun KQ => ∀ v128 : Bool, (cnd v128 (bnd (idx a0.fLabels (w64 (v109 - 1))) fun v141 => some (decide (v141 ≥ v119))) (some false)) = some v139 → KQ 3 ⟨q1 ((.ptr 0 0) :: (dI 0) :: q2 ((dI v109) :: (dI v119) :: q40 (q15 ((dP eI a0.fLabels) :: (dI (a0.fLabels.length : Int)) :: (dI v109) :: (dB (decide (v109 < (a0.fLabels.length : Int)))) :: (dI v109) :: (.vptr [(vI v119)]) :: (dI v119) :: (dI v119) :: (dB v125) :: (dB v125) :: d122 :: d123 :: d124 :: (dB v126) :: (dI v109) :: (dB v128) :: (dB v128) :: q40 (q9 []))))), [(b26_0 a0)]⟩) ?_ fun G26g129 => Ops.st _ (by kernel_rfl) (G26g129 (decide (v109 > 0)) ev139)
                        intro v128 ev139
                        cases v128
                        · have ev139 := cnd_f ev139
                          refine Ops.sg 9 12 ?_
                          exact Ops.st _ (by kernel_rfl) (J26j140 U U U U U U U U false false (some_sub (fun v139 => f26_r1 m v109 v139 = some sx117) ev139 h))
                        · have ev139 := cnd_t ev139
                          refine Ops.sg 4 7 ?_
                          obtain ⟨v141, ev141, ev139⟩ := bnd_some ev139
                          refine Ops.on 8 (fun h0 e0 => (ix_r (T := T) h0 22 3 1 .plain eI a0.fLabels (w64 (v109 - 1)) v141 ev141 (by kernel_rfl) (by kernel_rfl) (fun _ => rfl))) ?_
                          refine Ops.sg 4 12 ?_
                          exact Ops.st _ (by kernel_rfl) (J26j140 (.ptr 0 1) (dP eI a0.fLabels) (dI v109) (dI (w64 (v109 - 1))) (.vptr [(vI v141)]) (dI v141) (dI v119) (dB (decide (v141 ≥ v119))) true (decide (v141 ≥ v119)) (some_sub (fun v139 => f26_r1 m v109 v139 = some sx117) ev139 h))
                    obtain ⟨v126, ev126, h⟩ := bnd_some h
                    refine Ops.hv (fun KQ => ∀ v120 : Bool, (cnd v120 (some true) (bnd (f42 m v119) fun v142 => some (!v142))) = some v126 → KQ 3 ⟨q1 ((.ptr 0 0) :: (dI 0) :: q2 ((dI v109) :: (dI v119) :: q40 (q15 ((dP eI a0.fLabels) :: (dI (a0.fLabels.length : Int)) :: (dI v109) :: (dB (decide (v109 < (a0.fLabels.length : Int)))) :: (dI v109) :: (.vptr [(vI v119)]) :: (dI v119) :: (dI v119) :: (dB v120) :: (dB v120) :: q40 (q16 []))))), [(b26_0 a0)]⟩) ?_ fun G26g121 => Ops.st _ (by kernel_rfl) (G26g121 (decide (v119 < 1)) ev126)
                    intro v120 ev126
                    cases v120
                    · have ev126 := cnd_f ev126
                      refine Ops.sg 1 4 ?_
                      obtain ⟨v142, ev142, ev126⟩ := bnd_some ev126
                      refine Ops.on 5 (fun h0 e0 => (call_ok (E' := E) (h := h0) (by kernel_rfl) (Args.v (vI v119) (eI v119) (by kernel_rfl) Args.nil) (ok42 m v119 v142 ev142 n (by omega)))) ?_
                      refine Ops.sg 2 7 ?_
                      exact Ops.st _ (by kernel_rfl) (J26j127 (dI v119) (dB v142) (dB (!v142)) false (!v142) (some_sub (fun v126 => f26_r2 m a0 v109 v119 v126 = some sx117) ev126 h))
                    · have ev126 := cnd_t ev126
                      refine Ops.sg 4 7 ?_
                      exact Ops.st _ (by kernel_rfl) (J26j127 U U U true true (some_sub (fun v126 => f26_r2 m a0 v109 v119 v126 = some sx117) ev126 h))
                  · refine Wp.exit (id := 1) (by kernel_rfl) ?_
                    refine sqQ.x ?_
                    refine seqQ.x ?_
                    cases h
                    refine lpQ.x ?_
                    refine blkQ.x ⟨q1 ((.ptr 0 0) :: (dI 0) :: q40 (q19 ((dP eI a0.fLabels) :: (dI (a0.fLabels.length : Int)) :: (dI v109) :: q40 (q23 [])))), [(b26_0 a0)]⟩ (by kernel_rfl) ?_
                    exact hxx115 v109  hsx118
              refine Wp.loop' k26_0 1 (by kernel_rfl) ⟨q1 ((.ptr 0 0) :: (dI 0) :: q40 (q19 ((dP eI a0.fLabels) :: (dI (a0.fLabels.length : Int)) :: (dI 0) :: q40 (q23 [])))), [(b26_0 a0)]⟩ (by kernel_rfl) ?_
              rcases brk_some h with ⟨r145, er145, h⟩ | ⟨y144, ey144, h⟩
              · refine hLx143 _ 0  _ er145 n (by omega) (fun r er σ hσ => ?_) (fun y  ey => by cases ey)
                cases er
                refine seqQ.r ?_
                exact fnQ.r' (X26 n) (fun z => (eI z)) h hσ
              · refine hLx143 _ 0  _ ey144 n (by omega) (fun r er => by cases er) (fun y  ey => ?_)
                cases ey
                refine seqQ.n ?_
                refine Wp.sq ?_
                refine Wp.sq ?_
                refine Wp.rg ?_
                refine Ops.sg 3 3 ?_
                refine Ops.dn ?_
                refine seqQ.n ?_
                refine Wp.cnd h [1, 2] 1 (by kernel_rfl) (fun h => ?_) (fun h => ?_)
                · refine Wp.sq ?_
                  refine Wp.sq ?_
                  refine Wp.rg ?_
                  refine Ops.sg 4 4 ?_
                  refine Ops.hv (fun KQ => ∀ (d148 d149 d150 : D) (v151 : Bool) (v152 : Bool), f26_r4 m v152 = some o → KQ 8 ⟨q1 ((.ptr 0 0) :: (dI 0) :: q40 (q19 ((dP eI a0.fLabels) :: (dI (a0.fLabels.length : Int)) :: (dI y144) :: q24 ((.ptr 0 0) :: (dI a0.fKind) :: (dB (a0.fKind != 5)) :: (.ptr 0 3) :: (dI a0.fLeast) :: (dB v151) :: (dB v151) :: d148 :: d149 :: d150 :: (dB v152) :: q28 [])))), [(b26_0 a0)]⟩) ?_ fun J26j153 => ?_
                  · intro d148 d149 d150 v151 v152 h
                    unfold f26_r4 at h
                    refine Ops.dn ?_
                    refine seqQ.n ?_
                    refine Wp.cnd h [2] 1 (by kernel_rfl) (fun h => ?_) (fun h => ?_)
                    · refine Wp.sq ?_
                      refine Wp.rg ?_
                      refine Ops.sg 1 1 ?_
                      refine Ops.dn ?_
                      refine seqQ.n ?_
                      refine Wp.ret (by kernel_rfl) ?_
                      refine sqQ.r ?_
                      refine seqQ.r ?_
                      refine sqQ.r ?_
                      refine seqQ.r ?_
                      exact fnQ.r' (X26 n) (fun z => (eI z)) h (RetOk.mk' (dI 5) (by kernel_rfl) (by kernel_rfl))
                    · refine Wp.sk ?_
                      refine sqQ.n' ?_
                      refine seqQ.n ?_
                      refine Wp.sq ?_
                      refine Wp.rg ?_
                      refine Ops.sg 1 1 ?_
                      refine Ops.dn ?_
                      refine seqQ.n ?_
                      refine Wp.ret (by kernel_rfl) ?_
                      refine sqQ.r ?_
                      refine seqQ.r ?_
                      exact fnQ.r' (X26 n) (fun z => (eI z)) h (RetOk.mk' (dI 0) (by kernel_rfl) (by kernel_rfl))
                  refine Ops.hv (fun KQ => ∀ v146 : Bool, f26_r4 m (v146 || (a0.fMost != 0)) = some o → KQ 4 ⟨q1 ((.ptr 0 0) :: (dI 0) :: q40 (q19 ((dP eI a0.fLabels) :: (dI (a0.fLabels.length : Int)) :: (dI y144) :: q24 ((.ptr 0 0) :: (dI a0.fKind) :: (dB (a0.fKind != 5)) :: (.ptr 0 3) :: (dI a0.fLeast) :: (dB v146) :: (dB v146) :: q32 [])))), [(b26_0 a0)]⟩) ?_ fun G26g147 => Ops.st _ (by kernel_rfl) (G26g147 (a0.fLeast != 0) h)
                  intro v146 h
                  cases v146
                  · refine Ops.sg 4 8 ?_
                    exact Ops.st _ (by kernel_rfl) (J26j153 (.ptr 0 4) (dI a0.fMost) (dB (a0.fMost != 0)) false (a0.fMost != 0) h)
                  · refine Ops.sg 4 8 ?_
                    exact Ops.st _ (by kernel_rfl) (J26j153 U U U true true h)
                · refine Wp.sk ?_
                  refine sqQ.n' ?_
                  refine seqQ.n ?_
                  refine Wp.sq ?_
                  refine Wp.sq ?_
                  refine Wp.rg ?_
                  refine Ops.sg 4 4 ?_
                  refine Ops.hv (fun KQ => ∀ (d156 d157 d158 : D) (v159 : Bool) (v160 : Bool), f26_r8 m a0 v160 = some o → KQ 8 ⟨q1 ((.ptr 0 0) :: (dI 0) :: q40 (q19 ((dP eI a0.fLabels) :: (dI (a0.fLabels.length : Int)) :: (dI y144) :: q24 ((.ptr 0 0) :: (dI a0.fKind) :: (dB (a0.fKind != 5)) :: q8 ((.ptr 0 3) :: (dI a0.fLeast) :: (dB v159) :: (dB v159) :: d156 :: d157 :: d158 :: (dB v160) :: q20 []))))), [(b26_0 a0)]⟩) ?_ fun J26j161 => ?_
                  · intro d156 d157 d158 v159 v160 h
                    unfold f26_r8 at h
                    refine Ops.sg 1 9 ?_
                    refine Ops.hv (fun KQ => ∀ (d164 d165 d166 : D) (v167 : Bool) (v168 : Bool), f26_r7 m a0 v168 = some o → KQ 13 ⟨q1 ((.ptr 0 0) :: (dI 0) :: q40 (q19 ((dP eI a0.fLabels) :: (dI (a0.fLabels.length : Int)) :: (dI y144) :: q24 ((.ptr 0 0) :: (dI a0.fKind) :: (dB (a0.fKind != 5)) :: q8 ((.ptr 0 3) :: (dI a0.fLeast) :: (dB v159) :: (dB v159) :: d156 :: d157 :: d158 :: (dB v167) :: (dB v167) :: d164 :: d165 :: d166 :: (dB v168) :: q15 []))))), [(b26_0 a0)]⟩) ?_ fun J26j169 => ?_
                    · intro d164 d165 d166 v167 v168 h
                      unfold f26_r7 at h
                      refine Ops.sg 1 14 ?_
                      refine Ops.hv (fun KQ => ∀ (d172 d173 d174 : D) (v175 : Bool) (v176 : Bool), f26_r6 m a0 v176 = some o → KQ 18 ⟨q1 ((.ptr 0 0) :: (dI 0) :: q40 (q19 ((dP eI a0.fLabels) :: (dI (a0.fLabels.length : Int)) :: (dI y144) :: q24 ((.ptr 0 0) :: (dI a0.fKind) :: (dB (a0.fKind != 5)) :: q8 ((.ptr 0 3) :: (dI a0.fLeast) :: (dB v159) :: (dB v159) :: d156 :: d157 :: d158 :: (dB v167) :: (dB v167) :: d164 :: d165 :: d166 :: (dB v175) :: (dB v175) :: d172 :: d173 :: d174 :: (dB v176) :: q10 []))))), [(b26_0 a0)]⟩) ?_ fun J26j177 => ?_
                      · intro d172 d173 d174 v175 v176 h
                        unfold f26_r6 at h
                        refine Ops.dn ?_
                        refine seqQ.n ?_
                        refine Wp.cnd h [1, 2] 1 (by kernel_rfl) (fun h => ?_) (fun h => ?_)
                        · refine Wp.sq ?_
                          refine Wp.rg ?_
                          refine Ops.sg 1 1 ?_
                          refine Ops.dn ?_
                          refine seqQ.n ?_
                          refine Wp.ret (by kernel_rfl) ?_
                          refine sqQ.r ?_
                          refine seqQ.r ?_
                          exact fnQ.r' (X26 n) (fun z => (eI z)) h (RetOk.mk' (dI 3) (by kernel_rfl) (by kernel_rfl))
                        · refine Wp.sk ?_
                          refine sqQ.n' ?_
                          refine seqQ.n ?_
                          refine Wp.sq ?_
                          refine Wp.sq ?_
                          refine Wp.rg ?_
                          refine Ops.sg 4 4 ?_
                          refine Ops.hv (fun KQ => ∀ (d180 d181 d182 d183 d184 : D) (v185 : Bool) (v186 : Bool), f26_r5 m v186 = some o → KQ 10 ⟨q1 ((.ptr 0 0) :: (dI 0) :: q40 (q19 ((dP eI a0.fLabels) :: (dI (a0.fLabels.length : Int)) :: (dI y144) :: q24 ((.ptr 0 0) :: (dI a0.fKind) :: (dB (a0.fKind != 5)) :: q8 ((.ptr 0 3) :: (dI a0.fLeast) :: (dB v159) :: (dB v159) :: d156 :: d157 :: d158 :: (dB v167) :: (dB v167) :: d164 :: d165 :: d166 :: (dB v175) :: (dB v175) :: d172 :: d173 :: d174 :: (dB v176) :: (.ptr 0 4) :: (dI a0.fMost) :: (dB v185) :: (dB v185) :: d180 :: d181 :: d182 :: d183 :: d184 :: (dB v186) :: []))))), [(b26_0 a0)]⟩) ?_ fun J26j187 => ?_
                          · intro d180 d181 d182 d183 d184 v185 v186 h
                            unfold f26_r5 at h
                            refine Ops.dn ?_
                            refine seqQ.n ?_
                            refine Wp.cnd h [2] 1 (by kernel_rfl) (fun h => ?_) (fun h => ?_)
                            · refine Wp.sq ?_
                              refine Wp.rg ?_
                              refine Ops.sg 1 1 ?_
                              refine Ops.dn ?_
                              refine seqQ.n ?_
                              refine Wp.ret (by kernel_rfl) ?_
                              refine sqQ.r ?_
                              refine seqQ.r ?_
                              exact fnQ.r' (X26 n) (fun z => (eI z)) h (RetOk.mk' (dI 13) (by kernel_rfl) (by kernel_rfl))
                            · refine Wp.sk ?_
                              refine sqQ.n' ?_
                              refine seqQ.n ?_
                              refine Wp.sq ?_
                              refine Wp.rg ?_
                              refine Ops.sg 1 1 ?_
                              refine Ops.dn ?_
                              refine seqQ.n ?_
                              refine Wp.ret (by kernel_rfl) ?_
                              exact fnQ.r' (X26 n) (fun z => (eI z)) h (RetOk.mk' (dI 0) (by kernel_rfl) (by kernel_rfl))
                          refine Ops.hv (fun KQ => ∀ v178 : Bool, f26_r5 m (v178 && (decide (a0.fMost < a0.fLeast))) = some o → KQ 4 ⟨q1 ((.ptr 0 0) :: (dI 0) :: q40 (q19 ((dP eI a0.fLabels) :: (dI (a0.fLabels.length : Int)) :: (dI y144) :: q24 ((.ptr 0 0) :: (dI a0.fKind) :: (dB (a0.fKind != 5)) :: q8 ((.ptr 0 3) :: (dI a0.fLeast) :: (dB v159) :: (dB v159) :: d156 :: d157 :: d158 :: (dB v167) :: (dB v167) :: d164 :: d165 :: d166 :: (dB v175) :: (dB v175) :: d172 :: d173 :: d174 :: (dB v176) :: (.ptr 0 4) :: (dI a0.fMost) :: (dB v178) :: (dB v178) :: q6 []))))), [(b26_0 a0)]⟩) ?_ fun G26g179 => Ops.st _ (by kernel_rfl) (G26g179 (a0.fMost != (-1)) h)
                          intro v178 h
                          cases v178
                          · refine Ops.sg 6 10 ?_
                            exact Ops.st _ (by kernel_rfl) (J26j187 U U U U U false false h)
                          · refine Ops.sg 6 10 ?_
                            exact Ops.st _ (by kernel_rfl) (J26j187 (.ptr 0 4) (dI a0.fMost) (.ptr 0 3) (dI a0.fLeast) (dB (decide (a0.fMost < a0.fLeast))) true (decide (a0.fMost < a0.fLeast)) h)
                      refine Ops.hv (fun KQ => ∀ v170 : Bool, f26_r6 m a0 (v170 || (decide (a0.fMost > 9))) = some o → KQ 14 ⟨q1 ((.ptr 0 0) :: (dI 0) :: q40 (q19 ((dP eI a0.fLabels) :: (dI (a0.fLabels.length : Int)) :: (dI y144) :: q24 ((.ptr 0 0) :: (dI a0.fKind) :: (dB (a0.fKind != 5)) :: q8 ((.ptr 0 3) :: (dI a0.fLeast) :: (dB v159) :: (dB v159) :: d156 :: d157 :: d158 :: (dB v167) :: (dB v167) :: d164 :: d165 :: d166 :: (dB v170) :: (dB v170) :: q14 []))))), [(b26_0 a0)]⟩) ?_ fun G26g171 => Ops.st _ (by kernel_rfl) (G26g171 v168 h)
                      intro v170 h
                      cases v170
                      · refine Ops.sg 4 18 ?_
                        exact Ops.st _ (by kernel_rfl) (J26j177 (.ptr 0 4) (dI a0.fMost) (dB (decide (a0.fMost > 9))) false (decide (a0.fMost > 9)) h)
                      · refine Ops.sg 4 18 ?_
                        exact Ops.st _ (by kernel_rfl) (J26j177 U U U true true h)
                    refine Ops.hv (fun KQ => ∀ v162 : Bool, f26_r7 m a0 (v162 || (decide (a0.fMost < (-1)))) = some o → KQ 9 ⟨q1 ((.ptr 0 0) :: (dI 0) :: q40 (q19 ((dP eI a0.fLabels) :: (dI (a0.fLabels.length : Int)) :: (dI y144) :: q24 ((.ptr 0 0) :: (dI a0.fKind) :: (dB (a0.fKind != 5)) :: q8 ((.ptr 0 3) :: (dI a0.fLeast) :: (dB v159) :: (dB v159) :: d156 :: d157 :: d158 :: (dB v162) :: (dB v162) :: q19 []))))), [(b26_0 a0)]⟩) ?_ fun G26g163 => Ops.st _ (by kernel_rfl) (G26g163 v160 h)
                    intro v162 h
                    cases v162
                    · refine Ops.sg 4 13 ?_
                      exact Ops.st _ (by kernel_rfl) (J26j169 (.ptr 0 4) (dI a0.fMost) (dB (decide (a0.fMost < (-1)))) false (decide (a0.fMost < (-1))) h)
                    · refine Ops.sg 4 13 ?_
                      exact Ops.st _ (by kernel_rfl) (J26j169 U U U true true h)
                  refine Ops.hv (fun KQ => ∀ v154 : Bool, f26_r8 m a0 (v154 || (decide (a0.fLeast > 9))) = some o → KQ 4 ⟨q1 ((.ptr 0 0) :: (dI 0) :: q40 (q19 ((dP eI a0.fLabels) :: (dI (a0.fLabels.length : Int)) :: (dI y144) :: q24 ((.ptr 0 0) :: (dI a0.fKind) :: (dB (a0.fKind != 5)) :: q8 ((.ptr 0 3) :: (dI a0.fLeast) :: (dB v154) :: (dB v154) :: q24 []))))), [(b26_0 a0)]⟩) ?_ fun G26g155 => Ops.st _ (by kernel_rfl) (G26g155 (decide (a0.fLeast < 0)) h)
                  intro v154 h
                  cases v154
                  · refine Ops.sg 4 8 ?_
                    exact Ops.st _ (by kernel_rfl) (J26j161 (.ptr 0 3) (dI a0.fLeast) (dB (decide (a0.fLeast > 9))) false (decide (a0.fLeast > 9)) h)
                  · refine Ops.sg 4 8 ?_
                    exact Ops.st _ (by kernel_rfl) (J26j161 U U U true true h)
          refine Ops.hv (fun KQ => ∀ v53 : Bool, f26_r9 m a0 (v53 || (!v1)) = some o → KQ 27 ⟨(.v (.agg [(vI a0.fKind), (vP eI a0.fLabels), (vP ep24 a0.fSubs), (vI a0.fLeast), (vI a0.fMost)])) :: (.ptr 0 0) :: (dI 0) :: (dI (a0.fSubs.length : Int)) :: (dB v1) :: u2 ((.ptr 0 2) :: (dP ep24 a0.fSubs) :: (dI (a0.fSubs.length : Int)) :: (.ptr 0 0) :: (dI a0.fKind) :: (dB v2) :: (dB (a0.fKind == 1)) :: d3 :: d4 :: d5 :: d6 :: d7 :: d8 :: d9 :: d10 :: d11 :: d12 :: d13 :: d14 :: d15 :: d16 :: d17 :: d18 :: d19 :: (.ptr 0 0) :: (dI a0.fKind) :: (dB v27) :: (dB v27) :: d23 :: d24 :: d25 :: d26 :: (dB v41) :: (dB v41) :: d32 :: d33 :: d34 :: d35 :: d36 :: d37 :: d38 :: d39 :: d40 :: (dB v50) :: (dB v50) :: d46 :: d47 :: d48 :: d49 :: (dB v53) :: (dB v53) :: u40 (u30 [])), [(b26_0 a0)]⟩) ?_ fun G26g54 => Ops.st _ (by kernel_rfl) (G26g54 v51 h)
          intro v53 h
          cases v53
          · refine Ops.sg 3 30 ?_
            exact Ops.st _ (by kernel_rfl) (J26j59 (dB v1) (dB (!v1)) false (!v1) h)
          · refine Ops.sg 3 30 ?_
            exact Ops.st _ (by kernel_rfl) (J26j59 U U true true h)
        refine Ops.hv (fun KQ => ∀ v44 : Bool, f26_r10 m a0 v1 (v44 || (decide ((a0.fLabels.length : Int) > 300))) = some o → KQ 21 ⟨(.v (.agg [(vI a0.fKind), (vP eI a0.fLabels), (vP ep24 a0.fSubs), (vI a0.fLeast), (vI a0.fMost)])) :: (.ptr 0 0) :: (dI 0) :: (dI (a0.fSubs.length : Int)) :: (dB v1) :: u2 ((.ptr 0 2) :: (dP ep24 a0.fSubs) :: (dI (a0.fSubs.length : Int)) :: (.ptr 0 0) :: (dI a0.fKind) :: (dB v2) :: (dB (a0.fKind == 1)) :: d3 :: d4 :: d5 :: d6 :: d7 :: d8 :: d9 :: d10 :: d11 :: d12 :: d13 :: d14 :: d15 :: d16 :: d17 :: d18 :: d19 :: (.ptr 0 0) :: (dI a0.fKind) :: (dB v27) :: (dB v27) :: d23 :: d24 :: d25 :: d26 :: (dB v41) :: (dB v41) :: d32 :: d33 :: d34 :: d35 :: d36 :: d37 :: d38 :: d39 :: d40 :: (dB v44) :: (dB v44) :: u40 (u36 [])), [(b26_0 a0)]⟩) ?_ fun G26g45 => Ops.st _ (by kernel_rfl) (G26g45 v42 h)
        intro v44 h
        cases v44
        · refine Ops.sg 2 23 ?_
          refine Ops.on 24 (fun h0 e0 => (len_r (T := T) h0 22 3 .plain eI a0.fLabels (by kernel_rfl))) ?_
          refine Ops.sg 2 26 ?_
          exact Ops.st _ (by kernel_rfl) (J26j52 (.ptr 0 1) (dP eI a0.fLabels) (dI (a0.fLabels.length : Int)) (dB (decide ((a0.fLabels.length : Int) > 300))) false (decide ((a0.fLabels.length : Int) > 300)) h)
        · refine Ops.sg 5 26 ?_
          exact Ops.st _ (by kernel_rfl) (J26j52 U U U U true true h)
      refine Ops.hv (fun KQ => ∀ v30 : Bool, f26_r11 m a0 v1 (v30 || ((a0.fKind != 2) && (decide ((a0.fLabels.length : Int) > 0)))) = some o → KQ 10 ⟨(.v (.agg [(vI a0.fKind), (vP eI a0.fLabels), (vP ep24 a0.fSubs), (vI a0.fLeast), (vI a0.fMost)])) :: (.ptr 0 0) :: (dI 0) :: (dI (a0.fSubs.length : Int)) :: (dB v1) :: u2 ((.ptr 0 2) :: (dP ep24 a0.fSubs) :: (dI (a0.fSubs.length : Int)) :: (.ptr 0 0) :: (dI a0.fKind) :: (dB v2) :: (dB (a0.fKind == 1)) :: d3 :: d4 :: d5 :: d6 :: d7 :: d8 :: d9 :: d10 :: d11 :: d12 :: d13 :: d14 :: d15 :: d16 :: d17 :: d18 :: d19 :: (.ptr 0 0) :: (dI a0.fKind) :: (dB v27) :: (dB v27) :: d23 :: d24 :: d25 :: d26 :: (dB v30) :: (dB v30) :: u40 (u40 (u7 []))), [(b26_0 a0)]⟩) ?_ fun G26g31 => Ops.st _ (by kernel_rfl) (G26g31 v28 h)
      intro v30 h
      cases v30
      · refine Ops.sg 4 14 ?_
        refine Ops.hv (fun KQ => ∀ v188 : Bool, (f26_r11 m a0 v1 (false || (v188 && (decide ((a0.fLabels.length : Int) > 0))))) = some o → KQ 14 ⟨(.v (.agg [(vI a0.fKind), (vP eI a0.fLabels), (vP ep24 a0.fSubs), (vI a0.fLeast), (vI a0.fMost)])) :: (.ptr 0 0) :: (dI 0) :: (dI (a0.fSubs.length : Int)) :: (dB v1) :: u2 ((.ptr 0 2) :: (dP ep24 a0.fSubs) :: (dI (a0.fSubs.length : Int)) :: (.ptr 0 0) :: (dI a0.fKind) :: (dB v2) :: (dB (a0.fKind == 1)) :: d3 :: d4 :: d5 :: d6 :: d7 :: d8 :: d9 :: d10 :: d11 :: d12 :: d13 :: d14 :: d15 :: d16 :: d17 :: d18 :: d19 :: (.ptr 0 0) :: (dI a0.fKind) :: (dB v27) :: (dB v27) :: d23 :: d24 :: d25 :: d26 :: (dB false) :: (dB false) :: (.ptr 0 0) :: (dI a0.fKind) :: (dB v188) :: (dB v188) :: u40 (u40 (u3 []))), [(b26_0 a0)]⟩) ?_ fun G26g189 => Ops.st _ (by kernel_rfl) (G26g189 (a0.fKind != 2) h)
        intro v188 h
        cases v188
        · refine Ops.sg 6 20 ?_
          exact Ops.st _ (by kernel_rfl) (J26j43 (.ptr 0 0) (dI a0.fKind) (dB false) (dB false) U U U U (dB false) false false h)
        · refine Ops.sg 2 16 ?_
          refine Ops.on 17 (fun h0 e0 => (len_r (T := T) h0 22 3 .plain eI a0.fLabels (by kernel_rfl))) ?_
          refine Ops.sg 3 20 ?_
          exact Ops.st _ (by kernel_rfl) (J26j43 (.ptr 0 0) (dI a0.fKind) (dB true) (dB true) (.ptr 0 1) (dP eI a0.fLabels) (dI (a0.fLabels.length : Int)) (dB (decide ((a0.fLabels.length : Int) > 0))) (dB (decide ((a0.fLabels.length : Int) > 0))) false (decide ((a0.fLabels.length : Int) > 0)) h)
      · refine Ops.sg 10 20 ?_
        exact Ops.st _ (by kernel_rfl) (J26j43 U U U U U U U U U true true h)
    refine Ops.hv (fun KQ => ∀ v21 : Bool, f26_r12 m a0 v1 (v21 && ((a0.fLabels.length : Int) == 0)) = some o → KQ 4 ⟨(.v (.agg [(vI a0.fKind), (vP eI a0.fLabels), (vP ep24 a0.fSubs), (vI a0.fLeast), (vI a0.fMost)])) :: (.ptr 0 0) :: (dI 0) :: (dI (a0.fSubs.length : Int)) :: (dB v1) :: u2 ((.ptr 0 2) :: (dP ep24 a0.fSubs) :: (dI (a0.fSubs.length : Int)) :: (.ptr 0 0) :: (dI a0.fKind) :: (dB v2) :: (dB (a0.fKind == 1)) :: d3 :: d4 :: d5 :: d6 :: d7 :: d8 :: d9 :: d10 :: d11 :: d12 :: d13 :: d14 :: d15 :: d16 :: d17 :: d18 :: d19 :: (.ptr 0 0) :: (dI a0.fKind) :: (dB v21) :: (dB v21) :: u40 (u40 (u13 []))), [(b26_0 a0)]⟩) ?_ fun G26g22 => Ops.st _ (by kernel_rfl) (G26g22 (a0.fKind == 2) h)
    intro v21 h
    cases v21
    · refine Ops.sg 5 9 ?_
      exact Ops.st _ (by kernel_rfl) (J26j29 U U U U false false h)
    · refine Ops.sg 2 6 ?_
      refine Ops.on 7 (fun h0 e0 => (len_r (T := T) h0 22 3 .plain eI a0.fLabels (by kernel_rfl))) ?_
      refine Ops.sg 2 9 ?_
      exact Ops.st _ (by kernel_rfl) (J26j29 (.ptr 0 1) (dP eI a0.fLabels) (dI (a0.fLabels.length : Int)) (dB ((a0.fLabels.length : Int) == 0)) true ((a0.fLabels.length : Int) == 0) h)
  refine Wp.block' 0 [1, 2, 4] 1 (by kernel_rfl) ?_
  refine Wp.sq ?_
  refine Wp.sq ?_
  refine Wp.rg ?_
  refine Ops.sg 2 2 ?_
  refine Ops.dn ?_
  refine seqQ.n ?_
  have J26j192 : ∀ (v190 : Bool) (d191 : D), f26_j19 m a0 v190 = some o → (seqQ (X26 n) (cR (cL (cR (cL (cR (cR (cR C26))))))) (blkQ (X26 n) 0 [1, 2, 4] 1 (seqQ (X26 n) p26_0 (fnQ (X26 n).E.T (resOf Proofs.Tryd.prog 26) (eI o))))) .normal ⟨(.v (.agg [(vI a0.fKind), (vP eI a0.fLabels), (vP ep24 a0.fSubs), (vI a0.fLeast), (vI a0.fMost)])) :: (.ptr 0 0) :: (dI 0) :: (dI (a0.fSubs.length : Int)) :: (dB false) :: u2 ((.ptr 0 2) :: (dP ep24 a0.fSubs) :: (dI (a0.fSubs.length : Int)) :: (.ptr 0 0) :: (dI a0.fKind) :: (dB v190) :: (dB (a0.fKind == 1)) :: d191 :: u40 (u40 (u33 []))), [(b26_0 a0)]⟩ := by
    intro v190 d191 h
    unfold f26_j19 at h
    refine seqQ.n ?_
    have J26j211 : ∀ (v193 : Bool) (d194 : D) (d195 : D) (d196 : D) (d197 : D) (d198 : D) (d199 : D) (d200 : D) (d201 : D) (d202 : D) (d203 : D) (d204 : D) (d205 : D) (d206 : D) (d207 : D) (d208 : D) (d209 : D) (d210 : D), f26_j14 m a0 v190 v193 = some o → (blkQ (X26 n) 0 [1, 2, 4] 1 (seqQ (X26 n) p26_0 (fnQ (X26 n).E.T (resOf Proofs.Tryd.prog 26) (eI o)))) .normal ⟨(.v (.agg [(vI a0.fKind), (vP eI a0.fLabels), (vP ep24 a0.fSubs), (vI a0.fLeast), (vI a0.fMost)])) :: (.ptr 0 0) :: (dI 0) :: (dI (a0.fSubs.length : Int)) :: (dB v193) :: u2 ((.ptr 0 2) :: (dP ep24 a0.fSubs) :: (dI (a0.fSubs.length : Int)) :: (.ptr 0 0) :: (dI a0.fKind) :: (dB v190) :: (dB (a0.fKind == 1)) :: d194 :: d195 :: d196 :: d197 :: d198 :: d199 :: d200 :: d201 :: d202 :: d203 :: d204 :: d205 :: d206 :: d207 :: d208 :: d209 :: d210 :: u40 (u40 (u17 []))), [(b26_0 a0)]⟩ := by
      intro v193 d194 d195 d196 d197 d198 d199 d200 d201 d202 d203 d204 d205 d206 d207 d208 d209 d210 h
      unfold f26_j14 at h
      refine blkQ.n ⟨(.v (.agg [(vI a0.fKind), (vP eI a0.fLabels), (vP ep24 a0.fSubs), (vI a0.fLeast), (vI a0.fMost)])) :: (.ptr 0 0) :: (dI 0) :: (dI (a0.fSubs.length : Int)) :: (dB v193) :: u2 ((.ptr 0 2) :: (dP ep24 a0.fSubs) :: (dI (a0.fSubs.length : Int)) :: (.ptr 0 0) :: (dI a0.fKind) :: (dB v190) :: (dB (a0.fKind == 1)) :: d194 :: d195 :: d196 :: d197 :: d198 :: d199 :: d200 :: d201 :: d202 :: d203 :: d204 :: d205 :: d206 :: d207 :: d208 :: d209 :: d210 :: u40 (u40 (u17 []))), [(b26_0 a0)]⟩ (by kernel_rfl) ?_
      exact J26j20 v193 v190 _ _ _ _ _ _ _ _ _ _ _ _ _ _ _ _ _ h
    refine Wp.cnd h k26_1 1 (by kernel_rfl) (fun h => ?_) (fun h => ?_)
    · refine Wp.rg ?_
      refine Ops.sg 3 3 ?_
      refine Ops.dn ?_
      refine sqQ.n ⟨(.v (.agg [(vI a0.fKind), (vP eI a0.fLabels), (vP ep24 a0.fSubs), (vI a0.fLeast), (vI a0.fMost)])) :: (.ptr 0 0) :: (dI 0) :: (dI (a0.fSubs.length : Int)) :: (dB ((a0.fSubs.length : Int) == 0)) :: u2 ((.ptr 0 2) :: (dP ep24 a0.fSubs) :: (dI (a0.fSubs.length : Int)) :: (.ptr 0 0) :: (dI a0.fKind) :: (dB v190) :: (dB (a0.fKind == 1)) :: d191 :: (dI (a0.fSubs.length : Int)) :: (dB ((a0.fSubs.length : Int) == 0)) :: u40 (u40 (u31 []))), [(b26_0 a0)]⟩ (by kernel_rfl) ?_
      exact J26j211 ((a0.fSubs.length : Int) == 0) _ _ _ _ _ _ _ _ _ _ _ _ _ _ _ _ _ h
    · refine Wp.sq ?_
      refine Wp.sq ?_
      refine Wp.rg ?_
      refine Ops.sg 2 2 ?_
      refine Ops.dn ?_
      refine seqQ.n ?_
      have J26j215 : ∀ (v213 : Bool) (d212 : D) (d214 : D), f26_j18 m a0 v190 v213 = some o → (seqQ (X26 n) (cR (cR (cR (cL (cR (cL (cR (cR (cR C26))))))))) (sqQ (X26 n) k26_1 1 (blkQ (X26 n) 0 [1, 2, 4] 1 (seqQ (X26 n) p26_0 (fnQ (X26 n).E.T (resOf Proofs.Tryd.prog 26) (eI o)))))) .normal ⟨(.v (.agg [(vI a0.fKind), (vP eI a0.fLabels), (vP ep24 a0.fSubs), (vI a0.fLeast), (vI a0.fMost)])) :: (.ptr 0 0) :: (dI 0) :: (dI (a0.fSubs.length : Int)) :: (dB false) :: u2 ((.ptr 0 2) :: (dP ep24 a0.fSubs) :: (dI (a0.fSubs.length : Int)) :: (.ptr 0 0) :: (dI a0.fKind) :: (dB v190) :: (dB (a0.fKind == 1)) :: d212 :: u2 ((dB v213) :: (dB (a0.fKind == 3)) :: d214 :: u40 (u40 (u28 [])))), [(b26_0 a0)]⟩ := by
        intro v213 d212 d214 h
        unfold f26_j18 at h
        refine seqQ.n ?_
        have J26j230 : ∀ (v216 : Bool) (d217 : D) (d218 : D) (d219 : D) (d220 : D) (d221 : D) (d222 : D) (d223 : D) (d224 : D) (d225 : D) (d226 : D) (d227 : D) (d228 : D) (d229 : D), f26_j15 m a0 v190 v216 = some o → (sqQ (X26 n) k26_1 1 (blkQ (X26 n) 0 [1, 2, 4] 1 (seqQ (X26 n) p26_0 (fnQ (X26 n).E.T (resOf Proofs.Tryd.prog 26) (eI o))))) .normal ⟨(.v (.agg [(vI a0.fKind), (vP eI a0.fLabels), (vP ep24 a0.fSubs), (vI a0.fLeast), (vI a0.fMost)])) :: (.ptr 0 0) :: (dI 0) :: (dI (a0.fSubs.length : Int)) :: (dB v216) :: u2 ((.ptr 0 2) :: (dP ep24 a0.fSubs) :: (dI (a0.fSubs.length : Int)) :: (.ptr 0 0) :: (dI a0.fKind) :: (dB v190) :: (dB (a0.fKind == 1)) :: d217 :: u2 ((dB v213) :: (dB (a0.fKind == 3)) :: d218 :: d219 :: d220 :: d221 :: d222 :: d223 :: d224 :: d225 :: d226 :: d227 :: d228 :: d229 :: u40 (u40 (u17 [])))), [(b26_0 a0)]⟩ := by
          intro v216 d217 d218 d219 d220 d221 d222 d223 d224 d225 d226 d227 d228 d229 h
          unfold f26_j15 at h
          refine sqQ.n ⟨(.v (.agg [(vI a0.fKind), (vP eI a0.fLabels), (vP ep24 a0.fSubs), (vI a0.fLeast), (vI a0.fMost)])) :: (.ptr 0 0) :: (dI 0) :: (dI (a0.fSubs.length : Int)) :: (dB v216) :: u2 ((.ptr 0 2) :: (dP ep24 a0.fSubs) :: (dI (a0.fSubs.length : Int)) :: (.ptr 0 0) :: (dI a0.fKind) :: (dB v190) :: (dB (a0.fKind == 1)) :: d217 :: u2 ((dB v213) :: (dB (a0.fKind == 3)) :: d218 :: d219 :: d220 :: d221 :: d222 :: d223 :: d224 :: d225 :: d226 :: d227 :: d228 :: d229 :: u40 (u40 (u17 [])))), [(b26_0 a0)]⟩ (by kernel_rfl) ?_
          exact J26j211 v216 _ _ _ _ _ _ _ _ _ _ _ _ _ _ _ _ _ h
        refine Wp.cnd h [1, 2, 3, 4, 11, 17] 1 (by kernel_rfl) (fun h => ?_) (fun h => ?_)
        · refine Wp.rg ?_
          refine Ops.sg 3 3 ?_
          refine Ops.dn ?_
          refine sqQ.n ⟨(.v (.agg [(vI a0.fKind), (vP eI a0.fLabels), (vP ep24 a0.fSubs), (vI a0.fLeast), (vI a0.fMost)])) :: (.ptr 0 0) :: (dI 0) :: (dI (a0.fSubs.length : Int)) :: (dB (decide ((a0.fSubs.length : Int) ≥ 2))) :: u2 ((.ptr 0 2) :: (dP ep24 a0.fSubs) :: (dI (a0.fSubs.length : Int)) :: (.ptr 0 0) :: (dI a0.fKind) :: (dB v190) :: (dB (a0.fKind == 1)) :: d212 :: u2 ((dB v213) :: (dB (a0.fKind == 3)) :: d214 :: (dI (a0.fSubs.length : Int)) :: (dB (decide ((a0.fSubs.length : Int) ≥ 2))) :: u40 (u40 (u26 [])))), [(b26_0 a0)]⟩ (by kernel_rfl) ?_
          exact J26j230 (decide ((a0.fSubs.length : Int) ≥ 2)) _ _ _ _ _ _ _ _ _ _ _ _ _ h
        · refine Wp.sq ?_
          refine Wp.rg ?_
          refine Ops.sg 2 2 ?_
          refine Ops.dn ?_
          refine seqQ.n ?_
          have J26j241 : ∀ (v231 : Bool) (d232 : D) (d233 : D) (d234 : D) (d235 : D) (d236 : D) (d237 : D) (d238 : D) (d239 : D) (d240 : D), f26_j16 m a0 v190 v231 = some o → (sqQ (X26 n) [1, 2, 3, 4, 11, 17] 1 (sqQ (X26 n) k26_1 1 (blkQ (X26 n) 0 [1, 2, 4] 1 (seqQ (X26 n) p26_0 (fnQ (X26 n).E.T (resOf Proofs.Tryd.prog 26) (eI o)))))) .normal ⟨(.v (.agg [(vI a0.fKind), (vP eI a0.fLabels), (vP ep24 a0.fSubs), (vI a0.fLeast), (vI a0.fMost)])) :: (.ptr 0 0) :: (dI 0) :: (dI (a0.fSubs.length : Int)) :: (dB v231) :: u2 ((.ptr 0 2) :: (dP ep24 a0.fSubs) :: (dI (a0.fSubs.length : Int)) :: (.ptr 0 0) :: (dI a0.fKind) :: (dB v190) :: (dB (a0.fKind == 1)) :: d232 :: u2 ((dB v213) :: (dB (a0.fKind == 3)) :: d233 :: u2 ((dB (a0.fKind == 5)) :: (dB (a0.fKind == 5)) :: d234 :: d235 :: d236 :: d237 :: d238 :: d239 :: d240 :: u40 (u40 (u17 []))))), [(b26_0 a0)]⟩ := by
            intro v231 d232 d233 d234 d235 d236 d237 d238 d239 d240 h
            unfold f26_j16 at h
            refine sqQ.n ⟨(.v (.agg [(vI a0.fKind), (vP eI a0.fLabels), (vP ep24 a0.fSubs), (vI a0.fLeast), (vI a0.fMost)])) :: (.ptr 0 0) :: (dI 0) :: (dI (a0.fSubs.length : Int)) :: (dB v231) :: u2 ((.ptr 0 2) :: (dP ep24 a0.fSubs) :: (dI (a0.fSubs.length : Int)) :: (.ptr 0 0) :: (dI a0.fKind) :: (dB v190) :: (dB (a0.fKind == 1)) :: d232 :: u2 ((dB v213) :: (dB (a0.fKind == 3)) :: d233 :: u2 ((dB (a0.fKind == 5)) :: (dB (a0.fKind == 5)) :: d234 :: d235 :: d236 :: d237 :: d238 :: d239 :: d240 :: u40 (u40 (u17 []))))), [(b26_0 a0)]⟩ (by kernel_rfl) ?_
            exact J26j230 v231 _ _ _ _ _ _ _ _ _ _ _ _ _ h
          refine Wp.cnd h [1, 2, 4] 1 (by kernel_rfl) (fun h => ?_) (fun h => ?_)
          · refine Wp.rg ?_
            refine Ops.sg 3 3 ?_
            refine Ops.dn ?_
            refine sqQ.n ⟨(.v (.agg [(vI a0.fKind), (vP eI a0.fLabels), (vP ep24 a0.fSubs), (vI a0.fLeast), (vI a0.fMost)])) :: (.ptr 0 0) :: (dI 0) :: (dI (a0.fSubs.length : Int)) :: (dB ((a0.fSubs.length : Int) == 1)) :: u2 ((.ptr 0 2) :: (dP ep24 a0.fSubs) :: (dI (a0.fSubs.length : Int)) :: (.ptr 0 0) :: (dI a0.fKind) :: (dB v190) :: (dB (a0.fKind == 1)) :: d212 :: u2 ((dB v213) :: (dB (a0.fKind == 3)) :: d214 :: u2 ((dB (a0.fKind == 5)) :: (dB (a0.fKind == 5)) :: (dI (a0.fSubs.length : Int)) :: (dB ((a0.fSubs.length : Int) == 1)) :: u40 (u40 (u22 []))))), [(b26_0 a0)]⟩ (by kernel_rfl) ?_
            exact J26j241 ((a0.fSubs.length : Int) == 1) _ _ _ _ _ _ _ _ _ h
          · refine Wp.sq ?_
            refine Wp.sq ?_
            refine Wp.rg ?_
            refine Ops.sg 2 2 ?_
            refine Ops.dn ?_
            refine seqQ.n ?_
            have J26j246 : ∀ (v244 : Bool) (d242 : D) (d243 : D) (d245 : D), f26_j17 m a0 v190 v244 = some o → (seqQ (X26 n) (cR (cR (cR (cR (cR (cR (cR (cL (cR (cL (cR (cR (cR C26))))))))))))) (sqQ (X26 n) [1, 2, 4] 1 (sqQ (X26 n) [1, 2, 3, 4, 11, 17] 1 (sqQ (X26 n) k26_1 1 (blkQ (X26 n) 0 [1, 2, 4] 1 (seqQ (X26 n) p26_0 (fnQ (X26 n).E.T (resOf Proofs.Tryd.prog 26) (eI o)))))))) .normal ⟨(.v (.agg [(vI a0.fKind), (vP eI a0.fLabels), (vP ep24 a0.fSubs), (vI a0.fLeast), (vI a0.fMost)])) :: (.ptr 0 0) :: (dI 0) :: (dI (a0.fSubs.length : Int)) :: (dB false) :: u2 ((.ptr 0 2) :: (dP ep24 a0.fSubs) :: (dI (a0.fSubs.length : Int)) :: (.ptr 0 0) :: (dI a0.fKind) :: (dB v190) :: (dB (a0.fKind == 1)) :: d242 :: u2 ((dB v213) :: (dB (a0.fKind == 3)) :: d243 :: u2 ((dB (a0.fKind == 5)) :: (dB (a0.fKind == 5)) :: u2 ((dB v244) :: (dB (a0.fKind == 6)) :: d245 :: u40 (u40 (u19 [])))))), [(b26_0 a0)]⟩ := by
              intro v244 d242 d243 d245 h
              unfold f26_j17 at h
              refine seqQ.n ?_
              refine Wp.cnd h [1, 2, 3, 4, 26] 1 (by kernel_rfl) (fun h => ?_) (fun h => ?_)
              · refine Wp.rg ?_
                refine Ops.sg 3 3 ?_
                refine Ops.dn ?_
                refine sqQ.n' ?_
                refine sqQ.n ⟨(.v (.agg [(vI a0.fKind), (vP eI a0.fLabels), (vP ep24 a0.fSubs), (vI a0.fLeast), (vI a0.fMost)])) :: (.ptr 0 0) :: (dI 0) :: (dI (a0.fSubs.length : Int)) :: (dB ((a0.fSubs.length : Int) == 2)) :: u2 ((.ptr 0 2) :: (dP ep24 a0.fSubs) :: (dI (a0.fSubs.length : Int)) :: (.ptr 0 0) :: (dI a0.fKind) :: (dB v190) :: (dB (a0.fKind == 1)) :: d242 :: u2 ((dB v213) :: (dB (a0.fKind == 3)) :: d243 :: u2 ((dB (a0.fKind == 5)) :: (dB (a0.fKind == 5)) :: u2 ((dB v244) :: (dB (a0.fKind == 6)) :: d245 :: (dI (a0.fSubs.length : Int)) :: (dB ((a0.fSubs.length : Int) == 2)) :: u40 (u40 (u17 [])))))), [(b26_0 a0)]⟩ (by kernel_rfl) ?_
                exact J26j241 ((a0.fSubs.length : Int) == 2) _ _ _ _ _ _ _ _ _ h
              · refine Wp.sq ?_
                refine Wp.rg ?_
                refine Ops.sg 1 1 ?_
                refine Ops.dn ?_
                refine seqQ.n ?_
                refine Wp.ret (by kernel_rfl) ?_
                refine sqQ.r ?_
                refine sqQ.r ?_
                refine sqQ.r ?_
                refine sqQ.r ?_
                refine blkQ.r ?_
                refine seqQ.r ?_
                exact fnQ.r' (X26 n) (fun z => (eI z)) h (RetOk.mk' (dI 4) (by kernel_rfl) (by kernel_rfl))
            refine Wp.cnd h [1, 2, 3, 4, 26] 1 (by kernel_rfl) (fun h => ?_) (fun h => ?_)
            · refine Wp.sk ?_
              refine sqQ.n ⟨(.v (.agg [(vI a0.fKind), (vP eI a0.fLabels), (vP ep24 a0.fSubs), (vI a0.fLeast), (vI a0.fMost)])) :: (.ptr 0 0) :: (dI 0) :: (dI (a0.fSubs.length : Int)) :: (dB false) :: u2 ((.ptr 0 2) :: (dP ep24 a0.fSubs) :: (dI (a0.fSubs.length : Int)) :: (.ptr 0 0) :: (dI a0.fKind) :: (dB v190) :: (dB (a0.fKind == 1)) :: d212 :: u2 ((dB v213) :: (dB (a0.fKind == 3)) :: d214 :: u2 ((dB (a0.fKind == 5)) :: (dB (a0.fKind == 5)) :: u2 ((dB (a0.fKind == 6)) :: (dB (a0.fKind == 6)) :: u40 (u40 (u20 [])))))), [(b26_0 a0)]⟩ (by kernel_rfl) ?_
              exact J26j246 (a0.fKind == 6) _ _ _ h
            · refine Wp.rg ?_
              refine Ops.sg 2 2 ?_
              refine Ops.dn ?_
              refine sqQ.n ⟨(.v (.agg [(vI a0.fKind), (vP eI a0.fLabels), (vP ep24 a0.fSubs), (vI a0.fLeast), (vI a0.fMost)])) :: (.ptr 0 0) :: (dI 0) :: (dI (a0.fSubs.length : Int)) :: (dB false) :: u2 ((.ptr 0 2) :: (dP ep24 a0.fSubs) :: (dI (a0.fSubs.length : Int)) :: (.ptr 0 0) :: (dI a0.fKind) :: (dB v190) :: (dB (a0.fKind == 1)) :: d212 :: u2 ((dB v213) :: (dB (a0.fKind == 3)) :: d214 :: u2 ((dB (a0.fKind == 5)) :: (dB (a0.fKind == 5)) :: u2 ((dB (a0.fKind == 7)) :: (dB (a0.fKind == 6)) :: (dB (a0.fKind == 7)) :: u40 (u40 (u19 [])))))), [(b26_0 a0)]⟩ (by kernel_rfl) ?_
              exact J26j246 (a0.fKind == 7) _ _ _ h
      refine Wp.cnd h [1, 2, 3, 4, 11, 17] 1 (by kernel_rfl) (fun h => ?_) (fun h => ?_)
      · refine Wp.sk ?_
        refine sqQ.n ⟨(.v (.agg [(vI a0.fKind), (vP eI a0.fLabels), (vP ep24 a0.fSubs), (vI a0.fLeast), (vI a0.fMost)])) :: (.ptr 0 0) :: (dI 0) :: (dI (a0.fSubs.length : Int)) :: (dB false) :: u2 ((.ptr 0 2) :: (dP ep24 a0.fSubs) :: (dI (a0.fSubs.length : Int)) :: (.ptr 0 0) :: (dI a0.fKind) :: (dB v190) :: (dB (a0.fKind == 1)) :: d191 :: u2 ((dB (a0.fKind == 3)) :: (dB (a0.fKind == 3)) :: u40 (u40 (u29 [])))), [(b26_0 a0)]⟩ (by kernel_rfl) ?_
        exact J26j215 (a0.fKind == 3) _ _ h
      · refine Wp.rg ?_
        refine Ops.sg 2 2 ?_
        refine Ops.dn ?_
        refine sqQ.n ⟨(.v (.agg [(vI a0.fKind), (vP eI a0.fLabels), (vP ep24 a0.fSubs), (vI a0.fLeast), (vI a0.fMost)])) :: (.ptr 0 0) :: (dI 0) :: (dI (a0.fSubs.length : Int)) :: (dB false) :: u2 ((.ptr 0 2) :: (dP ep24 a0.fSubs) :: (dI (a0.fSubs.length : Int)) :: (.ptr 0 0) :: (dI a0.fKind) :: (dB v190) :: (dB (a0.fKind == 1)) :: d191 :: u2 ((dB (a0.fKind == 4)) :: (dB (a0.fKind == 3)) :: (dB (a0.fKind == 4)) :: u40 (u40 (u28 [])))), [(b26_0 a0)]⟩ (by kernel_rfl) ?_
        exact J26j215 (a0.fKind == 4) _ _ h
  refine Wp.cnd h k26_1 1 (by kernel_rfl) (fun h => ?_) (fun h => ?_)
  · refine Wp.sk ?_
    refine sqQ.n ⟨(.v (.agg [(vI a0.fKind), (vP eI a0.fLabels), (vP ep24 a0.fSubs), (vI a0.fLeast), (vI a0.fMost)])) :: (.ptr 0 0) :: (dI 0) :: (dI (a0.fSubs.length : Int)) :: (dB false) :: u2 ((.ptr 0 2) :: (dP ep24 a0.fSubs) :: (dI (a0.fSubs.length : Int)) :: (.ptr 0 0) :: (dI a0.fKind) :: (dB (a0.fKind == 1)) :: (dB (a0.fKind == 1)) :: u40 (u40 (u34 []))), [(b26_0 a0)]⟩ (by kernel_rfl) ?_
    exact J26j192 (a0.fKind == 1) _ h
  · refine Wp.rg ?_
    refine Ops.sg 2 2 ?_
    refine Ops.dn ?_
    refine sqQ.n ⟨(.v (.agg [(vI a0.fKind), (vP eI a0.fLabels), (vP ep24 a0.fSubs), (vI a0.fLeast), (vI a0.fMost)])) :: (.ptr 0 0) :: (dI 0) :: (dI (a0.fSubs.length : Int)) :: (dB false) :: u2 ((.ptr 0 2) :: (dP ep24 a0.fSubs) :: (dI (a0.fSubs.length : Int)) :: (.ptr 0 0) :: (dI a0.fKind) :: (dB (a0.fKind == 2)) :: (dB (a0.fKind == 1)) :: (dB (a0.fKind == 2)) :: u40 (u40 (u33 []))), [(b26_0 a0)]⟩ (by kernel_rfl) ?_
    exact J26j192 (a0.fKind == 2) _ h

/-! ### 12 glosswright/glosswrightref6.PatternFault -/
noncomputable def f12_B1 (m : Nat) (v88 : S52) (v109 : (List S52)) (v110 : Int) : Option (Stp S27 ((List S52) × Int)) :=
  cnd (decide (v110 ≥ 0))
  (bnd (idx v88.fP.fSubs v110) fun v120 =>
  bnd (app 80 v109 ([(⟨v120.vw, w64 (v88.fDepth + 1)⟩ : S52)])) fun v121 =>
  some (.nxt (v121, w64 (v110 - 1))))
  (some (.brk (v109, v110)))
noncomputable def f12_j2 (m : Nat) (v78 : Int) (v88 : S52) (v89 : (List S52)) (v101 : Int) : Option (Stp S27 ((List S52) × Int)) :=
  brk (iter (fun (y : (List S52) × Int) => f12_B1 m v88 y.1 y.2) m (v89, w64 (v101 - 1))) (fun r => some (.ret r)) fun y123 =>
  some (.nxt (y123.1, w64 (v78 + 1)))
noncomputable def f12_r3 (m : Nat) (v78 : Int) (v88 : S52) (v89 : (List S52)) (v96 : Bool) : Option (Stp S27 ((List S52) × Int)) :=
  cnd v96
  (bnd (f25 m 2 v78) fun v98 =>
  some (.ret v98))
  (bnd (f26 m v88.fP) fun v99 =>
  cnd (v99 != 0)
  (bnd (f25 m v99 v78) fun v100 =>
  some (.ret v100))
  (cnd (decide ((v88.fP.fSubs.length : Int) > 201))
  (f12_j2 m v78 v88 v89 201)
  (f12_j2 m v78 v88 v89 (v88.fP.fSubs.length : Int))))
noncomputable def f12_B4 (m : Nat) (v77 : (List S52)) (v78 : Int) : Option (Stp S27 ((List S52) × Int)) :=
  cnd (decide ((v77.length : Int) > 0))
  (bnd (idx v77 (w64 ((v77.length : Int) - 1))) fun v88 =>
  bnd (sub v77 0 (w64 ((v77.length : Int) - 1))) fun v89 =>
  f12_r3 m v78 v88 v89 ((decide (v78 ≥ 200)) || (decide (v88.fDepth > 40))))
  (some (.brk (v77, v78)))
noncomputable def f12 (m : Nat) (a0 : S24) : Option S27 :=
  brk (iter (fun (y : (List S52) × Int) => f12_B4 m y.1 y.2) m ([(⟨a0, 1⟩ : S52)], 0)) some fun y126 =>
  some ((⟨0, 0⟩ : S27))
noncomputable abbrev X12 (n : Nat) : Cx := cxOf Proofs.Tryd.prog E 12 n
noncomputable def C12 : Code := bodyOf Proofs.Tryd.prog 12
noncomputable abbrev p12_0 : Code := cR (cR (cR C12))
noncomputable abbrev p12_1 : Code := cL (cL (cR (cL (cR (cR C12)))))
noncomputable abbrev p12_2 : Code := cR (cR p12_1)
noncomputable abbrev b12_0 (w0 : S24) : AObj := .cells [(dI w0.fKind), (dP eI w0.fLabels), (dP ep24 w0.fSubs), (dI w0.fLeast), (dI w0.fMost)]
noncomputable abbrev b12_1 : AObj := .cells [(dI 0), (dI 0)]
noncomputable abbrev b12_2 (w0 : S52) : AObj := .cells [(dI w0.fP.fKind), (dP eI w0.fP.fLabels), (dP ep24 w0.fP.fSubs), (dI w0.fP.fLeast), (dI w0.fP.fMost), (dI w0.fDepth)]
theorem ok12 (m : Nat) (a0 : S24) (o : S27) (h : f12 m a0 = some o) (n : Nat) (hn : m + 3 ≤ n) : Fn Proofs.Tryd.prog E n 12 [.v (e24 a0)] (e27 o) := by
  obtain ⟨n, rfl⟩ : ∃ q, n = q + 1 := ⟨n - 1, by omega⟩
  unfold f12 at h
  refine Fn.of (by kernel_rfl) (by kernel_rfl) (by kernel_rfl) ⟨(.v (.agg [(vI a0.fKind), (vP eI a0.fLabels), (vP ep24 a0.fSubs), (vI a0.fLeast), (vI a0.fMost)])) :: u40 (u30 []), []⟩ (by kernel_rfl) ?_
  refine Wp.sq ?_
  refine Wp.rg ?_
  refine Ops.sg 2 2 ?_
  refine Ops.dn ?_
  refine seqQ.n ?_
  refine Wp.sq ?_
  refine Wp.rg ?_
  refine Ops.sg 4 4 ?_
  refine Ops.dn ?_
  refine seqQ.n ?_
  refine Wp.sq ?_
  refine Wp.sq ?_
  refine Wp.rg ?_
  refine Ops.sg 1 1 ?_
  refine Ops.dn ?_
  refine seqQ.n ?_
  refine Wp.block' 0 [2] 3 (by kernel_rfl) ?_
  have hLx125 : ∀ (kx80 : Nat) (v77 : (List S52)) (v78 : Int)  (ox79 : S27 ⊕ ((List S52) × Int)), iter (fun (y : (List S52) × Int) => f12_B4 m y.1 y.2) kx80 (v77, v78) = some ox79 → ∀ nx81, kx80 ≤ nx81 → (∀ r, ox79 = .inl r → ∀ σ, RetOk (X12 n) (resOf Proofs.Tryd.prog 12) (e27 r) σ → (seqQ (X12 n) p12_0 (fnQ (X12 n).E.T (resOf Proofs.Tryd.prog 12) (e27 o))) .ret σ) → (∀ (y : (List S52) × Int) , ox79 = .inr y → (seqQ (X12 n) p12_0 (fnQ (X12 n).E.T (resOf Proofs.Tryd.prog 12) (e27 o))) .normal ⟨q2 ((.ptr 1 0) :: q40 (q28 [])), [(b12_0 a0), b12_1, .dead, (.row 6 (List.map e52 y.1))]⟩) → Lp (X12 n) [2, 3, 4] 3 p12_1 nx81 ⟨q2 ((.ptr 1 0) :: (pilD 3 (List.map e52 v77)) :: (dI v78) :: q40 (q26 [])), [(b12_0 a0), b12_1, .dead, (.row 6 (List.map e52 v77))]⟩ (blkQ (X12 n) 0 [2] 3 (seqQ (X12 n) p12_0 (fnQ (X12 n).E.T (resOf Proofs.Tryd.prog 12) (e27 o)))) := by
    intro kx80
    induction kx80 with
    | zero => intro v77 v78  ox79 h; exact (iter_zero h).elim
    | succ kx80 ihx82 =>
      intro v77 v78  ox79 h nx81 hnx85 hrx83 hxx84
      obtain ⟨nx81, rfl⟩ : ∃ q, nx81 = q + 1 := ⟨nx81 - 1, by omega⟩
      obtain ⟨sx86, h, hsx87⟩ := iter_some h
      have h : f12_B4 m v77 v78 = some sx86 := h
      unfold f12_B4 at h
      refine Lp.succ ?_
      refine Wp.sq ?_
      refine Wp.sq ?_
      refine Wp.rg ?_
      refine Ops.sg 1 1 ?_
      refine Ops.on 2 (fun h0 e0 => (pil_len (T := T) h0 54 53 3 e52 v77 (by kernel_rfl))) ?_
      refine Ops.sg 1 3 ?_
      refine Ops.dn ?_
      refine seqQ.n ?_
      refine Wp.cnd h [2, 3, 4] 4 (by kernel_rfl) (fun h => ?_) (fun h => ?_)
      · refine Wp.sk ?_
        refine sqQ.n' ?_
        refine seqQ.n ?_
        refine Wp.sq ?_
        refine Wp.block' 1 [2, 3, 4] 5 (by kernel_rfl) ?_
        refine Wp.sq ?_
        refine Wp.rg ?_
        refine Ops.sg 2 2 ?_
        refine Ops.on 3 (fun h0 e0 => (pil_len (T := T) h0 54 53 4 e52 v77 (by kernel_rfl))) ?_
        refine Ops.sg 1 4 ?_
        obtain ⟨v88, ev88, h⟩ := bnd_some h
        refine Ops.on 5 (fun h0 e0 => (pil_ix (T := T) h0 54 53 6 4 e52 v77 (w64 ((v77.length : Int) - 1)) v88 ev88 (by kernel_rfl) (by kernel_rfl) (hq_of e0 (by kernel_rfl)))) ?_
        refine Ops.on 6 (fun h0 e0 => (pil_ld (i := ti53) h0 6 4 0 e52 v77 (w64 ((v77.length : Int) - 1)) v88 (.agg [(vI v88.fP.fKind), (vP eI v88.fP.fLabels), (vP ep24 v88.fP.fSubs), (vI v88.fP.fLeast), (vI v88.fP.fMost), (vI v88.fDepth)]) ev88 (hq_of e0 (by kernel_rfl)) (by kernel_rfl))) ?_
        refine Ops.sg 2 8 ?_
        refine Ops.dn ?_
        refine seqQ.n ?_
        refine Wp.sq ?_
        refine Wp.rg ?_
        refine Ops.sg 2 2 ?_
        refine Ops.on 3 (fun h0 e0 => (pil_len (T := T) h0 54 53 4 e52 v77 (by kernel_rfl))) ?_
        refine Ops.sg 1 4 ?_
        obtain ⟨v89, ev89, h⟩ := bnd_some h
        refine Ops.on 5 (fun h0 e0 => (pil_cut (T := T) h0 54 53 6 4 e52 v77 v89 (w64 ((v77.length : Int) - 1)) ev89 (by kernel_rfl) (by kernel_rfl) (hq_of e0 (by kernel_rfl)))) ?_
        refine Ops.sg 1 6 ?_
        refine Ops.dn ?_
        refine seqQ.n ?_
        refine Wp.sq ?_
        refine Wp.sq ?_
        refine Wp.rg ?_
        refine Ops.sg 3 3 ?_
        refine Ops.hv (fun KQ => ∀ (d92 d93 d94 : D) (v95 : Bool) (v96 : Bool), f12_r3 m v78 v88 v89 v96 = some sx86 → KQ 7 ⟨q2 ((.ptr 1 0) :: (pilD 4 (List.map e52 v89)) :: (dI v78) :: (.ptr 5 0) :: q11 ((pilD 4 (List.map e52 v77)) :: (pilD 4 (List.map e52 v77)) :: (dI (v77.length : Int)) :: (dI (w64 ((v77.length : Int) - 1))) :: (.eptr 4 (Int.toNat (w64 ((v77.length : Int) - 1))) 0) :: (.v (.agg [(vI v88.fP.fKind), (vP eI v88.fP.fLabels), (vP ep24 v88.fP.fSubs), (vI v88.fP.fLeast), (vI v88.fP.fMost), (vI v88.fDepth)])) :: (pilD 4 (List.map e52 v77)) :: (pilD 4 (List.map e52 v77)) :: (dI (v77.length : Int)) :: (dI (w64 ((v77.length : Int) - 1))) :: (pilD 4 (List.map e52 v89)) :: (dI v78) :: (dB v95) :: (dB v95) :: d92 :: d93 :: d94 :: (dB v96) :: q36 [])), [(b12_0 a0), b12_1, .dead, .dead, (.row 6 (List.map e52 v89)), (b12_2 v88)]⟩) ?_ fun J12j97 => ?_
        · intro d92 d93 d94 v95 v96 h
          unfold f12_r3 at h
          refine Ops.dn ?_
          refine seqQ.n ?_
          refine Wp.cnd h [2, 3, 4, 5] 6 (by kernel_rfl) (fun h => ?_) (fun h => ?_)
          · refine Wp.sq ?_
            refine Wp.rg ?_
            refine Ops.sg 1 1 ?_
            obtain ⟨v98, ev98, h⟩ := bnd_some h
            refine Ops.on 2 (fun h0 e0 => (call_ok (E' := E) (h := h0) (by kernel_rfl) (Args.v (vI 2) (eI 2) (by kernel_rfl) (Args.v (vI v78) (eI v78) (by kernel_rfl) Args.nil)) (ok25 m 2 v78 v98 ev98 n (by omega)))) ?_
            refine Ops.sg 1 3 ?_
            refine Ops.dn ?_
            refine seqQ.n ?_
            refine Wp.ret (by kernel_rfl) ?_
            refine sqQ.r ?_
            refine seqQ.r ?_
            refine blkQ.r ?_
            refine seqQ.r ?_
            cases h
            refine lpQ.r ?_
            refine blkQ.r ?_
            exact hrx83 _ hsx87 _ (RetOk.forget [2, 3, 4] (by kernel_rfl) (RetOk.mk' (.v (.agg [(vI v98.fCode), (vI v98.fIndex)])) (by kernel_rfl) (by kernel_rfl)))
          · refine Wp.sk ?_
            refine sqQ.n' ?_
            refine seqQ.n ?_
            refine Wp.sq ?_
            refine Wp.sq ?_
            refine Wp.rg ?_
            refine Ops.sg 2 2 ?_
            obtain ⟨v99, ev99, h⟩ := bnd_some h
            refine Ops.on 3 (fun h0 e0 => (call_ok (E' := E) (h := h0) (by kernel_rfl) (Args.v (.agg [(vI v88.fP.fKind), (vP eI v88.fP.fLabels), (vP ep24 v88.fP.fSubs), (vI v88.fP.fLeast), (vI v88.fP.fMost)]) (e24 v88.fP) (by kernel_rfl) Args.nil) (ok26 m v88.fP v99 ev99 n (by omega)))) ?_
            refine Ops.sg 1 4 ?_
            refine Ops.dn ?_
            refine seqQ.n ?_
            refine Wp.sq ?_
            refine Wp.rg ?_
            refine Ops.sg 2 2 ?_
            refine Ops.dn ?_
            refine seqQ.n ?_
            refine Wp.cnd h [2, 3, 4, 5] 7 (by kernel_rfl) (fun h => ?_) (fun h => ?_)
            · refine Wp.sq ?_
              refine Wp.rg ?_
              refine Ops.sg 2 2 ?_
              obtain ⟨v100, ev100, h⟩ := bnd_some h
              refine Ops.on 3 (fun h0 e0 => (call_ok (E' := E) (h := h0) (by kernel_rfl) (Args.v (vI v99) (eI v99) (by kernel_rfl) (Args.v (vI v78) (eI v78) (by kernel_rfl) Args.nil)) (ok25 m v99 v78 v100 ev100 n (by omega)))) ?_
              refine Ops.sg 1 4 ?_
              refine Ops.dn ?_
              refine seqQ.n ?_
              refine Wp.ret (by kernel_rfl) ?_
              refine sqQ.r ?_
              refine seqQ.r ?_
              refine blkQ.r ?_
              refine seqQ.r ?_
              cases h
              refine lpQ.r ?_
              refine blkQ.r ?_
              exact hrx83 _ hsx87 _ (RetOk.forget [2, 3, 4] (by kernel_rfl) (RetOk.mk' (.v (.agg [(vI v100.fCode), (vI v100.fIndex)])) (by kernel_rfl) (by kernel_rfl)))
            · refine Wp.sk ?_
              refine sqQ.n' ?_
              refine seqQ.n ?_
              refine Wp.sq ?_
              refine Wp.rg ?_
              refine Ops.sg 3 3 ?_
              refine Ops.on 4 (fun h0 e0 => (len_r (T := T) h0 23 25 .plain ep24 v88.fP.fSubs (by kernel_rfl))) ?_
              refine Ops.sg 1 5 ?_
              refine Ops.dn ?_
              refine seqQ.n ?_
              refine Wp.sq ?_
              refine Wp.sq ?_
              refine Wp.rg ?_
              refine Ops.sg 2 2 ?_
              refine Ops.dn ?_
              refine seqQ.n ?_
              have J12j102 : ∀ (v101 : Int) , f12_j2 m v78 v88 v89 v101 = some sx86 → (seqQ (X12 n) (cR (cR (cR (cR (cR (cR (cL (cL (cR p12_1))))))))) (blkQ (X12 n) 1 [2, 3, 4] 5 (seqQ (X12 n) p12_2 (lpQ (X12 n) [2, 3, 4] 3 p12_1 nx81 (blkQ (X12 n) 0 [2] 3 (seqQ (X12 n) p12_0 (fnQ (X12 n).E.T (resOf Proofs.Tryd.prog 12) (e27 o)))))))) .normal ⟨q2 ((.ptr 1 0) :: (pilD 8 (List.map e52 v89)) :: (dI v78) :: (.ptr 5 0) :: q1 ((dI v101) :: q40 (q23 []))), [(b12_0 a0), b12_1, .dead, .dead, .dead, (b12_2 v88), .dead, .dead, (.row 6 (List.map e52 v89))]⟩ := by
                intro v101  h
                unfold f12_j2 at h
                refine seqQ.n ?_
                refine Wp.sq ?_
                refine Wp.rg ?_
                refine Ops.sg 3 3 ?_
                refine Ops.dn ?_
                refine seqQ.n ?_
                refine Wp.block' 2 [2, 3, 4] 9 (by kernel_rfl) ?_
                have hLx122 : ∀ (kx112 : Nat) (v109 : (List S52)) (v110 : Int)  (ox111 : S27 ⊕ ((List S52) × Int)), iter (fun (y : (List S52) × Int) => f12_B1 m v88 y.1 y.2) kx112 (v109, v110) = some ox111 → ∀ nx113, kx112 ≤ nx113 → (∀ r, ox111 = .inl r → ∀ σ, RetOk (X12 n) (resOf Proofs.Tryd.prog 12) (e27 r) σ → (blkQ (X12 n) 1 [2, 3, 4] 5 (seqQ (X12 n) p12_2 (lpQ (X12 n) [2, 3, 4] 3 p12_1 nx81 (blkQ (X12 n) 0 [2] 3 (seqQ (X12 n) p12_0 (fnQ (X12 n).E.T (resOf Proofs.Tryd.prog 12) (e27 o))))))) .ret σ) → (∀ (y : (List S52) × Int) , ox111 = .inr y → (blkQ (X12 n) 1 [2, 3, 4] 5 (seqQ (X12 n) p12_2 (lpQ (X12 n) [2, 3, 4] 3 p12_1 nx81 (blkQ (X12 n) 0 [2] 3 (seqQ (X12 n) p12_0 (fnQ (X12 n).E.T (resOf Proofs.Tryd.prog 12) (e27 o))))))) .normal ⟨q2 ((.ptr 1 0) :: (pilD 9 (List.map e52 y.1)) :: (dI v78) :: q40 (q26 [])), [(b12_0 a0), b12_1, .dead, .dead, .dead, (b12_2 v88), .dead, .dead, .dead, (.row 6 (List.map e52 y.1))]⟩) → Lp (X12 n) [2, 3, 4, 5, 8] 9 (cL (cL (cR (cR (cR (cR (cR (cR (cR (cL (cL (cR p12_1)))))))))))) nx113 ⟨q2 ((.ptr 1 0) :: (pilD 9 (List.map e52 v109)) :: (dI v78) :: (.ptr 5 0) :: q2 ((dI v110) :: q40 (q22 []))), [(b12_0 a0), b12_1, .dead, .dead, .dead, (b12_2 v88), .dead, .dead, .dead, (.row 6 (List.map e52 v109))]⟩ (blkQ (X12 n) 2 [2, 3, 4] 9 (blkQ (X12 n) 1 [2, 3, 4] 5 (seqQ (X12 n) p12_2 (lpQ (X12 n) [2, 3, 4] 3 p12_1 nx81 (blkQ (X12 n) 0 [2] 3 (seqQ (X12 n) p12_0 (fnQ (X12 n).E.T (resOf Proofs.Tryd.prog 12) (e27 o)))))))) := by
                  intro kx112
                  induction kx112 with
                  | zero => intro v109 v110  ox111 h; exact (iter_zero h).elim
                  | succ kx112 ihx114 =>
                    intro v109 v110  ox111 h nx113 hnx117 hrx115 hxx116
                    obtain ⟨nx113, rfl⟩ : ∃ q, nx113 = q + 1 := ⟨nx113 - 1, by omega⟩
                    obtain ⟨sx118, h, hsx119⟩ := iter_some h
                    have h : f12_B1 m v88 v109 v110 = some sx118 := h
                    unfold f12_B1 at h
                    refine Lp.succ ?_
                    refine Wp.sq ?_
                    refine Wp.sq ?_
                    refine Wp.rg ?_
                    refine Ops.sg 2 2 ?_
                    refine Ops.dn ?_
                    refine seqQ.n ?_
                    refine Wp.cnd h [2, 3, 4, 5, 8] 10 (by kernel_rfl) (fun h => ?_) (fun h => ?_)
                    · refine Wp.sk ?_
                      refine sqQ.n' ?_
                      refine seqQ.n ?_
                      refine Wp.sq ?_
                      refine Wp.block' 3 [2, 3, 4, 5, 8] 11 (by kernel_rfl) ?_
                      refine Wp.rg ?_
                      refine Ops.sg 5 5 ?_
                      obtain ⟨v120, ev120, h⟩ := bnd_some h
                      refine Ops.on 6 (fun h0 e0 => (ixb24 (ix_r (T := T) h0 23 25 5 .plain ep24 v88.fP.fSubs v110 v120 ev120 (by kernel_rfl) (by kernel_rfl) ep24_len))) ?_
                      refine Ops.sg 6 12 ?_
                      obtain ⟨v121, ev121, h⟩ := bnd_some h
                      refine Ops.on 13 (fun h0 e0 => (pil_app (T := T) h0 54 53 10 11 ti53 e52 v109 ([(⟨v120.vw, w64 (v88.fDepth + 1)⟩ : S52)]) v121 ev121 (by kernel_rfl) (by kernel_rfl) (by kernel_rfl) (by kernel_rfl) (hq_of e0 (by kernel_rfl)) (hq_of e0 (by kernel_rfl)))) ?_
                      refine Ops.sg 1 14 ?_
                      refine Ops.dn ?_
                      refine blkQ.n' ?_
                      refine seqQ.n ?_
                      refine Wp.rg ?_
                      refine Ops.sg 3 3 ?_
                      refine Ops.dn ?_
                      refine lpQ.n ⟨q2 ((.ptr 1 0) :: (pilD 9 (List.map e52 v121)) :: (dI v78) :: (.ptr 5 0) :: q2 ((dI (w64 (v110 - 1))) :: q40 (q22 []))), [(b12_0 a0), b12_1, .dead, .dead, .dead, (b12_2 v88), .dead, .dead, .dead, (.row 6 (List.map e52 v121))]⟩ (by kernel_rfl) ?_
                      cases h
                      exact ihx114 v121 (w64 (v110 - 1))  _ hsx119 _ (by omega) hrx115 hxx116
                    · refine Wp.exit (id := 2) (by kernel_rfl) ?_
                      refine sqQ.x ?_
                      refine seqQ.x ?_
                      cases h
                      refine lpQ.x ?_
                      refine blkQ.x ⟨q2 ((.ptr 1 0) :: (pilD 9 (List.map e52 v109)) :: (dI v78) :: q40 (q26 [])), [(b12_0 a0), b12_1, .dead, .dead, .dead, (b12_2 v88), .dead, .dead, .dead, (.row 6 (List.map e52 v109))]⟩ (by kernel_rfl) ?_
                      exact hxx116 (v109, v110)  hsx119
                refine Wp.loop' [2, 3, 4, 5, 8] 9 (by kernel_rfl) ⟨q2 ((.ptr 1 0) :: (pilD 9 (List.map e52 v89)) :: (dI v78) :: (.ptr 5 0) :: q2 ((dI (w64 (v101 - 1))) :: q40 (q22 []))), [(b12_0 a0), b12_1, .dead, .dead, .dead, (b12_2 v88), .dead, .dead, .dead, (.row 6 (List.map e52 v89))]⟩ (by kernel_rfl) ?_
                rcases brk_some h with ⟨r124, er124, h⟩ | ⟨y123, ey123, h⟩
                · refine hLx122 _ v89 (w64 (v101 - 1))  _ er124 n (by omega) (fun r er σ hσ => ?_) (fun y  ey => by cases ey)
                  cases er
                  refine blkQ.r ?_
                  refine seqQ.r ?_
                  refine lpQ.r ?_
                  cases h
                  refine blkQ.r ?_
                  exact hrx83 _ hsx87 _ (RetOk.forget [2, 3, 4] (by kernel_rfl) hσ)
                · refine hLx122 _ v89 (w64 (v101 - 1))  _ ey123 n (by omega) (fun r er => by cases er) (fun y  ey => ?_)
                  cases ey
                  refine blkQ.n' ?_
                  refine seqQ.n ?_
                  refine Wp.rg ?_
                  refine Ops.sg 3 3 ?_
                  refine Ops.dn ?_
                  refine lpQ.n ⟨q2 ((.ptr 1 0) :: (pilD 3 (List.map e52 y123.1)) :: (dI (w64 (v78 + 1))) :: q40 (q26 [])), [(b12_0 a0), b12_1, .dead, (.row 6 (List.map e52 y123.1))]⟩ (by kernel_rfl) ?_
                  cases h
                  exact ihx82 y123.1 (w64 (v78 + 1))  _ hsx87 _ (by omega) hrx83 hxx84
              refine Wp.cnd h [2, 3, 4, 5, 7] 8 (by kernel_rfl) (fun h => ?_) (fun h => ?_)
              · refine Wp.rg ?_
                refine Ops.sg 1 1 ?_
                refine Ops.dn ?_
                refine sqQ.n ⟨q2 ((.ptr 1 0) :: (pilD 8 (List.map e52 v89)) :: (dI v78) :: (.ptr 5 0) :: q1 ((dI 201) :: q40 (q23 []))), [(b12_0 a0), b12_1, .dead, .dead, .dead, (b12_2 v88), .dead, .dead, (.row 6 (List.map e52 v89))]⟩ (by kernel_rfl) ?_
                exact J12j102 201  h
              · refine Wp.sk ?_
                refine sqQ.n ⟨q2 ((.ptr 1 0) :: (pilD 8 (List.map e52 v89)) :: (dI v78) :: (.ptr 5 0) :: q1 ((dI (v88.fP.fSubs.length : Int)) :: q40 (q23 []))), [(b12_0 a0), b12_1, .dead, .dead, .dead, (b12_2 v88), .dead, .dead, (.row 6 (List.map e52 v89))]⟩ (by kernel_rfl) ?_
                exact J12j102 (v88.fP.fSubs.length : Int)  h
        refine Ops.hv (fun KQ => ∀ v90 : Bool, f12_r3 m v78 v88 v89 (v90 || (decide (v88.fDepth > 40))) = some sx86 → KQ 3 ⟨q2 ((.ptr 1 0) :: (pilD 4 (List.map e52 v89)) :: (dI v78) :: (.ptr 5 0) :: q11 ((pilD 4 (List.map e52 v77)) :: (pilD 4 (List.map e52 v77)) :: (dI (v77.length : Int)) :: (dI (w64 ((v77.length : Int) - 1))) :: (.eptr 4 (Int.toNat (w64 ((v77.length : Int) - 1))) 0) :: (.v (.agg [(vI v88.fP.fKind), (vP eI v88.fP.fLabels), (vP ep24 v88.fP.fSubs), (vI v88.fP.fLeast), (vI v88.fP.fMost), (vI v88.fDepth)])) :: (pilD 4 (List.map e52 v77)) :: (pilD 4 (List.map e52 v77)) :: (dI (v77.length : Int)) :: (dI (w64 ((v77.length : Int) - 1))) :: (pilD 4 (List.map e52 v89)) :: (dI v78) :: (dB v90) :: (dB v90) :: q40 [])), [(b12_0 a0), b12_1, .dead, .dead, (.row 6 (List.map e52 v89)), (b12_2 v88)]⟩) ?_ fun G12g91 => Ops.st _ (by kernel_rfl) (G12g91 (decide (v78 ≥ 200)) h)
        intro v90 h
        cases v90
        · refine Ops.sg 4 7 ?_
          exact Ops.st _ (by kernel_rfl) (J12j97 (.ptr 5 5) (dI v88.fDepth) (dB (decide (v88.fDepth > 40))) false (decide (v88.fDepth > 40)) h)
        · refine Ops.sg 4 7 ?_
          exact Ops.st _ (by kernel_rfl) (J12j97 U U U true true h)
      · refine Wp.exit (id := 0) (by kernel_rfl) ?_
        refine sqQ.x ?_
        refine seqQ.x ?_
        cases h
        refine lpQ.x ?_
        refine blkQ.x ⟨q2 ((.ptr 1 0) :: q40 (q28 [])), [(b12_0 a0), b12_1, .dead, (.row 6 (List.map e52 v77))]⟩ (by kernel_rfl) ?_
        exact hxx84 (v77, v78)  hsx87
  refine Wp.loop' [2, 3, 4] 3 (by kernel_rfl) ⟨q2 ((.ptr 1 0) :: (pilD 3 (List.map e52 ([(⟨a0, 1⟩ : S52)]))) :: (dI 0) :: q40 (q26 [])), [(b12_0 a0), b12_1, .dead, (.row 6 (List.map e52 ([(⟨a0, 1⟩ : S52)])))]⟩ (by kernel_rfl) ?_
  rcases brk_some h with ⟨r127, er127, h⟩ | ⟨y126, ey126, h⟩
  · refine hLx125 _ ([(⟨a0, 1⟩ : S52)]) 0  _ er127 n (by omega) (fun r er σ hσ => ?_) (fun y  ey => by cases ey)
    cases er
    refine seqQ.r ?_
    exact fnQ.r' (X12 n) (fun z => (e27 z)) h hσ
  · refine hLx125 _ ([(⟨a0, 1⟩ : S52)]) 0  _ ey126 n (by omega) (fun r er => by cases er) (fun y  ey => ?_)
    cases ey
    refine seqQ.n ?_
    refine Wp.sq ?_
    refine Wp.rg ?_
    refine Ops.sg 2 2 ?_
    refine Ops.dn ?_
    refine seqQ.n ?_
    refine Wp.ret (by kernel_rfl) ?_
    exact fnQ.r' (X12 n) (fun z => (e27 z)) h (RetOk.mk' (.v (.agg [(vI 0), (vI 0)])) (by kernel_rfl) (by kernel_rfl))

/-! ### 49 glosswright/glosswrightref6.special -/
noncomputable def f49_B1 (m : Nat) (a0 : Int) (v4 : Int) : Option (Stp Bool (Int)) :=
  cnd (decide (v4 < (([40, 41, 91, 93, 124, 38, 45, 42, 43, 63, 123, 125, 44, 92]).length : Int)))
  (bnd (idx ([40, 41, 91, 93, 124, 38, 45, 42, 43, 63, 123, 125, 44, 92]) v4) fun v14 =>
  cnd (v14 == a0)
  (some (.ret true))
  (some (.nxt (w64 (v4 + 1)))))
  (some (.brk v4))
noncomputable def f49 (m : Nat) (a0 : Int) : Option Bool :=
  brk (iter (fun (y : Int) => f49_B1 m a0 y) m 0) some fun y16 =>
  some false
noncomputable abbrev X49 (n : Nat) : Cx := cxOf Proofs.Tryd.prog E 49 n
noncomputable def C49 : Code := bodyOf Proofs.Tryd.prog 49
theorem ok49 (m : Nat) (a0 : Int) (o : Bool) (h : f49 m a0 = some o) (n : Nat) (hn : m + 1 ≤ n) : Fn Proofs.Tryd.prog E n 49 [.v (eI a0)] (eB o) := by
  obtain ⟨n, rfl⟩ : ∃ q, n = q + 1 := ⟨n - 1, by omega⟩
  unfold f49 at h
  refine Fn.of (by kernel_rfl) (by kernel_rfl) (by kernel_rfl) ⟨(dI a0) :: u14 [], []⟩ (by kernel_rfl) ?_
  refine Wp.sq ?_
  refine Wp.rg ?_
  refine Ops.sg 1 1 ?_
  refine Ops.dn ?_
  refine seqQ.n ?_
  refine Wp.sq ?_
  refine Wp.sq ?_
  refine Wp.rg ?_
  refine Ops.sg 1 1 ?_
  refine Ops.on 2 (fun h0 e0 => (len_r (T := T) h0 22 3 .nonfull eI ([40, 41, 91, 93, 124, 38, 45, 42, 43, 63, 123, 125, 44, 92]) (by kernel_rfl))) ?_
  refine Ops.sg 1 3 ?_
  refine Ops.dn ?_
  refine seqQ.n ?_
  refine Wp.block' 0 [2] 0 (by kernel_rfl) ?_
  have hLx15 : ∀ (kx6 : Nat) (v4 : Int)  (ox5 : Bool ⊕ (Int)), iter (fun (y : Int) => f49_B1 m a0 y) kx6 v4 = some ox5 → ∀ nx7, kx6 ≤ nx7 → (∀ r, ox5 = .inl r → ∀ σ, RetOk (X49 n) (resOf Proofs.Tryd.prog 49) (eB r) σ → (seqQ (X49 n) (cR (cR C49)) (fnQ (X49 n).E.T (resOf Proofs.Tryd.prog 49) (eB o))) .ret σ) → (∀ (y : Int) , ox5 = .inr y → (seqQ (X49 n) (cR (cR C49)) (fnQ (X49 n).E.T (resOf Proofs.Tryd.prog 49) (eB o))) .normal ⟨(dI a0) :: q1 ((dB false) :: q2 ((.v (.sl .nonfull (List.map eI ([40, 41, 91, 93, 124, 38, 45, 42, 43, 63, 123, 125, 44, 92])))) :: (dI ((([40, 41, 91, 93, 124, 38, 45, 42, 43, 63, 123, 125, 44, 92]).length : Int))) :: (dI y) :: q7 [])), []⟩) → Lp (X49 n) [0, 2, 5, 6, 7] 0 (cL (cL (cR (cL (cR C49))))) nx7 ⟨(dI a0) :: q1 ((dB false) :: q2 ((.v (.sl .nonfull (List.map eI ([40, 41, 91, 93, 124, 38, 45, 42, 43, 63, 123, 125, 44, 92])))) :: (dI ((([40, 41, 91, 93, 124, 38, 45, 42, 43, 63, 123, 125, 44, 92]).length : Int))) :: (dI v4) :: q7 [])), []⟩ (blkQ (X49 n) 0 [2] 0 (seqQ (X49 n) (cR (cR C49)) (fnQ (X49 n).E.T (resOf Proofs.Tryd.prog 49) (eB o)))) := by
    intro kx6
    induction kx6 with
    | zero => intro v4  ox5 h; exact (iter_zero h).elim
    | succ kx6 ihx8 =>
      intro v4  ox5 h nx7 hnx11 hrx9 hxx10
      obtain ⟨nx7, rfl⟩ : ∃ q, nx7 = q + 1 := ⟨nx7 - 1, by omega⟩
      obtain ⟨sx12, h, hsx13⟩ := iter_some h
      have h : f49_B1 m a0 v4 = some sx12 := h
      unfold f49_B1 at h
      refine Lp.succ ?_
      refine Wp.sq ?_
      refine Wp.rg ?_
      refine Ops.sg 1 1 ?_
      refine Ops.dn ?_
      refine seqQ.n ?_
      refine Wp.sq ?_
      refine Wp.cnd h [0, 2, 5, 6, 7] 0 (by kernel_rfl) (fun h => ?_) (fun h => ?_)
      · refine Wp.sk ?_
        refine sqQ.n' ?_
        refine seqQ.n ?_
        refine Wp.sq ?_
        refine Wp.block' 1 [0, 2, 5, 6, 7] 0 (by kernel_rfl) ?_
        refine Wp.sq ?_
        refine Wp.rg ?_
        obtain ⟨v14, ev14, h⟩ := bnd_some h
        refine Ops.on 1 (fun h0 e0 => (ix_r (T := T) h0 22 3 1 .nonfull eI ([40, 41, 91, 93, 124, 38, 45, 42, 43, 63, 123, 125, 44, 92]) v4 v14 ev14 (by kernel_rfl) (by kernel_rfl) (fun _ => rfl))) ?_
        refine Ops.sg 2 3 ?_
        refine Ops.dn ?_
        refine seqQ.n ?_
        refine Wp.sq ?_
        refine Wp.rg ?_
        refine Ops.sg 3 3 ?_
        refine Ops.dn ?_
        refine seqQ.n ?_
        refine Wp.cnd h [0, 2, 5, 6, 7] 0 (by kernel_rfl) (fun h => ?_) (fun h => ?_)
        · refine Wp.sq ?_
          refine Wp.rg ?_
          refine Ops.sg 1 1 ?_
          refine Ops.dn ?_
          refine seqQ.n ?_
          refine Wp.ret (by kernel_rfl) ?_
          refine sqQ.r ?_
          refine blkQ.r ?_
          refine seqQ.r ?_
          cases h
          refine lpQ.r ?_
          refine blkQ.r ?_
          exact hrx9 _ hsx13 _ (RetOk.forget [0, 2, 5, 6, 7] (by kernel_rfl) (RetOk.mk' (dB true) (by kernel_rfl) (by kernel_rfl)))
        · refine Wp.sk ?_
          refine sqQ.n' ?_
          refine blkQ.n' ?_
          refine seqQ.n ?_
          refine Wp.rg ?_
          refine Ops.sg 2 2 ?_
          refine Ops.dn ?_
          refine lpQ.n ⟨(dI a0) :: q1 ((dB false) :: q2 ((.v (.sl .nonfull (List.map eI ([40, 41, 91, 93, 124, 38, 45, 42, 43, 63, 123, 125, 44, 92])))) :: (dI ((([40, 41, 91, 93, 124, 38, 45, 42, 43, 63, 123, 125, 44, 92]).length : Int))) :: (dI (w64 (v4 + 1))) :: q7 [])), []⟩ (by kernel_rfl) ?_
          cases h
          exact ihx8 (w64 (v4 + 1))  _ hsx13 _ (by omega) hrx9 hxx10
      · refine Wp.exit (id := 0) (by kernel_rfl) ?_
        refine sqQ.x ?_
        refine seqQ.x ?_
        cases h
        refine lpQ.x ?_
        refine blkQ.x ⟨(dI a0) :: q1 ((dB false) :: q2 ((.v (.sl .nonfull (List.map eI ([40, 41, 91, 93, 124, 38, 45, 42, 43, 63, 123, 125, 44, 92])))) :: (dI ((([40, 41, 91, 93, 124, 38, 45, 42, 43, 63, 123, 125, 44, 92]).length : Int))) :: (dI v4) :: q7 [])), []⟩ (by kernel_rfl) ?_
        exact hxx10 v4  hsx13
  refine Wp.loop' [0, 2, 5, 6, 7] 0 (by kernel_rfl) ⟨(dI a0) :: q1 ((dB false) :: q2 ((.v (.sl .nonfull (List.map eI ([40, 41, 91, 93, 124, 38, 45, 42, 43, 63, 123, 125, 44, 92])))) :: (dI ((([40, 41, 91, 93, 124, 38, 45, 42, 43, 63, 123, 125, 44, 92]).length : Int))) :: (dI 0) :: q7 [])), []⟩ (by kernel_rfl) ?_
  rcases brk_some h with ⟨r17, er17, h⟩ | ⟨y16, ey16, h⟩
  · refine hLx15 _ 0  _ er17 n (by omega) (fun r er σ hσ => ?_) (fun y  ey => by cases ey)
    cases er
    refine seqQ.r ?_
    exact fnQ.r' (X49 n) (fun z => (eB z)) h hσ
  · refine hLx15 _ 0  _ ey16 n (by omega) (fun r er => by cases er) (fun y  ey => ?_)
    cases ey
    refine seqQ.n ?_
    refine Wp.sq ?_
    refine Wp.rg ?_
    refine Ops.sg 1 1 ?_
    refine Ops.dn ?_
    refine seqQ.n ?_
    refine Wp.ret (by kernel_rfl) ?_
    exact fnQ.r' (X49 n) (fun z => (eB z)) h (RetOk.mk' (dB false) (by kernel_rfl) (by kernel_rfl))

/-! ### 48 glosswright/glosswrightref5.Width -/
noncomputable def f48 (m : Nat) (a0 : Int) : Option Int :=
  cnd (decide (a0 < 128))
  (some 1)
  (cnd (decide (a0 < 2048))
  (some 2)
  (cnd (decide (a0 < 65536))
  (some 3)
  (some 4)))
noncomputable abbrev X48 (n : Nat) : Cx := cxOf Proofs.Tryd.prog E 48 n
noncomputable def C48 : Code := bodyOf Proofs.Tryd.prog 48
theorem ok48 (m : Nat) (a0 : Int) (o : Int) (h : f48 m a0 = some o) (n : Nat) (hn : m + 1 ≤ n) : Fn Proofs.Tryd.prog E n 48 [.v (eI a0)] (eI o) := by
  obtain ⟨n, rfl⟩ : ∃ q, n = q + 1 := ⟨n - 1, by omega⟩
  unfold f48 at h
  refine Fn.of (by kernel_rfl) (by kernel_rfl) (by kernel_rfl) ⟨(dI a0) :: u8 [], []⟩ (by kernel_rfl) ?_
  refine Wp.sq ?_
  refine Wp.rg ?_
  refine Ops.sg 1 1 ?_
  refine Ops.dn ?_
  refine seqQ.n ?_
  refine Wp.sq ?_
  refine Wp.sq ?_
  refine Wp.rg ?_
  refine Ops.sg 2 2 ?_
  refine Ops.dn ?_
  refine seqQ.n ?_
  refine Wp.cnd h [0, 2] 0 (by kernel_rfl) (fun h => ?_) (fun h => ?_)
  · refine Wp.sq ?_
    refine Wp.rg ?_
    refine Ops.sg 1 1 ?_
    refine Ops.dn ?_
    refine seqQ.n ?_
    refine Wp.ret (by kernel_rfl) ?_
    refine sqQ.r ?_
    refine seqQ.r ?_
    exact fnQ.r' (X48 n) (fun z => (eI z)) h (RetOk.mk' (dI 1) (by kernel_rfl) (by kernel_rfl))
  · refine Wp.sk ?_
    refine sqQ.n' ?_
    refine seqQ.n ?_
    refine Wp.sq ?_
    refine Wp.sq ?_
    refine Wp.rg ?_
    refine Ops.sg 2 2 ?_
    refine Ops.dn ?_
    refine seqQ.n ?_
    refine Wp.cnd h [0, 2] 0 (by kernel_rfl) (fun h => ?_) (fun h => ?_)
    · refine Wp.sq ?_
      refine Wp.rg ?_
      refine Ops.sg 1 1 ?_
      refine Ops.dn ?_
      refine seqQ.n ?_
      refine Wp.ret (by kernel_rfl) ?_
      refine sqQ.r ?_
      refine seqQ.r ?_
      exact fnQ.r' (X48 n) (fun z => (eI z)) h (RetOk.mk' (dI 2) (by kernel_rfl) (by kernel_rfl))
    · refine Wp.sk ?_
      refine sqQ.n' ?_
      refine seqQ.n ?_
      refine Wp.sq ?_
      refine Wp.sq ?_
      refine Wp.rg ?_
      refine Ops.sg 2 2 ?_
      refine Ops.dn ?_
      refine seqQ.n ?_
      refine Wp.cnd h [2] 0 (by kernel_rfl) (fun h => ?_) (fun h => ?_)
      · refine Wp.sq ?_
        refine Wp.rg ?_
        refine Ops.sg 1 1 ?_
        refine Ops.dn ?_
        refine seqQ.n ?_
        refine Wp.ret (by kernel_rfl) ?_
        refine sqQ.r ?_
        refine seqQ.r ?_
        exact fnQ.r' (X48 n) (fun z => (eI z)) h (RetOk.mk' (dI 3) (by kernel_rfl) (by kernel_rfl))
      · refine Wp.sk ?_
        refine sqQ.n' ?_
        refine seqQ.n ?_
        refine Wp.sq ?_
        refine Wp.rg ?_
        refine Ops.sg 1 1 ?_
        refine Ops.dn ?_
        refine seqQ.n ?_
        refine Wp.ret (by kernel_rfl) ?_
        exact fnQ.r' (X48 n) (fun z => (eI z)) h (RetOk.mk' (dI 4) (by kernel_rfl) (by kernel_rfl))

end Go.Abs
