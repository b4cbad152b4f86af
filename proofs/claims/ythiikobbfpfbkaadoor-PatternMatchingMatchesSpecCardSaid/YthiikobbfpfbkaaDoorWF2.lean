import Derived.Test.YthiikobbfpfbkaaDoorME
namespace Go.Abs
set_option linter.unusedVariables false
set_option maxRecDepth 100000
noncomputable def f8 (m : Nat) : Option Bool := some true
theorem ok8 (m : Nat) (o : Bool) (h : f8 m = some o) (n : Nat) (hn : m + 1 ≤ n) : Fn Proofs.Tryd.prog EG n 8 [] (eB o) := by
  cases h
  obtain ⟨n, rfl⟩ : ∃ q, n = q + 1 := ⟨n - 1, by omega⟩
  exact ora_fn (xs := []) (by kernel_rfl) (by kernel_rfl) (by kernel_rfl) (F := trueF) rfl rfl
noncomputable def f23 (m : Nat) (a0 : Int) (a1 : Int) : Option S27 :=
  some ((⟨a0, a1⟩ : S27))
noncomputable abbrev X23 (n : Nat) : Cx := cxOf Proofs.Tryd.prog EG 23 n
noncomputable def C23 : Code := bodyOf Proofs.Tryd.prog 23
theorem ok23 (m : Nat) (a0 : Int) (a1 : Int) (o : S27) (h : f23 m a0 a1 = some o) (n : Nat) (hn : m + 1 ≤ n) : Fn Proofs.Tryd.prog EG n 23 [.v (eI a0), .v (eI a1)] (e27 o) := by
  obtain ⟨n, rfl⟩ : ∃ q, n = q + 1 := ⟨n - 1, by omega⟩
  unfold f23 at h
  refine Fn.of (by kernel_rfl) (by kernel_rfl) (by kernel_rfl) ⟨(dI a0) :: (dI a1) :: u6 [], []⟩ (by kernel_rfl) ?_
  refine Wp.sq ?_
  refine Wp.rg ?_
  refine Ops.sg 1 1 ?_
  refine Ops.dn ?_
  refine seqQ.n ?_
  refine Wp.sq ?_
  refine Wp.rg ?_
  refine Ops.sg 4 4 ?_
  refine Ops.dn ?_
  refine seqQ.n ?_
  refine Wp.ret (by kernel_rfl) ?_
  exact fnQ.r' (X23 n) (fun z => (e27 z)) h (RetOk.mk' (.v (.agg [(vI a0), (vI a1)])) (by kernel_rfl) (by kernel_rfl))
noncomputable def f37_r1 (m : Nat) (v17 : Bool) : Option Bool :=
  some v17
noncomputable def f37_r2 (m : Nat) (a0 : Int) (v6 : Bool) : Option Bool :=
  f37_r1 m (v6 && ((decide (a0 < 55296)) || (decide (a0 > 57343))))
noncomputable def f37 (m : Nat) (a0 : Int) : Option Bool :=
  f37_r2 m a0 ((decide (a0 ≥ 1)) && (decide (a0 ≤ 1114111)))
noncomputable abbrev X37 (n : Nat) : Cx := cxOf Proofs.Tryd.prog EG 37 n
noncomputable def C37 : Code := bodyOf Proofs.Tryd.prog 37
theorem ok37 (m : Nat) (a0 : Int) (o : Bool) (h : f37 m a0 = some o) (n : Nat) (hn : m + 1 ≤ n) : Fn Proofs.Tryd.prog EG n 37 [.v (eI a0)] (eB o) := by
  obtain ⟨n, rfl⟩ : ∃ q, n = q + 1 := ⟨n - 1, by omega⟩
  unfold f37 at h
  refine Fn.of (by kernel_rfl) (by kernel_rfl) (by kernel_rfl) ⟨(dI a0) :: u16 [], []⟩ (by kernel_rfl) ?_
  refine Wp.sq ?_
  refine Wp.rg ?_
  refine Ops.sg 1 1 ?_
  refine Ops.dn ?_
  refine seqQ.n ?_
  refine Wp.sq ?_
  refine Wp.rg ?_
  refine Ops.sg 3 3 ?_
  refine Ops.hv (fun KQ => ∀ (d3 d4 : D) (v5 : Bool) (v6 : Bool), f37_r2 m a0 v6 = some o → KQ 6 ⟨(dI a0) :: u1 ((dB false) :: (dI a0) :: (dB v5) :: (dB v5) :: d3 :: d4 :: (dB v6) :: u8 []), []⟩) ?_ fun J37j7 => ?_
  · intro d3 d4 v5 v6 h
    unfold f37_r2 at h
    refine Ops.sg 1 7 ?_
    refine Ops.hv (fun KQ => ∀ (d10 d11 d12 d13 d14 d15 : D) (v16 : Bool) (v17 : Bool), f37_r1 m v17 = some o → KQ 14 ⟨(dI a0) :: u1 ((dB false) :: (dI a0) :: (dB v5) :: (dB v5) :: d3 :: d4 :: (dB v16) :: (dB v16) :: d10 :: d11 :: d12 :: d13 :: d14 :: d15 :: (dB v17) :: []), []⟩) ?_ fun J37j18 => ?_
    · intro d10 d11 d12 d13 d14 d15 v16 v17 h
      unfold f37_r1 at h
      refine Ops.sg 1 15 ?_
      refine Ops.dn ?_
      refine seqQ.n ?_
      refine Wp.ret (by kernel_rfl) ?_
      exact fnQ.r' (X37 n) (fun z => (eB z)) h (RetOk.mk' (dB v17) (by kernel_rfl) (by kernel_rfl))
    refine Ops.hv (fun KQ => ∀ v8 : Bool, f37_r1 m (v8 && ((decide (a0 < 55296)) || (decide (a0 > 57343)))) = some o → KQ 7 ⟨(dI a0) :: u1 ((dB false) :: (dI a0) :: (dB v5) :: (dB v5) :: d3 :: d4 :: (dB v8) :: (dB v8) :: u7 []), []⟩) ?_ fun G37g9 => Ops.st _ (by kernel_rfl) (G37g9 v6 h)
    intro v8 h
    cases v8
    · refine Ops.sg 7 14 ?_
      exact Ops.st _ (by kernel_rfl) (J37j18 U U U U U U false false h)
    · refine Ops.sg 3 10 ?_
      refine Ops.hv (fun KQ => ∀ v19 : Bool, (f37_r1 m (true && (v19 || (decide (a0 > 57343))))) = some o → KQ 10 ⟨(dI a0) :: u1 ((dB false) :: (dI a0) :: (dB v5) :: (dB v5) :: d3 :: d4 :: (dB true) :: (dB true) :: (dI a0) :: (dB v19) :: (dB v19) :: u4 []), []⟩) ?_ fun G37g20 => Ops.st _ (by kernel_rfl) (G37g20 (decide (a0 < 55296)) h)
      intro v19 h
      cases v19
      · refine Ops.sg 4 14 ?_
        exact Ops.st _ (by kernel_rfl) (J37j18 (dI a0) (dB false) (dB false) (dI a0) (dB (decide (a0 > 57343))) (dB (decide (a0 > 57343))) true (decide (a0 > 57343)) h)
      · refine Ops.sg 4 14 ?_
        exact Ops.st _ (by kernel_rfl) (J37j18 (dI a0) (dB true) (dB true) U U (dB true) true true h)
  refine Ops.hv (fun KQ => ∀ v1 : Bool, f37_r2 m a0 (v1 && (decide (a0 ≤ 1114111))) = some o → KQ 3 ⟨(dI a0) :: u1 ((dB false) :: (dI a0) :: (dB v1) :: (dB v1) :: u11 []), []⟩) ?_ fun G37g2 => Ops.st _ (by kernel_rfl) (G37g2 (decide (a0 ≥ 1)) h)
  intro v1 h
  cases v1
  · refine Ops.sg 3 6 ?_
    exact Ops.st _ (by kernel_rfl) (J37j7 U U false false h)
  · refine Ops.sg 3 6 ?_
    exact Ops.st _ (by kernel_rfl) (J37j7 (dI a0) (dB (decide (a0 ≤ 1114111))) true (decide (a0 ≤ 1114111)) h)
structure Rec21 where
  r21 : S45 → S24 → Int → Option (S27 × S45)
structure OkRec21 (m : Nat) (K : Rec21) (nn : Nat) : Prop where
  ok21 : ∀ (a0 : S45) (a1 : S24) (a2 : Int) (o : (S27 × S45)), K.r21 a0 a1 a2 = some o → ∀ n, nn ≤ n → FnP Proofs.Tryd.prog EG n 21 (c45 a0) [.v (e24 a1), .v (eI a2)] (e27 o.1) (c45 o.2)
noncomputable def f21_r1 (m : Nat) (K : Rec21) (a0 : S45) (v83 : Int) (v107 : Bool) : Option (Stp (S27 × S45) (Int)) :=
  cnd v107
  (bnd (f23 m 13 a0.fNodes) fun v109 =>
  some (.ret ((v109, (⟨w64 (a0.fNodes + 1)⟩ : S45)))))
  (some (.nxt (w64 (v83 + 1))))
noncomputable def f21_B2 (m : Nat) (K : Rec21) (a0 : S45) (a1 : S24) (v83 : Int) : Option (Stp (S27 × S45) (Int)) :=
  cnd (decide (v83 < (a1.fLabels.length : Int)))
  (bnd (idx a1.fLabels v83) fun v93 =>
  bnd (f37 m v93) fun v94 =>
  cnd (!v94)
  (bnd (f23 m 3 a0.fNodes) fun v95 =>
  some (.ret ((v95, (⟨w64 (a0.fNodes + 1)⟩ : S45)))))
  (bnd (cnd (decide (v83 > 0))
  (bnd (idx a1.fLabels (w64 (v83 - 1))) fun v110 =>
  some (decide (v110 ≥ v93)))
  (some false)) fun v107 =>
  f21_r1 m K a0 v83 v107))
  (some (.brk v83))
noncomputable def f21_B3 (m : Nat) (K : Rec21) (a1 : S24) (a2 : Int) (v157 : Int) (v158 : Int) : Option (Stp (S27 × S45) (Int × Int)) :=
  cnd (decide (v157 < (a1.fSubs.length : Int)))
  (bnd (idx a1.fSubs v157) fun v168 =>
  bnd (K.r21 (⟨v158⟩ : S45) v168.vw (w64 (a2 + 1))) fun v169 =>
  cnd (!((v169.1.fCode == 0) && ((v169.1.fIndex == 0) && true)))
  (some (.ret ((v169.1, v169.2))))
  (some (.nxt (w64 (v157 + 1), v169.2.fNodes))))
  (some (.brk (v157, v158)))
noncomputable def f21_j4 (m : Nat) (K : Rec21) (a0 : S45) (a1 : S24) (a2 : Int) : Option (S27 × S45) :=
  brk (iter (fun (y : Int × Int) => f21_B3 m K a1 a2 y.1 y.2) m (0, w64 (a0.fNodes + 1))) some fun y171 =>
  some (((⟨0, 0⟩ : S27), (⟨y171.2⟩ : S45)))
noncomputable def f21_r5 (m : Nat) (K : Rec21) (a0 : S45) (a1 : S24) (a2 : Int) (v206 : Bool) : Option (S27 × S45) :=
  cnd v206
  (bnd (f23 m 13 a0.fNodes) fun v208 =>
  some ((v208, (⟨w64 (a0.fNodes + 1)⟩ : S45))))
  (f21_j4 m K a0 a1 a2)
noncomputable def f21_r6 (m : Nat) (K : Rec21) (a0 : S45) (a1 : S24) (a2 : Int) (v195 : Bool) : Option (S27 × S45) :=
  cnd v195
  (bnd (f23 m 3 a0.fNodes) fun v197 =>
  some ((v197, (⟨w64 (a0.fNodes + 1)⟩ : S45))))
  (f21_r5 m K a0 a1 a2 ((decide (a1.fMost ≥ 0)) && (decide (a1.fMost < a1.fLeast))))
noncomputable def f21_r7 (m : Nat) (K : Rec21) (a0 : S45) (a1 : S24) (a2 : Int) (v187 : Bool) : Option (S27 × S45) :=
  f21_r6 m K a0 a1 a2 (v187 || (decide (a1.fMost > 9)))
noncomputable def f21_r8 (m : Nat) (K : Rec21) (a0 : S45) (a1 : S24) (a2 : Int) (v179 : Bool) : Option (S27 × S45) :=
  f21_r7 m K a0 a1 a2 (v179 || (decide (a1.fMost < (-1))))
noncomputable def f21_r9 (m : Nat) (K : Rec21) (a0 : S45) (a1 : S24) (a2 : Int) (v215 : Bool) : Option (S27 × S45) :=
  cnd v215
  (bnd (f23 m 5 a0.fNodes) fun v217 =>
  some ((v217, (⟨w64 (a0.fNodes + 1)⟩ : S45))))
  (f21_j4 m K a0 a1 a2)
noncomputable def f21_r10 (m : Nat) (K : Rec21) (a0 : S45) (a1 : S24) (a2 : Int) (v43 : Bool) : Option (S27 × S45) :=
  cnd v43
  (bnd (f23 m 9 a0.fNodes) fun v45 =>
  some ((v45, (⟨w64 (a0.fNodes + 1)⟩ : S45))))
  (brk (iter (fun (y : Int) => f21_B2 m K a0 a1 y) m 0) some fun y112 =>
  cnd (a1.fKind == 5)
  (f21_r8 m K a0 a1 a2 ((decide (a1.fLeast < 0)) || (decide (a1.fLeast > 9))))
  (f21_r9 m K a0 a1 a2 ((a1.fLeast != 0) || (a1.fMost != 0))))
noncomputable def f21_r11 (m : Nat) (K : Rec21) (a0 : S45) (a1 : S24) (a2 : Int) (v36 : Bool) : Option (S27 × S45) :=
  f21_r10 m K a0 a1 a2 (v36 || (decide ((a1.fLabels.length : Int) > 300)))
noncomputable def f21_j12 (m : Nat) (K : Rec21) (a0 : S45) (a1 : S24) (a2 : Int) (v9 : Int) (v12 : Bool) : Option (S27 × S45) :=
  f21_r11 m K a0 a1 a2 (((a1.fSubs.length : Int) != v9) || (!((a1.fKind == 2) == (decide ((a1.fLabels.length : Int) > 0)))))
noncomputable def f21_j13 (m : Nat) (K : Rec21) (a0 : S45) (a1 : S24) (a2 : Int) (v220 : Bool) (v223 : Int) : Option (S27 × S45) :=
  f21_j12 m K a0 a1 a2 v223 v220
noncomputable def f21_j14 (m : Nat) (K : Rec21) (a0 : S45) (a1 : S24) (a2 : Int) (v220 : Bool) (v246 : Int) : Option (S27 × S45) :=
  f21_j13 m K a0 a1 a2 v220 v246
noncomputable def f21_j15 (m : Nat) (K : Rec21) (a0 : S45) (a1 : S24) (a2 : Int) (v220 : Bool) (v261 : Int) : Option (S27 × S45) :=
  f21_j14 m K a0 a1 a2 v220 v261
noncomputable def f21_j16 (m : Nat) (K : Rec21) (a0 : S45) (a1 : S24) (a2 : Int) (v220 : Bool) (v274 : Bool) : Option (S27 × S45) :=
  cnd v274
  (f21_j15 m K a0 a1 a2 v220 2)
  (bnd (f23 m 4 a0.fNodes) fun v277 =>
  some ((v277, (⟨w64 (a0.fNodes + 1)⟩ : S45))))
noncomputable def f21_j17 (m : Nat) (K : Rec21) (a0 : S45) (a1 : S24) (a2 : Int) (v220 : Bool) (v243 : Bool) : Option (S27 × S45) :=
  cnd v243
  (f21_j14 m K a0 a1 a2 v220 (if (a1.fSubs.length : Int) > 2 then (a1.fSubs.length : Int) else 2))
  (cnd (a1.fKind == 5)
  (f21_j15 m K a0 a1 a2 v220 1)
  (cnd (a1.fKind == 6)
  (f21_j16 m K a0 a1 a2 v220 (a1.fKind == 6))
  (f21_j16 m K a0 a1 a2 v220 (a1.fKind == 7))))
noncomputable def f21_j18 (m : Nat) (K : Rec21) (a0 : S45) (a1 : S24) (a2 : Int) (v220 : Bool) : Option (S27 × S45) :=
  cnd v220
  (f21_j13 m K a0 a1 a2 v220 0)
  (cnd (a1.fKind == 3)
  (f21_j17 m K a0 a1 a2 v220 (a1.fKind == 3))
  (f21_j17 m K a0 a1 a2 v220 (a1.fKind == 4)))
noncomputable def f21_r19 (m : Nat) (K : Rec21) (a0 : S45) (a1 : S24) (a2 : Int) (v6 : Bool) : Option (S27 × S45) :=
  cnd v6
  (bnd (f23 m 2 a0.fNodes) fun v8 =>
  some ((v8, (⟨w64 (a0.fNodes + 1)⟩ : S45))))
  (cnd (a1.fKind == 1)
  (f21_j18 m K a0 a1 a2 (a1.fKind == 1))
  (f21_j18 m K a0 a1 a2 (a1.fKind == 2)))
noncomputable def b21 (m : Nat) (K : Rec21) (a0 : S45) (a1 : S24) (a2 : Int) : Option (S27 × S45) :=
  f21_r19 m K a0 a1 a2 ((decide (w64 (a0.fNodes + 1) > 200)) || (decide (a2 > 40)))
noncomputable abbrev X21 (n : Nat) : Cx := cxOf Proofs.Tryd.prog EG 21 n
noncomputable def C21 : Code := bodyOf Proofs.Tryd.prog 21
noncomputable abbrev p21_0 : Code := cR (cR (cR (cR (cR (cR C21)))))
noncomputable abbrev p21_1 : Code := cR (cR p21_0)
noncomputable abbrev p21_2 : Code := cR (cR p21_1)
noncomputable abbrev b21_0 (w0 : S45) : AObj := .cells [(dI (w64 (w0.fNodes + 1)))]
noncomputable abbrev b21_1 (w0 : S24) : AObj := .cells [(dI w0.fKind), (dP eI w0.fLabels), (dP ep24 w0.fSubs), (dI w0.fLeast), (dI w0.fMost)]
noncomputable abbrev b21_2 : AObj := .cells [(dI 0), (dI 0)]
noncomputable abbrev k21_0 : List Nat := [0, 2, 4, 6, 7, 79, 80, 81]
noncomputable abbrev k21_1 : List Nat := [0, 2, 6, 152, 153, 154]
noncomputable abbrev k21_2 : List Nat := [0, 2, 4, 6, 7, 8, 9]
noncomputable abbrev k21_3 : List Nat := [0, 2, 4, 6, 7, 8, 9, 41, 44]
noncomputable abbrev k21_4 : List Nat := [0, 2, 4, 6, 7, 8, 9, 41, 47]
theorem okb21 (m : Nat) (K : Rec21) (nn : Nat) (hK : OkRec21 m K nn) (a0 : S45) (a1 : S24) (a2 : Int) (o : (S27 × S45)) (h : b21 m K a0 a1 a2 = some o) (n : Nat) (hn : m + 2 ≤ n) (hk : nn + 1 ≤ n) : FnP Proofs.Tryd.prog EG n 21 (c45 a0) [.v (e24 a1), .v (eI a2)] (e27 o.1) (c45 o.2) := by
  obtain ⟨n, rfl⟩ : ∃ q, n = q + 1 := ⟨n - 1, by omega⟩
  unfold b21 at h
  refine FnP.of (by kernel_rfl) (by kernel_rfl) (by kernel_rfl) ⟨(.ptr 0 0) :: (.v (.agg [(vI a1.fKind), (vP eI a1.fLabels), (vP ep24 a1.fSubs), (vI a1.fLeast), (vI a1.fMost)])) :: (dI a2) :: u40 (u40 (u40 (u40 (u6 [])))), [(.cells [(dI a0.fNodes)])]⟩ (by kernel_rfl) ?_
  refine Wp.sq ?_
  refine Wp.rg ?_
  refine Ops.sg 2 2 ?_
  refine Ops.dn ?_
  refine seqQ.n ?_
  refine Wp.sq ?_
  refine Wp.rg ?_
  refine Ops.sg 5 5 ?_
  refine Ops.dn ?_
  refine seqQ.n ?_
  refine Wp.sq ?_
  refine Wp.rg ?_
  refine Ops.sg 8 8 ?_
  refine Ops.dn ?_
  refine seqQ.n ?_
  refine Wp.sq ?_
  refine Wp.sq ?_
  refine Wp.rg ?_
  refine Ops.sg 6 6 ?_
  refine Ops.hv (fun KQ => ∀ (d3 d4 : D) (v5 : Bool) (v6 : Bool), f21_r19 m K a0 a1 a2 v6 = some o → KQ 9 ⟨(.ptr 0 0) :: (.v (.agg [(vI a1.fKind), (vP eI a1.fLabels), (vP ep24 a1.fSubs), (vI a1.fLeast), (vI a1.fMost)])) :: (dI a2) :: u1 ((.ptr 1 0) :: u1 ((.ptr 2 0) :: (dI a0.fNodes) :: u7 ((.ptr 0 0) :: (.ptr 0 0) :: (.ptr 0 0) :: (dI a0.fNodes) :: (.ptr 0 0) :: (.ptr 0 0) :: (.ptr 0 0) :: (dI a0.fNodes) :: (dI (w64 (a0.fNodes + 1))) :: (.ptr 0 0) :: (.ptr 0 0) :: (.ptr 0 0) :: (.ptr 0 0) :: (.ptr 0 0) :: (dI (w64 (a0.fNodes + 1))) :: (dB v5) :: (dB v5) :: d3 :: d4 :: (dB v6) :: u40 (u40 (u40 (u14 [])))))), [(b21_0 a0), (b21_1 a1), b21_2]⟩) ?_ fun J21j7 => ?_
  · intro d3 d4 v5 v6 h
    unfold f21_r19 at h
    refine Ops.dn ?_
    refine seqQ.n ?_
    refine Wp.cnd h [0, 2, 4, 6, 7] 3 (by kernel_rfl) (fun h => ?_) (fun h => ?_)
    · refine Wp.sq ?_
      refine Wp.rg ?_
      refine Ops.sg 1 1 ?_
      obtain ⟨v8, ev8, h⟩ := bnd_some h
      refine Ops.on 2 (fun h0 e0 => (call_ok (E' := EG) (h := h0) (by kernel_rfl) (Args.v (vI 2) (eI 2) (by kernel_rfl) (Args.v (vI a0.fNodes) (eI a0.fNodes) (by kernel_rfl) Args.nil)) (ok23 m 2 a0.fNodes v8 ev8 n (by omega)))) ?_
      refine Ops.sg 1 3 ?_
      refine Ops.dn ?_
      refine seqQ.n ?_
      refine Wp.ret (by kernel_rfl) ?_
      refine sqQ.r ?_
      refine seqQ.r ?_
      exact fnQP.r' (X21 n) (fun z => (e27 z)) c45 h (RetOkP.mk' (.v (.agg [(vI v8.fCode), (vI v8.fIndex)])) (by kernel_rfl) (by kernel_rfl) (by kernel_rfl) (by kernel_rfl))
    · refine Wp.sk ?_
      refine sqQ.n' ?_
      refine seqQ.n ?_
      refine Wp.sq ?_
      refine Wp.rg ?_
      refine Ops.sg 2 2 ?_
      refine Ops.on 3 (fun h0 e0 => (len_r (T := T) h0 22 3 .plain eI a1.fLabels (by kernel_rfl))) ?_
      refine Ops.sg 2 5 ?_
      refine Ops.dn ?_
      refine seqQ.n ?_
      refine Wp.sq ?_
      refine Wp.sq ?_
      refine Wp.rg ?_
      refine Ops.sg 2 2 ?_
      refine Ops.dn ?_
      refine seqQ.n ?_
      have J21j26 : ∀ (v9 : Int) (v12 : Bool) (d10 : D) (d11 : D) (d13 : D) (d14 : D) (d15 : D) (d16 : D) (d17 : D) (d18 : D) (d19 : D) (d20 : D) (d21 : D) (d22 : D) (d23 : D) (d24 : D) (d25 : D), f21_j12 m K a0 a1 a2 v9 v12 = some o → (seqQ (X21 n) p21_0 (fnQP (X21 n).E.T (resOf Proofs.Tryd.prog 21) (e27 o.1) (c45 o.2))) .normal ⟨(.ptr 0 0) :: (.v (.agg [(vI a1.fKind), (vP eI a1.fLabels), (vP ep24 a1.fSubs), (vI a1.fLeast), (vI a1.fMost)])) :: (dI a2) :: u1 ((.ptr 1 0) :: u1 ((.ptr 2 0) :: (dI a0.fNodes) :: (dI v9) :: (dI (a1.fLabels.length : Int)) :: u5 ((.ptr 0 0) :: (.ptr 0 0) :: (.ptr 0 0) :: (dI a0.fNodes) :: (.ptr 0 0) :: (.ptr 0 0) :: (.ptr 0 0) :: (dI a0.fNodes) :: (dI (w64 (a0.fNodes + 1))) :: (.ptr 0 0) :: (.ptr 0 0) :: (.ptr 0 0) :: (.ptr 0 0) :: (.ptr 0 0) :: (dI (w64 (a0.fNodes + 1))) :: (dB v5) :: (dB v5) :: d10 :: d11 :: (dB v6) :: u2 ((.ptr 1 1) :: (dP eI a1.fLabels) :: (dI (a1.fLabels.length : Int)) :: (.ptr 1 0) :: (dI a1.fKind) :: u2 ((dB v12) :: (dB (a1.fKind == 1)) :: d13 :: d14 :: d15 :: d16 :: d17 :: d18 :: d19 :: d20 :: d21 :: d22 :: d23 :: d24 :: d25 :: u40 (u40 (u30 []))))))), [(b21_0 a0), (b21_1 a1), b21_2]⟩ := by
        intro v9 v12 d10 d11 d13 d14 d15 d16 d17 d18 d19 d20 d21 d22 d23 d24 d25 h
        unfold f21_j12 at h
        refine seqQ.n ?_
        refine Wp.sq ?_
        refine Wp.sq ?_
        refine Wp.rg ?_
        refine Ops.sg 2 2 ?_
        refine Ops.on 3 (fun h0 e0 => (len_r (T := T) h0 23 25 .plain ep24 a1.fSubs (by kernel_rfl))) ?_
        refine Ops.sg 3 6 ?_
        refine Ops.hv (fun KQ => ∀ (d29 d30 d31 d32 d33 d34 : D) (v35 : Bool) (v36 : Bool), f21_r11 m K a0 a1 a2 v36 = some o → KQ 13 ⟨(.ptr 0 0) :: (.v (.agg [(vI a1.fKind), (vP eI a1.fLabels), (vP ep24 a1.fSubs), (vI a1.fLeast), (vI a1.fMost)])) :: (dI a2) :: u1 ((.ptr 1 0) :: u1 ((.ptr 2 0) :: (dI a0.fNodes) :: (dI v9) :: (dI (a1.fLabels.length : Int)) :: u5 ((.ptr 0 0) :: (.ptr 0 0) :: (.ptr 0 0) :: (dI a0.fNodes) :: (.ptr 0 0) :: (.ptr 0 0) :: (.ptr 0 0) :: (dI a0.fNodes) :: (dI (w64 (a0.fNodes + 1))) :: (.ptr 0 0) :: (.ptr 0 0) :: (.ptr 0 0) :: (.ptr 0 0) :: (.ptr 0 0) :: (dI (w64 (a0.fNodes + 1))) :: (dB v5) :: (dB v5) :: d10 :: d11 :: (dB v6) :: u2 ((.ptr 1 1) :: (dP eI a1.fLabels) :: (dI (a1.fLabels.length : Int)) :: (.ptr 1 0) :: (dI a1.fKind) :: u2 ((dB v12) :: (dB (a1.fKind == 1)) :: d13 :: d14 :: d15 :: d16 :: d17 :: d18 :: d19 :: d20 :: d21 :: d22 :: d23 :: d24 :: d25 :: (.ptr 1 2) :: (dP ep24 a1.fSubs) :: (dI (a1.fSubs.length : Int)) :: (dI v9) :: (dB v35) :: (dB v35) :: d29 :: d30 :: d31 :: d32 :: d33 :: d34 :: (dB v36) :: u40 (u40 (u17 []))))))), [(b21_0 a0), (b21_1 a1), b21_2]⟩) ?_ fun J21j37 => ?_
        · intro d29 d30 d31 d32 d33 d34 v35 v36 h
          unfold f21_r11 at h
          refine Ops.sg 1 14 ?_
          refine Ops.hv (fun KQ => ∀ (d40 d41 : D) (v42 : Bool) (v43 : Bool), f21_r10 m K a0 a1 a2 v43 = some o → KQ 17 ⟨(.ptr 0 0) :: (.v (.agg [(vI a1.fKind), (vP eI a1.fLabels), (vP ep24 a1.fSubs), (vI a1.fLeast), (vI a1.fMost)])) :: (dI a2) :: u1 ((.ptr 1 0) :: u1 ((.ptr 2 0) :: (dI a0.fNodes) :: (dI v9) :: (dI (a1.fLabels.length : Int)) :: u5 ((.ptr 0 0) :: (.ptr 0 0) :: (.ptr 0 0) :: (dI a0.fNodes) :: (.ptr 0 0) :: (.ptr 0 0) :: (.ptr 0 0) :: (dI a0.fNodes) :: (dI (w64 (a0.fNodes + 1))) :: (.ptr 0 0) :: (.ptr 0 0) :: (.ptr 0 0) :: (.ptr 0 0) :: (.ptr 0 0) :: (dI (w64 (a0.fNodes + 1))) :: (dB v5) :: (dB v5) :: d10 :: d11 :: (dB v6) :: u2 ((.ptr 1 1) :: (dP eI a1.fLabels) :: (dI (a1.fLabels.length : Int)) :: (.ptr 1 0) :: (dI a1.fKind) :: u2 ((dB v12) :: (dB (a1.fKind == 1)) :: d13 :: d14 :: d15 :: d16 :: d17 :: d18 :: d19 :: d20 :: d21 :: d22 :: d23 :: d24 :: d25 :: (.ptr 1 2) :: (dP ep24 a1.fSubs) :: (dI (a1.fSubs.length : Int)) :: (dI v9) :: (dB v35) :: (dB v35) :: d29 :: d30 :: d31 :: d32 :: d33 :: d34 :: (dB v42) :: (dB v42) :: d40 :: d41 :: (dB v43) :: u40 (u40 (u13 []))))))), [(b21_0 a0), (b21_1 a1), b21_2]⟩) ?_ fun J21j44 => ?_
          · intro d40 d41 v42 v43 h
            unfold f21_r10 at h
            refine Ops.dn ?_
            refine seqQ.n ?_
            refine Wp.cnd h [0, 2, 4, 6, 7] 3 (by kernel_rfl) (fun h => ?_) (fun h => ?_)
            · refine Wp.sq ?_
              refine Wp.rg ?_
              refine Ops.sg 1 1 ?_
              obtain ⟨v45, ev45, h⟩ := bnd_some h
              refine Ops.on 2 (fun h0 e0 => (call_ok (E' := EG) (h := h0) (by kernel_rfl) (Args.v (vI 9) (eI 9) (by kernel_rfl) (Args.v (vI a0.fNodes) (eI a0.fNodes) (by kernel_rfl) Args.nil)) (ok23 m 9 a0.fNodes v45 ev45 n (by omega)))) ?_
              refine Ops.sg 1 3 ?_
              refine Ops.dn ?_
              refine seqQ.n ?_
              refine Wp.ret (by kernel_rfl) ?_
              refine sqQ.r ?_
              refine seqQ.r ?_
              exact fnQP.r' (X21 n) (fun z => (e27 z)) c45 h (RetOkP.mk' (.v (.agg [(vI v45.fCode), (vI v45.fIndex)])) (by kernel_rfl) (by kernel_rfl) (by kernel_rfl) (by kernel_rfl))
            · refine Wp.sk ?_
              refine sqQ.n' ?_
              refine seqQ.n ?_
              refine Wp.sq ?_
              refine Wp.sq ?_
              refine Wp.rg ?_
              refine Ops.sg 2 2 ?_
              refine Ops.on 3 (fun h0 e0 => (len_r (T := T) h0 22 3 .plain eI a1.fLabels (by kernel_rfl))) ?_
              refine Ops.sg 1 4 ?_
              refine Ops.dn ?_
              refine seqQ.n ?_
              refine Wp.block' 1 [0, 2, 4, 6, 7] 3 (by kernel_rfl) ?_
              have hLx111 : ∀ (kx85 : Nat) (v83 : Int)  (ox84 : (S27 × S45) ⊕ (Int)), iter (fun (y : Int) => f21_B2 m K a0 a1 y) kx85 v83 = some ox84 → ∀ nx86, kx85 ≤ nx86 → (∀ r, ox84 = .inl r → ∀ σ, RetOkP (X21 n) (resOf Proofs.Tryd.prog 21) (e27 r.1) (c45 r.2) σ → (seqQ (X21 n) p21_1 (fnQP (X21 n).E.T (resOf Proofs.Tryd.prog 21) (e27 o.1) (c45 o.2))) .ret σ) → (∀ (y : Int) , ox84 = .inr y → (seqQ (X21 n) p21_1 (fnQP (X21 n).E.T (resOf Proofs.Tryd.prog 21) (e27 o.1) (c45 o.2))) .normal ⟨(.ptr 0 0) :: q1 ((dI a2) :: q1 ((.ptr 1 0) :: q1 ((.ptr 2 0) :: (dI a0.fNodes) :: q40 (q31 ((dP eI a1.fLabels) :: (dI (a1.fLabels.length : Int)) :: (dI y) :: q40 (q40 (q7 []))))))), [(b21_0 a0), (b21_1 a1), b21_2]⟩) → Lp (X21 n) k21_0 3 (cL (cL (cR (cL (cR p21_0))))) nx86 ⟨(.ptr 0 0) :: q1 ((dI a2) :: q1 ((.ptr 1 0) :: q1 ((.ptr 2 0) :: (dI a0.fNodes) :: q40 (q31 ((dP eI a1.fLabels) :: (dI (a1.fLabels.length : Int)) :: (dI v83) :: q40 (q40 (q7 []))))))), [(b21_0 a0), (b21_1 a1), b21_2]⟩ (blkQ (X21 n) 1 [0, 2, 4, 6, 7] 3 (seqQ (X21 n) p21_1 (fnQP (X21 n).E.T (resOf Proofs.Tryd.prog 21) (e27 o.1) (c45 o.2)))) := by
                intro kx85
                induction kx85 with
                | zero => intro v83  ox84 h; exact (iter_zero h).elim
                | succ kx85 ihx87 =>
                  intro v83  ox84 h nx86 hnx90 hrx88 hxx89
                  obtain ⟨nx86, rfl⟩ : ∃ q, nx86 = q + 1 := ⟨nx86 - 1, by omega⟩
                  obtain ⟨sx91, h, hsx92⟩ := iter_some h
                  have h : f21_B2 m K a0 a1 v83 = some sx91 := h
                  unfold f21_B2 at h
                  refine Lp.succ ?_
                  refine Wp.sq ?_
                  refine Wp.rg ?_
                  refine Ops.sg 1 1 ?_
                  refine Ops.dn ?_
                  refine seqQ.n ?_
                  refine Wp.sq ?_
                  refine Wp.cnd h k21_0 3 (by kernel_rfl) (fun h => ?_) (fun h => ?_)
                  · refine Wp.sk ?_
                    refine sqQ.n' ?_
                    refine seqQ.n ?_
                    refine Wp.sq ?_
                    refine Wp.block' 2 k21_0 3 (by kernel_rfl) ?_
                    refine Wp.sq ?_
                    refine Wp.rg ?_
                    refine Ops.sg 1 1 ?_
                    obtain ⟨v93, ev93, h⟩ := bnd_some h
                    refine Ops.on 2 (fun h0 e0 => (ix_r (T := T) h0 22 3 1 .plain eI a1.fLabels v83 v93 ev93 (by kernel_rfl) (by kernel_rfl) (fun _ => rfl))) ?_
                    refine Ops.sg 3 5 ?_
                    refine Ops.dn ?_
                    refine seqQ.n ?_
                    refine Wp.sq ?_
                    refine Wp.sq ?_
                    refine Wp.rg ?_
                    refine Ops.sg 1 1 ?_
                    obtain ⟨v94, ev94, h⟩ := bnd_some h
                    refine Ops.on 2 (fun h0 e0 => (call_ok (E' := EG) (h := h0) (by kernel_rfl) (Args.v (vI v93) (eI v93) (by kernel_rfl) Args.nil) (ok37 m v93 v94 ev94 n (by omega)))) ?_
                    refine Ops.sg 1 3 ?_
                    refine Ops.dn ?_
                    refine seqQ.n ?_
                    refine Wp.cnd h [0, 2, 4, 6, 7, 10, 11, 79, 80, 81] 3 (by kernel_rfl) (fun h => ?_) (fun h => ?_)
                    · refine Wp.sq ?_
                      refine Wp.rg ?_
                      refine Ops.sg 1 1 ?_
                      obtain ⟨v95, ev95, h⟩ := bnd_some h
                      refine Ops.on 2 (fun h0 e0 => (call_ok (E' := EG) (h := h0) (by kernel_rfl) (Args.v (vI 3) (eI 3) (by kernel_rfl) (Args.v (vI a0.fNodes) (eI a0.fNodes) (by kernel_rfl) Args.nil)) (ok23 m 3 a0.fNodes v95 ev95 n (by omega)))) ?_
                      refine Ops.sg 1 3 ?_
                      refine Ops.dn ?_
                      refine seqQ.n ?_
                      refine Wp.ret (by kernel_rfl) ?_
                      refine sqQ.r ?_
                      refine seqQ.r ?_
                      refine blkQ.r ?_
                      refine seqQ.r ?_
                      cases h
                      refine lpQ.r ?_
                      refine blkQ.r ?_
                      exact hrx88 _ hsx92 _ (RetOkP.forget k21_0 (by kernel_rfl) (RetOkP.mk' (.v (.agg [(vI v95.fCode), (vI v95.fIndex)])) (by kernel_rfl) (by kernel_rfl) (by kernel_rfl) (by kernel_rfl)))
                    · refine Wp.sk ?_
                      refine sqQ.n' ?_
                      refine seqQ.n ?_
                      refine Wp.sq ?_
                      refine Wp.rg ?_
                      refine Ops.sg 3 3 ?_
                      refine Ops.hv (fun KQ => ∀ (d98 d99 d100 d101 d102 d103 d104 d105 : D) (v106 : Bool) (v107 : Bool), f21_r1 m K a0 v83 v107 = some sx91 → KQ 12 ⟨(.ptr 0 0) :: q1 ((dI a2) :: q1 ((.ptr 1 0) :: q1 ((.ptr 2 0) :: (dI a0.fNodes) :: q2 ((dI v83) :: (dI v93) :: q40 (q27 ((dP eI a1.fLabels) :: (dI (a1.fLabels.length : Int)) :: (dI v83) :: (dB (decide (v83 < (a1.fLabels.length : Int)))) :: (dI v83) :: (.vptr [(vI v93)]) :: (dI v93) :: (dI v93) :: (dB v94) :: (dB (!v94)) :: q2 ((dI v83) :: (dB v106) :: (dB v106) :: d98 :: d99 :: d100 :: d101 :: d102 :: d103 :: d104 :: d105 :: (dB v107) :: q40 (q26 [])))))))), [(b21_0 a0), (b21_1 a1), b21_2]⟩) ?_ fun J21j108 => ?_
                      · intro d98 d99 d100 d101 d102 d103 d104 d105 v106 v107 h
                        unfold f21_r1 at h
                        refine Ops.dn ?_
                        refine seqQ.n ?_
                        refine Wp.cnd h k21_0 3 (by kernel_rfl) (fun h => ?_) (fun h => ?_)
                        · refine Wp.sq ?_
                          refine Wp.rg ?_
                          refine Ops.sg 1 1 ?_
                          obtain ⟨v109, ev109, h⟩ := bnd_some h
                          refine Ops.on 2 (fun h0 e0 => (call_ok (E' := EG) (h := h0) (by kernel_rfl) (Args.v (vI 13) (eI 13) (by kernel_rfl) (Args.v (vI a0.fNodes) (eI a0.fNodes) (by kernel_rfl) Args.nil)) (ok23 m 13 a0.fNodes v109 ev109 n (by omega)))) ?_
                          refine Ops.sg 1 3 ?_
                          refine Ops.dn ?_
                          refine seqQ.n ?_
                          refine Wp.ret (by kernel_rfl) ?_
                          refine sqQ.r ?_
                          refine blkQ.r ?_
                          refine seqQ.r ?_
                          cases h
                          refine lpQ.r ?_
                          refine blkQ.r ?_
                          exact hrx88 _ hsx92 _ (RetOkP.forget k21_0 (by kernel_rfl) (RetOkP.mk' (.v (.agg [(vI v109.fCode), (vI v109.fIndex)])) (by kernel_rfl) (by kernel_rfl) (by kernel_rfl) (by kernel_rfl)))
                        · refine Wp.sk ?_
                          refine sqQ.n' ?_
                          refine blkQ.n' ?_
                          refine seqQ.n ?_
                          refine Wp.rg ?_
                          refine Ops.sg 2 2 ?_
                          refine Ops.dn ?_
                          refine lpQ.n ⟨(.ptr 0 0) :: q1 ((dI a2) :: q1 ((.ptr 1 0) :: q1 ((.ptr 2 0) :: (dI a0.fNodes) :: q40 (q31 ((dP eI a1.fLabels) :: (dI (a1.fLabels.length : Int)) :: (dI (w64 (v83 + 1))) :: q40 (q40 (q7 []))))))), [(b21_0 a0), (b21_1 a1), b21_2]⟩ (by kernel_rfl) ?_
                          cases h
                          exact ihx87 (w64 (v83 + 1))  _ hsx92 _ (by omega) hrx88 hxx89
                      obtain ⟨v107, ev107, h⟩ := bnd_some h
                      refine Ops.hv (fun KQ => ∀ v96 : Bool, (cnd v96 (bnd (idx a1.fLabels (w64 (v83 - 1))) fun v110 => some (decide (v110 ≥ v93))) (some false)) = some v107 → KQ 3 ⟨(.ptr 0 0) :: q1 ((dI a2) :: q1 ((.ptr 1 0) :: q1 ((.ptr 2 0) :: (dI a0.fNodes) :: q2 ((dI v83) :: (dI v93) :: q40 (q27 ((dP eI a1.fLabels) :: (dI (a1.fLabels.length : Int)) :: (dI v83) :: (dB (decide (v83 < (a1.fLabels.length : Int)))) :: (dI v83) :: (.vptr [(vI v93)]) :: (dI v93) :: (dI v93) :: (dB v94) :: (dB (!v94)) :: q2 ((dI v83) :: (dB v96) :: (dB v96) :: q40 (q35 [])))))))), [(b21_0 a0), (b21_1 a1), b21_2]⟩) ?_ fun G21g97 => Ops.st _ (by kernel_rfl) (G21g97 (decide (v83 > 0)) ev107)
                      intro v96 ev107
                      cases v96
                      · have ev107 := cnd_f ev107
                        refine Ops.sg 9 12 ?_
                        exact Ops.st _ (by kernel_rfl) (J21j108 U U U U U U U U false false (some_sub (fun v107 => f21_r1 m K a0 v83 v107 = some sx91) ev107 h))
                      · have ev107 := cnd_t ev107
                        refine Ops.sg 4 7 ?_
                        obtain ⟨v110, ev110, ev107⟩ := bnd_some ev107
                        refine Ops.on 8 (fun h0 e0 => (ix_r (T := T) h0 22 3 1 .plain eI a1.fLabels (w64 (v83 - 1)) v110 ev110 (by kernel_rfl) (by kernel_rfl) (fun _ => rfl))) ?_
                        refine Ops.sg 4 12 ?_
                        exact Ops.st _ (by kernel_rfl) (J21j108 (.ptr 1 1) (dP eI a1.fLabels) (dI v83) (dI (w64 (v83 - 1))) (.vptr [(vI v110)]) (dI v110) (dI v93) (dB (decide (v110 ≥ v93))) true (decide (v110 ≥ v93)) (some_sub (fun v107 => f21_r1 m K a0 v83 v107 = some sx91) ev107 h))
                  · refine Wp.exit (id := 1) (by kernel_rfl) ?_
                    refine sqQ.x ?_
                    refine seqQ.x ?_
                    cases h
                    refine lpQ.x ?_
                    refine blkQ.x ⟨(.ptr 0 0) :: q1 ((dI a2) :: q1 ((.ptr 1 0) :: q1 ((.ptr 2 0) :: (dI a0.fNodes) :: q40 (q31 ((dP eI a1.fLabels) :: (dI (a1.fLabels.length : Int)) :: (dI v83) :: q40 (q40 (q7 []))))))), [(b21_0 a0), (b21_1 a1), b21_2]⟩ (by kernel_rfl) ?_
                    exact hxx89 v83  hsx92
              refine Wp.loop' k21_0 3 (by kernel_rfl) ⟨(.ptr 0 0) :: q1 ((dI a2) :: q1 ((.ptr 1 0) :: q1 ((.ptr 2 0) :: (dI a0.fNodes) :: q40 (q31 ((dP eI a1.fLabels) :: (dI (a1.fLabels.length : Int)) :: (dI 0) :: q40 (q40 (q7 []))))))), [(b21_0 a0), (b21_1 a1), b21_2]⟩ (by kernel_rfl) ?_
              rcases brk_some h with ⟨r113, er113, h⟩ | ⟨y112, ey112, h⟩
              · refine hLx111 _ 0  _ er113 n (by omega) (fun r er σ hσ => ?_) (fun y  ey => by cases ey)
                cases er
                refine seqQ.r ?_
                exact fnQP.r' (X21 n) (fun z => (e27 z)) c45 h hσ
              · refine hLx111 _ 0  _ ey112 n (by omega) (fun r er => by cases er) (fun y  ey => ?_)
                cases ey
                refine seqQ.n ?_
                refine Wp.sq ?_
                refine Wp.sq ?_
                refine Wp.rg ?_
                refine Ops.sg 3 3 ?_
                refine Ops.dn ?_
                refine seqQ.n ?_
                have J21j150 : ∀  (d114 : D) (d115 : D) (d116 : D) (d117 : D) (d118 : D) (d119 : D) (d120 : D) (d121 : D) (d122 : D) (d123 : D) (d124 : D) (d125 : D) (d126 : D) (d127 : D) (d128 : D) (d129 : D) (d130 : D) (d131 : D) (d132 : D) (d133 : D) (d134 : D) (d135 : D) (d136 : D) (d137 : D) (d138 : D) (d139 : D) (d140 : D) (d141 : D) (d142 : D) (d143 : D) (d144 : D) (d145 : D) (d146 : D) (d147 : D) (d148 : D) (d149 : D), f21_j4 m K a0 a1 a2 = some o → (seqQ (X21 n) (cR p21_1) (fnQP (X21 n).E.T (resOf Proofs.Tryd.prog 21) (e27 o.1) (c45 o.2))) .normal ⟨(.ptr 0 0) :: q1 ((dI a2) :: q1 ((.ptr 1 0) :: q1 ((.ptr 2 0) :: (dI a0.fNodes) :: q40 (q31 ((dP eI a1.fLabels) :: (dI (a1.fLabels.length : Int)) :: (dI y112) :: q24 ((.ptr 1 0) :: (dI a1.fKind) :: (dB (a1.fKind == 5)) :: d114 :: d115 :: d116 :: d117 :: d118 :: d119 :: d120 :: d121 :: d122 :: d123 :: d124 :: d125 :: d126 :: d127 :: d128 :: d129 :: d130 :: d131 :: q2 (d132 :: d133 :: d134 :: d135 :: d136 :: d137 :: d138 :: d139 :: d140 :: d141 :: q2 (d142 :: d143 :: d144 :: d145 :: d146 :: d147 :: d148 :: d149 :: q20 [])))))))), [(b21_0 a0), (b21_1 a1), b21_2]⟩ := by
                  intro  d114 d115 d116 d117 d118 d119 d120 d121 d122 d123 d124 d125 d126 d127 d128 d129 d130 d131 d132 d133 d134 d135 d136 d137 d138 d139 d140 d141 d142 d143 d144 d145 d146 d147 d148 d149 h
                  unfold f21_j4 at h
                  refine seqQ.n ?_
                  refine Wp.sq ?_
                  refine Wp.sq ?_
                  refine Wp.rg ?_
                  refine Ops.sg 2 2 ?_
                  refine Ops.on 3 (fun h0 e0 => (len_r (T := T) h0 23 25 .plain ep24 a1.fSubs (by kernel_rfl))) ?_
                  refine Ops.sg 1 4 ?_
                  refine Ops.dn ?_
                  refine seqQ.n ?_
                  refine Wp.block' 3 [6] 3 (by kernel_rfl) ?_
                  have hLx170 : ∀ (kx160 : Nat) (v157 : Int) (v158 : Int)  (ox159 : (S27 × S45) ⊕ (Int × Int)), iter (fun (y : Int × Int) => f21_B3 m K a1 a2 y.1 y.2) kx160 (v157, v158) = some ox159 → ∀ nx161, kx160 ≤ nx161 → (∀ r, ox159 = .inl r → ∀ σ, RetOkP (X21 n) (resOf Proofs.Tryd.prog 21) (e27 r.1) (c45 r.2) σ → (seqQ (X21 n) p21_2 (fnQP (X21 n).E.T (resOf Proofs.Tryd.prog 21) (e27 o.1) (c45 o.2))) .ret σ) → (∀ (y : Int × Int) , ox159 = .inr y → (seqQ (X21 n) p21_2 (fnQP (X21 n).E.T (resOf Proofs.Tryd.prog 21) (e27 o.1) (c45 o.2))) .normal ⟨(.ptr 0 0) :: q1 ((dI a2) :: q3 ((.ptr 2 0) :: q40 (q40 (q40 (q25 ((dP ep24 a1.fSubs) :: (dI (a1.fSubs.length : Int)) :: (dI y.1) :: q14 [])))))), [(.cells [(dI y.2)]), (b21_1 a1), b21_2]⟩) → Lp (X21 n) k21_1 3 (cL (cL (cR (cL (cR p21_1))))) nx161 ⟨(.ptr 0 0) :: q1 ((dI a2) :: q3 ((.ptr 2 0) :: q40 (q40 (q40 (q25 ((dP ep24 a1.fSubs) :: (dI (a1.fSubs.length : Int)) :: (dI v157) :: q14 [])))))), [(.cells [(dI v158)]), (b21_1 a1), b21_2]⟩ (blkQ (X21 n) 3 [6] 3 (seqQ (X21 n) p21_2 (fnQP (X21 n).E.T (resOf Proofs.Tryd.prog 21) (e27 o.1) (c45 o.2)))) := by
                    intro kx160
                    induction kx160 with
                    | zero => intro v157 v158  ox159 h; exact (iter_zero h).elim
                    | succ kx160 ihx162 =>
                      intro v157 v158  ox159 h nx161 hnx165 hrx163 hxx164
                      obtain ⟨nx161, rfl⟩ : ∃ q, nx161 = q + 1 := ⟨nx161 - 1, by omega⟩
                      obtain ⟨sx166, h, hsx167⟩ := iter_some h
                      have h : f21_B3 m K a1 a2 v157 v158 = some sx166 := h
                      unfold f21_B3 at h
                      refine Lp.succ ?_
                      refine Wp.sq ?_
                      refine Wp.rg ?_
                      refine Ops.sg 1 1 ?_
                      refine Ops.dn ?_
                      refine seqQ.n ?_
                      refine Wp.sq ?_
                      refine Wp.cnd h k21_1 3 (by kernel_rfl) (fun h => ?_) (fun h => ?_)
                      · refine Wp.sk ?_
                        refine sqQ.n' ?_
                        refine seqQ.n ?_
                        refine Wp.sq ?_
                        refine Wp.block' 4 k21_1 3 (by kernel_rfl) ?_
                        refine Wp.sq ?_
                        refine Wp.rg ?_
                        obtain ⟨v168, ev168, h⟩ := bnd_some h
                        refine Ops.on 1 (fun h0 e0 => (ixb24 (ix_r (T := T) h0 23 25 5 .plain ep24 a1.fSubs v157 v168 ev168 (by kernel_rfl) (by kernel_rfl) ep24_len))) ?_
                        refine Ops.sg 3 4 ?_
                        refine Ops.dn ?_
                        refine seqQ.n ?_
                        refine Wp.sq ?_
                        refine Wp.rg ?_
                        refine Ops.sg 4 4 ?_
                        obtain ⟨v169, ev169, h⟩ := bnd_some h
                        refine Ops.on 5 (fun h0 e0 => (call_ptr (E' := EG) (h := h0) (q := 0) (cs := c45 (⟨v158⟩ : S45)) (by kernel_rfl) (by kernel_rfl) (by kernel_rfl) (hq_of e0 (by kernel_rfl)) (by kernel_rfl) (Args.v (.agg [(vI v168.vw.fKind), (vP eI v168.vw.fLabels), (vP ep24 v168.vw.fSubs), (vI v168.vw.fLeast), (vI v168.vw.fMost)]) (e24 v168.vw) (by kernel_rfl) (Args.v (vI (w64 (a2 + 1))) (eI (w64 (a2 + 1))) (by kernel_rfl) Args.nil)) (hK.ok21 (⟨v158⟩ : S45) v168.vw (w64 (a2 + 1)) v169 ev169 n (by omega)))) ?_
                        refine Ops.sg 2 7 ?_
                        refine Ops.dn ?_
                        refine seqQ.n ?_
                        refine Wp.sq ?_
                        refine Wp.rg ?_
                        refine Ops.sg 3 3 ?_
                        refine Ops.dn ?_
                        refine seqQ.n ?_
                        refine Wp.cnd h k21_1 5 (by kernel_rfl) (fun h => ?_) (fun h => ?_)
                        · refine Wp.sq ?_
                          refine Wp.rg ?_
                          refine Ops.sg 2 2 ?_
                          refine Ops.dn ?_
                          refine seqQ.n ?_
                          refine Wp.ret (by kernel_rfl) ?_
                          refine sqQ.r ?_
                          refine blkQ.r ?_
                          refine seqQ.r ?_
                          cases h
                          refine lpQ.r ?_
                          refine blkQ.r ?_
                          exact hrx163 _ hsx167 _ (RetOkP.forget k21_1 (by kernel_rfl) (RetOkP.mk' (.v (.agg [(vI v169.1.fCode), (vI v169.1.fIndex)])) (by kernel_rfl) (by kernel_rfl) (by kernel_rfl) (by kernel_rfl)))
                        · refine Wp.sk ?_
                          refine sqQ.n' ?_
                          refine blkQ.n' ?_
                          refine seqQ.n ?_
                          refine Wp.rg ?_
                          refine Ops.sg 2 2 ?_
                          refine Ops.dn ?_
                          refine lpQ.n ⟨(.ptr 0 0) :: q1 ((dI a2) :: q3 ((.ptr 2 0) :: q40 (q40 (q40 (q25 ((dP ep24 a1.fSubs) :: (dI (a1.fSubs.length : Int)) :: (dI (w64 (v157 + 1))) :: q14 [])))))), [(.cells [(dI v169.2.fNodes)]), (b21_1 a1), b21_2]⟩ (by kernel_rfl) ?_
                          cases h
                          exact ihx162 (w64 (v157 + 1)) v169.2.fNodes  _ hsx167 _ (by omega) hrx163 hxx164
                      · refine Wp.exit (id := 3) (by kernel_rfl) ?_
                        refine sqQ.x ?_
                        refine seqQ.x ?_
                        cases h
                        refine lpQ.x ?_
                        refine blkQ.x ⟨(.ptr 0 0) :: q1 ((dI a2) :: q3 ((.ptr 2 0) :: q40 (q40 (q40 (q25 ((dP ep24 a1.fSubs) :: (dI (a1.fSubs.length : Int)) :: (dI v157) :: q14 [])))))), [(.cells [(dI v158)]), (b21_1 a1), b21_2]⟩ (by kernel_rfl) ?_
                        exact hxx164 (v157, v158)  hsx167
                  refine Wp.loop' k21_1 3 (by kernel_rfl) ⟨(.ptr 0 0) :: q1 ((dI a2) :: q3 ((.ptr 2 0) :: q40 (q40 (q40 (q25 ((dP ep24 a1.fSubs) :: (dI (a1.fSubs.length : Int)) :: (dI 0) :: q14 [])))))), [(b21_0 a0), (b21_1 a1), b21_2]⟩ (by kernel_rfl) ?_
                  rcases brk_some h with ⟨r172, er172, h⟩ | ⟨y171, ey171, h⟩
                  · refine hLx170 _ 0 (w64 (a0.fNodes + 1))  _ er172 n (by omega) (fun r er σ hσ => ?_) (fun y  ey => by cases ey)
                    cases er
                    refine seqQ.r ?_
                    exact fnQP.r' (X21 n) (fun z => (e27 z)) c45 h hσ
                  · refine hLx170 _ 0 (w64 (a0.fNodes + 1))  _ ey171 n (by omega) (fun r er => by cases er) (fun y  ey => ?_)
                    cases ey
                    refine seqQ.n ?_
                    refine Wp.sq ?_
                    refine Wp.rg ?_
                    refine Ops.sg 2 2 ?_
                    refine Ops.dn ?_
                    refine seqQ.n ?_
                    refine Wp.ret (by kernel_rfl) ?_
                    exact fnQP.r' (X21 n) (fun z => (e27 z)) c45 h (RetOkP.mk' (.v (.agg [(vI 0), (vI 0)])) (by kernel_rfl) (by kernel_rfl) (by kernel_rfl) (by kernel_rfl))
                refine Wp.cnd h [0, 2, 4, 6] 3 (by kernel_rfl) (fun h => ?_) (fun h => ?_)
                · refine Wp.sq ?_
                  refine Wp.sq ?_
                  refine Wp.rg ?_
                  refine Ops.sg 4 4 ?_
                  refine Ops.hv (fun KQ => ∀ (d175 d176 d177 : D) (v178 : Bool) (v179 : Bool), f21_r8 m K a0 a1 a2 v179 = some o → KQ 8 ⟨(.ptr 0 0) :: q1 ((dI a2) :: q1 ((.ptr 1 0) :: q1 ((.ptr 2 0) :: (dI a0.fNodes) :: q40 (q31 ((dP eI a1.fLabels) :: (dI (a1.fLabels.length : Int)) :: (dI y112) :: q24 ((.ptr 1 0) :: (dI a1.fKind) :: (dB (a1.fKind == 5)) :: (.ptr 1 3) :: (dI a1.fLeast) :: (dB v178) :: (dB v178) :: d175 :: d176 :: d177 :: (dB v179) :: q40 (q12 []))))))), [(b21_0 a0), (b21_1 a1), b21_2]⟩) ?_ fun J21j180 => ?_
                  · intro d175 d176 d177 v178 v179 h
                    unfold f21_r8 at h
                    refine Ops.sg 1 9 ?_
                    refine Ops.hv (fun KQ => ∀ (d183 d184 d185 : D) (v186 : Bool) (v187 : Bool), f21_r7 m K a0 a1 a2 v187 = some o → KQ 13 ⟨(.ptr 0 0) :: q1 ((dI a2) :: q1 ((.ptr 1 0) :: q1 ((.ptr 2 0) :: (dI a0.fNodes) :: q40 (q31 ((dP eI a1.fLabels) :: (dI (a1.fLabels.length : Int)) :: (dI y112) :: q24 ((.ptr 1 0) :: (dI a1.fKind) :: (dB (a1.fKind == 5)) :: (.ptr 1 3) :: (dI a1.fLeast) :: (dB v178) :: (dB v178) :: d175 :: d176 :: d177 :: (dB v186) :: (dB v186) :: d183 :: d184 :: d185 :: (dB v187) :: q40 (q7 []))))))), [(b21_0 a0), (b21_1 a1), b21_2]⟩) ?_ fun J21j188 => ?_
                    · intro d183 d184 d185 v186 v187 h
                      unfold f21_r7 at h
                      refine Ops.sg 1 14 ?_
                      refine Ops.hv (fun KQ => ∀ (d191 d192 d193 : D) (v194 : Bool) (v195 : Bool), f21_r6 m K a0 a1 a2 v195 = some o → KQ 18 ⟨(.ptr 0 0) :: q1 ((dI a2) :: q1 ((.ptr 1 0) :: q1 ((.ptr 2 0) :: (dI a0.fNodes) :: q40 (q31 ((dP eI a1.fLabels) :: (dI (a1.fLabels.length : Int)) :: (dI y112) :: q24 ((.ptr 1 0) :: (dI a1.fKind) :: (dB (a1.fKind == 5)) :: (.ptr 1 3) :: (dI a1.fLeast) :: (dB v178) :: (dB v178) :: d175 :: d176 :: d177 :: (dB v186) :: (dB v186) :: d183 :: d184 :: d185 :: (dB v194) :: (dB v194) :: d191 :: d192 :: d193 :: (dB v195) :: q40 (q2 []))))))), [(b21_0 a0), (b21_1 a1), b21_2]⟩) ?_ fun J21j196 => ?_
                      · intro d191 d192 d193 v194 v195 h
                        unfold f21_r6 at h
                        refine Ops.dn ?_
                        refine seqQ.n ?_
                        refine Wp.cnd h [0, 2, 4, 6, 7] 3 (by kernel_rfl) (fun h => ?_) (fun h => ?_)
                        · refine Wp.sq ?_
                          refine Wp.rg ?_
                          refine Ops.sg 1 1 ?_
                          obtain ⟨v197, ev197, h⟩ := bnd_some h
                          refine Ops.on 2 (fun h0 e0 => (call_ok (E' := EG) (h := h0) (by kernel_rfl) (Args.v (vI 3) (eI 3) (by kernel_rfl) (Args.v (vI a0.fNodes) (eI a0.fNodes) (by kernel_rfl) Args.nil)) (ok23 m 3 a0.fNodes v197 ev197 n (by omega)))) ?_
                          refine Ops.sg 1 3 ?_
                          refine Ops.dn ?_
                          refine seqQ.n ?_
                          refine Wp.ret (by kernel_rfl) ?_
                          refine sqQ.r ?_
                          refine seqQ.r ?_
                          refine sqQ.r ?_
                          refine seqQ.r ?_
                          exact fnQP.r' (X21 n) (fun z => (e27 z)) c45 h (RetOkP.mk' (.v (.agg [(vI v197.fCode), (vI v197.fIndex)])) (by kernel_rfl) (by kernel_rfl) (by kernel_rfl) (by kernel_rfl))
                        · refine Wp.sk ?_
                          refine sqQ.n' ?_
                          refine seqQ.n ?_
                          refine Wp.sq ?_
                          refine Wp.rg ?_
                          refine Ops.sg 4 4 ?_
                          refine Ops.hv (fun KQ => ∀ (d200 d201 d202 d203 d204 : D) (v205 : Bool) (v206 : Bool), f21_r5 m K a0 a1 a2 v206 = some o → KQ 10 ⟨(.ptr 0 0) :: q1 ((dI a2) :: q1 ((.ptr 1 0) :: q1 ((.ptr 2 0) :: (dI a0.fNodes) :: q40 (q31 ((dP eI a1.fLabels) :: (dI (a1.fLabels.length : Int)) :: (dI y112) :: q24 ((.ptr 1 0) :: (dI a1.fKind) :: (dB (a1.fKind == 5)) :: (.ptr 1 3) :: (dI a1.fLeast) :: (dB v178) :: (dB v178) :: d175 :: d176 :: d177 :: (dB v186) :: (dB v186) :: d183 :: d184 :: d185 :: (dB v194) :: (dB v194) :: d191 :: d192 :: d193 :: (dB v195) :: q2 ((.ptr 1 4) :: (dI a1.fMost) :: (dB v205) :: (dB v205) :: d200 :: d201 :: d202 :: d203 :: d204 :: (dB v206) :: q30 []))))))), [(b21_0 a0), (b21_1 a1), b21_2]⟩) ?_ fun J21j207 => ?_
                          · intro d200 d201 d202 d203 d204 v205 v206 h
                            unfold f21_r5 at h
                            refine Ops.dn ?_
                            refine seqQ.n ?_
                            refine Wp.cnd h [0, 2, 4, 6] 3 (by kernel_rfl) (fun h => ?_) (fun h => ?_)
                            · refine Wp.sq ?_
                              refine Wp.rg ?_
                              refine Ops.sg 1 1 ?_
                              obtain ⟨v208, ev208, h⟩ := bnd_some h
                              refine Ops.on 2 (fun h0 e0 => (call_ok (E' := EG) (h := h0) (by kernel_rfl) (Args.v (vI 13) (eI 13) (by kernel_rfl) (Args.v (vI a0.fNodes) (eI a0.fNodes) (by kernel_rfl) Args.nil)) (ok23 m 13 a0.fNodes v208 ev208 n (by omega)))) ?_
                              refine Ops.sg 1 3 ?_
                              refine Ops.dn ?_
                              refine seqQ.n ?_
                              refine Wp.ret (by kernel_rfl) ?_
                              refine sqQ.r ?_
                              refine sqQ.r ?_
                              refine seqQ.r ?_
                              exact fnQP.r' (X21 n) (fun z => (e27 z)) c45 h (RetOkP.mk' (.v (.agg [(vI v208.fCode), (vI v208.fIndex)])) (by kernel_rfl) (by kernel_rfl) (by kernel_rfl) (by kernel_rfl))
                            · refine Wp.sk ?_
                              refine sqQ.n' ?_
                              refine sqQ.n ⟨(.ptr 0 0) :: q1 ((dI a2) :: q1 ((.ptr 1 0) :: q1 ((.ptr 2 0) :: (dI a0.fNodes) :: q40 (q31 ((dP eI a1.fLabels) :: (dI (a1.fLabels.length : Int)) :: (dI y112) :: q24 ((.ptr 1 0) :: (dI a1.fKind) :: (dB (a1.fKind == 5)) :: (.ptr 1 3) :: (dI a1.fLeast) :: (dB v178) :: (dB v178) :: d175 :: d176 :: d177 :: (dB v186) :: (dB v186) :: d183 :: d184 :: d185 :: (dB v194) :: (dB v194) :: d191 :: d192 :: d193 :: (dB v195) :: q2 ((.ptr 1 4) :: (dI a1.fMost) :: (dB v205) :: (dB v205) :: d200 :: d201 :: d202 :: d203 :: d204 :: (dB v206) :: q30 []))))))), [(b21_0 a0), (b21_1 a1), b21_2]⟩ (by kernel_rfl) ?_
                              exact J21j150  _ _ _ _ _ _ _ _ _ _ _ _ _ _ _ _ _ _ _ _ _ _ _ _ _ _ _ _ _ _ _ _ _ _ _ _ h
                          refine Ops.hv (fun KQ => ∀ v198 : Bool, f21_r5 m K a0 a1 a2 (v198 && (decide (a1.fMost < a1.fLeast))) = some o → KQ 4 ⟨(.ptr 0 0) :: q1 ((dI a2) :: q1 ((.ptr 1 0) :: q1 ((.ptr 2 0) :: (dI a0.fNodes) :: q40 (q31 ((dP eI a1.fLabels) :: (dI (a1.fLabels.length : Int)) :: (dI y112) :: q24 ((.ptr 1 0) :: (dI a1.fKind) :: (dB (a1.fKind == 5)) :: (.ptr 1 3) :: (dI a1.fLeast) :: (dB v178) :: (dB v178) :: d175 :: d176 :: d177 :: (dB v186) :: (dB v186) :: d183 :: d184 :: d185 :: (dB v194) :: (dB v194) :: d191 :: d192 :: d193 :: (dB v195) :: q2 ((.ptr 1 4) :: (dI a1.fMost) :: (dB v198) :: (dB v198) :: q36 []))))))), [(b21_0 a0), (b21_1 a1), b21_2]⟩) ?_ fun G21g199 => Ops.st _ (by kernel_rfl) (G21g199 (decide (a1.fMost ≥ 0)) h)
                          intro v198 h
                          cases v198
                          · refine Ops.sg 6 10 ?_
                            exact Ops.st _ (by kernel_rfl) (J21j207 U U U U U false false h)
                          · refine Ops.sg 6 10 ?_
                            exact Ops.st _ (by kernel_rfl) (J21j207 (.ptr 1 4) (dI a1.fMost) (.ptr 1 3) (dI a1.fLeast) (dB (decide (a1.fMost < a1.fLeast))) true (decide (a1.fMost < a1.fLeast)) h)
                      refine Ops.hv (fun KQ => ∀ v189 : Bool, f21_r6 m K a0 a1 a2 (v189 || (decide (a1.fMost > 9))) = some o → KQ 14 ⟨(.ptr 0 0) :: q1 ((dI a2) :: q1 ((.ptr 1 0) :: q1 ((.ptr 2 0) :: (dI a0.fNodes) :: q40 (q31 ((dP eI a1.fLabels) :: (dI (a1.fLabels.length : Int)) :: (dI y112) :: q24 ((.ptr 1 0) :: (dI a1.fKind) :: (dB (a1.fKind == 5)) :: (.ptr 1 3) :: (dI a1.fLeast) :: (dB v178) :: (dB v178) :: d175 :: d176 :: d177 :: (dB v186) :: (dB v186) :: d183 :: d184 :: d185 :: (dB v189) :: (dB v189) :: q40 (q6 []))))))), [(b21_0 a0), (b21_1 a1), b21_2]⟩) ?_ fun G21g190 => Ops.st _ (by kernel_rfl) (G21g190 v187 h)
                      intro v189 h
                      cases v189
                      · refine Ops.sg 4 18 ?_
                        exact Ops.st _ (by kernel_rfl) (J21j196 (.ptr 1 4) (dI a1.fMost) (dB (decide (a1.fMost > 9))) false (decide (a1.fMost > 9)) h)
                      · refine Ops.sg 4 18 ?_
                        exact Ops.st _ (by kernel_rfl) (J21j196 U U U true true h)
                    refine Ops.hv (fun KQ => ∀ v181 : Bool, f21_r7 m K a0 a1 a2 (v181 || (decide (a1.fMost < (-1)))) = some o → KQ 9 ⟨(.ptr 0 0) :: q1 ((dI a2) :: q1 ((.ptr 1 0) :: q1 ((.ptr 2 0) :: (dI a0.fNodes) :: q40 (q31 ((dP eI a1.fLabels) :: (dI (a1.fLabels.length : Int)) :: (dI y112) :: q24 ((.ptr 1 0) :: (dI a1.fKind) :: (dB (a1.fKind == 5)) :: (.ptr 1 3) :: (dI a1.fLeast) :: (dB v178) :: (dB v178) :: d175 :: d176 :: d177 :: (dB v181) :: (dB v181) :: q40 (q11 []))))))), [(b21_0 a0), (b21_1 a1), b21_2]⟩) ?_ fun G21g182 => Ops.st _ (by kernel_rfl) (G21g182 v179 h)
                    intro v181 h
                    cases v181
                    · refine Ops.sg 4 13 ?_
                      exact Ops.st _ (by kernel_rfl) (J21j188 (.ptr 1 4) (dI a1.fMost) (dB (decide (a1.fMost < (-1)))) false (decide (a1.fMost < (-1))) h)
                    · refine Ops.sg 4 13 ?_
                      exact Ops.st _ (by kernel_rfl) (J21j188 U U U true true h)
                  refine Ops.hv (fun KQ => ∀ v173 : Bool, f21_r8 m K a0 a1 a2 (v173 || (decide (a1.fLeast > 9))) = some o → KQ 4 ⟨(.ptr 0 0) :: q1 ((dI a2) :: q1 ((.ptr 1 0) :: q1 ((.ptr 2 0) :: (dI a0.fNodes) :: q40 (q31 ((dP eI a1.fLabels) :: (dI (a1.fLabels.length : Int)) :: (dI y112) :: q24 ((.ptr 1 0) :: (dI a1.fKind) :: (dB (a1.fKind == 5)) :: (.ptr 1 3) :: (dI a1.fLeast) :: (dB v173) :: (dB v173) :: q40 (q16 []))))))), [(b21_0 a0), (b21_1 a1), b21_2]⟩) ?_ fun G21g174 => Ops.st _ (by kernel_rfl) (G21g174 (decide (a1.fLeast < 0)) h)
                  intro v173 h
                  cases v173
                  · refine Ops.sg 4 8 ?_
                    exact Ops.st _ (by kernel_rfl) (J21j180 (.ptr 1 3) (dI a1.fLeast) (dB (decide (a1.fLeast > 9))) false (decide (a1.fLeast > 9)) h)
                  · refine Ops.sg 4 8 ?_
                    exact Ops.st _ (by kernel_rfl) (J21j180 U U U true true h)
                · refine Wp.sq ?_
                  refine Wp.rg ?_
                  refine Ops.sg 4 4 ?_
                  refine Ops.hv (fun KQ => ∀ (d211 d212 d213 : D) (v214 : Bool) (v215 : Bool), f21_r9 m K a0 a1 a2 v215 = some o → KQ 8 ⟨(.ptr 0 0) :: q1 ((dI a2) :: q1 ((.ptr 1 0) :: q1 ((.ptr 2 0) :: (dI a0.fNodes) :: q40 (q31 ((dP eI a1.fLabels) :: (dI (a1.fLabels.length : Int)) :: (dI y112) :: q24 ((.ptr 1 0) :: (dI a1.fKind) :: (dB (a1.fKind == 5)) :: q32 ((.ptr 1 3) :: (dI a1.fLeast) :: (dB v214) :: (dB v214) :: d211 :: d212 :: d213 :: (dB v215) :: q20 []))))))), [(b21_0 a0), (b21_1 a1), b21_2]⟩) ?_ fun J21j216 => ?_
                  · intro d211 d212 d213 v214 v215 h
                    unfold f21_r9 at h
                    refine Ops.dn ?_
                    refine seqQ.n ?_
                    refine Wp.cnd h [0, 2, 4, 6] 3 (by kernel_rfl) (fun h => ?_) (fun h => ?_)
                    · refine Wp.sq ?_
                      refine Wp.rg ?_
                      refine Ops.sg 1 1 ?_
                      obtain ⟨v217, ev217, h⟩ := bnd_some h
                      refine Ops.on 2 (fun h0 e0 => (call_ok (E' := EG) (h := h0) (by kernel_rfl) (Args.v (vI 5) (eI 5) (by kernel_rfl) (Args.v (vI a0.fNodes) (eI a0.fNodes) (by kernel_rfl) Args.nil)) (ok23 m 5 a0.fNodes v217 ev217 n (by omega)))) ?_
                      refine Ops.sg 1 3 ?_
                      refine Ops.dn ?_
                      refine seqQ.n ?_
                      refine Wp.ret (by kernel_rfl) ?_
                      refine sqQ.r ?_
                      refine sqQ.r ?_
                      refine seqQ.r ?_
                      exact fnQP.r' (X21 n) (fun z => (e27 z)) c45 h (RetOkP.mk' (.v (.agg [(vI v217.fCode), (vI v217.fIndex)])) (by kernel_rfl) (by kernel_rfl) (by kernel_rfl) (by kernel_rfl))
                    · refine Wp.sk ?_
                      refine sqQ.n' ?_
                      refine sqQ.n ⟨(.ptr 0 0) :: q1 ((dI a2) :: q1 ((.ptr 1 0) :: q1 ((.ptr 2 0) :: (dI a0.fNodes) :: q40 (q31 ((dP eI a1.fLabels) :: (dI (a1.fLabels.length : Int)) :: (dI y112) :: q24 ((.ptr 1 0) :: (dI a1.fKind) :: (dB (a1.fKind == 5)) :: q32 ((.ptr 1 3) :: (dI a1.fLeast) :: (dB v214) :: (dB v214) :: d211 :: d212 :: d213 :: (dB v215) :: q20 []))))))), [(b21_0 a0), (b21_1 a1), b21_2]⟩ (by kernel_rfl) ?_
                      exact J21j150  _ _ _ _ _ _ _ _ _ _ _ _ _ _ _ _ _ _ _ _ _ _ _ _ _ _ _ _ _ _ _ _ _ _ _ _ h
                  refine Ops.hv (fun KQ => ∀ v209 : Bool, f21_r9 m K a0 a1 a2 (v209 || (a1.fMost != 0)) = some o → KQ 4 ⟨(.ptr 0 0) :: q1 ((dI a2) :: q1 ((.ptr 1 0) :: q1 ((.ptr 2 0) :: (dI a0.fNodes) :: q40 (q31 ((dP eI a1.fLabels) :: (dI (a1.fLabels.length : Int)) :: (dI y112) :: q24 ((.ptr 1 0) :: (dI a1.fKind) :: (dB (a1.fKind == 5)) :: q32 ((.ptr 1 3) :: (dI a1.fLeast) :: (dB v209) :: (dB v209) :: q24 []))))))), [(b21_0 a0), (b21_1 a1), b21_2]⟩) ?_ fun G21g210 => Ops.st _ (by kernel_rfl) (G21g210 (a1.fLeast != 0) h)
                  intro v209 h
                  cases v209
                  · refine Ops.sg 4 8 ?_
                    exact Ops.st _ (by kernel_rfl) (J21j216 (.ptr 1 4) (dI a1.fMost) (dB (a1.fMost != 0)) false (a1.fMost != 0) h)
                  · refine Ops.sg 4 8 ?_
                    exact Ops.st _ (by kernel_rfl) (J21j216 U U U true true h)
          refine Ops.hv (fun KQ => ∀ v38 : Bool, f21_r10 m K a0 a1 a2 (v38 || (decide ((a1.fLabels.length : Int) > 300))) = some o → KQ 14 ⟨(.ptr 0 0) :: (.v (.agg [(vI a1.fKind), (vP eI a1.fLabels), (vP ep24 a1.fSubs), (vI a1.fLeast), (vI a1.fMost)])) :: (dI a2) :: u1 ((.ptr 1 0) :: u1 ((.ptr 2 0) :: (dI a0.fNodes) :: (dI v9) :: (dI (a1.fLabels.length : Int)) :: u5 ((.ptr 0 0) :: (.ptr 0 0) :: (.ptr 0 0) :: (dI a0.fNodes) :: (.ptr 0 0) :: (.ptr 0 0) :: (.ptr 0 0) :: (dI a0.fNodes) :: (dI (w64 (a0.fNodes + 1))) :: (.ptr 0 0) :: (.ptr 0 0) :: (.ptr 0 0) :: (.ptr 0 0) :: (.ptr 0 0) :: (dI (w64 (a0.fNodes + 1))) :: (dB v5) :: (dB v5) :: d10 :: d11 :: (dB v6) :: u2 ((.ptr 1 1) :: (dP eI a1.fLabels) :: (dI (a1.fLabels.length : Int)) :: (.ptr 1 0) :: (dI a1.fKind) :: u2 ((dB v12) :: (dB (a1.fKind == 1)) :: d13 :: d14 :: d15 :: d16 :: d17 :: d18 :: d19 :: d20 :: d21 :: d22 :: d23 :: d24 :: d25 :: (.ptr 1 2) :: (dP ep24 a1.fSubs) :: (dI (a1.fSubs.length : Int)) :: (dI v9) :: (dB v35) :: (dB v35) :: d29 :: d30 :: d31 :: d32 :: d33 :: d34 :: (dB v38) :: (dB v38) :: u40 (u40 (u16 []))))))), [(b21_0 a0), (b21_1 a1), b21_2]⟩) ?_ fun G21g39 => Ops.st _ (by kernel_rfl) (G21g39 v36 h)
          intro v38 h
          cases v38
          · refine Ops.sg 3 17 ?_
            exact Ops.st _ (by kernel_rfl) (J21j44 (dI (a1.fLabels.length : Int)) (dB (decide ((a1.fLabels.length : Int) > 300))) false (decide ((a1.fLabels.length : Int) > 300)) h)
          · refine Ops.sg 3 17 ?_
            exact Ops.st _ (by kernel_rfl) (J21j44 U U true true h)
        refine Ops.hv (fun KQ => ∀ v27 : Bool, f21_r11 m K a0 a1 a2 (v27 || (!((a1.fKind == 2) == (decide ((a1.fLabels.length : Int) > 0))))) = some o → KQ 6 ⟨(.ptr 0 0) :: (.v (.agg [(vI a1.fKind), (vP eI a1.fLabels), (vP ep24 a1.fSubs), (vI a1.fLeast), (vI a1.fMost)])) :: (dI a2) :: u1 ((.ptr 1 0) :: u1 ((.ptr 2 0) :: (dI a0.fNodes) :: (dI v9) :: (dI (a1.fLabels.length : Int)) :: u5 ((.ptr 0 0) :: (.ptr 0 0) :: (.ptr 0 0) :: (dI a0.fNodes) :: (.ptr 0 0) :: (.ptr 0 0) :: (.ptr 0 0) :: (dI a0.fNodes) :: (dI (w64 (a0.fNodes + 1))) :: (.ptr 0 0) :: (.ptr 0 0) :: (.ptr 0 0) :: (.ptr 0 0) :: (.ptr 0 0) :: (dI (w64 (a0.fNodes + 1))) :: (dB v5) :: (dB v5) :: d10 :: d11 :: (dB v6) :: u2 ((.ptr 1 1) :: (dP eI a1.fLabels) :: (dI (a1.fLabels.length : Int)) :: (.ptr 1 0) :: (dI a1.fKind) :: u2 ((dB v12) :: (dB (a1.fKind == 1)) :: d13 :: d14 :: d15 :: d16 :: d17 :: d18 :: d19 :: d20 :: d21 :: d22 :: d23 :: d24 :: d25 :: (.ptr 1 2) :: (dP ep24 a1.fSubs) :: (dI (a1.fSubs.length : Int)) :: (dI v9) :: (dB v27) :: (dB v27) :: u40 (u40 (u24 []))))))), [(b21_0 a0), (b21_1 a1), b21_2]⟩) ?_ fun G21g28 => Ops.st _ (by kernel_rfl) (G21g28 ((a1.fSubs.length : Int) != v9) h)
        intro v27 h
        cases v27
        · refine Ops.sg 7 13 ?_
          exact Ops.st _ (by kernel_rfl) (J21j37 (.ptr 1 0) (dI a1.fKind) (dB (a1.fKind == 2)) (dI (a1.fLabels.length : Int)) (dB (decide ((a1.fLabels.length : Int) > 0))) (dB (!((a1.fKind == 2) == (decide ((a1.fLabels.length : Int) > 0))))) false (!((a1.fKind == 2) == (decide ((a1.fLabels.length : Int) > 0)))) h)
        · refine Ops.sg 7 13 ?_
          exact Ops.st _ (by kernel_rfl) (J21j37 U U U U U U true true h)
      refine Wp.block' 0 k21_2 3 (by kernel_rfl) ?_
      refine Wp.sq ?_
      refine Wp.sq ?_
      refine Wp.rg ?_
      refine Ops.sg 2 2 ?_
      refine Ops.dn ?_
      refine seqQ.n ?_
      have J21j222 : ∀ (v220 : Bool) (d218 : D) (d219 : D) (d221 : D), f21_j18 m K a0 a1 a2 v220 = some o → (seqQ (X21 n) (cR (cL (cR (cL (cR (cR (cR (cR (cR C21))))))))) (blkQ (X21 n) 0 k21_2 3 (seqQ (X21 n) p21_0 (fnQP (X21 n).E.T (resOf Proofs.Tryd.prog 21) (e27 o.1) (c45 o.2))))) .normal ⟨(.ptr 0 0) :: (.v (.agg [(vI a1.fKind), (vP eI a1.fLabels), (vP ep24 a1.fSubs), (vI a1.fLeast), (vI a1.fMost)])) :: (dI a2) :: u1 ((.ptr 1 0) :: u1 ((.ptr 2 0) :: (dI a0.fNodes) :: (dI 0) :: (dI (a1.fLabels.length : Int)) :: u5 ((.ptr 0 0) :: (.ptr 0 0) :: (.ptr 0 0) :: (dI a0.fNodes) :: (.ptr 0 0) :: (.ptr 0 0) :: (.ptr 0 0) :: (dI a0.fNodes) :: (dI (w64 (a0.fNodes + 1))) :: (.ptr 0 0) :: (.ptr 0 0) :: (.ptr 0 0) :: (.ptr 0 0) :: (.ptr 0 0) :: (dI (w64 (a0.fNodes + 1))) :: (dB v5) :: (dB v5) :: d218 :: d219 :: (dB v6) :: u2 ((.ptr 1 1) :: (dP eI a1.fLabels) :: (dI (a1.fLabels.length : Int)) :: (.ptr 1 0) :: (dI a1.fKind) :: u2 ((dB v220) :: (dB (a1.fKind == 1)) :: d221 :: u40 (u40 (u40 (u2 [])))))))), [(b21_0 a0), (b21_1 a1), b21_2]⟩ := by
        intro v220 d218 d219 d221 h
        unfold f21_j18 at h
        refine seqQ.n ?_
        have J21j239 : ∀ (v223 : Int) (d224 : D) (d225 : D) (d226 : D) (d227 : D) (d228 : D) (d229 : D) (d230 : D) (d231 : D) (d232 : D) (d233 : D) (d234 : D) (d235 : D) (d236 : D) (d237 : D) (d238 : D), f21_j13 m K a0 a1 a2 v220 v223 = some o → (blkQ (X21 n) 0 k21_2 3 (seqQ (X21 n) p21_0 (fnQP (X21 n).E.T (resOf Proofs.Tryd.prog 21) (e27 o.1) (c45 o.2)))) .normal ⟨(.ptr 0 0) :: (.v (.agg [(vI a1.fKind), (vP eI a1.fLabels), (vP ep24 a1.fSubs), (vI a1.fLeast), (vI a1.fMost)])) :: (dI a2) :: u1 ((.ptr 1 0) :: u1 ((.ptr 2 0) :: (dI a0.fNodes) :: (dI v223) :: (dI (a1.fLabels.length : Int)) :: u5 ((.ptr 0 0) :: (.ptr 0 0) :: (.ptr 0 0) :: (dI a0.fNodes) :: (.ptr 0 0) :: (.ptr 0 0) :: (.ptr 0 0) :: (dI a0.fNodes) :: (dI (w64 (a0.fNodes + 1))) :: (.ptr 0 0) :: (.ptr 0 0) :: (.ptr 0 0) :: (.ptr 0 0) :: (.ptr 0 0) :: (dI (w64 (a0.fNodes + 1))) :: (dB v5) :: (dB v5) :: d224 :: d225 :: (dB v6) :: u2 ((.ptr 1 1) :: (dP eI a1.fLabels) :: (dI (a1.fLabels.length : Int)) :: (.ptr 1 0) :: (dI a1.fKind) :: u2 ((dB v220) :: (dB (a1.fKind == 1)) :: d226 :: d227 :: d228 :: d229 :: d230 :: d231 :: d232 :: d233 :: d234 :: d235 :: d236 :: d237 :: d238 :: u40 (u40 (u30 []))))))), [(b21_0 a0), (b21_1 a1), b21_2]⟩ := by
          intro v223 d224 d225 d226 d227 d228 d229 d230 d231 d232 d233 d234 d235 d236 d237 d238 h
          unfold f21_j13 at h
          refine blkQ.n ⟨(.ptr 0 0) :: (.v (.agg [(vI a1.fKind), (vP eI a1.fLabels), (vP ep24 a1.fSubs), (vI a1.fLeast), (vI a1.fMost)])) :: (dI a2) :: u1 ((.ptr 1 0) :: u1 ((.ptr 2 0) :: (dI a0.fNodes) :: (dI v223) :: (dI (a1.fLabels.length : Int)) :: u5 ((.ptr 0 0) :: (.ptr 0 0) :: (.ptr 0 0) :: (dI a0.fNodes) :: (.ptr 0 0) :: (.ptr 0 0) :: (.ptr 0 0) :: (dI a0.fNodes) :: (dI (w64 (a0.fNodes + 1))) :: (.ptr 0 0) :: (.ptr 0 0) :: (.ptr 0 0) :: (.ptr 0 0) :: (.ptr 0 0) :: (dI (w64 (a0.fNodes + 1))) :: (dB v5) :: (dB v5) :: d224 :: d225 :: (dB v6) :: u2 ((.ptr 1 1) :: (dP eI a1.fLabels) :: (dI (a1.fLabels.length : Int)) :: (.ptr 1 0) :: (dI a1.fKind) :: u2 ((dB v220) :: (dB (a1.fKind == 1)) :: d226 :: d227 :: d228 :: d229 :: d230 :: d231 :: d232 :: d233 :: d234 :: d235 :: d236 :: d237 :: d238 :: u40 (u40 (u30 []))))))), [(b21_0 a0), (b21_1 a1), b21_2]⟩ (by kernel_rfl) ?_
          exact J21j26 v223 v220 _ _ _ _ _ _ _ _ _ _ _ _ _ _ _ h
        refine Wp.cnd h k21_3 3 (by kernel_rfl) (fun h => ?_) (fun h => ?_)
        · refine Wp.sk ?_
          refine sqQ.n ⟨(.ptr 0 0) :: (.v (.agg [(vI a1.fKind), (vP eI a1.fLabels), (vP ep24 a1.fSubs), (vI a1.fLeast), (vI a1.fMost)])) :: (dI a2) :: u1 ((.ptr 1 0) :: u1 ((.ptr 2 0) :: (dI a0.fNodes) :: (dI 0) :: (dI (a1.fLabels.length : Int)) :: u5 ((.ptr 0 0) :: (.ptr 0 0) :: (.ptr 0 0) :: (dI a0.fNodes) :: (.ptr 0 0) :: (.ptr 0 0) :: (.ptr 0 0) :: (dI a0.fNodes) :: (dI (w64 (a0.fNodes + 1))) :: (.ptr 0 0) :: (.ptr 0 0) :: (.ptr 0 0) :: (.ptr 0 0) :: (.ptr 0 0) :: (dI (w64 (a0.fNodes + 1))) :: (dB v5) :: (dB v5) :: d218 :: d219 :: (dB v6) :: u2 ((.ptr 1 1) :: (dP eI a1.fLabels) :: (dI (a1.fLabels.length : Int)) :: (.ptr 1 0) :: (dI a1.fKind) :: u2 ((dB v220) :: (dB (a1.fKind == 1)) :: d221 :: u40 (u40 (u40 (u2 [])))))))), [(b21_0 a0), (b21_1 a1), b21_2]⟩ (by kernel_rfl) ?_
          exact J21j239 0 _ _ _ _ _ _ _ _ _ _ _ _ _ _ _ h
        · refine Wp.sq ?_
          refine Wp.sq ?_
          refine Wp.rg ?_
          refine Ops.sg 2 2 ?_
          refine Ops.dn ?_
          refine seqQ.n ?_
          have J21j245 : ∀ (v243 : Bool) (d240 : D) (d241 : D) (d242 : D) (d244 : D), f21_j17 m K a0 a1 a2 v220 v243 = some o → (seqQ (X21 n) (cR (cR (cR (cL (cR (cL (cR (cR (cR (cR (cR C21))))))))))) (sqQ (X21 n) k21_3 3 (blkQ (X21 n) 0 k21_2 3 (seqQ (X21 n) p21_0 (fnQP (X21 n).E.T (resOf Proofs.Tryd.prog 21) (e27 o.1) (c45 o.2)))))) .normal ⟨(.ptr 0 0) :: (.v (.agg [(vI a1.fKind), (vP eI a1.fLabels), (vP ep24 a1.fSubs), (vI a1.fLeast), (vI a1.fMost)])) :: (dI a2) :: u1 ((.ptr 1 0) :: u1 ((.ptr 2 0) :: (dI a0.fNodes) :: (dI 0) :: (dI (a1.fLabels.length : Int)) :: u5 ((.ptr 0 0) :: (.ptr 0 0) :: (.ptr 0 0) :: (dI a0.fNodes) :: (.ptr 0 0) :: (.ptr 0 0) :: (.ptr 0 0) :: (dI a0.fNodes) :: (dI (w64 (a0.fNodes + 1))) :: (.ptr 0 0) :: (.ptr 0 0) :: (.ptr 0 0) :: (.ptr 0 0) :: (.ptr 0 0) :: (dI (w64 (a0.fNodes + 1))) :: (dB v5) :: (dB v5) :: d240 :: d241 :: (dB v6) :: u2 ((.ptr 1 1) :: (dP eI a1.fLabels) :: (dI (a1.fLabels.length : Int)) :: (.ptr 1 0) :: (dI a1.fKind) :: u2 ((dB v220) :: (dB (a1.fKind == 1)) :: d242 :: (dB v243) :: (dB (a1.fKind == 3)) :: d244 :: u40 (u40 (u39 []))))))), [(b21_0 a0), (b21_1 a1), b21_2]⟩ := by
            intro v243 d240 d241 d242 d244 h
            unfold f21_j17 at h
            refine seqQ.n ?_
            have J21j260 : ∀ (v246 : Int) (d247 : D) (d248 : D) (d249 : D) (d250 : D) (d251 : D) (d252 : D) (d253 : D) (d254 : D) (d255 : D) (d256 : D) (d257 : D) (d258 : D) (d259 : D), f21_j14 m K a0 a1 a2 v220 v246 = some o → (sqQ (X21 n) k21_3 3 (blkQ (X21 n) 0 k21_2 3 (seqQ (X21 n) p21_0 (fnQP (X21 n).E.T (resOf Proofs.Tryd.prog 21) (e27 o.1) (c45 o.2))))) .normal ⟨(.ptr 0 0) :: (.v (.agg [(vI a1.fKind), (vP eI a1.fLabels), (vP ep24 a1.fSubs), (vI a1.fLeast), (vI a1.fMost)])) :: (dI a2) :: u1 ((.ptr 1 0) :: u1 ((.ptr 2 0) :: (dI a0.fNodes) :: (dI v246) :: (dI (a1.fLabels.length : Int)) :: u5 ((.ptr 0 0) :: (.ptr 0 0) :: (.ptr 0 0) :: (dI a0.fNodes) :: (.ptr 0 0) :: (.ptr 0 0) :: (.ptr 0 0) :: (dI a0.fNodes) :: (dI (w64 (a0.fNodes + 1))) :: (.ptr 0 0) :: (.ptr 0 0) :: (.ptr 0 0) :: (.ptr 0 0) :: (.ptr 0 0) :: (dI (w64 (a0.fNodes + 1))) :: (dB v5) :: (dB v5) :: d247 :: d248 :: (dB v6) :: u2 ((.ptr 1 1) :: (dP eI a1.fLabels) :: (dI (a1.fLabels.length : Int)) :: (.ptr 1 0) :: (dI a1.fKind) :: u2 ((dB v220) :: (dB (a1.fKind == 1)) :: d249 :: (dB v243) :: (dB (a1.fKind == 3)) :: d250 :: d251 :: d252 :: d253 :: d254 :: d255 :: d256 :: d257 :: d258 :: d259 :: u40 (u40 (u30 []))))))), [(b21_0 a0), (b21_1 a1), b21_2]⟩ := by
              intro v246 d247 d248 d249 d250 d251 d252 d253 d254 d255 d256 d257 d258 d259 h
              unfold f21_j14 at h
              refine sqQ.n ⟨(.ptr 0 0) :: (.v (.agg [(vI a1.fKind), (vP eI a1.fLabels), (vP ep24 a1.fSubs), (vI a1.fLeast), (vI a1.fMost)])) :: (dI a2) :: u1 ((.ptr 1 0) :: u1 ((.ptr 2 0) :: (dI a0.fNodes) :: (dI v246) :: (dI (a1.fLabels.length : Int)) :: u5 ((.ptr 0 0) :: (.ptr 0 0) :: (.ptr 0 0) :: (dI a0.fNodes) :: (.ptr 0 0) :: (.ptr 0 0) :: (.ptr 0 0) :: (dI a0.fNodes) :: (dI (w64 (a0.fNodes + 1))) :: (.ptr 0 0) :: (.ptr 0 0) :: (.ptr 0 0) :: (.ptr 0 0) :: (.ptr 0 0) :: (dI (w64 (a0.fNodes + 1))) :: (dB v5) :: (dB v5) :: d247 :: d248 :: (dB v6) :: u2 ((.ptr 1 1) :: (dP eI a1.fLabels) :: (dI (a1.fLabels.length : Int)) :: (.ptr 1 0) :: (dI a1.fKind) :: u2 ((dB v220) :: (dB (a1.fKind == 1)) :: d249 :: (dB v243) :: (dB (a1.fKind == 3)) :: d250 :: d251 :: d252 :: d253 :: d254 :: d255 :: d256 :: d257 :: d258 :: d259 :: u40 (u40 (u30 []))))))), [(b21_0 a0), (b21_1 a1), b21_2]⟩ (by kernel_rfl) ?_
              exact J21j239 v246 _ _ _ _ _ _ _ _ _ _ _ _ _ _ _ h
            refine Wp.cnd h k21_4 3 (by kernel_rfl) (fun h => ?_) (fun h => ?_)
            · refine Wp.rg ?_
              refine Ops.sg 2 2 ?_
              refine Ops.on 3 (fun h0 e0 => (len_r (T := T) h0 23 25 .plain ep24 a1.fSubs (by kernel_rfl))) ?_
              refine Ops.sg 2 5 ?_
              refine Ops.dn ?_
              refine sqQ.n ⟨(.ptr 0 0) :: (.v (.agg [(vI a1.fKind), (vP eI a1.fLabels), (vP ep24 a1.fSubs), (vI a1.fLeast), (vI a1.fMost)])) :: (dI a2) :: u1 ((.ptr 1 0) :: u1 ((.ptr 2 0) :: (dI a0.fNodes) :: (dI (if (a1.fSubs.length : Int) > 2 then (a1.fSubs.length : Int) else 2)) :: (dI (a1.fLabels.length : Int)) :: u5 ((.ptr 0 0) :: (.ptr 0 0) :: (.ptr 0 0) :: (dI a0.fNodes) :: (.ptr 0 0) :: (.ptr 0 0) :: (.ptr 0 0) :: (dI a0.fNodes) :: (dI (w64 (a0.fNodes + 1))) :: (.ptr 0 0) :: (.ptr 0 0) :: (.ptr 0 0) :: (.ptr 0 0) :: (.ptr 0 0) :: (dI (w64 (a0.fNodes + 1))) :: (dB v5) :: (dB v5) :: d240 :: d241 :: (dB v6) :: u2 ((.ptr 1 1) :: (dP eI a1.fLabels) :: (dI (a1.fLabels.length : Int)) :: (.ptr 1 0) :: (dI a1.fKind) :: u2 ((dB v220) :: (dB (a1.fKind == 1)) :: d242 :: (dB v243) :: (dB (a1.fKind == 3)) :: d244 :: (.ptr 1 2) :: (dP ep24 a1.fSubs) :: (dI (a1.fSubs.length : Int)) :: (dI (if (a1.fSubs.length : Int) > 2 then (a1.fSubs.length : Int) else 2)) :: u40 (u40 (u35 []))))))), [(b21_0 a0), (b21_1 a1), b21_2]⟩ (by kernel_rfl) ?_
              exact J21j260 (if (a1.fSubs.length : Int) > 2 then (a1.fSubs.length : Int) else 2) _ _ _ _ _ _ _ _ _ _ _ _ _ h
            · refine Wp.sq ?_
              refine Wp.rg ?_
              refine Ops.sg 2 2 ?_
              refine Ops.dn ?_
              refine seqQ.n ?_
              have J21j269 : ∀ (v261 : Int) (d262 : D) (d263 : D) (d264 : D) (d265 : D) (d266 : D) (d267 : D) (d268 : D), f21_j15 m K a0 a1 a2 v220 v261 = some o → (sqQ (X21 n) k21_4 3 (sqQ (X21 n) k21_3 3 (blkQ (X21 n) 0 k21_2 3 (seqQ (X21 n) p21_0 (fnQP (X21 n).E.T (resOf Proofs.Tryd.prog 21) (e27 o.1) (c45 o.2)))))) .normal ⟨(.ptr 0 0) :: (.v (.agg [(vI a1.fKind), (vP eI a1.fLabels), (vP ep24 a1.fSubs), (vI a1.fLeast), (vI a1.fMost)])) :: (dI a2) :: u1 ((.ptr 1 0) :: u1 ((.ptr 2 0) :: (dI a0.fNodes) :: (dI v261) :: (dI (a1.fLabels.length : Int)) :: u5 ((.ptr 0 0) :: (.ptr 0 0) :: (.ptr 0 0) :: (dI a0.fNodes) :: (.ptr 0 0) :: (.ptr 0 0) :: (.ptr 0 0) :: (dI a0.fNodes) :: (dI (w64 (a0.fNodes + 1))) :: (.ptr 0 0) :: (.ptr 0 0) :: (.ptr 0 0) :: (.ptr 0 0) :: (.ptr 0 0) :: (dI (w64 (a0.fNodes + 1))) :: (dB v5) :: (dB v5) :: d262 :: d263 :: (dB v6) :: u2 ((.ptr 1 1) :: (dP eI a1.fLabels) :: (dI (a1.fLabels.length : Int)) :: (.ptr 1 0) :: (dI a1.fKind) :: u2 ((dB v220) :: (dB (a1.fKind == 1)) :: d264 :: (dB v243) :: (dB (a1.fKind == 3)) :: d265 :: u4 ((dB (a1.fKind == 5)) :: (dB (a1.fKind == 5)) :: d266 :: d267 :: d268 :: u40 (u40 (u30 [])))))))), [(b21_0 a0), (b21_1 a1), b21_2]⟩ := by
                intro v261 d262 d263 d264 d265 d266 d267 d268 h
                unfold f21_j15 at h
                refine sqQ.n ⟨(.ptr 0 0) :: (.v (.agg [(vI a1.fKind), (vP eI a1.fLabels), (vP ep24 a1.fSubs), (vI a1.fLeast), (vI a1.fMost)])) :: (dI a2) :: u1 ((.ptr 1 0) :: u1 ((.ptr 2 0) :: (dI a0.fNodes) :: (dI v261) :: (dI (a1.fLabels.length : Int)) :: u5 ((.ptr 0 0) :: (.ptr 0 0) :: (.ptr 0 0) :: (dI a0.fNodes) :: (.ptr 0 0) :: (.ptr 0 0) :: (.ptr 0 0) :: (dI a0.fNodes) :: (dI (w64 (a0.fNodes + 1))) :: (.ptr 0 0) :: (.ptr 0 0) :: (.ptr 0 0) :: (.ptr 0 0) :: (.ptr 0 0) :: (dI (w64 (a0.fNodes + 1))) :: (dB v5) :: (dB v5) :: d262 :: d263 :: (dB v6) :: u2 ((.ptr 1 1) :: (dP eI a1.fLabels) :: (dI (a1.fLabels.length : Int)) :: (.ptr 1 0) :: (dI a1.fKind) :: u2 ((dB v220) :: (dB (a1.fKind == 1)) :: d264 :: (dB v243) :: (dB (a1.fKind == 3)) :: d265 :: u4 ((dB (a1.fKind == 5)) :: (dB (a1.fKind == 5)) :: d266 :: d267 :: d268 :: u40 (u40 (u30 [])))))))), [(b21_0 a0), (b21_1 a1), b21_2]⟩ (by kernel_rfl) ?_
                exact J21j260 v261 _ _ _ _ _ _ _ _ _ _ _ _ _ h
              refine Wp.cnd h k21_2 3 (by kernel_rfl) (fun h => ?_) (fun h => ?_)
              · refine Wp.rg ?_
                refine Ops.sg 1 1 ?_
                refine Ops.dn ?_
                refine sqQ.n ⟨(.ptr 0 0) :: (.v (.agg [(vI a1.fKind), (vP eI a1.fLabels), (vP ep24 a1.fSubs), (vI a1.fLeast), (vI a1.fMost)])) :: (dI a2) :: u1 ((.ptr 1 0) :: u1 ((.ptr 2 0) :: (dI a0.fNodes) :: (dI 1) :: (dI (a1.fLabels.length : Int)) :: u5 ((.ptr 0 0) :: (.ptr 0 0) :: (.ptr 0 0) :: (dI a0.fNodes) :: (.ptr 0 0) :: (.ptr 0 0) :: (.ptr 0 0) :: (dI a0.fNodes) :: (dI (w64 (a0.fNodes + 1))) :: (.ptr 0 0) :: (.ptr 0 0) :: (.ptr 0 0) :: (.ptr 0 0) :: (.ptr 0 0) :: (dI (w64 (a0.fNodes + 1))) :: (dB v5) :: (dB v5) :: d240 :: d241 :: (dB v6) :: u2 ((.ptr 1 1) :: (dP eI a1.fLabels) :: (dI (a1.fLabels.length : Int)) :: (.ptr 1 0) :: (dI a1.fKind) :: u2 ((dB v220) :: (dB (a1.fKind == 1)) :: d242 :: (dB v243) :: (dB (a1.fKind == 3)) :: d244 :: u4 ((dB (a1.fKind == 5)) :: (dB (a1.fKind == 5)) :: u40 (u40 (u33 [])))))))), [(b21_0 a0), (b21_1 a1), b21_2]⟩ (by kernel_rfl) ?_
                exact J21j269 1 _ _ _ _ _ _ _ h
              · refine Wp.sq ?_
                refine Wp.sq ?_
                refine Wp.rg ?_
                refine Ops.sg 2 2 ?_
                refine Ops.dn ?_
                refine seqQ.n ?_
                have J21j276 : ∀ (v274 : Bool) (d270 : D) (d271 : D) (d272 : D) (d273 : D) (d275 : D), f21_j16 m K a0 a1 a2 v220 v274 = some o → (seqQ (X21 n) (cR (cR (cR (cR (cR (cR (cR (cL (cR (cL (cR (cR (cR (cR (cR C21))))))))))))))) (sqQ (X21 n) k21_2 3 (sqQ (X21 n) k21_4 3 (sqQ (X21 n) k21_3 3 (blkQ (X21 n) 0 k21_2 3 (seqQ (X21 n) p21_0 (fnQP (X21 n).E.T (resOf Proofs.Tryd.prog 21) (e27 o.1) (c45 o.2)))))))) .normal ⟨(.ptr 0 0) :: (.v (.agg [(vI a1.fKind), (vP eI a1.fLabels), (vP ep24 a1.fSubs), (vI a1.fLeast), (vI a1.fMost)])) :: (dI a2) :: u1 ((.ptr 1 0) :: u1 ((.ptr 2 0) :: (dI a0.fNodes) :: (dI 0) :: (dI (a1.fLabels.length : Int)) :: u5 ((.ptr 0 0) :: (.ptr 0 0) :: (.ptr 0 0) :: (dI a0.fNodes) :: (.ptr 0 0) :: (.ptr 0 0) :: (.ptr 0 0) :: (dI a0.fNodes) :: (dI (w64 (a0.fNodes + 1))) :: (.ptr 0 0) :: (.ptr 0 0) :: (.ptr 0 0) :: (.ptr 0 0) :: (.ptr 0 0) :: (dI (w64 (a0.fNodes + 1))) :: (dB v5) :: (dB v5) :: d270 :: d271 :: (dB v6) :: u2 ((.ptr 1 1) :: (dP eI a1.fLabels) :: (dI (a1.fLabels.length : Int)) :: (.ptr 1 0) :: (dI a1.fKind) :: u2 ((dB v220) :: (dB (a1.fKind == 1)) :: d272 :: (dB v243) :: (dB (a1.fKind == 3)) :: d273 :: u4 ((dB (a1.fKind == 5)) :: (dB (a1.fKind == 5)) :: (dB v274) :: (dB (a1.fKind == 6)) :: d275 :: u40 (u40 (u30 [])))))))), [(b21_0 a0), (b21_1 a1), b21_2]⟩ := by
                  intro v274 d270 d271 d272 d273 d275 h
                  unfold f21_j16 at h
                  refine seqQ.n ?_
                  refine Wp.cnd h [0, 2, 4, 6, 7, 8, 9, 56] 3 (by kernel_rfl) (fun h => ?_) (fun h => ?_)
                  · refine Wp.rg ?_
                    refine Ops.sg 1 1 ?_
                    refine Ops.dn ?_
                    refine sqQ.n' ?_
                    refine sqQ.n ⟨(.ptr 0 0) :: (.v (.agg [(vI a1.fKind), (vP eI a1.fLabels), (vP ep24 a1.fSubs), (vI a1.fLeast), (vI a1.fMost)])) :: (dI a2) :: u1 ((.ptr 1 0) :: u1 ((.ptr 2 0) :: (dI a0.fNodes) :: (dI 2) :: (dI (a1.fLabels.length : Int)) :: u5 ((.ptr 0 0) :: (.ptr 0 0) :: (.ptr 0 0) :: (dI a0.fNodes) :: (.ptr 0 0) :: (.ptr 0 0) :: (.ptr 0 0) :: (dI a0.fNodes) :: (dI (w64 (a0.fNodes + 1))) :: (.ptr 0 0) :: (.ptr 0 0) :: (.ptr 0 0) :: (.ptr 0 0) :: (.ptr 0 0) :: (dI (w64 (a0.fNodes + 1))) :: (dB v5) :: (dB v5) :: d270 :: d271 :: (dB v6) :: u2 ((.ptr 1 1) :: (dP eI a1.fLabels) :: (dI (a1.fLabels.length : Int)) :: (.ptr 1 0) :: (dI a1.fKind) :: u2 ((dB v220) :: (dB (a1.fKind == 1)) :: d272 :: (dB v243) :: (dB (a1.fKind == 3)) :: d273 :: u4 ((dB (a1.fKind == 5)) :: (dB (a1.fKind == 5)) :: (dB v274) :: (dB (a1.fKind == 6)) :: d275 :: u40 (u40 (u30 [])))))))), [(b21_0 a0), (b21_1 a1), b21_2]⟩ (by kernel_rfl) ?_
                    exact J21j269 2 _ _ _ _ _ _ _ h
                  · refine Wp.sq ?_
                    refine Wp.rg ?_
                    refine Ops.sg 1 1 ?_
                    obtain ⟨v277, ev277, h⟩ := bnd_some h
                    refine Ops.on 2 (fun h0 e0 => (call_ok (E' := EG) (h := h0) (by kernel_rfl) (Args.v (vI 4) (eI 4) (by kernel_rfl) (Args.v (vI a0.fNodes) (eI a0.fNodes) (by kernel_rfl) Args.nil)) (ok23 m 4 a0.fNodes v277 ev277 n (by omega)))) ?_
                    refine Ops.sg 1 3 ?_
                    refine Ops.dn ?_
                    refine seqQ.n ?_
                    refine Wp.ret (by kernel_rfl) ?_
                    refine sqQ.r ?_
                    refine sqQ.r ?_
                    refine sqQ.r ?_
                    refine sqQ.r ?_
                    refine blkQ.r ?_
                    refine seqQ.r ?_
                    exact fnQP.r' (X21 n) (fun z => (e27 z)) c45 h (RetOkP.mk' (.v (.agg [(vI v277.fCode), (vI v277.fIndex)])) (by kernel_rfl) (by kernel_rfl) (by kernel_rfl) (by kernel_rfl))
                refine Wp.cnd h [0, 2, 4, 6, 7, 8, 9, 56] 3 (by kernel_rfl) (fun h => ?_) (fun h => ?_)
                · refine Wp.sk ?_
                  refine sqQ.n ⟨(.ptr 0 0) :: (.v (.agg [(vI a1.fKind), (vP eI a1.fLabels), (vP ep24 a1.fSubs), (vI a1.fLeast), (vI a1.fMost)])) :: (dI a2) :: u1 ((.ptr 1 0) :: u1 ((.ptr 2 0) :: (dI a0.fNodes) :: (dI 0) :: (dI (a1.fLabels.length : Int)) :: u5 ((.ptr 0 0) :: (.ptr 0 0) :: (.ptr 0 0) :: (dI a0.fNodes) :: (.ptr 0 0) :: (.ptr 0 0) :: (.ptr 0 0) :: (dI a0.fNodes) :: (dI (w64 (a0.fNodes + 1))) :: (.ptr 0 0) :: (.ptr 0 0) :: (.ptr 0 0) :: (.ptr 0 0) :: (.ptr 0 0) :: (dI (w64 (a0.fNodes + 1))) :: (dB v5) :: (dB v5) :: d240 :: d241 :: (dB v6) :: u2 ((.ptr 1 1) :: (dP eI a1.fLabels) :: (dI (a1.fLabels.length : Int)) :: (.ptr 1 0) :: (dI a1.fKind) :: u2 ((dB v220) :: (dB (a1.fKind == 1)) :: d242 :: (dB v243) :: (dB (a1.fKind == 3)) :: d244 :: u4 ((dB (a1.fKind == 5)) :: (dB (a1.fKind == 5)) :: (dB (a1.fKind == 6)) :: (dB (a1.fKind == 6)) :: u40 (u40 (u31 [])))))))), [(b21_0 a0), (b21_1 a1), b21_2]⟩ (by kernel_rfl) ?_
                  exact J21j276 (a1.fKind == 6) _ _ _ _ _ h
                · refine Wp.rg ?_
                  refine Ops.sg 2 2 ?_
                  refine Ops.dn ?_
                  refine sqQ.n ⟨(.ptr 0 0) :: (.v (.agg [(vI a1.fKind), (vP eI a1.fLabels), (vP ep24 a1.fSubs), (vI a1.fLeast), (vI a1.fMost)])) :: (dI a2) :: u1 ((.ptr 1 0) :: u1 ((.ptr 2 0) :: (dI a0.fNodes) :: (dI 0) :: (dI (a1.fLabels.length : Int)) :: u5 ((.ptr 0 0) :: (.ptr 0 0) :: (.ptr 0 0) :: (dI a0.fNodes) :: (.ptr 0 0) :: (.ptr 0 0) :: (.ptr 0 0) :: (dI a0.fNodes) :: (dI (w64 (a0.fNodes + 1))) :: (.ptr 0 0) :: (.ptr 0 0) :: (.ptr 0 0) :: (.ptr 0 0) :: (.ptr 0 0) :: (dI (w64 (a0.fNodes + 1))) :: (dB v5) :: (dB v5) :: d240 :: d241 :: (dB v6) :: u2 ((.ptr 1 1) :: (dP eI a1.fLabels) :: (dI (a1.fLabels.length : Int)) :: (.ptr 1 0) :: (dI a1.fKind) :: u2 ((dB v220) :: (dB (a1.fKind == 1)) :: d242 :: (dB v243) :: (dB (a1.fKind == 3)) :: d244 :: u4 ((dB (a1.fKind == 5)) :: (dB (a1.fKind == 5)) :: (dB (a1.fKind == 7)) :: (dB (a1.fKind == 6)) :: (dB (a1.fKind == 7)) :: u40 (u40 (u30 [])))))))), [(b21_0 a0), (b21_1 a1), b21_2]⟩ (by kernel_rfl) ?_
                  exact J21j276 (a1.fKind == 7) _ _ _ _ _ h
          refine Wp.cnd h k21_4 3 (by kernel_rfl) (fun h => ?_) (fun h => ?_)
          · refine Wp.sk ?_
            refine sqQ.n ⟨(.ptr 0 0) :: (.v (.agg [(vI a1.fKind), (vP eI a1.fLabels), (vP ep24 a1.fSubs), (vI a1.fLeast), (vI a1.fMost)])) :: (dI a2) :: u1 ((.ptr 1 0) :: u1 ((.ptr 2 0) :: (dI a0.fNodes) :: (dI 0) :: (dI (a1.fLabels.length : Int)) :: u5 ((.ptr 0 0) :: (.ptr 0 0) :: (.ptr 0 0) :: (dI a0.fNodes) :: (.ptr 0 0) :: (.ptr 0 0) :: (.ptr 0 0) :: (dI a0.fNodes) :: (dI (w64 (a0.fNodes + 1))) :: (.ptr 0 0) :: (.ptr 0 0) :: (.ptr 0 0) :: (.ptr 0 0) :: (.ptr 0 0) :: (dI (w64 (a0.fNodes + 1))) :: (dB v5) :: (dB v5) :: d218 :: d219 :: (dB v6) :: u2 ((.ptr 1 1) :: (dP eI a1.fLabels) :: (dI (a1.fLabels.length : Int)) :: (.ptr 1 0) :: (dI a1.fKind) :: u2 ((dB v220) :: (dB (a1.fKind == 1)) :: d221 :: (dB (a1.fKind == 3)) :: (dB (a1.fKind == 3)) :: u40 (u40 (u40 []))))))), [(b21_0 a0), (b21_1 a1), b21_2]⟩ (by kernel_rfl) ?_
            exact J21j245 (a1.fKind == 3) _ _ _ _ h
          · refine Wp.rg ?_
            refine Ops.sg 2 2 ?_
            refine Ops.dn ?_
            refine sqQ.n ⟨(.ptr 0 0) :: (.v (.agg [(vI a1.fKind), (vP eI a1.fLabels), (vP ep24 a1.fSubs), (vI a1.fLeast), (vI a1.fMost)])) :: (dI a2) :: u1 ((.ptr 1 0) :: u1 ((.ptr 2 0) :: (dI a0.fNodes) :: (dI 0) :: (dI (a1.fLabels.length : Int)) :: u5 ((.ptr 0 0) :: (.ptr 0 0) :: (.ptr 0 0) :: (dI a0.fNodes) :: (.ptr 0 0) :: (.ptr 0 0) :: (.ptr 0 0) :: (dI a0.fNodes) :: (dI (w64 (a0.fNodes + 1))) :: (.ptr 0 0) :: (.ptr 0 0) :: (.ptr 0 0) :: (.ptr 0 0) :: (.ptr 0 0) :: (dI (w64 (a0.fNodes + 1))) :: (dB v5) :: (dB v5) :: d218 :: d219 :: (dB v6) :: u2 ((.ptr 1 1) :: (dP eI a1.fLabels) :: (dI (a1.fLabels.length : Int)) :: (.ptr 1 0) :: (dI a1.fKind) :: u2 ((dB v220) :: (dB (a1.fKind == 1)) :: d221 :: (dB (a1.fKind == 4)) :: (dB (a1.fKind == 3)) :: (dB (a1.fKind == 4)) :: u40 (u40 (u39 []))))))), [(b21_0 a0), (b21_1 a1), b21_2]⟩ (by kernel_rfl) ?_
            exact J21j245 (a1.fKind == 4) _ _ _ _ h
      refine Wp.cnd h k21_3 3 (by kernel_rfl) (fun h => ?_) (fun h => ?_)
      · refine Wp.sk ?_
        refine sqQ.n ⟨(.ptr 0 0) :: (.v (.agg [(vI a1.fKind), (vP eI a1.fLabels), (vP ep24 a1.fSubs), (vI a1.fLeast), (vI a1.fMost)])) :: (dI a2) :: u1 ((.ptr 1 0) :: u1 ((.ptr 2 0) :: (dI a0.fNodes) :: (dI 0) :: (dI (a1.fLabels.length : Int)) :: u5 ((.ptr 0 0) :: (.ptr 0 0) :: (.ptr 0 0) :: (dI a0.fNodes) :: (.ptr 0 0) :: (.ptr 0 0) :: (.ptr 0 0) :: (dI a0.fNodes) :: (dI (w64 (a0.fNodes + 1))) :: (.ptr 0 0) :: (.ptr 0 0) :: (.ptr 0 0) :: (.ptr 0 0) :: (.ptr 0 0) :: (dI (w64 (a0.fNodes + 1))) :: (dB v5) :: (dB v5) :: d3 :: d4 :: (dB v6) :: u2 ((.ptr 1 1) :: (dP eI a1.fLabels) :: (dI (a1.fLabels.length : Int)) :: (.ptr 1 0) :: (dI a1.fKind) :: u2 ((dB (a1.fKind == 1)) :: (dB (a1.fKind == 1)) :: u40 (u40 (u40 (u3 [])))))))), [(b21_0 a0), (b21_1 a1), b21_2]⟩ (by kernel_rfl) ?_
        exact J21j222 (a1.fKind == 1) _ _ _ h
      · refine Wp.rg ?_
        refine Ops.sg 2 2 ?_
        refine Ops.dn ?_
        refine sqQ.n ⟨(.ptr 0 0) :: (.v (.agg [(vI a1.fKind), (vP eI a1.fLabels), (vP ep24 a1.fSubs), (vI a1.fLeast), (vI a1.fMost)])) :: (dI a2) :: u1 ((.ptr 1 0) :: u1 ((.ptr 2 0) :: (dI a0.fNodes) :: (dI 0) :: (dI (a1.fLabels.length : Int)) :: u5 ((.ptr 0 0) :: (.ptr 0 0) :: (.ptr 0 0) :: (dI a0.fNodes) :: (.ptr 0 0) :: (.ptr 0 0) :: (.ptr 0 0) :: (dI a0.fNodes) :: (dI (w64 (a0.fNodes + 1))) :: (.ptr 0 0) :: (.ptr 0 0) :: (.ptr 0 0) :: (.ptr 0 0) :: (.ptr 0 0) :: (dI (w64 (a0.fNodes + 1))) :: (dB v5) :: (dB v5) :: d3 :: d4 :: (dB v6) :: u2 ((.ptr 1 1) :: (dP eI a1.fLabels) :: (dI (a1.fLabels.length : Int)) :: (.ptr 1 0) :: (dI a1.fKind) :: u2 ((dB (a1.fKind == 2)) :: (dB (a1.fKind == 1)) :: (dB (a1.fKind == 2)) :: u40 (u40 (u40 (u2 [])))))))), [(b21_0 a0), (b21_1 a1), b21_2]⟩ (by kernel_rfl) ?_
        exact J21j222 (a1.fKind == 2) _ _ _ h
  refine Ops.hv (fun KQ => ∀ v1 : Bool, f21_r19 m K a0 a1 a2 (v1 || (decide (a2 > 40))) = some o → KQ 6 ⟨(.ptr 0 0) :: (.v (.agg [(vI a1.fKind), (vP eI a1.fLabels), (vP ep24 a1.fSubs), (vI a1.fLeast), (vI a1.fMost)])) :: (dI a2) :: u1 ((.ptr 1 0) :: u1 ((.ptr 2 0) :: (dI a0.fNodes) :: u7 ((.ptr 0 0) :: (.ptr 0 0) :: (.ptr 0 0) :: (dI a0.fNodes) :: (.ptr 0 0) :: (.ptr 0 0) :: (.ptr 0 0) :: (dI a0.fNodes) :: (dI (w64 (a0.fNodes + 1))) :: (.ptr 0 0) :: (.ptr 0 0) :: (.ptr 0 0) :: (.ptr 0 0) :: (.ptr 0 0) :: (dI (w64 (a0.fNodes + 1))) :: (dB v1) :: (dB v1) :: u40 (u40 (u40 (u17 [])))))), [(b21_0 a0), (b21_1 a1), b21_2]⟩) ?_ fun G21g2 => Ops.st _ (by kernel_rfl) (G21g2 (decide (w64 (a0.fNodes + 1) > 200)) h)
  intro v1 h
  cases v1
  · refine Ops.sg 3 9 ?_
    exact Ops.st _ (by kernel_rfl) (J21j7 (dI a2) (dB (decide (a2 > 40))) false (decide (a2 > 40)) h)
  · refine Ops.sg 3 9 ?_
    exact Ops.st _ (by kernel_rfl) (J21j7 U U true true h)
noncomputable def K21 (m : Nat) : Nat → Rec21
  | 0 => ⟨fun _ _ _ => none⟩
  | r + 1 => ⟨fun a0 a1 a2 => b21 m (K21 m r) a0 a1 a2⟩
theorem okK21 (m : Nat) : ∀ r, OkRec21 m (K21 m r) (m + 2 + r)
  | 0 => ⟨fun _ _ _ o h => (by cases h)⟩
  | r + 1 => ⟨fun a0 a1 a2 o h n hn => okb21 m (K21 m r) (m + 2 + r) (okK21 m r) a0 a1 a2 o h n (by omega) (by omega)⟩
noncomputable def f21 (m : Nat) (a0 : S45) (a1 : S24) (a2 : Int) : Option (S27 × S45) := (K21 m m).r21 a0 a1 a2
theorem ok21 (m : Nat) (a0 : S45) (a1 : S24) (a2 : Int) (o : (S27 × S45)) (h : f21 m a0 a1 a2 = some o) (n : Nat) (hn : 2 * m + 2 ≤ n) : FnP Proofs.Tryd.prog EG n 21 (c45 a0) [.v (e24 a1), .v (eI a2)] (e27 o.1) (c45 o.2) := (okK21 m m).ok21 a0 a1 a2 o h n (by omega)
noncomputable def f9 (m : Nat) (a0 : S24) : Option S27 :=
  bnd (f21 m (⟨0⟩ : S45) a0 1) fun v1 =>
  some v1.1
noncomputable abbrev X9 (n : Nat) : Cx := cxOf Proofs.Tryd.prog EG 9 n
noncomputable def C9 : Code := bodyOf Proofs.Tryd.prog 9
theorem ok9 (m : Nat) (a0 : S24) (o : S27) (h : f9 m a0 = some o) (n : Nat) (hn : 2 * m + 3 ≤ n) : Fn Proofs.Tryd.prog EG n 9 [.v (e24 a0)] (e27 o) := by
  obtain ⟨n, rfl⟩ : ∃ q, n = q + 1 := ⟨n - 1, by omega⟩
  unfold f9 at h
  refine Fn.of (by kernel_rfl) (by kernel_rfl) (by kernel_rfl) ⟨(.v (.agg [(vI a0.fKind), (vP eI a0.fLabels), (vP ep24 a0.fSubs), (vI a0.fLeast), (vI a0.fMost)])) :: u6 [], []⟩ (by kernel_rfl) ?_
  refine Wp.sq ?_
  refine Wp.rg ?_
  refine Ops.sg 2 2 ?_
  refine Ops.dn ?_
  refine seqQ.n ?_
  refine Wp.sq ?_
  refine Wp.rg ?_
  refine Ops.sg 3 3 ?_
  obtain ⟨v1, ev1, h⟩ := bnd_some h
  refine Ops.on 4 (fun h0 e0 => (call_ptr (E' := EG) (h := h0) (q := 2) (cs := c45 (⟨0⟩ : S45)) (by kernel_rfl) (by kernel_rfl) (by kernel_rfl) (hq_of e0 (by kernel_rfl)) (by kernel_rfl) (Args.v (.agg [(vI a0.fKind), (vP eI a0.fLabels), (vP ep24 a0.fSubs), (vI a0.fLeast), (vI a0.fMost)]) (e24 a0) (by kernel_rfl) (Args.v (vI 1) (eI 1) (by kernel_rfl) Args.nil)) (ok21 m (⟨0⟩ : S45) a0 1 v1 ev1 n (by omega)))) ?_
  refine Ops.sg 1 5 ?_
  refine Ops.dn ?_
  refine seqQ.n ?_
  refine Wp.ret (by kernel_rfl) ?_
  exact fnQ.r' (X9 n) (fun z => (e27 z)) h (RetOk.mk' (.v (.agg [(vI v1.1.fCode), (vI v1.1.fIndex)])) (by kernel_rfl) (by kernel_rfl))
noncomputable def f16_r1 (m : Nat) (v22 : Int) (v38 : Bool) : Option (Stp (Bool × S27) (Int)) :=
  cnd v38
  (bnd (f23 m 3 (-2)) fun v40 =>
  some (.ret ((false, v40))))
  (some (.nxt (w64 (v22 + 1))))
noncomputable def f16_B2 (m : Nat) (a1 : (List Int)) (v22 : Int) : Option (Stp (Bool × S27) (Int)) :=
  cnd (decide (v22 < (a1.length : Int)))
  (bnd (idx a1 v22) fun v32 =>
  f16_r1 m v22 ((decide (v32 < 1)) || (decide (v32 > 1114111))))
  (some (.brk v22))
noncomputable def f16 (m : Nat) (a0 : S24) (a1 : (List Int)) : Option (Bool × S27) :=
  bnd (f9 m a0) fun v1 =>
  cnd (!((v1.fCode == 0) && ((v1.fIndex == 0) && true)))
  (some ((false, v1)))
  (cnd (decide ((a1.length : Int) > 30))
  (bnd (f23 m 2 (-2)) fun v2 =>
  some ((false, v2)))
  (brk (iter (fun (y : Int) => f16_B2 m a1 y) m 0) some fun y42 =>
  bnd (f33 m a0 a1) fun v44 =>
  bnd (idx v44 0) fun v45 =>
  bnd (idx v45 (a1.length : Int)) fun v46 =>
  some ((v46, (⟨0, 0⟩ : S27)))))
noncomputable abbrev X16 (n : Nat) : Cx := cxOf Proofs.Tryd.prog EG 16 n
noncomputable def C16 : Code := bodyOf Proofs.Tryd.prog 16
noncomputable abbrev b16_0 (w0 : S24) : AObj := .cells [(dI w0.fKind), (dP eI w0.fLabels), (dP ep24 w0.fSubs), (dI w0.fLeast), (dI w0.fMost)]
noncomputable abbrev b16_1 (w0 : S27) : AObj := .cells [(dI w0.fCode), (dI w0.fIndex)]
noncomputable abbrev k16_0 : List Nat := [1, 2, 4, 5, 19, 20, 21]
theorem ok16 (m : Nat) (a0 : S24) (a1 : (List Int)) (o : (Bool × S27)) (h : f16 m a0 a1 = some o) (n : Nat) (hn : 2 * m + 4 ≤ n) : Fn Proofs.Tryd.prog EG n 16 [.v (e24 a0), .v ((eL eI) a1)] (.tuple [eB o.1, e27 o.2]) := by
  obtain ⟨n, rfl⟩ : ∃ q, n = q + 1 := ⟨n - 1, by omega⟩
  unfold f16 at h
  refine Fn.of (by kernel_rfl) (by kernel_rfl) (by kernel_rfl) ⟨(.v (.agg [(vI a0.fKind), (vP eI a0.fLabels), (vP ep24 a0.fSubs), (vI a0.fLeast), (vI a0.fMost)])) :: (dP eI a1) :: u40 (u1 []), []⟩ (by kernel_rfl) ?_
  refine Wp.sq ?_
  refine Wp.rg ?_
  refine Ops.sg 3 3 ?_
  refine Ops.dn ?_
  refine seqQ.n ?_
  refine Wp.sq ?_
  refine Wp.sq ?_
  refine Wp.rg ?_
  refine Ops.sg 1 1 ?_
  obtain ⟨v1, ev1, h⟩ := bnd_some h
  refine Ops.on 2 (fun h0 e0 => (call_ok (E' := EG) (h := h0) (by kernel_rfl) (Args.v (.agg [(vI a0.fKind), (vP eI a0.fLabels), (vP ep24 a0.fSubs), (vI a0.fLeast), (vI a0.fMost)]) (e24 a0) (by kernel_rfl) Args.nil) (ok9 m a0 v1 ev1 n (by omega)))) ?_
  refine Ops.sg 2 4 ?_
  refine Ops.dn ?_
  refine seqQ.n ?_
  refine Wp.sq ?_
  refine Wp.rg ?_
  refine Ops.sg 3 3 ?_
  refine Ops.dn ?_
  refine seqQ.n ?_
  refine Wp.cnd h [1, 2, 4, 5] 3 (by kernel_rfl) (fun h => ?_) (fun h => ?_)
  · refine Wp.sq ?_
    refine Wp.rg ?_
    refine Ops.sg 3 3 ?_
    refine Ops.dn ?_
    refine seqQ.n ?_
    refine Wp.ret (by kernel_rfl) ?_
    refine sqQ.r ?_
    refine seqQ.r ?_
    exact fnQ.r' (X16 n) (fun z => (.tuple [eB z.1, e27 z.2])) h (RetOk.mk' (.v (.tuple [(vB false), (.agg [(vI v1.fCode), (vI v1.fIndex)])])) (by kernel_rfl) (by kernel_rfl))
  · refine Wp.sk ?_
    refine sqQ.n' ?_
    refine seqQ.n ?_
    refine Wp.sq ?_
    refine Wp.sq ?_
    refine Wp.rg ?_
    refine Ops.sg 1 1 ?_
    refine Ops.on 2 (fun h0 e0 => (len_r (T := T) h0 22 3 .plain eI a1 (by kernel_rfl))) ?_
    refine Ops.sg 1 3 ?_
    refine Ops.dn ?_
    refine seqQ.n ?_
    refine Wp.cnd h [1, 2, 4, 5] 3 (by kernel_rfl) (fun h => ?_) (fun h => ?_)
    · refine Wp.sq ?_
      refine Wp.rg ?_
      obtain ⟨v2, ev2, h⟩ := bnd_some h
      refine Ops.on 1 (fun h0 e0 => (call_ok (E' := EG) (h := h0) (by kernel_rfl) (Args.v (vI 2) (eI 2) (by kernel_rfl) (Args.v (vI (-2)) (eI (-2)) (by kernel_rfl) Args.nil)) (ok23 m 2 (-2) v2 ev2 n (by omega)))) ?_
      refine Ops.sg 2 3 ?_
      refine Ops.dn ?_
      refine seqQ.n ?_
      refine Wp.ret (by kernel_rfl) ?_
      refine sqQ.r ?_
      refine seqQ.r ?_
      exact fnQ.r' (X16 n) (fun z => (.tuple [eB z.1, e27 z.2])) h (RetOk.mk' (.v (.tuple [(vB false), (.agg [(vI v2.fCode), (vI v2.fIndex)])])) (by kernel_rfl) (by kernel_rfl))
    · refine Wp.sk ?_
      refine sqQ.n' ?_
      refine seqQ.n ?_
      refine Wp.sq ?_
      refine Wp.sq ?_
      refine Wp.rg ?_
      refine Ops.sg 1 1 ?_
      refine Ops.on 2 (fun h0 e0 => (len_r (T := T) h0 22 3 .plain eI a1 (by kernel_rfl))) ?_
      refine Ops.sg 1 3 ?_
      refine Ops.dn ?_
      refine seqQ.n ?_
      refine Wp.block' 0 [1, 2, 4, 5] 3 (by kernel_rfl) ?_
      have hLx41 : ∀ (kx24 : Nat) (v22 : Int)  (ox23 : (Bool × S27) ⊕ (Int)), iter (fun (y : Int) => f16_B2 m a1 y) kx24 v22 = some ox23 → ∀ nx25, kx24 ≤ nx25 → (∀ r, ox23 = .inl r → ∀ σ, RetOk (X16 n) (resOf Proofs.Tryd.prog 16) (.tuple [eB r.1, e27 r.2]) σ → (seqQ (X16 n) (cR (cR (cR (cR C16)))) (fnQ (X16 n).E.T (resOf Proofs.Tryd.prog 16) (.tuple [eB o.1, e27 o.2]))) .ret σ) → (∀ (y : Int) , ox23 = .inr y → (seqQ (X16 n) (cR (cR (cR (cR C16)))) (fnQ (X16 n).E.T (resOf Proofs.Tryd.prog 16) (.tuple [eB o.1, e27 o.2]))) .normal ⟨q1 ((dP eI a1) :: (.ptr 0 0) :: q1 ((dB false) :: (.ptr 1 0) :: q13 ((dP eI a1) :: (dI (a1.length : Int)) :: (dI y) :: q21 []))), [(b16_0 a0), (.cells [(dI 0), (dI 0)]), (b16_1 v1)]⟩) → Lp (X16 n) k16_0 3 (cL (cL (cR (cL (cR (cR (cR C16))))))) nx25 ⟨q1 ((dP eI a1) :: (.ptr 0 0) :: q1 ((dB false) :: (.ptr 1 0) :: q13 ((dP eI a1) :: (dI (a1.length : Int)) :: (dI v22) :: q21 []))), [(b16_0 a0), (.cells [(dI 0), (dI 0)]), (b16_1 v1)]⟩ (blkQ (X16 n) 0 [1, 2, 4, 5] 3 (seqQ (X16 n) (cR (cR (cR (cR C16)))) (fnQ (X16 n).E.T (resOf Proofs.Tryd.prog 16) (.tuple [eB o.1, e27 o.2])))) := by
        intro kx24
        induction kx24 with
        | zero => intro v22  ox23 h; exact (iter_zero h).elim
        | succ kx24 ihx26 =>
          intro v22  ox23 h nx25 hnx29 hrx27 hxx28
          obtain ⟨nx25, rfl⟩ : ∃ q, nx25 = q + 1 := ⟨nx25 - 1, by omega⟩
          obtain ⟨sx30, h, hsx31⟩ := iter_some h
          have h : f16_B2 m a1 v22 = some sx30 := h
          unfold f16_B2 at h
          refine Lp.succ ?_
          refine Wp.sq ?_
          refine Wp.rg ?_
          refine Ops.sg 1 1 ?_
          refine Ops.dn ?_
          refine seqQ.n ?_
          refine Wp.sq ?_
          refine Wp.cnd h k16_0 3 (by kernel_rfl) (fun h => ?_) (fun h => ?_)
          · refine Wp.sk ?_
            refine sqQ.n' ?_
            refine seqQ.n ?_
            refine Wp.sq ?_
            refine Wp.block' 1 k16_0 3 (by kernel_rfl) ?_
            refine Wp.sq ?_
            refine Wp.rg ?_
            obtain ⟨v32, ev32, h⟩ := bnd_some h
            refine Ops.on 1 (fun h0 e0 => (ix_r (T := T) h0 22 3 1 .plain eI a1 v22 v32 ev32 (by kernel_rfl) (by kernel_rfl) (fun _ => rfl))) ?_
            refine Ops.sg 2 3 ?_
            refine Ops.dn ?_
            refine seqQ.n ?_
            refine Wp.sq ?_
            refine Wp.rg ?_
            refine Ops.sg 3 3 ?_
            refine Ops.hv (fun KQ => ∀ (d35 d36 : D) (v37 : Bool) (v38 : Bool), f16_r1 m v22 v38 = some sx30 → KQ 6 ⟨q1 ((dP eI a1) :: (.ptr 0 0) :: q1 ((dB false) :: (.ptr 1 0) :: q2 ((dI v32) :: q10 ((dP eI a1) :: (dI (a1.length : Int)) :: (dI v22) :: (dB (decide (v22 < (a1.length : Int)))) :: (.vptr [(vI v32)]) :: (dI v32) :: (dI v32) :: (dB v37) :: (dB v37) :: d35 :: d36 :: (dB v38) :: q12 [])))), [(b16_0 a0), (.cells [(dI 0), (dI 0)]), (b16_1 v1)]⟩) ?_ fun J16j39 => ?_
            · intro d35 d36 v37 v38 h
              unfold f16_r1 at h
              refine Ops.dn ?_
              refine seqQ.n ?_
              refine Wp.cnd h k16_0 3 (by kernel_rfl) (fun h => ?_) (fun h => ?_)
              · refine Wp.sq ?_
                refine Wp.rg ?_
                obtain ⟨v40, ev40, h⟩ := bnd_some h
                refine Ops.on 1 (fun h0 e0 => (call_ok (E' := EG) (h := h0) (by kernel_rfl) (Args.v (vI 3) (eI 3) (by kernel_rfl) (Args.v (vI (-2)) (eI (-2)) (by kernel_rfl) Args.nil)) (ok23 m 3 (-2) v40 ev40 n (by omega)))) ?_
                refine Ops.sg 2 3 ?_
                refine Ops.dn ?_
                refine seqQ.n ?_
                refine Wp.ret (by kernel_rfl) ?_
                refine sqQ.r ?_
                refine blkQ.r ?_
                refine seqQ.r ?_
                cases h
                refine lpQ.r ?_
                refine blkQ.r ?_
                exact hrx27 _ hsx31 _ (RetOk.forget k16_0 (by kernel_rfl) (RetOk.mk' (.v (.tuple [(vB false), (.agg [(vI v40.fCode), (vI v40.fIndex)])])) (by kernel_rfl) (by kernel_rfl)))
              · refine Wp.sk ?_
                refine sqQ.n' ?_
                refine blkQ.n' ?_
                refine seqQ.n ?_
                refine Wp.rg ?_
                refine Ops.sg 2 2 ?_
                refine Ops.dn ?_
                refine lpQ.n ⟨q1 ((dP eI a1) :: (.ptr 0 0) :: q1 ((dB false) :: (.ptr 1 0) :: q13 ((dP eI a1) :: (dI (a1.length : Int)) :: (dI (w64 (v22 + 1))) :: q21 []))), [(b16_0 a0), (.cells [(dI 0), (dI 0)]), (b16_1 v1)]⟩ (by kernel_rfl) ?_
                cases h
                exact ihx26 (w64 (v22 + 1))  _ hsx31 _ (by omega) hrx27 hxx28
            refine Ops.hv (fun KQ => ∀ v33 : Bool, f16_r1 m v22 (v33 || (decide (v32 > 1114111))) = some sx30 → KQ 3 ⟨q1 ((dP eI a1) :: (.ptr 0 0) :: q1 ((dB false) :: (.ptr 1 0) :: q2 ((dI v32) :: q10 ((dP eI a1) :: (dI (a1.length : Int)) :: (dI v22) :: (dB (decide (v22 < (a1.length : Int)))) :: (.vptr [(vI v32)]) :: (dI v32) :: (dI v32) :: (dB v33) :: (dB v33) :: q15 [])))), [(b16_0 a0), (.cells [(dI 0), (dI 0)]), (b16_1 v1)]⟩) ?_ fun G16g34 => Ops.st _ (by kernel_rfl) (G16g34 (decide (v32 < 1)) h)
            intro v33 h
            cases v33
            · refine Ops.sg 3 6 ?_
              exact Ops.st _ (by kernel_rfl) (J16j39 (dI v32) (dB (decide (v32 > 1114111))) false (decide (v32 > 1114111)) h)
            · refine Ops.sg 3 6 ?_
              exact Ops.st _ (by kernel_rfl) (J16j39 U U true true h)
          · refine Wp.exit (id := 0) (by kernel_rfl) ?_
            refine sqQ.x ?_
            refine seqQ.x ?_
            cases h
            refine lpQ.x ?_
            refine blkQ.x ⟨q1 ((dP eI a1) :: (.ptr 0 0) :: q1 ((dB false) :: (.ptr 1 0) :: q13 ((dP eI a1) :: (dI (a1.length : Int)) :: (dI v22) :: q21 []))), [(b16_0 a0), (.cells [(dI 0), (dI 0)]), (b16_1 v1)]⟩ (by kernel_rfl) ?_
            exact hxx28 v22  hsx31
      refine Wp.loop' k16_0 3 (by kernel_rfl) ⟨q1 ((dP eI a1) :: (.ptr 0 0) :: q1 ((dB false) :: (.ptr 1 0) :: q13 ((dP eI a1) :: (dI (a1.length : Int)) :: (dI 0) :: q21 []))), [(b16_0 a0), (.cells [(dI 0), (dI 0)]), (b16_1 v1)]⟩ (by kernel_rfl) ?_
      rcases brk_some h with ⟨r43, er43, h⟩ | ⟨y42, ey42, h⟩
      · refine hLx41 _ 0  _ er43 n (by omega) (fun r er σ hσ => ?_) (fun y  ey => by cases ey)
        cases er
        refine seqQ.r ?_
        exact fnQ.r' (X16 n) (fun z => (.tuple [eB z.1, e27 z.2])) h hσ
      · refine hLx41 _ 0  _ ey42 n (by omega) (fun r er => by cases er) (fun y  ey => ?_)
        cases ey
        refine seqQ.n ?_
        refine Wp.sq ?_
        refine Wp.rg ?_
        refine Ops.sg 2 2 ?_
        obtain ⟨v44, ev44, h⟩ := bnd_some h
        refine Ops.on 3 (fun h0 e0 => (call_ok (E' := EG) (h := h0) (by kernel_rfl) (Args.v (.agg [(vI a0.fKind), (vP eI a0.fLabels), (vP ep24 a0.fSubs), (vI a0.fLeast), (vI a0.fMost)]) (e24 a0) (by kernel_rfl) (Args.v (vP eI a1) ((eL eI) a1) (by kernel_rfl) Args.nil)) (ok33 m a0 a1 v44 ev44 n (by omega)))) ?_
        obtain ⟨v45, ev45, h⟩ := bnd_some h
        refine Ops.on 4 (fun h0 e0 => (ix_r (T := T) h0 69 67 1 .plain (eL eB) v44 0 v45 ev45 (by kernel_rfl) (by kernel_rfl) (fun _ => rfl))) ?_
        refine Ops.sg 2 6 ?_
        refine Ops.on 7 (fun h0 e0 => (len_r (T := T) h0 22 3 .plain eI a1 (by kernel_rfl))) ?_
        obtain ⟨v46, ev46, h⟩ := bnd_some h
        refine Ops.on 8 (fun h0 e0 => (ix_r (T := T) h0 67 4 1 .plain eB v45 (a1.length : Int) v46 ev46 (by kernel_rfl) (by kernel_rfl) (fun _ => rfl))) ?_
        refine Ops.sg 4 12 ?_
        refine Ops.dn ?_
        refine seqQ.n ?_
        refine Wp.ret (by kernel_rfl) ?_
        exact fnQ.r' (X16 n) (fun z => (.tuple [eB z.1, e27 z.2])) h (RetOk.mk' (.v (.tuple [(vB v46), (.agg [(vI 0), (vI 0)])])) (by kernel_rfl) (by kernel_rfl))
noncomputable def f25 (m : Nat) (a0 : Int) (a1 : Int) : Option S27 :=
  some ((⟨a0, a1⟩ : S27))
noncomputable abbrev X25 (n : Nat) : Cx := cxOf Proofs.Tryd.prog EG 25 n
noncomputable def C25 : Code := bodyOf Proofs.Tryd.prog 25
theorem ok25 (m : Nat) (a0 : Int) (a1 : Int) (o : S27) (h : f25 m a0 a1 = some o) (n : Nat) (hn : m + 1 ≤ n) : Fn Proofs.Tryd.prog EG n 25 [.v (eI a0), .v (eI a1)] (e27 o) := by
  obtain ⟨n, rfl⟩ : ∃ q, n = q + 1 := ⟨n - 1, by omega⟩
  unfold f25 at h
  refine Fn.of (by kernel_rfl) (by kernel_rfl) (by kernel_rfl) ⟨(dI a0) :: (dI a1) :: u6 [], []⟩ (by kernel_rfl) ?_
  refine Wp.sq ?_
  refine Wp.rg ?_
  refine Ops.sg 1 1 ?_
  refine Ops.dn ?_
  refine seqQ.n ?_
  refine Wp.sq ?_
  refine Wp.rg ?_
  refine Ops.sg 4 4 ?_
  refine Ops.dn ?_
  refine seqQ.n ?_
  refine Wp.ret (by kernel_rfl) ?_
  exact fnQ.r' (X25 n) (fun z => (e27 z)) h (RetOk.mk' (.v (.agg [(vI a0), (vI a1)])) (by kernel_rfl) (by kernel_rfl))
noncomputable def f42_r1 (m : Nat) (v17 : Bool) : Option Bool :=
  some v17
noncomputable def f42_r2 (m : Nat) (a0 : Int) (v6 : Bool) : Option Bool :=
  f42_r1 m (v6 || ((decide (a0 > 57343)) && (decide (a0 ≤ 1114111))))
noncomputable def f42 (m : Nat) (a0 : Int) : Option Bool :=
  f42_r2 m a0 ((decide (a0 ≥ 0)) && (decide (a0 < 55296)))
noncomputable abbrev X42 (n : Nat) : Cx := cxOf Proofs.Tryd.prog EG 42 n
noncomputable def C42 : Code := bodyOf Proofs.Tryd.prog 42
theorem ok42 (m : Nat) (a0 : Int) (o : Bool) (h : f42 m a0 = some o) (n : Nat) (hn : m + 1 ≤ n) : Fn Proofs.Tryd.prog EG n 42 [.v (eI a0)] (eB o) := by
  obtain ⟨n, rfl⟩ : ∃ q, n = q + 1 := ⟨n - 1, by omega⟩
  unfold f42 at h
  refine Fn.of (by kernel_rfl) (by kernel_rfl) (by kernel_rfl) ⟨(dI a0) :: u16 [], []⟩ (by kernel_rfl) ?_
  refine Wp.sq ?_
  refine Wp.rg ?_
  refine Ops.sg 1 1 ?_
  refine Ops.dn ?_
  refine seqQ.n ?_
  refine Wp.sq ?_
  refine Wp.rg ?_
  refine Ops.sg 3 3 ?_
  refine Ops.hv (fun KQ => ∀ (d3 d4 : D) (v5 : Bool) (v6 : Bool), f42_r2 m a0 v6 = some o → KQ 6 ⟨(dI a0) :: u1 ((dB false) :: (dI a0) :: (dB v5) :: (dB v5) :: d3 :: d4 :: (dB v6) :: u8 []), []⟩) ?_ fun J42j7 => ?_
  · intro d3 d4 v5 v6 h
    unfold f42_r2 at h
    refine Ops.sg 1 7 ?_
    refine Ops.hv (fun KQ => ∀ (d10 d11 d12 d13 d14 d15 : D) (v16 : Bool) (v17 : Bool), f42_r1 m v17 = some o → KQ 14 ⟨(dI a0) :: u1 ((dB false) :: (dI a0) :: (dB v5) :: (dB v5) :: d3 :: d4 :: (dB v16) :: (dB v16) :: d10 :: d11 :: d12 :: d13 :: d14 :: d15 :: (dB v17) :: []), []⟩) ?_ fun J42j18 => ?_
    · intro d10 d11 d12 d13 d14 d15 v16 v17 h
      unfold f42_r1 at h
      refine Ops.sg 1 15 ?_
      refine Ops.dn ?_
      refine seqQ.n ?_
      refine Wp.ret (by kernel_rfl) ?_
      exact fnQ.r' (X42 n) (fun z => (eB z)) h (RetOk.mk' (dB v17) (by kernel_rfl) (by kernel_rfl))
    refine Ops.hv (fun KQ => ∀ v8 : Bool, f42_r1 m (v8 || ((decide (a0 > 57343)) && (decide (a0 ≤ 1114111)))) = some o → KQ 7 ⟨(dI a0) :: u1 ((dB false) :: (dI a0) :: (dB v5) :: (dB v5) :: d3 :: d4 :: (dB v8) :: (dB v8) :: u7 []), []⟩) ?_ fun G42g9 => Ops.st _ (by kernel_rfl) (G42g9 v6 h)
    intro v8 h
    cases v8
    · refine Ops.sg 3 10 ?_
      refine Ops.hv (fun KQ => ∀ v19 : Bool, (f42_r1 m (false || (v19 && (decide (a0 ≤ 1114111))))) = some o → KQ 10 ⟨(dI a0) :: u1 ((dB false) :: (dI a0) :: (dB v5) :: (dB v5) :: d3 :: d4 :: (dB false) :: (dB false) :: (dI a0) :: (dB v19) :: (dB v19) :: u4 []), []⟩) ?_ fun G42g20 => Ops.st _ (by kernel_rfl) (G42g20 (decide (a0 > 57343)) h)
      intro v19 h
      cases v19
      · refine Ops.sg 4 14 ?_
        exact Ops.st _ (by kernel_rfl) (J42j18 (dI a0) (dB false) (dB false) U U (dB false) false false h)
      · refine Ops.sg 4 14 ?_
        exact Ops.st _ (by kernel_rfl) (J42j18 (dI a0) (dB true) (dB true) (dI a0) (dB (decide (a0 ≤ 1114111))) (dB (decide (a0 ≤ 1114111))) false (decide (a0 ≤ 1114111)) h)
    · refine Ops.sg 7 14 ?_
      exact Ops.st _ (by kernel_rfl) (J42j18 U U U U U U true true h)
  refine Ops.hv (fun KQ => ∀ v1 : Bool, f42_r2 m a0 (v1 && (decide (a0 < 55296))) = some o → KQ 3 ⟨(dI a0) :: u1 ((dB false) :: (dI a0) :: (dB v1) :: (dB v1) :: u11 []), []⟩) ?_ fun G42g2 => Ops.st _ (by kernel_rfl) (G42g2 (decide (a0 ≥ 0)) h)
  intro v1 h
  cases v1
  · refine Ops.sg 3 6 ?_
    exact Ops.st _ (by kernel_rfl) (J42j7 U U false false h)
  · refine Ops.sg 3 6 ?_
    exact Ops.st _ (by kernel_rfl) (J42j7 (dI a0) (dB (decide (a0 < 55296))) true (decide (a0 < 55296)) h)
noncomputable def f26_r1 (m : Nat) (v109 : Int) (v139 : Bool) : Option (Stp Int (Int)) :=
  cnd v139
  (some (.ret 13))
  (some (.nxt (w64 (v109 + 1))))
noncomputable def f26_r2 (m : Nat) (a0 : S24) (v109 : Int) (v119 : Int) (v126 : Bool) : Option (Stp Int (Int)) :=
  cnd v126
  (some (.ret 3))
  (bnd (cnd (decide (v109 > 0))
  (bnd (idx a0.fLabels (w64 (v109 - 1))) fun v141 =>
  some (decide (v141 ≥ v119)))
  (some false)) fun v139 =>
  f26_r1 m v109 v139)
noncomputable def f26_B3 (m : Nat) (a0 : S24) (v109 : Int) : Option (Stp Int (Int)) :=
  cnd (decide (v109 < (a0.fLabels.length : Int)))
  (bnd (idx a0.fLabels v109) fun v119 =>
  bnd (cnd (decide (v119 < 1))
  (some true)
  (bnd (f42 m v119) fun v142 =>
  some (!v142))) fun v126 =>
  f26_r2 m a0 v109 v119 v126)
  (some (.brk v109))
noncomputable def f26_r4 (m : Nat) (v152 : Bool) : Option Int :=
  cnd v152
  (some 5)
  (some 0)
noncomputable def f26_r5 (m : Nat) (v186 : Bool) : Option Int :=
  cnd v186
  (some 13)
  (some 0)
noncomputable def f26_r6 (m : Nat) (a0 : S24) (v176 : Bool) : Option Int :=
  cnd v176
  (some 3)
  (f26_r5 m ((a0.fMost != (-1)) && (decide (a0.fMost < a0.fLeast))))
noncomputable def f26_r7 (m : Nat) (a0 : S24) (v168 : Bool) : Option Int :=
  f26_r6 m a0 (v168 || (decide (a0.fMost > 9)))
noncomputable def f26_r8 (m : Nat) (a0 : S24) (v160 : Bool) : Option Int :=
  f26_r7 m a0 (v160 || (decide (a0.fMost < (-1))))
noncomputable def f26_r9 (m : Nat) (a0 : S24) (v58 : Bool) : Option Int :=
  cnd v58
  (some 9)
  (brk (iter (fun (y : Int) => f26_B3 m a0 y) m 0) some fun y144 =>
  cnd (a0.fKind != 5)
  (f26_r4 m ((a0.fLeast != 0) || (a0.fMost != 0)))
  (f26_r8 m a0 ((decide (a0.fLeast < 0)) || (decide (a0.fLeast > 9)))))
noncomputable def f26_r10 (m : Nat) (a0 : S24) (v1 : Bool) (v51 : Bool) : Option Int :=
  f26_r9 m a0 (v51 || (!v1))
noncomputable def f26_r11 (m : Nat) (a0 : S24) (v1 : Bool) (v42 : Bool) : Option Int :=
  f26_r10 m a0 v1 (v42 || (decide ((a0.fLabels.length : Int) > 300)))
noncomputable def f26_r12 (m : Nat) (a0 : S24) (v1 : Bool) (v28 : Bool) : Option Int :=
  f26_r11 m a0 v1 (v28 || ((a0.fKind != 2) && (decide ((a0.fLabels.length : Int) > 0))))
noncomputable def f26_j13 (m : Nat) (a0 : S24) (v1 : Bool) (v2 : Bool) : Option Int :=
  f26_r12 m a0 v1 ((a0.fKind == 2) && ((a0.fLabels.length : Int) == 0))
noncomputable def f26_j14 (m : Nat) (a0 : S24) (v190 : Bool) (v193 : Bool) : Option Int :=
  f26_j13 m a0 v193 v190
noncomputable def f26_j15 (m : Nat) (a0 : S24) (v190 : Bool) (v216 : Bool) : Option Int :=
  f26_j14 m a0 v190 v216
noncomputable def f26_j16 (m : Nat) (a0 : S24) (v190 : Bool) (v231 : Bool) : Option Int :=
  f26_j15 m a0 v190 v231
noncomputable def f26_j17 (m : Nat) (a0 : S24) (v190 : Bool) (v244 : Bool) : Option Int :=
  cnd v244
  (f26_j16 m a0 v190 ((a0.fSubs.length : Int) == 2))
  (some 4)
noncomputable def f26_j18 (m : Nat) (a0 : S24) (v190 : Bool) (v213 : Bool) : Option Int :=
  cnd v213
  (f26_j15 m a0 v190 (decide ((a0.fSubs.length : Int) ≥ 2)))
  (cnd (a0.fKind == 5)
  (f26_j16 m a0 v190 ((a0.fSubs.length : Int) == 1))
  (cnd (a0.fKind == 6)
  (f26_j17 m a0 v190 (a0.fKind == 6))
  (f26_j17 m a0 v190 (a0.fKind == 7))))
noncomputable def f26_j19 (m : Nat) (a0 : S24) (v190 : Bool) : Option Int :=
  cnd v190
  (f26_j14 m a0 v190 ((a0.fSubs.length : Int) == 0))
  (cnd (a0.fKind == 3)
  (f26_j18 m a0 v190 (a0.fKind == 3))
  (f26_j18 m a0 v190 (a0.fKind == 4)))
noncomputable def f26 (m : Nat) (a0 : S24) : Option Int :=
  cnd (a0.fKind == 1)
  (f26_j19 m a0 (a0.fKind == 1))
  (f26_j19 m a0 (a0.fKind == 2))
noncomputable abbrev X26 (n : Nat) : Cx := cxOf Proofs.Tryd.prog EG 26 n
noncomputable def C26 : Code := bodyOf Proofs.Tryd.prog 26
noncomputable abbrev p26_0 : Code := cR (cR (cR (cR C26)))
noncomputable abbrev b26_0 (w0 : S24) : AObj := .cells [(dI w0.fKind), (dP eI w0.fLabels), (dP ep24 w0.fSubs), (dI w0.fLeast), (dI w0.fMost)]
noncomputable abbrev k26_0 : List Nat := [1, 2, 62, 63, 64]
noncomputable abbrev k26_1 : List Nat := [1, 2, 3, 4, 11, 12]
theorem ok26 (m : Nat) (a0 : S24) (o : Int) (h : f26 m a0 = some o) (n : Nat) (hn : m + 2 ≤ n) : Fn Proofs.Tryd.prog EG n 26 [.v (e24 a0)] (eI o) := by
  obtain ⟨n, rfl⟩ : ∃ q, n = q + 1 := ⟨n - 1, by omega⟩
  unfold f26 at h
  refine Fn.of (by kernel_rfl) (by kernel_rfl) (by kernel_rfl) ⟨(.v (.agg [(vI a0.fKind), (vP eI a0.fLabels), (vP ep24 a0.fSubs), (vI a0.fLeast), (vI a0.fMost)])) :: u40 (u40 (u40 (u7 []))), []⟩ (by kernel_rfl) ?_
  refine Wp.sq ?_
  refine Wp.rg ?_
  refine Ops.sg 2 2 ?_
  refine Ops.dn ?_
  refine seqQ.n ?_
  refine Wp.sq ?_
  refine Wp.rg ?_
  refine Ops.sg 2 2 ?_
  refine Ops.on 3 (fun h0 e0 => (len_r (T := T) h0 23 25 .plain ep24 a0.fSubs (by kernel_rfl))) ?_
  refine Ops.sg 1 4 ?_
  refine Ops.dn ?_
  refine seqQ.n ?_
  refine Wp.sq ?_
  refine Wp.rg ?_
  refine Ops.sg 1 1 ?_
  refine Ops.dn ?_
  refine seqQ.n ?_
  refine Wp.sq ?_
  refine Wp.sq ?_
  refine Wp.rg ?_
  refine Ops.sg 2 2 ?_
  refine Ops.dn ?_
  refine seqQ.n ?_
  have J26j20 : ∀ (v1 : Bool) (v2 : Bool) (d3 : D) (d4 : D) (d5 : D) (d6 : D) (d7 : D) (d8 : D) (d9 : D) (d10 : D) (d11 : D) (d12 : D) (d13 : D) (d14 : D) (d15 : D) (d16 : D) (d17 : D) (d18 : D) (d19 : D), f26_j13 m a0 v1 v2 = some o → (seqQ (X26 n) p26_0 (fnQ (X26 n).E.T (resOf Proofs.Tryd.prog 26) (eI o))) .normal ⟨(.v (.agg [(vI a0.fKind), (vP eI a0.fLabels), (vP ep24 a0.fSubs), (vI a0.fLeast), (vI a0.fMost)])) :: (.ptr 0 0) :: (dI 0) :: (dI (a0.fSubs.length : Int)) :: (dB v1) :: u2 ((.ptr 0 2) :: (dP ep24 a0.fSubs) :: (dI (a0.fSubs.length : Int)) :: (.ptr 0 0) :: (dI a0.fKind) :: (dB v2) :: (dB (a0.fKind == 1)) :: d3 :: d4 :: d5 :: d6 :: d7 :: d8 :: d9 :: d10 :: d11 :: d12 :: d13 :: d14 :: d15 :: d16 :: d17 :: d18 :: d19 :: u40 (u40 (u17 []))), [(b26_0 a0)]⟩ := by
    intro v1 v2 d3 d4 d5 d6 d7 d8 d9 d10 d11 d12 d13 d14 d15 d16 d17 d18 d19 h
    unfold f26_j13 at h
    refine seqQ.n ?_
    refine Wp.sq ?_
    refine Wp.sq ?_
    refine Wp.rg ?_
    refine Ops.sg 4 4 ?_
    refine Ops.hv (fun KQ => ∀ (d23 d24 d25 d26 : D) (v27 : Bool) (v28 : Bool), f26_r12 m a0 v1 v28 = some o → KQ 9 ⟨(.v (.agg [(vI a0.fKind), (vP eI a0.fLabels), (vP ep24 a0.fSubs), (vI a0.fLeast), (vI a0.fMost)])) :: (.ptr 0 0) :: (dI 0) :: (dI (a0.fSubs.length : Int)) :: (dB v1) :: u2 ((.ptr 0 2) :: (dP ep24 a0.fSubs) :: (dI (a0.fSubs.length : Int)) :: (.ptr 0 0) :: (dI a0.fKind) :: (dB v2) :: (dB (a0.fKind == 1)) :: d3 :: d4 :: d5 :: d6 :: d7 :: d8 :: d9 :: d10 :: d11 :: d12 :: d13 :: d14 :: d15 :: d16 :: d17 :: d18 :: d19 :: (.ptr 0 0) :: (dI a0.fKind) :: (dB v27) :: (dB v27) :: d23 :: d24 :: d25 :: d26 :: (dB v28) :: u40 (u40 (u8 []))), [(b26_0 a0)]⟩) ?_ fun J26j29 => ?_
    · intro d23 d24 d25 d26 v27 v28 h
      unfold f26_r12 at h
      refine Ops.sg 1 10 ?_
      refine Ops.hv (fun KQ => ∀ (d32 d33 d34 d35 d36 d37 d38 d39 d40 : D) (v41 : Bool) (v42 : Bool), f26_r11 m a0 v1 v42 = some o → KQ 20 ⟨(.v (.agg [(vI a0.fKind), (vP eI a0.fLabels), (vP ep24 a0.fSubs), (vI a0.fLeast), (vI a0.fMost)])) :: (.ptr 0 0) :: (dI 0) :: (dI (a0.fSubs.length : Int)) :: (dB v1) :: u2 ((.ptr 0 2) :: (dP ep24 a0.fSubs) :: (dI (a0.fSubs.length : Int)) :: (.ptr 0 0) :: (dI a0.fKind) :: (dB v2) :: (dB (a0.fKind == 1)) :: d3 :: d4 :: d5 :: d6 :: d7 :: d8 :: d9 :: d10 :: d11 :: d12 :: d13 :: d14 :: d15 :: d16 :: d17 :: d18 :: d19 :: (.ptr 0 0) :: (dI a0.fKind) :: (dB v27) :: (dB v27) :: d23 :: d24 :: d25 :: d26 :: (dB v41) :: (dB v41) :: d32 :: d33 :: d34 :: d35 :: d36 :: d37 :: d38 :: d39 :: d40 :: (dB v42) :: u40 (u37 [])), [(b26_0 a0)]⟩) ?_ fun J26j43 => ?_
      · intro d32 d33 d34 d35 d36 d37 d38 d39 d40 v41 v42 h
        unfold f26_r11 at h
        refine Ops.sg 1 21 ?_
        refine Ops.hv (fun KQ => ∀ (d46 d47 d48 d49 : D) (v50 : Bool) (v51 : Bool), f26_r10 m a0 v1 v51 = some o → KQ 26 ⟨(.v (.agg [(vI a0.fKind), (vP eI a0.fLabels), (vP ep24 a0.fSubs), (vI a0.fLeast), (vI a0.fMost)])) :: (.ptr 0 0) :: (dI 0) :: (dI (a0.fSubs.length : Int)) :: (dB v1) :: u2 ((.ptr 0 2) :: (dP ep24 a0.fSubs) :: (dI (a0.fSubs.length : Int)) :: (.ptr 0 0) :: (dI a0.fKind) :: (dB v2) :: (dB (a0.fKind == 1)) :: d3 :: d4 :: d5 :: d6 :: d7 :: d8 :: d9 :: d10 :: d11 :: d12 :: d13 :: d14 :: d15 :: d16 :: d17 :: d18 :: d19 :: (.ptr 0 0) :: (dI a0.fKind) :: (dB v27) :: (dB v27) :: d23 :: d24 :: d25 :: d26 :: (dB v41) :: (dB v41) :: d32 :: d33 :: d34 :: d35 :: d36 :: d37 :: d38 :: d39 :: d40 :: (dB v50) :: (dB v50) :: d46 :: d47 :: d48 :: d49 :: (dB v51) :: u40 (u31 [])), [(b26_0 a0)]⟩) ?_ fun J26j52 => ?_
        · intro d46 d47 d48 d49 v50 v51 h
          unfold f26_r10 at h
          refine Ops.sg 1 27 ?_
          refine Ops.hv (fun KQ => ∀ (d55 d56 : D) (v57 : Bool) (v58 : Bool), f26_r9 m a0 v58 = some o → KQ 30 ⟨(.v (.agg [(vI a0.fKind), (vP eI a0.fLabels), (vP ep24 a0.fSubs), (vI a0.fLeast), (vI a0.fMost)])) :: (.ptr 0 0) :: (dI 0) :: (dI (a0.fSubs.length : Int)) :: (dB v1) :: u2 ((.ptr 0 2) :: (dP ep24 a0.fSubs) :: (dI (a0.fSubs.length : Int)) :: (.ptr 0 0) :: (dI a0.fKind) :: (dB v2) :: (dB (a0.fKind == 1)) :: d3 :: d4 :: d5 :: d6 :: d7 :: d8 :: d9 :: d10 :: d11 :: d12 :: d13 :: d14 :: d15 :: d16 :: d17 :: d18 :: d19 :: (.ptr 0 0) :: (dI a0.fKind) :: (dB v27) :: (dB v27) :: d23 :: d24 :: d25 :: d26 :: (dB v41) :: (dB v41) :: d32 :: d33 :: d34 :: d35 :: d36 :: d37 :: d38 :: d39 :: d40 :: (dB v50) :: (dB v50) :: d46 :: d47 :: d48 :: d49 :: (dB v57) :: (dB v57) :: d55 :: d56 :: (dB v58) :: u40 (u27 [])), [(b26_0 a0)]⟩) ?_ fun J26j59 => ?_
          · intro d55 d56 v57 v58 h
            unfold f26_r9 at h
            refine Ops.dn ?_
            refine seqQ.n ?_
            refine Wp.cnd h [1, 2] 1 (by kernel_rfl) (fun h => ?_) (fun h => ?_)
            · refine Wp.sq ?_
              refine Wp.rg ?_
              refine Ops.sg 1 1 ?_
              refine Ops.dn ?_
              refine seqQ.n ?_
              refine Wp.ret (by kernel_rfl) ?_
              refine sqQ.r ?_
              refine seqQ.r ?_
              exact fnQ.r' (X26 n) (fun z => (eI z)) h (RetOk.mk' (dI 9) (by kernel_rfl) (by kernel_rfl))
            · refine Wp.sk ?_
              refine sqQ.n' ?_
              refine seqQ.n ?_
              refine Wp.sq ?_
              refine Wp.sq ?_
              refine Wp.rg ?_
              refine Ops.sg 2 2 ?_
              refine Ops.on 3 (fun h0 e0 => (len_r (T := T) h0 22 3 .plain eI a0.fLabels (by kernel_rfl))) ?_
              refine Ops.sg 1 4 ?_
              refine Ops.dn ?_
              refine seqQ.n ?_
              refine Wp.block' 1 [1, 2] 1 (by kernel_rfl) ?_
              have hLx143 : ∀ (kx111 : Nat) (v109 : Int)  (ox110 : Int ⊕ (Int)), iter (fun (y : Int) => f26_B3 m a0 y) kx111 v109 = some ox110 → ∀ nx112, kx111 ≤ nx112 → (∀ r, ox110 = .inl r → ∀ σ, RetOk (X26 n) (resOf Proofs.Tryd.prog 26) (eI r) σ → (seqQ (X26 n) (cR (cR p26_0)) (fnQ (X26 n).E.T (resOf Proofs.Tryd.prog 26) (eI o))) .ret σ) → (∀ (y : Int) , ox110 = .inr y → (seqQ (X26 n) (cR (cR p26_0)) (fnQ (X26 n).E.T (resOf Proofs.Tryd.prog 26) (eI o))) .normal ⟨q1 ((.ptr 0 0) :: (dI 0) :: q40 (q19 ((dP eI a0.fLabels) :: (dI (a0.fLabels.length : Int)) :: (dI y) :: q40 (q23 [])))), [(b26_0 a0)]⟩) → Lp (X26 n) k26_0 1 (cL (cL (cR (cL (cR p26_0))))) nx112 ⟨q1 ((.ptr 0 0) :: (dI 0) :: q40 (q19 ((dP eI a0.fLabels) :: (dI (a0.fLabels.length : Int)) :: (dI v109) :: q40 (q23 [])))), [(b26_0 a0)]⟩ (blkQ (X26 n) 1 [1, 2] 1 (seqQ (X26 n) (cR (cR p26_0)) (fnQ (X26 n).E.T (resOf Proofs.Tryd.prog 26) (eI o)))) := by
                intro kx111
                induction kx111 with
                | zero => intro v109  ox110 h; exact (iter_zero h).elim
                | succ kx111 ihx113 =>
                  intro v109  ox110 h nx112 hnx116 hrx114 hxx115
                  obtain ⟨nx112, rfl⟩ : ∃ q, nx112 = q + 1 := ⟨nx112 - 1, by omega⟩
                  obtain ⟨sx117, h, hsx118⟩ := iter_some h
                  have h : f26_B3 m a0 v109 = some sx117 := h
                  unfold f26_B3 at h
                  refine Lp.succ ?_
                  refine Wp.sq ?_
                  refine Wp.rg ?_
                  refine Ops.sg 1 1 ?_
                  refine Ops.dn ?_
                  refine seqQ.n ?_
                  refine Wp.sq ?_
                  refine Wp.cnd h k26_0 1 (by kernel_rfl) (fun h => ?_) (fun h => ?_)
                  · refine Wp.sk ?_
                    refine sqQ.n' ?_
                    refine seqQ.n ?_
                    refine Wp.sq ?_
                    refine Wp.block' 2 k26_0 1 (by kernel_rfl) ?_
                    refine Wp.sq ?_
                    refine Wp.rg ?_
                    refine Ops.sg 1 1 ?_
                    obtain ⟨v119, ev119, h⟩ := bnd_some h
                    refine Ops.on 2 (fun h0 e0 => (ix_r (T := T) h0 22 3 1 .plain eI a0.fLabels v109 v119 ev119 (by kernel_rfl) (by kernel_rfl) (fun _ => rfl))) ?_
                    refine Ops.sg 3 5 ?_
                    refine Ops.dn ?_
                    refine seqQ.n ?_
                    refine Wp.sq ?_
                    refine Wp.sq ?_
                    refine Wp.rg ?_
                    refine Ops.sg 3 3 ?_
                    refine Ops.hv (fun KQ => ∀ (d122 d123 d124 : D) (v125 : Bool) (v126 : Bool), f26_r2 m a0 v109 v119 v126 = some sx117 → KQ 7 ⟨q1 ((.ptr 0 0) :: (dI 0) :: q2 ((dI v109) :: (dI v119) :: q40 (q15 ((dP eI a0.fLabels) :: (dI (a0.fLabels.length : Int)) :: (dI v109) :: (dB (decide (v109 < (a0.fLabels.length : Int)))) :: (dI v109) :: (.vptr [(vI v119)]) :: (dI v119) :: (dI v119) :: (dB v125) :: (dB v125) :: d122 :: d123 :: d124 :: (dB v126) :: q40 (q12 []))))), [(b26_0 a0)]⟩) ?_ fun J26j127 => ?_
                    · intro d122 d123 d124 v125 v126 h
                      unfold f26_r2 at h
                      refine Ops.dn ?_
                      refine seqQ.n ?_
                      refine Wp.cnd h [1, 2, 5, 6, 62, 63, 64] 1 (by kernel_rfl) (fun h => ?_) (fun h => ?_)
                      · refine Wp.sq ?_
                        refine Wp.rg ?_
                        refine Ops.sg 1 1 ?_
                        refine Ops.dn ?_
                        refine seqQ.n ?_
                        refine Wp.ret (by kernel_rfl) ?_
                        refine sqQ.r ?_
                        refine seqQ.r ?_
                        refine blkQ.r ?_
                        refine seqQ.r ?_
                        cases h
                        refine lpQ.r ?_
                        refine blkQ.r ?_
                        exact hrx114 _ hsx118 _ (RetOk.forget k26_0 (by kernel_rfl) (RetOk.mk' (dI 3) (by kernel_rfl) (by kernel_rfl)))
                      · refine Wp.sk ?_
                        refine sqQ.n' ?_
                        refine seqQ.n ?_
                        refine Wp.sq ?_
                        refine Wp.rg ?_
                        refine Ops.sg 3 3 ?_
                        refine Ops.hv (fun KQ => ∀ (d130 d131 d132 d133 d134 d135 d136 d137 : D) (v138 : Bool) (v139 : Bool), f26_r1 m v109 v139 = some sx117 → KQ 12 ⟨q1 ((.ptr 0 0) :: (dI 0) :: q2 ((dI v109) :: (dI v119) :: q40 (q15 ((dP eI a0.fLabels) :: (dI (a0.fLabels.length : Int)) :: (dI v109) :: (dB (decide (v109 < (a0.fLabels.length : Int)))) :: (dI v109) :: (.vptr [(vI v119)]) :: (dI v119) :: (dI v119) :: (dB v125) :: (dB v125) :: d122 :: d123 :: d124 :: (dB v126) :: (dI v109) :: (dB v138) :: (dB v138) :: d130 :: d131 :: d132 :: d133 :: d134 :: d135 :: d136 :: d137 :: (dB v139) :: q40 [])))), [(b26_0 a0)]⟩) ?_ fun J26j140 => ?_
                        · intro d130 d131 d132 d133 d134 d135 d136 d137 v138 v139 h
                          unfold f26_r1 at h
                          refine Ops.dn ?_
                          refine seqQ.n ?_
                          refine Wp.cnd h k26_0 1 (by kernel_rfl) (fun h => ?_) (fun h => ?_)
                          · refine Wp.sq ?_
                            refine Wp.rg ?_
                            refine Ops.sg 1 1 ?_
                            refine Ops.dn ?_
                            refine seqQ.n ?_
                            refine Wp.ret (by kernel_rfl) ?_
                            refine sqQ.r ?_
                            refine blkQ.r ?_
                            refine seqQ.r ?_
                            cases h
                            refine lpQ.r ?_
                            refine blkQ.r ?_
                            exact hrx114 _ hsx118 _ (RetOk.forget k26_0 (by kernel_rfl) (RetOk.mk' (dI 13) (by kernel_rfl) (by kernel_rfl)))
                          · refine Wp.sk ?_
                            refine sqQ.n' ?_
                            refine blkQ.n' ?_
                            refine seqQ.n ?_
                            refine Wp.rg ?_
                            refine Ops.sg 2 2 ?_
                            refine Ops.dn ?_
                            refine lpQ.n ⟨q1 ((.ptr 0 0) :: (dI 0) :: q40 (q19 ((dP eI a0.fLabels) :: (dI (a0.fLabels.length : Int)) :: (dI (w64 (v109 + 1))) :: q40 (q23 [])))), [(b26_0 a0)]⟩ (by kernel_rfl) ?_
                            cases h
                            exact ihx113 (w64 (v109 + 1))  _ hsx118 _ (by omega) hrx114 hxx115
                        obtain ⟨v139, ev139, h⟩ := bnd_some h
                        refine Ops.hv (fun KQ => ∀ v128 : Bool, (cnd v128 (bnd (idx a0.fLabels (w64 (v109 - 1))) fun v141 => some (decide (v141 ≥ v119))) (some false)) = some v139 → KQ 3 ⟨q1 ((.ptr 0 0) :: (dI 0) :: q2 ((dI v109) :: (dI v119) :: q40 (q15 ((dP eI a0.fLabels) :: (dI (a0.fLabels.length : Int)) :: (dI v109) :: (dB (decide (v109 < (a0.fLabels.length : Int)))) :: (dI v109) :: (.vptr [(vI v119)]) :: (dI v119) :: (dI v119) :: (dB v125) :: (dB v125) :: d122 :: d123 :: d124 :: (dB v126) :: (dI v109) :: (dB v128) :: (dB v128) :: q40 (q9 []))))), [(b26_0 a0)]⟩) ?_ fun G26g129 => Ops.st _ (by kernel_rfl) (G26g129 (decide (v109 > 0)) ev139)
                        intro v128 ev139
                        cases v128
                        · have ev139 := cnd_f ev139
                          refine Ops.sg 9 12 ?_
                          exact Ops.st _ (by kernel_rfl) (J26j140 U U U U U U U U false false (some_sub (fun v139 => f26_r1 m v109 v139 = some sx117) ev139 h))
                        · have ev139 := cnd_t ev139
                          refine Ops.sg 4 7 ?_
                          obtain ⟨v141, ev141, ev139⟩ := bnd_some ev139
                          refine Ops.on 8 (fun h0 e0 => (ix_r (T := T) h0 22 3 1 .plain eI a0.fLabels (w64 (v109 - 1)) v141 ev141 (by kernel_rfl) (by kernel_rfl) (fun _ => rfl))) ?_
                          refine Ops.sg 4 12 ?_
                          exact Ops.st _ (by kernel_rfl) (J26j140 (.ptr 0 1) (dP eI a0.fLabels) (dI v109) (dI (w64 (v109 - 1))) (.vptr [(vI v141)]) (dI v141) (dI v119) (dB (decide (v141 ≥ v119))) true (decide (v141 ≥ v119)) (some_sub (fun v139 => f26_r1 m v109 v139 = some sx117) ev139 h))
                    obtain ⟨v126, ev126, h⟩ := bnd_some h
                    refine Ops.hv (fun KQ => ∀ v120 : Bool, (cnd v120 (some true) (bnd (f42 m v119) fun v142 => some (!v142))) = some v126 → KQ 3 ⟨q1 ((.ptr 0 0) :: (dI 0) :: q2 ((dI v109) :: (dI v119) :: q40 (q15 ((dP eI a0.fLabels) :: (dI (a0.fLabels.length : Int)) :: (dI v109) :: (dB (decide (v109 < (a0.fLabels.length : Int)))) :: (dI v109) :: (.vptr [(vI v119)]) :: (dI v119) :: (dI v119) :: (dB v120) :: (dB v120) :: q40 (q16 []))))), [(b26_0 a0)]⟩) ?_ fun G26g121 => Ops.st _ (by kernel_rfl) (G26g121 (decide (v119 < 1)) ev126)
                    intro v120 ev126
                    cases v120
                    · have ev126 := cnd_f ev126
                      refine Ops.sg 1 4 ?_
                      obtain ⟨v142, ev142, ev126⟩ := bnd_some ev126
                      refine Ops.on 5 (fun h0 e0 => (call_ok (E' := EG) (h := h0) (by kernel_rfl) (Args.v (vI v119) (eI v119) (by kernel_rfl) Args.nil) (ok42 m v119 v142 ev142 n (by omega)))) ?_
                      refine Ops.sg 2 7 ?_
                      exact Ops.st _ (by kernel_rfl) (J26j127 (dI v119) (dB v142) (dB (!v142)) false (!v142) (some_sub (fun v126 => f26_r2 m a0 v109 v119 v126 = some sx117) ev126 h))
                    · have ev126 := cnd_t ev126
                      refine Ops.sg 4 7 ?_
                      exact Ops.st _ (by kernel_rfl) (J26j127 U U U true true (some_sub (fun v126 => f26_r2 m a0 v109 v119 v126 = some sx117) ev126 h))
                  · refine Wp.exit (id := 1) (by kernel_rfl) ?_
                    refine sqQ.x ?_
                    refine seqQ.x ?_
                    cases h
                    refine lpQ.x ?_
                    refine blkQ.x ⟨q1 ((.ptr 0 0) :: (dI 0) :: q40 (q19 ((dP eI a0.fLabels) :: (dI (a0.fLabels.length : Int)) :: (dI v109) :: q40 (q23 [])))), [(b26_0 a0)]⟩ (by kernel_rfl) ?_
                    exact hxx115 v109  hsx118
              refine Wp.loop' k26_0 1 (by kernel_rfl) ⟨q1 ((.ptr 0 0) :: (dI 0) :: q40 (q19 ((dP eI a0.fLabels) :: (dI (a0.fLabels.length : Int)) :: (dI 0) :: q40 (q23 [])))), [(b26_0 a0)]⟩ (by kernel_rfl) ?_
              rcases brk_some h with ⟨r145, er145, h⟩ | ⟨y144, ey144, h⟩
              · refine hLx143 _ 0  _ er145 n (by omega) (fun r er σ hσ => ?_) (fun y  ey => by cases ey)
                cases er
                refine seqQ.r ?_
                exact fnQ.r' (X26 n) (fun z => (eI z)) h hσ
              · refine hLx143 _ 0  _ ey144 n (by omega) (fun r er => by cases er) (fun y  ey => ?_)
                cases ey
                refine seqQ.n ?_
                refine Wp.sq ?_
                refine Wp.sq ?_
                refine Wp.rg ?_
                refine Ops.sg 3 3 ?_
                refine Ops.dn ?_
                refine seqQ.n ?_
                refine Wp.cnd h [1, 2] 1 (by kernel_rfl) (fun h => ?_) (fun h => ?_)
                · refine Wp.sq ?_
                  refine Wp.sq ?_
                  refine Wp.rg ?_
                  refine Ops.sg 4 4 ?_
                  refine Ops.hv (fun KQ => ∀ (d148 d149 d150 : D) (v151 : Bool) (v152 : Bool), f26_r4 m v152 = some o → KQ 8 ⟨q1 ((.ptr 0 0) :: (dI 0) :: q40 (q19 ((dP eI a0.fLabels) :: (dI (a0.fLabels.length : Int)) :: (dI y144) :: q24 ((.ptr 0 0) :: (dI a0.fKind) :: (dB (a0.fKind != 5)) :: (.ptr 0 3) :: (dI a0.fLeast) :: (dB v151) :: (dB v151) :: d148 :: d149 :: d150 :: (dB v152) :: q28 [])))), [(b26_0 a0)]⟩) ?_ fun J26j153 => ?_
                  · intro d148 d149 d150 v151 v152 h
                    unfold f26_r4 at h
                    refine Ops.dn ?_
                    refine seqQ.n ?_
                    refine Wp.cnd h [2] 1 (by kernel_rfl) (fun h => ?_) (fun h => ?_)
                    · refine Wp.sq ?_
                      refine Wp.rg ?_
                      refine Ops.sg 1 1 ?_
                      refine Ops.dn ?_
                      refine seqQ.n ?_
                      refine Wp.ret (by kernel_rfl) ?_
                      refine sqQ.r ?_
                      refine seqQ.r ?_
                      refine sqQ.r ?_
                      refine seqQ.r ?_
                      exact fnQ.r' (X26 n) (fun z => (eI z)) h (RetOk.mk' (dI 5) (by kernel_rfl) (by kernel_rfl))
                    · refine Wp.sk ?_
                      refine sqQ.n' ?_
                      refine seqQ.n ?_
                      refine Wp.sq ?_
                      refine Wp.rg ?_
                      refine Ops.sg 1 1 ?_
                      refine Ops.dn ?_
                      refine seqQ.n ?_
                      refine Wp.ret (by kernel_rfl) ?_
                      refine sqQ.r ?_
                      refine seqQ.r ?_
                      exact fnQ.r' (X26 n) (fun z => (eI z)) h (RetOk.mk' (dI 0) (by kernel_rfl) (by kernel_rfl))
                  refine Ops.hv (fun KQ => ∀ v146 : Bool, f26_r4 m (v146 || (a0.fMost != 0)) = some o → KQ 4 ⟨q1 ((.ptr 0 0) :: (dI 0) :: q40 (q19 ((dP eI a0.fLabels) :: (dI (a0.fLabels.length : Int)) :: (dI y144) :: q24 ((.ptr 0 0) :: (dI a0.fKind) :: (dB (a0.fKind != 5)) :: (.ptr 0 3) :: (dI a0.fLeast) :: (dB v146) :: (dB v146) :: q32 [])))), [(b26_0 a0)]⟩) ?_ fun G26g147 => Ops.st _ (by kernel_rfl) (G26g147 (a0.fLeast != 0) h)
                  intro v146 h
                  cases v146
                  · refine Ops.sg 4 8 ?_
                    exact Ops.st _ (by kernel_rfl) (J26j153 (.ptr 0 4) (dI a0.fMost) (dB (a0.fMost != 0)) false (a0.fMost != 0) h)
                  · refine Ops.sg 4 8 ?_
                    exact Ops.st _ (by kernel_rfl) (J26j153 U U U true true h)
                · refine Wp.sk ?_
                  refine sqQ.n' ?_
                  refine seqQ.n ?_
                  refine Wp.sq ?_
                  refine Wp.sq ?_
                  refine Wp.rg ?_
                  refine Ops.sg 4 4 ?_
                  refine Ops.hv (fun KQ => ∀ (d156 d157 d158 : D) (v159 : Bool) (v160 : Bool), f26_r8 m a0 v160 = some o → KQ 8 ⟨q1 ((.ptr 0 0) :: (dI 0) :: q40 (q19 ((dP eI a0.fLabels) :: (dI (a0.fLabels.length : Int)) :: (dI y144) :: q24 ((.ptr 0 0) :: (dI a0.fKind) :: (dB (a0.fKind != 5)) :: q8 ((.ptr 0 3) :: (dI a0.fLeast) :: (dB v159) :: (dB v159) :: d156 :: d157 :: d158 :: (dB v160) :: q20 []))))), [(b26_0 a0)]⟩) ?_ fun J26j161 => ?_
                  · intro d156 d157 d158 v159 v160 h
                    unfold f26_r8 at h
                    refine Ops.sg 1 9 ?_
                    refine Ops.hv (fun KQ => ∀ (d164 d165 d166 : D) (v167 : Bool) (v168 : Bool), f26_r7 m a0 v168 = some o → KQ 13 ⟨q1 ((.ptr 0 0) :: (dI 0) :: q40 (q19 ((dP eI a0.fLabels) :: (dI (a0.fLabels.length : Int)) :: (dI y144) :: q24 ((.ptr 0 0) :: (dI a0.fKind) :: (dB (a0.fKind != 5)) :: q8 ((.ptr 0 3) :: (dI a0.fLeast) :: (dB v159) :: (dB v159) :: d156 :: d157 :: d158 :: (dB v167) :: (dB v167) :: d164 :: d165 :: d166 :: (dB v168) :: q15 []))))), [(b26_0 a0)]⟩) ?_ fun J26j169 => ?_
                    · intro d164 d165 d166 v167 v168 h
                      unfold f26_r7 at h
                      refine Ops.sg 1 14 ?_
                      refine Ops.hv (fun KQ => ∀ (d172 d173 d174 : D) (v175 : Bool) (v176 : Bool), f26_r6 m a0 v176 = some o → KQ 18 ⟨q1 ((.ptr 0 0) :: (dI 0) :: q40 (q19 ((dP eI a0.fLabels) :: (dI (a0.fLabels.length : Int)) :: (dI y144) :: q24 ((.ptr 0 0) :: (dI a0.fKind) :: (dB (a0.fKind != 5)) :: q8 ((.ptr 0 3) :: (dI a0.fLeast) :: (dB v159) :: (dB v159) :: d156 :: d157 :: d158 :: (dB v167) :: (dB v167) :: d164 :: d165 :: d166 :: (dB v175) :: (dB v175) :: d172 :: d173 :: d174 :: (dB v176) :: q10 []))))), [(b26_0 a0)]⟩) ?_ fun J26j177 => ?_
                      · intro d172 d173 d174 v175 v176 h
                        unfold f26_r6 at h
                        refine Ops.dn ?_
                        refine seqQ.n ?_
                        refine Wp.cnd h [1, 2] 1 (by kernel_rfl) (fun h => ?_) (fun h => ?_)
                        · refine Wp.sq ?_
                          refine Wp.rg ?_
                          refine Ops.sg 1 1 ?_
                          refine Ops.dn ?_
                          refine seqQ.n ?_
                          refine Wp.ret (by kernel_rfl) ?_
                          refine sqQ.r ?_
                          refine seqQ.r ?_
                          exact fnQ.r' (X26 n) (fun z => (eI z)) h (RetOk.mk' (dI 3) (by kernel_rfl) (by kernel_rfl))
                        · refine Wp.sk ?_
                          refine sqQ.n' ?_
                          refine seqQ.n ?_
                          refine Wp.sq ?_
                          refine Wp.sq ?_
                          refine Wp.rg ?_
                          refine Ops.sg 4 4 ?_
                          refine Ops.hv (fun KQ => ∀ (d180 d181 d182 d183 d184 : D) (v185 : Bool) (v186 : Bool), f26_r5 m v186 = some o → KQ 10 ⟨q1 ((.ptr 0 0) :: (dI 0) :: q40 (q19 ((dP eI a0.fLabels) :: (dI (a0.fLabels.length : Int)) :: (dI y144) :: q24 ((.ptr 0 0) :: (dI a0.fKind) :: (dB (a0.fKind != 5)) :: q8 ((.ptr 0 3) :: (dI a0.fLeast) :: (dB v159) :: (dB v159) :: d156 :: d157 :: d158 :: (dB v167) :: (dB v167) :: d164 :: d165 :: d166 :: (dB v175) :: (dB v175) :: d172 :: d173 :: d174 :: (dB v176) :: (.ptr 0 4) :: (dI a0.fMost) :: (dB v185) :: (dB v185) :: d180 :: d181 :: d182 :: d183 :: d184 :: (dB v186) :: []))))), [(b26_0 a0)]⟩) ?_ fun J26j187 => ?_
                          · intro d180 d181 d182 d183 d184 v185 v186 h
                            unfold f26_r5 at h
                            refine Ops.dn ?_
                            refine seqQ.n ?_
                            refine Wp.cnd h [2] 1 (by kernel_rfl) (fun h => ?_) (fun h => ?_)
                            · refine Wp.sq ?_
                              refine Wp.rg ?_
                              refine Ops.sg 1 1 ?_
                              refine Ops.dn ?_
                              refine seqQ.n ?_
                              refine Wp.ret (by kernel_rfl) ?_
                              refine sqQ.r ?_
                              refine seqQ.r ?_
                              exact fnQ.r' (X26 n) (fun z => (eI z)) h (RetOk.mk' (dI 13) (by kernel_rfl) (by kernel_rfl))
                            · refine Wp.sk ?_
                              refine sqQ.n' ?_
                              refine seqQ.n ?_
                              refine Wp.sq ?_
                              refine Wp.rg ?_
                              refine Ops.sg 1 1 ?_
                              refine Ops.dn ?_
                              refine seqQ.n ?_
                              refine Wp.ret (by kernel_rfl) ?_
                              exact fnQ.r' (X26 n) (fun z => (eI z)) h (RetOk.mk' (dI 0) (by kernel_rfl) (by kernel_rfl))
                          refine Ops.hv (fun KQ => ∀ v178 : Bool, f26_r5 m (v178 && (decide (a0.fMost < a0.fLeast))) = some o → KQ 4 ⟨q1 ((.ptr 0 0) :: (dI 0) :: q40 (q19 ((dP eI a0.fLabels) :: (dI (a0.fLabels.length : Int)) :: (dI y144) :: q24 ((.ptr 0 0) :: (dI a0.fKind) :: (dB (a0.fKind != 5)) :: q8 ((.ptr 0 3) :: (dI a0.fLeast) :: (dB v159) :: (dB v159) :: d156 :: d157 :: d158 :: (dB v167) :: (dB v167) :: d164 :: d165 :: d166 :: (dB v175) :: (dB v175) :: d172 :: d173 :: d174 :: (dB v176) :: (.ptr 0 4) :: (dI a0.fMost) :: (dB v178) :: (dB v178) :: q6 []))))), [(b26_0 a0)]⟩) ?_ fun G26g179 => Ops.st _ (by kernel_rfl) (G26g179 (a0.fMost != (-1)) h)
                          intro v178 h
                          cases v178
                          · refine Ops.sg 6 10 ?_
                            exact Ops.st _ (by kernel_rfl) (J26j187 U U U U U false false h)
                          · refine Ops.sg 6 10 ?_
                            exact Ops.st _ (by kernel_rfl) (J26j187 (.ptr 0 4) (dI a0.fMost) (.ptr 0 3) (dI a0.fLeast) (dB (decide (a0.fMost < a0.fLeast))) true (decide (a0.fMost < a0.fLeast)) h)
                      refine Ops.hv (fun KQ => ∀ v170 : Bool, f26_r6 m a0 (v170 || (decide (a0.fMost > 9))) = some o → KQ 14 ⟨q1 ((.ptr 0 0) :: (dI 0) :: q40 (q19 ((dP eI a0.fLabels) :: (dI (a0.fLabels.length : Int)) :: (dI y144) :: q24 ((.ptr 0 0) :: (dI a0.fKind) :: (dB (a0.fKind != 5)) :: q8 ((.ptr 0 3) :: (dI a0.fLeast) :: (dB v159) :: (dB v159) :: d156 :: d157 :: d158 :: (dB v167) :: (dB v167) :: d164 :: d165 :: d166 :: (dB v170) :: (dB v170) :: q14 []))))), [(b26_0 a0)]⟩) ?_ fun G26g171 => Ops.st _ (by kernel_rfl) (G26g171 v168 h)
                      intro v170 h
                      cases v170
                      · refine Ops.sg 4 18 ?_
                        exact Ops.st _ (by kernel_rfl) (J26j177 (.ptr 0 4) (dI a0.fMost) (dB (decide (a0.fMost > 9))) false (decide (a0.fMost > 9)) h)
                      · refine Ops.sg 4 18 ?_
                        exact Ops.st _ (by kernel_rfl) (J26j177 U U U true true h)
                    refine Ops.hv (fun KQ => ∀ v162 : Bool, f26_r7 m a0 (v162 || (decide (a0.fMost < (-1)))) = some o → KQ 9 ⟨q1 ((.ptr 0 0) :: (dI 0) :: q40 (q19 ((dP eI a0.fLabels) :: (dI (a0.fLabels.length : Int)) :: (dI y144) :: q24 ((.ptr 0 0) :: (dI a0.fKind) :: (dB (a0.fKind != 5)) :: q8 ((.ptr 0 3) :: (dI a0.fLeast) :: (dB v159) :: (dB v159) :: d156 :: d157 :: d158 :: (dB v162) :: (dB v162) :: q19 []))))), [(b26_0 a0)]⟩) ?_ fun G26g163 => Ops.st _ (by kernel_rfl) (G26g163 v160 h)
                    intro v162 h
                    cases v162
                    · refine Ops.sg 4 13 ?_
                      exact Ops.st _ (by kernel_rfl) (J26j169 (.ptr 0 4) (dI a0.fMost) (dB (decide (a0.fMost < (-1)))) false (decide (a0.fMost < (-1))) h)
                    · refine Ops.sg 4 13 ?_
                      exact Ops.st _ (by kernel_rfl) (J26j169 U U U true true h)
                  refine Ops.hv (fun KQ => ∀ v154 : Bool, f26_r8 m a0 (v154 || (decide (a0.fLeast > 9))) = some o → KQ 4 ⟨q1 ((.ptr 0 0) :: (dI 0) :: q40 (q19 ((dP eI a0.fLabels) :: (dI (a0.fLabels.length : Int)) :: (dI y144) :: q24 ((.ptr 0 0) :: (dI a0.fKind) :: (dB (a0.fKind != 5)) :: q8 ((.ptr 0 3) :: (dI a0.fLeast) :: (dB v154) :: (dB v154) :: q24 []))))), [(b26_0 a0)]⟩) ?_ fun G26g155 => Ops.st _ (by kernel_rfl) (G26g155 (decide (a0.fLeast < 0)) h)
                  intro v154 h
                  cases v154
                  · refine Ops.sg 4 8 ?_
                    exact Ops.st _ (by kernel_rfl) (J26j161 (.ptr 0 3) (dI a0.fLeast) (dB (decide (a0.fLeast > 9))) false (decide (a0.fLeast > 9)) h)
                  · refine Ops.sg 4 8 ?_
                    exact Ops.st _ (by kernel_rfl) (J26j161 U U U true true h)
          refine Ops.hv (fun KQ => ∀ v53 : Bool, f26_r9 m a0 (v53 || (!v1)) = some o → KQ 27 ⟨(.v (.agg [(vI a0.fKind), (vP eI a0.fLabels), (vP ep24 a0.fSubs), (vI a0.fLeast), (vI a0.fMost)])) :: (.ptr 0 0) :: (dI 0) :: (dI (a0.fSubs.length : Int)) :: (dB v1) :: u2 ((.ptr 0 2) :: (dP ep24 a0.fSubs) :: (dI (a0.fSubs.length : Int)) :: (.ptr 0 0) :: (dI a0.fKind) :: (dB v2) :: (dB (a0.fKind == 1)) :: d3 :: d4 :: d5 :: d6 :: d7 :: d8 :: d9 :: d10 :: d11 :: d12 :: d13 :: d14 :: d15 :: d16 :: d17 :: d18 :: d19 :: (.ptr 0 0) :: (dI a0.fKind) :: (dB v27) :: (dB v27) :: d23 :: d24 :: d25 :: d26 :: (dB v41) :: (dB v41) :: d32 :: d33 :: d34 :: d35 :: d36 :: d37 :: d38 :: d39 :: d40 :: (dB v50) :: (dB v50) :: d46 :: d47 :: d48 :: d49 :: (dB v53) :: (dB v53) :: u40 (u30 [])), [(b26_0 a0)]⟩) ?_ fun G26g54 => Ops.st _ (by kernel_rfl) (G26g54 v51 h)
          intro v53 h
          cases v53
          · refine Ops.sg 3 30 ?_
            exact Ops.st _ (by kernel_rfl) (J26j59 (dB v1) (dB (!v1)) false (!v1) h)
          · refine Ops.sg 3 30 ?_
            exact Ops.st _ (by kernel_rfl) (J26j59 U U true true h)
        refine Ops.hv (fun KQ => ∀ v44 : Bool, f26_r10 m a0 v1 (v44 || (decide ((a0.fLabels.length : Int) > 300))) = some o → KQ 21 ⟨(.v (.agg [(vI a0.fKind), (vP eI a0.fLabels), (vP ep24 a0.fSubs), (vI a0.fLeast), (vI a0.fMost)])) :: (.ptr 0 0) :: (dI 0) :: (dI (a0.fSubs.length : Int)) :: (dB v1) :: u2 ((.ptr 0 2) :: (dP ep24 a0.fSubs) :: (dI (a0.fSubs.length : Int)) :: (.ptr 0 0) :: (dI a0.fKind) :: (dB v2) :: (dB (a0.fKind == 1)) :: d3 :: d4 :: d5 :: d6 :: d7 :: d8 :: d9 :: d10 :: d11 :: d12 :: d13 :: d14 :: d15 :: d16 :: d17 :: d18 :: d19 :: (.ptr 0 0) :: (dI a0.fKind) :: (dB v27) :: (dB v27) :: d23 :: d24 :: d25 :: d26 :: (dB v41) :: (dB v41) :: d32 :: d33 :: d34 :: d35 :: d36 :: d37 :: d38 :: d39 :: d40 :: (dB v44) :: (dB v44) :: u40 (u36 [])), [(b26_0 a0)]⟩) ?_ fun G26g45 => Ops.st _ (by kernel_rfl) (G26g45 v42 h)
        intro v44 h
        cases v44
        · refine Ops.sg 2 23 ?_
          refine Ops.on 24 (fun h0 e0 => (len_r (T := T) h0 22 3 .plain eI a0.fLabels (by kernel_rfl))) ?_
          refine Ops.sg 2 26 ?_
          exact Ops.st _ (by kernel_rfl) (J26j52 (.ptr 0 1) (dP eI a0.fLabels) (dI (a0.fLabels.length : Int)) (dB (decide ((a0.fLabels.length : Int) > 300))) false (decide ((a0.fLabels.length : Int) > 300)) h)
        · refine Ops.sg 5 26 ?_
          exact Ops.st _ (by kernel_rfl) (J26j52 U U U U true true h)
      refine Ops.hv (fun KQ => ∀ v30 : Bool, f26_r11 m a0 v1 (v30 || ((a0.fKind != 2) && (decide ((a0.fLabels.length : Int) > 0)))) = some o → KQ 10 ⟨(.v (.agg [(vI a0.fKind), (vP eI a0.fLabels), (vP ep24 a0.fSubs), (vI a0.fLeast), (vI a0.fMost)])) :: (.ptr 0 0) :: (dI 0) :: (dI (a0.fSubs.length : Int)) :: (dB v1) :: u2 ((.ptr 0 2) :: (dP ep24 a0.fSubs) :: (dI (a0.fSubs.length : Int)) :: (.ptr 0 0) :: (dI a0.fKind) :: (dB v2) :: (dB (a0.fKind == 1)) :: d3 :: d4 :: d5 :: d6 :: d7 :: d8 :: d9 :: d10 :: d11 :: d12 :: d13 :: d14 :: d15 :: d16 :: d17 :: d18 :: d19 :: (.ptr 0 0) :: (dI a0.fKind) :: (dB v27) :: (dB v27) :: d23 :: d24 :: d25 :: d26 :: (dB v30) :: (dB v30) :: u40 (u40 (u7 []))), [(b26_0 a0)]⟩) ?_ fun G26g31 => Ops.st _ (by kernel_rfl) (G26g31 v28 h)
      intro v30 h
      cases v30
      · refine Ops.sg 4 14 ?_
        refine Ops.hv (fun KQ => ∀ v188 : Bool, (f26_r11 m a0 v1 (false || (v188 && (decide ((a0.fLabels.length : Int) > 0))))) = some o → KQ 14 ⟨(.v (.agg [(vI a0.fKind), (vP eI a0.fLabels), (vP ep24 a0.fSubs), (vI a0.fLeast), (vI a0.fMost)])) :: (.ptr 0 0) :: (dI 0) :: (dI (a0.fSubs.length : Int)) :: (dB v1) :: u2 ((.ptr 0 2) :: (dP ep24 a0.fSubs) :: (dI (a0.fSubs.length : Int)) :: (.ptr 0 0) :: (dI a0.fKind) :: (dB v2) :: (dB (a0.fKind == 1)) :: d3 :: d4 :: d5 :: d6 :: d7 :: d8 :: d9 :: d10 :: d11 :: d12 :: d13 :: d14 :: d15 :: d16 :: d17 :: d18 :: d19 :: (.ptr 0 0) :: (dI a0.fKind) :: (dB v27) :: (dB v27) :: d23 :: d24 :: d25 :: d26 :: (dB false) :: (dB false) :: (.ptr 0 0) :: (dI a0.fKind) :: (dB v188) :: (dB v188) :: u40 (u40 (u3 []))), [(b26_0 a0)]⟩) ?_ fun G26g189 => Ops.st _ (by kernel_rfl) (G26g189 (a0.fKind != 2) h)
        intro v188 h
        cases v188
        · refine Ops.sg 6 20 ?_
          exact Ops.st _ (by kernel_rfl) (J26j43 (.ptr 0 0) (dI a0.fKind) (dB false) (dB false) U U U U (dB false) false false h)
        · refine Ops.sg 2 16 ?_
          refine Ops.on 17 (fun h0 e0 => (len_r (T := T) h0 22 3 .plain eI a0.fLabels (by kernel_rfl))) ?_
          refine Ops.sg 3 20 ?_
          exact Ops.st _ (by kernel_rfl) (J26j43 (.ptr 0 0) (dI a0.fKind) (dB true) (dB true) (.ptr 0 1) (dP eI a0.fLabels) (dI (a0.fLabels.length : Int)) (dB (decide ((a0.fLabels.length : Int) > 0))) (dB (decide ((a0.fLabels.length : Int) > 0))) false (decide ((a0.fLabels.length : Int) > 0)) h)
      · refine Ops.sg 10 20 ?_
        exact Ops.st _ (by kernel_rfl) (J26j43 U U U U U U U U U true true h)
    refine Ops.hv (fun KQ => ∀ v21 : Bool, f26_r12 m a0 v1 (v21 && ((a0.fLabels.length : Int) == 0)) = some o → KQ 4 ⟨(.v (.agg [(vI a0.fKind), (vP eI a0.fLabels), (vP ep24 a0.fSubs), (vI a0.fLeast), (vI a0.fMost)])) :: (.ptr 0 0) :: (dI 0) :: (dI (a0.fSubs.length : Int)) :: (dB v1) :: u2 ((.ptr 0 2) :: (dP ep24 a0.fSubs) :: (dI (a0.fSubs.length : Int)) :: (.ptr 0 0) :: (dI a0.fKind) :: (dB v2) :: (dB (a0.fKind == 1)) :: d3 :: d4 :: d5 :: d6 :: d7 :: d8 :: d9 :: d10 :: d11 :: d12 :: d13 :: d14 :: d15 :: d16 :: d17 :: d18 :: d19 :: (.ptr 0 0) :: (dI a0.fKind) :: (dB v21) :: (dB v21) :: u40 (u40 (u13 []))), [(b26_0 a0)]⟩) ?_ fun G26g22 => Ops.st _ (by kernel_rfl) (G26g22 (a0.fKind == 2) h)
    intro v21 h
    cases v21
    · refine Ops.sg 5 9 ?_
      exact Ops.st _ (by kernel_rfl) (J26j29 U U U U false false h)
    · refine Ops.sg 2 6 ?_
      refine Ops.on 7 (fun h0 e0 => (len_r (T := T) h0 22 3 .plain eI a0.fLabels (by kernel_rfl))) ?_
      refine Ops.sg 2 9 ?_
      exact Ops.st _ (by kernel_rfl) (J26j29 (.ptr 0 1) (dP eI a0.fLabels) (dI (a0.fLabels.length : Int)) (dB ((a0.fLabels.length : Int) == 0)) true ((a0.fLabels.length : Int) == 0) h)
  refine Wp.block' 0 [1, 2, 4] 1 (by kernel_rfl) ?_
  refine Wp.sq ?_
  refine Wp.sq ?_
  refine Wp.rg ?_
  refine Ops.sg 2 2 ?_
  refine Ops.dn ?_
  refine seqQ.n ?_
  have J26j192 : ∀ (v190 : Bool) (d191 : D), f26_j19 m a0 v190 = some o → (seqQ (X26 n) (cR (cL (cR (cL (cR (cR (cR C26))))))) (blkQ (X26 n) 0 [1, 2, 4] 1 (seqQ (X26 n) p26_0 (fnQ (X26 n).E.T (resOf Proofs.Tryd.prog 26) (eI o))))) .normal ⟨(.v (.agg [(vI a0.fKind), (vP eI a0.fLabels), (vP ep24 a0.fSubs), (vI a0.fLeast), (vI a0.fMost)])) :: (.ptr 0 0) :: (dI 0) :: (dI (a0.fSubs.length : Int)) :: (dB false) :: u2 ((.ptr 0 2) :: (dP ep24 a0.fSubs) :: (dI (a0.fSubs.length : Int)) :: (.ptr 0 0) :: (dI a0.fKind) :: (dB v190) :: (dB (a0.fKind == 1)) :: d191 :: u40 (u40 (u33 []))), [(b26_0 a0)]⟩ := by
    intro v190 d191 h
    unfold f26_j19 at h
    refine seqQ.n ?_
    have J26j211 : ∀ (v193 : Bool) (d194 : D) (d195 : D) (d196 : D) (d197 : D) (d198 : D) (d199 : D) (d200 : D) (d201 : D) (d202 : D) (d203 : D) (d204 : D) (d205 : D) (d206 : D) (d207 : D) (d208 : D) (d209 : D) (d210 : D), f26_j14 m a0 v190 v193 = some o → (blkQ (X26 n) 0 [1, 2, 4] 1 (seqQ (X26 n) p26_0 (fnQ (X26 n).E.T (resOf Proofs.Tryd.prog 26) (eI o)))) .normal ⟨(.v (.agg [(vI a0.fKind), (vP eI a0.fLabels), (vP ep24 a0.fSubs), (vI a0.fLeast), (vI a0.fMost)])) :: (.ptr 0 0) :: (dI 0) :: (dI (a0.fSubs.length : Int)) :: (dB v193) :: u2 ((.ptr 0 2) :: (dP ep24 a0.fSubs) :: (dI (a0.fSubs.length : Int)) :: (.ptr 0 0) :: (dI a0.fKind) :: (dB v190) :: (dB (a0.fKind == 1)) :: d194 :: d195 :: d196 :: d197 :: d198 :: d199 :: d200 :: d201 :: d202 :: d203 :: d204 :: d205 :: d206 :: d207 :: d208 :: d209 :: d210 :: u40 (u40 (u17 []))), [(b26_0 a0)]⟩ := by
      intro v193 d194 d195 d196 d197 d198 d199 d200 d201 d202 d203 d204 d205 d206 d207 d208 d209 d210 h
      unfold f26_j14 at h
      refine blkQ.n ⟨(.v (.agg [(vI a0.fKind), (vP eI a0.fLabels), (vP ep24 a0.fSubs), (vI a0.fLeast), (vI a0.fMost)])) :: (.ptr 0 0) :: (dI 0) :: (dI (a0.fSubs.length : Int)) :: (dB v193) :: u2 ((.ptr 0 2) :: (dP ep24 a0.fSubs) :: (dI (a0.fSubs.length : Int)) :: (.ptr 0 0) :: (dI a0.fKind) :: (dB v190) :: (dB (a0.fKind == 1)) :: d194 :: d195 :: d196 :: d197 :: d198 :: d199 :: d200 :: d201 :: d202 :: d203 :: d204 :: d205 :: d206 :: d207 :: d208 :: d209 :: d210 :: u40 (u40 (u17 []))), [(b26_0 a0)]⟩ (by kernel_rfl) ?_
      exact J26j20 v193 v190 _ _ _ _ _ _ _ _ _ _ _ _ _ _ _ _ _ h
    refine Wp.cnd h k26_1 1 (by kernel_rfl) (fun h => ?_) (fun h => ?_)
    · refine Wp.rg ?_
      refine Ops.sg 3 3 ?_
      refine Ops.dn ?_
      refine sqQ.n ⟨(.v (.agg [(vI a0.fKind), (vP eI a0.fLabels), (vP ep24 a0.fSubs), (vI a0.fLeast), (vI a0.fMost)])) :: (.ptr 0 0) :: (dI 0) :: (dI (a0.fSubs.length : Int)) :: (dB ((a0.fSubs.length : Int) == 0)) :: u2 ((.ptr 0 2) :: (dP ep24 a0.fSubs) :: (dI (a0.fSubs.length : Int)) :: (.ptr 0 0) :: (dI a0.fKind) :: (dB v190) :: (dB (a0.fKind == 1)) :: d191 :: (dI (a0.fSubs.length : Int)) :: (dB ((a0.fSubs.length : Int) == 0)) :: u40 (u40 (u31 []))), [(b26_0 a0)]⟩ (by kernel_rfl) ?_
      exact J26j211 ((a0.fSubs.length : Int) == 0) _ _ _ _ _ _ _ _ _ _ _ _ _ _ _ _ _ h
    · refine Wp.sq ?_
      refine Wp.sq ?_
      refine Wp.rg ?_
      refine Ops.sg 2 2 ?_
      refine Ops.dn ?_
      refine seqQ.n ?_
      have J26j215 : ∀ (v213 : Bool) (d212 : D) (d214 : D), f26_j18 m a0 v190 v213 = some o → (seqQ (X26 n) (cR (cR (cR (cL (cR (cL (cR (cR (cR C26))))))))) (sqQ (X26 n) k26_1 1 (blkQ (X26 n) 0 [1, 2, 4] 1 (seqQ (X26 n) p26_0 (fnQ (X26 n).E.T (resOf Proofs.Tryd.prog 26) (eI o)))))) .normal ⟨(.v (.agg [(vI a0.fKind), (vP eI a0.fLabels), (vP ep24 a0.fSubs), (vI a0.fLeast), (vI a0.fMost)])) :: (.ptr 0 0) :: (dI 0) :: (dI (a0.fSubs.length : Int)) :: (dB false) :: u2 ((.ptr 0 2) :: (dP ep24 a0.fSubs) :: (dI (a0.fSubs.length : Int)) :: (.ptr 0 0) :: (dI a0.fKind) :: (dB v190) :: (dB (a0.fKind == 1)) :: d212 :: u2 ((dB v213) :: (dB (a0.fKind == 3)) :: d214 :: u40 (u40 (u28 [])))), [(b26_0 a0)]⟩ := by
        intro v213 d212 d214 h
        unfold f26_j18 at h
        refine seqQ.n ?_
        have J26j230 : ∀ (v216 : Bool) (d217 : D) (d218 : D) (d219 : D) (d220 : D) (d221 : D) (d222 : D) (d223 : D) (d224 : D) (d225 : D) (d226 : D) (d227 : D) (d228 : D) (d229 : D), f26_j15 m a0 v190 v216 = some o → (sqQ (X26 n) k26_1 1 (blkQ (X26 n) 0 [1, 2, 4] 1 (seqQ (X26 n) p26_0 (fnQ (X26 n).E.T (resOf Proofs.Tryd.prog 26) (eI o))))) .normal ⟨(.v (.agg [(vI a0.fKind), (vP eI a0.fLabels), (vP ep24 a0.fSubs), (vI a0.fLeast), (vI a0.fMost)])) :: (.ptr 0 0) :: (dI 0) :: (dI (a0.fSubs.length : Int)) :: (dB v216) :: u2 ((.ptr 0 2) :: (dP ep24 a0.fSubs) :: (dI (a0.fSubs.length : Int)) :: (.ptr 0 0) :: (dI a0.fKind) :: (dB v190) :: (dB (a0.fKind == 1)) :: d217 :: u2 ((dB v213) :: (dB (a0.fKind == 3)) :: d218 :: d219 :: d220 :: d221 :: d222 :: d223 :: d224 :: d225 :: d226 :: d227 :: d228 :: d229 :: u40 (u40 (u17 [])))), [(b26_0 a0)]⟩ := by
          intro v216 d217 d218 d219 d220 d221 d222 d223 d224 d225 d226 d227 d228 d229 h
          unfold f26_j15 at h
          refine sqQ.n ⟨(.v (.agg [(vI a0.fKind), (vP eI a0.fLabels), (vP ep24 a0.fSubs), (vI a0.fLeast), (vI a0.fMost)])) :: (.ptr 0 0) :: (dI 0) :: (dI (a0.fSubs.length : Int)) :: (dB v216) :: u2 ((.ptr 0 2) :: (dP ep24 a0.fSubs) :: (dI (a0.fSubs.length : Int)) :: (.ptr 0 0) :: (dI a0.fKind) :: (dB v190) :: (dB (a0.fKind == 1)) :: d217 :: u2 ((dB v213) :: (dB (a0.fKind == 3)) :: d218 :: d219 :: d220 :: d221 :: d222 :: d223 :: d224 :: d225 :: d226 :: d227 :: d228 :: d229 :: u40 (u40 (u17 [])))), [(b26_0 a0)]⟩ (by kernel_rfl) ?_
          exact J26j211 v216 _ _ _ _ _ _ _ _ _ _ _ _ _ _ _ _ _ h
        refine Wp.cnd h [1, 2, 3, 4, 11, 17] 1 (by kernel_rfl) (fun h => ?_) (fun h => ?_)
        · refine Wp.rg ?_
          refine Ops.sg 3 3 ?_
          refine Ops.dn ?_
          refine sqQ.n ⟨(.v (.agg [(vI a0.fKind), (vP eI a0.fLabels), (vP ep24 a0.fSubs), (vI a0.fLeast), (vI a0.fMost)])) :: (.ptr 0 0) :: (dI 0) :: (dI (a0.fSubs.length : Int)) :: (dB (decide ((a0.fSubs.length : Int) ≥ 2))) :: u2 ((.ptr 0 2) :: (dP ep24 a0.fSubs) :: (dI (a0.fSubs.length : Int)) :: (.ptr 0 0) :: (dI a0.fKind) :: (dB v190) :: (dB (a0.fKind == 1)) :: d212 :: u2 ((dB v213) :: (dB (a0.fKind == 3)) :: d214 :: (dI (a0.fSubs.length : Int)) :: (dB (decide ((a0.fSubs.length : Int) ≥ 2))) :: u40 (u40 (u26 [])))), [(b26_0 a0)]⟩ (by kernel_rfl) ?_
          exact J26j230 (decide ((a0.fSubs.length : Int) ≥ 2)) _ _ _ _ _ _ _ _ _ _ _ _ _ h
        · refine Wp.sq ?_
          refine Wp.rg ?_
          refine Ops.sg 2 2 ?_
          refine Ops.dn ?_
          refine seqQ.n ?_
          have J26j241 : ∀ (v231 : Bool) (d232 : D) (d233 : D) (d234 : D) (d235 : D) (d236 : D) (d237 : D) (d238 : D) (d239 : D) (d240 : D), f26_j16 m a0 v190 v231 = some o → (sqQ (X26 n) [1, 2, 3, 4, 11, 17] 1 (sqQ (X26 n) k26_1 1 (blkQ (X26 n) 0 [1, 2, 4] 1 (seqQ (X26 n) p26_0 (fnQ (X26 n).E.T (resOf Proofs.Tryd.prog 26) (eI o)))))) .normal ⟨(.v (.agg [(vI a0.fKind), (vP eI a0.fLabels), (vP ep24 a0.fSubs), (vI a0.fLeast), (vI a0.fMost)])) :: (.ptr 0 0) :: (dI 0) :: (dI (a0.fSubs.length : Int)) :: (dB v231) :: u2 ((.ptr 0 2) :: (dP ep24 a0.fSubs) :: (dI (a0.fSubs.length : Int)) :: (.ptr 0 0) :: (dI a0.fKind) :: (dB v190) :: (dB (a0.fKind == 1)) :: d232 :: u2 ((dB v213) :: (dB (a0.fKind == 3)) :: d233 :: u2 ((dB (a0.fKind == 5)) :: (dB (a0.fKind == 5)) :: d234 :: d235 :: d236 :: d237 :: d238 :: d239 :: d240 :: u40 (u40 (u17 []))))), [(b26_0 a0)]⟩ := by
            intro v231 d232 d233 d234 d235 d236 d237 d238 d239 d240 h
            unfold f26_j16 at h
            refine sqQ.n ⟨(.v (.agg [(vI a0.fKind), (vP eI a0.fLabels), (vP ep24 a0.fSubs), (vI a0.fLeast), (vI a0.fMost)])) :: (.ptr 0 0) :: (dI 0) :: (dI (a0.fSubs.length : Int)) :: (dB v231) :: u2 ((.ptr 0 2) :: (dP ep24 a0.fSubs) :: (dI (a0.fSubs.length : Int)) :: (.ptr 0 0) :: (dI a0.fKind) :: (dB v190) :: (dB (a0.fKind == 1)) :: d232 :: u2 ((dB v213) :: (dB (a0.fKind == 3)) :: d233 :: u2 ((dB (a0.fKind == 5)) :: (dB (a0.fKind == 5)) :: d234 :: d235 :: d236 :: d237 :: d238 :: d239 :: d240 :: u40 (u40 (u17 []))))), [(b26_0 a0)]⟩ (by kernel_rfl) ?_
            exact J26j230 v231 _ _ _ _ _ _ _ _ _ _ _ _ _ h
          refine Wp.cnd h [1, 2, 4] 1 (by kernel_rfl) (fun h => ?_) (fun h => ?_)
          · refine Wp.rg ?_
            refine Ops.sg 3 3 ?_
            refine Ops.dn ?_
            refine sqQ.n ⟨(.v (.agg [(vI a0.fKind), (vP eI a0.fLabels), (vP ep24 a0.fSubs), (vI a0.fLeast), (vI a0.fMost)])) :: (.ptr 0 0) :: (dI 0) :: (dI (a0.fSubs.length : Int)) :: (dB ((a0.fSubs.length : Int) == 1)) :: u2 ((.ptr 0 2) :: (dP ep24 a0.fSubs) :: (dI (a0.fSubs.length : Int)) :: (.ptr 0 0) :: (dI a0.fKind) :: (dB v190) :: (dB (a0.fKind == 1)) :: d212 :: u2 ((dB v213) :: (dB (a0.fKind == 3)) :: d214 :: u2 ((dB (a0.fKind == 5)) :: (dB (a0.fKind == 5)) :: (dI (a0.fSubs.length : Int)) :: (dB ((a0.fSubs.length : Int) == 1)) :: u40 (u40 (u22 []))))), [(b26_0 a0)]⟩ (by kernel_rfl) ?_
            exact J26j241 ((a0.fSubs.length : Int) == 1) _ _ _ _ _ _ _ _ _ h
          · refine Wp.sq ?_
            refine Wp.sq ?_
            refine Wp.rg ?_
            refine Ops.sg 2 2 ?_
            refine Ops.dn ?_
            refine seqQ.n ?_
            have J26j246 : ∀ (v244 : Bool) (d242 : D) (d243 : D) (d245 : D), f26_j17 m a0 v190 v244 = some o → (seqQ (X26 n) (cR (cR (cR (cR (cR (cR (cR (cL (cR (cL (cR (cR (cR C26))))))))))))) (sqQ (X26 n) [1, 2, 4] 1 (sqQ (X26 n) [1, 2, 3, 4, 11, 17] 1 (sqQ (X26 n) k26_1 1 (blkQ (X26 n) 0 [1, 2, 4] 1 (seqQ (X26 n) p26_0 (fnQ (X26 n).E.T (resOf Proofs.Tryd.prog 26) (eI o)))))))) .normal ⟨(.v (.agg [(vI a0.fKind), (vP eI a0.fLabels), (vP ep24 a0.fSubs), (vI a0.fLeast), (vI a0.fMost)])) :: (.ptr 0 0) :: (dI 0) :: (dI (a0.fSubs.length : Int)) :: (dB false) :: u2 ((.ptr 0 2) :: (dP ep24 a0.fSubs) :: (dI (a0.fSubs.length : Int)) :: (.ptr 0 0) :: (dI a0.fKind) :: (dB v190) :: (dB (a0.fKind == 1)) :: d242 :: u2 ((dB v213) :: (dB (a0.fKind == 3)) :: d243 :: u2 ((dB (a0.fKind == 5)) :: (dB (a0.fKind == 5)) :: u2 ((dB v244) :: (dB (a0.fKind == 6)) :: d245 :: u40 (u40 (u19 [])))))), [(b26_0 a0)]⟩ := by
              intro v244 d242 d243 d245 h
              unfold f26_j17 at h
              refine seqQ.n ?_
              refine Wp.cnd h [1, 2, 3, 4, 26] 1 (by kernel_rfl) (fun h => ?_) (fun h => ?_)
              · refine Wp.rg ?_
                refine Ops.sg 3 3 ?_
                refine Ops.dn ?_
                refine sqQ.n' ?_
                refine sqQ.n ⟨(.v (.agg [(vI a0.fKind), (vP eI a0.fLabels), (vP ep24 a0.fSubs), (vI a0.fLeast), (vI a0.fMost)])) :: (.ptr 0 0) :: (dI 0) :: (dI (a0.fSubs.length : Int)) :: (dB ((a0.fSubs.length : Int) == 2)) :: u2 ((.ptr 0 2) :: (dP ep24 a0.fSubs) :: (dI (a0.fSubs.length : Int)) :: (.ptr 0 0) :: (dI a0.fKind) :: (dB v190) :: (dB (a0.fKind == 1)) :: d242 :: u2 ((dB v213) :: (dB (a0.fKind == 3)) :: d243 :: u2 ((dB (a0.fKind == 5)) :: (dB (a0.fKind == 5)) :: u2 ((dB v244) :: (dB (a0.fKind == 6)) :: d245 :: (dI (a0.fSubs.length : Int)) :: (dB ((a0.fSubs.length : Int) == 2)) :: u40 (u40 (u17 [])))))), [(b26_0 a0)]⟩ (by kernel_rfl) ?_
                exact J26j241 ((a0.fSubs.length : Int) == 2) _ _ _ _ _ _ _ _ _ h
              · refine Wp.sq ?_
                refine Wp.rg ?_
                refine Ops.sg 1 1 ?_
                refine Ops.dn ?_
                refine seqQ.n ?_
                refine Wp.ret (by kernel_rfl) ?_
                refine sqQ.r ?_
                refine sqQ.r ?_
                refine sqQ.r ?_
                refine sqQ.r ?_
                refine blkQ.r ?_
                refine seqQ.r ?_
                exact fnQ.r' (X26 n) (fun z => (eI z)) h (RetOk.mk' (dI 4) (by kernel_rfl) (by kernel_rfl))
            refine Wp.cnd h [1, 2, 3, 4, 26] 1 (by kernel_rfl) (fun h => ?_) (fun h => ?_)
            · refine Wp.sk ?_
              refine sqQ.n ⟨(.v (.agg [(vI a0.fKind), (vP eI a0.fLabels), (vP ep24 a0.fSubs), (vI a0.fLeast), (vI a0.fMost)])) :: (.ptr 0 0) :: (dI 0) :: (dI (a0.fSubs.length : Int)) :: (dB false) :: u2 ((.ptr 0 2) :: (dP ep24 a0.fSubs) :: (dI (a0.fSubs.length : Int)) :: (.ptr 0 0) :: (dI a0.fKind) :: (dB v190) :: (dB (a0.fKind == 1)) :: d212 :: u2 ((dB v213) :: (dB (a0.fKind == 3)) :: d214 :: u2 ((dB (a0.fKind == 5)) :: (dB (a0.fKind == 5)) :: u2 ((dB (a0.fKind == 6)) :: (dB (a0.fKind == 6)) :: u40 (u40 (u20 [])))))), [(b26_0 a0)]⟩ (by kernel_rfl) ?_
              exact J26j246 (a0.fKind == 6) _ _ _ h
            · refine Wp.rg ?_
              refine Ops.sg 2 2 ?_
              refine Ops.dn ?_
              refine sqQ.n ⟨(.v (.agg [(vI a0.fKind), (vP eI a0.fLabels), (vP ep24 a0.fSubs), (vI a0.fLeast), (vI a0.fMost)])) :: (.ptr 0 0) :: (dI 0) :: (dI (a0.fSubs.length : Int)) :: (dB false) :: u2 ((.ptr 0 2) :: (dP ep24 a0.fSubs) :: (dI (a0.fSubs.length : Int)) :: (.ptr 0 0) :: (dI a0.fKind) :: (dB v190) :: (dB (a0.fKind == 1)) :: d212 :: u2 ((dB v213) :: (dB (a0.fKind == 3)) :: d214 :: u2 ((dB (a0.fKind == 5)) :: (dB (a0.fKind == 5)) :: u2 ((dB (a0.fKind == 7)) :: (dB (a0.fKind == 6)) :: (dB (a0.fKind == 7)) :: u40 (u40 (u19 [])))))), [(b26_0 a0)]⟩ (by kernel_rfl) ?_
              exact J26j246 (a0.fKind == 7) _ _ _ h
      refine Wp.cnd h [1, 2, 3, 4, 11, 17] 1 (by kernel_rfl) (fun h => ?_) (fun h => ?_)
      · refine Wp.sk ?_
        refine sqQ.n ⟨(.v (.agg [(vI a0.fKind), (vP eI a0.fLabels), (vP ep24 a0.fSubs), (vI a0.fLeast), (vI a0.fMost)])) :: (.ptr 0 0) :: (dI 0) :: (dI (a0.fSubs.length : Int)) :: (dB false) :: u2 ((.ptr 0 2) :: (dP ep24 a0.fSubs) :: (dI (a0.fSubs.length : Int)) :: (.ptr 0 0) :: (dI a0.fKind) :: (dB v190) :: (dB (a0.fKind == 1)) :: d191 :: u2 ((dB (a0.fKind == 3)) :: (dB (a0.fKind == 3)) :: u40 (u40 (u29 [])))), [(b26_0 a0)]⟩ (by kernel_rfl) ?_
        exact J26j215 (a0.fKind == 3) _ _ h
      · refine Wp.rg ?_
        refine Ops.sg 2 2 ?_
        refine Ops.dn ?_
        refine sqQ.n ⟨(.v (.agg [(vI a0.fKind), (vP eI a0.fLabels), (vP ep24 a0.fSubs), (vI a0.fLeast), (vI a0.fMost)])) :: (.ptr 0 0) :: (dI 0) :: (dI (a0.fSubs.length : Int)) :: (dB false) :: u2 ((.ptr 0 2) :: (dP ep24 a0.fSubs) :: (dI (a0.fSubs.length : Int)) :: (.ptr 0 0) :: (dI a0.fKind) :: (dB v190) :: (dB (a0.fKind == 1)) :: d191 :: u2 ((dB (a0.fKind == 4)) :: (dB (a0.fKind == 3)) :: (dB (a0.fKind == 4)) :: u40 (u40 (u28 [])))), [(b26_0 a0)]⟩ (by kernel_rfl) ?_
        exact J26j215 (a0.fKind == 4) _ _ h
  refine Wp.cnd h k26_1 1 (by kernel_rfl) (fun h => ?_) (fun h => ?_)
  · refine Wp.sk ?_
    refine sqQ.n ⟨(.v (.agg [(vI a0.fKind), (vP eI a0.fLabels), (vP ep24 a0.fSubs), (vI a0.fLeast), (vI a0.fMost)])) :: (.ptr 0 0) :: (dI 0) :: (dI (a0.fSubs.length : Int)) :: (dB false) :: u2 ((.ptr 0 2) :: (dP ep24 a0.fSubs) :: (dI (a0.fSubs.length : Int)) :: (.ptr 0 0) :: (dI a0.fKind) :: (dB (a0.fKind == 1)) :: (dB (a0.fKind == 1)) :: u40 (u40 (u34 []))), [(b26_0 a0)]⟩ (by kernel_rfl) ?_
    exact J26j192 (a0.fKind == 1) _ h
  · refine Wp.rg ?_
    refine Ops.sg 2 2 ?_
    refine Ops.dn ?_
    refine sqQ.n ⟨(.v (.agg [(vI a0.fKind), (vP eI a0.fLabels), (vP ep24 a0.fSubs), (vI a0.fLeast), (vI a0.fMost)])) :: (.ptr 0 0) :: (dI 0) :: (dI (a0.fSubs.length : Int)) :: (dB false) :: u2 ((.ptr 0 2) :: (dP ep24 a0.fSubs) :: (dI (a0.fSubs.length : Int)) :: (.ptr 0 0) :: (dI a0.fKind) :: (dB (a0.fKind == 2)) :: (dB (a0.fKind == 1)) :: (dB (a0.fKind == 2)) :: u40 (u40 (u33 []))), [(b26_0 a0)]⟩ (by kernel_rfl) ?_
    exact J26j192 (a0.fKind == 2) _ h
noncomputable def f12_B1 (m : Nat) (v88 : S52) (v109 : (List S52)) (v110 : Int) : Option (Stp S27 ((List S52) × Int)) :=
  cnd (decide (v110 ≥ 0))
  (bnd (idx v88.fP.fSubs v110) fun v120 =>
  bnd (app 80 v109 ([(⟨v120.vw, w64 (v88.fDepth + 1)⟩ : S52)])) fun v121 =>
  some (.nxt (v121, w64 (v110 - 1))))
  (some (.brk (v109, v110)))
noncomputable def f12_j2 (m : Nat) (v78 : Int) (v88 : S52) (v89 : (List S52)) (v101 : Int) : Option (Stp S27 ((List S52) × Int)) :=
  brk (iter (fun (y : (List S52) × Int) => f12_B1 m v88 y.1 y.2) m (v89, w64 (v101 - 1))) (fun r => some (.ret r)) fun y123 =>
  some (.nxt (y123.1, w64 (v78 + 1)))
noncomputable def f12_r3 (m : Nat) (v78 : Int) (v88 : S52) (v89 : (List S52)) (v96 : Bool) : Option (Stp S27 ((List S52) × Int)) :=
  cnd v96
  (bnd (f25 m 2 v78) fun v98 =>
  some (.ret v98))
  (bnd (f26 m v88.fP) fun v99 =>
  cnd (v99 != 0)
  (bnd (f25 m v99 v78) fun v100 =>
  some (.ret v100))
  (cnd (decide ((v88.fP.fSubs.length : Int) > 201))
  (f12_j2 m v78 v88 v89 201)
  (f12_j2 m v78 v88 v89 (v88.fP.fSubs.length : Int))))
noncomputable def f12_B4 (m : Nat) (v77 : (List S52)) (v78 : Int) : Option (Stp S27 ((List S52) × Int)) :=
  cnd (decide ((v77.length : Int) > 0))
  (bnd (idx v77 (w64 ((v77.length : Int) - 1))) fun v88 =>
  bnd (sub v77 0 (w64 ((v77.length : Int) - 1))) fun v89 =>
  f12_r3 m v78 v88 v89 ((decide (v78 ≥ 200)) || (decide (v88.fDepth > 40))))
  (some (.brk (v77, v78)))
noncomputable def f12 (m : Nat) (a0 : S24) : Option S27 :=
  brk (iter (fun (y : (List S52) × Int) => f12_B4 m y.1 y.2) m ([(⟨a0, 1⟩ : S52)], 0)) some fun y126 =>
  some ((⟨0, 0⟩ : S27))
noncomputable abbrev X12 (n : Nat) : Cx := cxOf Proofs.Tryd.prog EG 12 n
noncomputable def C12 : Code := bodyOf Proofs.Tryd.prog 12
noncomputable abbrev p12_0 : Code := cR (cR (cR C12))
noncomputable abbrev p12_1 : Code := cL (cL (cR (cL (cR (cR C12)))))
noncomputable abbrev p12_2 : Code := cR (cR p12_1)
noncomputable abbrev b12_0 (w0 : S24) : AObj := .cells [(dI w0.fKind), (dP eI w0.fLabels), (dP ep24 w0.fSubs), (dI w0.fLeast), (dI w0.fMost)]
noncomputable abbrev b12_1 : AObj := .cells [(dI 0), (dI 0)]
noncomputable abbrev b12_2 (w0 : S52) : AObj := .cells [(dI w0.fP.fKind), (dP eI w0.fP.fLabels), (dP ep24 w0.fP.fSubs), (dI w0.fP.fLeast), (dI w0.fP.fMost), (dI w0.fDepth)]
theorem ok12 (m : Nat) (a0 : S24) (o : S27) (h : f12 m a0 = some o) (n : Nat) (hn : m + 3 ≤ n) : Fn Proofs.Tryd.prog EG n 12 [.v (e24 a0)] (e27 o) := by
  obtain ⟨n, rfl⟩ : ∃ q, n = q + 1 := ⟨n - 1, by omega⟩
  unfold f12 at h
  refine Fn.of (by kernel_rfl) (by kernel_rfl) (by kernel_rfl) ⟨(.v (.agg [(vI a0.fKind), (vP eI a0.fLabels), (vP ep24 a0.fSubs), (vI a0.fLeast), (vI a0.fMost)])) :: u40 (u30 []), []⟩ (by kernel_rfl) ?_
  refine Wp.sq ?_
  refine Wp.rg ?_
  refine Ops.sg 2 2 ?_
  refine Ops.dn ?_
  refine seqQ.n ?_
  refine Wp.sq ?_
  refine Wp.rg ?_
  refine Ops.sg 4 4 ?_
  refine Ops.dn ?_
  refine seqQ.n ?_
  refine Wp.sq ?_
  refine Wp.sq ?_
  refine Wp.rg ?_
  refine Ops.sg 1 1 ?_
  refine Ops.dn ?_
  refine seqQ.n ?_
  refine Wp.block' 0 [2] 3 (by kernel_rfl) ?_
  have hLx125 : ∀ (kx80 : Nat) (v77 : (List S52)) (v78 : Int)  (ox79 : S27 ⊕ ((List S52) × Int)), iter (fun (y : (List S52) × Int) => f12_B4 m y.1 y.2) kx80 (v77, v78) = some ox79 → ∀ nx81, kx80 ≤ nx81 → (∀ r, ox79 = .inl r → ∀ σ, RetOk (X12 n) (resOf Proofs.Tryd.prog 12) (e27 r) σ → (seqQ (X12 n) p12_0 (fnQ (X12 n).E.T (resOf Proofs.Tryd.prog 12) (e27 o))) .ret σ) → (∀ (y : (List S52) × Int) , ox79 = .inr y → (seqQ (X12 n) p12_0 (fnQ (X12 n).E.T (resOf Proofs.Tryd.prog 12) (e27 o))) .normal ⟨q2 ((.ptr 1 0) :: q40 (q28 [])), [(b12_0 a0), b12_1, .dead, (.row 6 (List.map e52 y.1))]⟩) → Lp (X12 n) [2, 3, 4] 3 p12_1 nx81 ⟨q2 ((.ptr 1 0) :: (pilD 3 (List.map e52 v77)) :: (dI v78) :: q40 (q26 [])), [(b12_0 a0), b12_1, .dead, (.row 6 (List.map e52 v77))]⟩ (blkQ (X12 n) 0 [2] 3 (seqQ (X12 n) p12_0 (fnQ (X12 n).E.T (resOf Proofs.Tryd.prog 12) (e27 o)))) := by
    intro kx80
    induction kx80 with
    | zero => intro v77 v78  ox79 h; exact (iter_zero h).elim
    | succ kx80 ihx82 =>
      intro v77 v78  ox79 h nx81 hnx85 hrx83 hxx84
      obtain ⟨nx81, rfl⟩ : ∃ q, nx81 = q + 1 := ⟨nx81 - 1, by omega⟩
      obtain ⟨sx86, h, hsx87⟩ := iter_some h
      have h : f12_B4 m v77 v78 = some sx86 := h
      unfold f12_B4 at h
      refine Lp.succ ?_
      refine Wp.sq ?_
      refine Wp.sq ?_
      refine Wp.rg ?_
      refine Ops.sg 1 1 ?_
      refine Ops.on 2 (fun h0 e0 => (pil_len (T := T) h0 54 53 3 e52 v77 (by kernel_rfl))) ?_
      refine Ops.sg 1 3 ?_
      refine Ops.dn ?_
      refine seqQ.n ?_
      refine Wp.cnd h [2, 3, 4] 4 (by kernel_rfl) (fun h => ?_) (fun h => ?_)
      · refine Wp.sk ?_
        refine sqQ.n' ?_
        refine seqQ.n ?_
        refine Wp.sq ?_
        refine Wp.block' 1 [2, 3, 4] 5 (by kernel_rfl) ?_
        refine Wp.sq ?_
        refine Wp.rg ?_
        refine Ops.sg 2 2 ?_
        refine Ops.on 3 (fun h0 e0 => (pil_len (T := T) h0 54 53 4 e52 v77 (by kernel_rfl))) ?_
        refine Ops.sg 1 4 ?_
        obtain ⟨v88, ev88, h⟩ := bnd_some h
        refine Ops.on 5 (fun h0 e0 => (pil_ix (T := T) h0 54 53 6 4 e52 v77 (w64 ((v77.length : Int) - 1)) v88 ev88 (by kernel_rfl) (by kernel_rfl) (hq_of e0 (by kernel_rfl)))) ?_
        refine Ops.on 6 (fun h0 e0 => (pil_ld (i := ti53) h0 6 4 0 e52 v77 (w64 ((v77.length : Int) - 1)) v88 (.agg [(vI v88.fP.fKind), (vP eI v88.fP.fLabels), (vP ep24 v88.fP.fSubs), (vI v88.fP.fLeast), (vI v88.fP.fMost), (vI v88.fDepth)]) ev88 (hq_of e0 (by kernel_rfl)) (by kernel_rfl))) ?_
        refine Ops.sg 2 8 ?_
        refine Ops.dn ?_
        refine seqQ.n ?_
        refine Wp.sq ?_
        refine Wp.rg ?_
        refine Ops.sg 2 2 ?_
        refine Ops.on 3 (fun h0 e0 => (pil_len (T := T) h0 54 53 4 e52 v77 (by kernel_rfl))) ?_
        refine Ops.sg 1 4 ?_
        obtain ⟨v89, ev89, h⟩ := bnd_some h
        refine Ops.on 5 (fun h0 e0 => (pil_cut (T := T) h0 54 53 6 4 e52 v77 v89 (w64 ((v77.length : Int) - 1)) ev89 (by kernel_rfl) (by kernel_rfl) (hq_of e0 (by kernel_rfl)))) ?_
        refine Ops.sg 1 6 ?_
        refine Ops.dn ?_
        refine seqQ.n ?_
        refine Wp.sq ?_
        refine Wp.sq ?_
        refine Wp.rg ?_
        refine Ops.sg 3 3 ?_
        refine Ops.hv (fun KQ => ∀ (d92 d93 d94 : D) (v95 : Bool) (v96 : Bool), f12_r3 m v78 v88 v89 v96 = some sx86 → KQ 7 ⟨q2 ((.ptr 1 0) :: (pilD 4 (List.map e52 v89)) :: (dI v78) :: (.ptr 5 0) :: q11 ((pilD 4 (List.map e52 v77)) :: (pilD 4 (List.map e52 v77)) :: (dI (v77.length : Int)) :: (dI (w64 ((v77.length : Int) - 1))) :: (.eptr 4 (Int.toNat (w64 ((v77.length : Int) - 1))) 0) :: (.v (.agg [(vI v88.fP.fKind), (vP eI v88.fP.fLabels), (vP ep24 v88.fP.fSubs), (vI v88.fP.fLeast), (vI v88.fP.fMost), (vI v88.fDepth)])) :: (pilD 4 (List.map e52 v77)) :: (pilD 4 (List.map e52 v77)) :: (dI (v77.length : Int)) :: (dI (w64 ((v77.length : Int) - 1))) :: (pilD 4 (List.map e52 v89)) :: (dI v78) :: (dB v95) :: (dB v95) :: d92 :: d93 :: d94 :: (dB v96) :: q36 [])), [(b12_0 a0), b12_1, .dead, .dead, (.row 6 (List.map e52 v89)), (b12_2 v88)]⟩) ?_ fun J12j97 => ?_
        · intro d92 d93 d94 v95 v96 h
          unfold f12_r3 at h
          refine Ops.dn ?_
          refine seqQ.n ?_
          refine Wp.cnd h [2, 3, 4, 5] 6 (by kernel_rfl) (fun h => ?_) (fun h => ?_)
          · refine Wp.sq ?_
            refine Wp.rg ?_
            refine Ops.sg 1 1 ?_
            obtain ⟨v98, ev98, h⟩ := bnd_some h
            refine Ops.on 2 (fun h0 e0 => (call_ok (E' := EG) (h := h0) (by kernel_rfl) (Args.v (vI 2) (eI 2) (by kernel_rfl) (Args.v (vI v78) (eI v78) (by kernel_rfl) Args.nil)) (ok25 m 2 v78 v98 ev98 n (by omega)))) ?_
            refine Ops.sg 1 3 ?_
            refine Ops.dn ?_
            refine seqQ.n ?_
            refine Wp.ret (by kernel_rfl) ?_
            refine sqQ.r ?_
            refine seqQ.r ?_
            refine blkQ.r ?_
            refine seqQ.r ?_
            cases h
            refine lpQ.r ?_
            refine blkQ.r ?_
            exact hrx83 _ hsx87 _ (RetOk.forget [2, 3, 4] (by kernel_rfl) (RetOk.mk' (.v (.agg [(vI v98.fCode), (vI v98.fIndex)])) (by kernel_rfl) (by kernel_rfl)))
          · refine Wp.sk ?_
            refine sqQ.n' ?_
            refine seqQ.n ?_
            refine Wp.sq ?_
            refine Wp.sq ?_
            refine Wp.rg ?_
            refine Ops.sg 2 2 ?_
            obtain ⟨v99, ev99, h⟩ := bnd_some h
            refine Ops.on 3 (fun h0 e0 => (call_ok (E' := EG) (h := h0) (by kernel_rfl) (Args.v (.agg [(vI v88.fP.fKind), (vP eI v88.fP.fLabels), (vP ep24 v88.fP.fSubs), (vI v88.fP.fLeast), (vI v88.fP.fMost)]) (e24 v88.fP) (by kernel_rfl) Args.nil) (ok26 m v88.fP v99 ev99 n (by omega)))) ?_
            refine Ops.sg 1 4 ?_
            refine Ops.dn ?_
            refine seqQ.n ?_
            refine Wp.sq ?_
            refine Wp.rg ?_
            refine Ops.sg 2 2 ?_
            refine Ops.dn ?_
            refine seqQ.n ?_
            refine Wp.cnd h [2, 3, 4, 5] 7 (by kernel_rfl) (fun h => ?_) (fun h => ?_)
            · refine Wp.sq ?_
              refine Wp.rg ?_
              refine Ops.sg 2 2 ?_
              obtain ⟨v100, ev100, h⟩ := bnd_some h
              refine Ops.on 3 (fun h0 e0 => (call_ok (E' := EG) (h := h0) (by kernel_rfl) (Args.v (vI v99) (eI v99) (by kernel_rfl) (Args.v (vI v78) (eI v78) (by kernel_rfl) Args.nil)) (ok25 m v99 v78 v100 ev100 n (by omega)))) ?_
              refine Ops.sg 1 4 ?_
              refine Ops.dn ?_
              refine seqQ.n ?_
              refine Wp.ret (by kernel_rfl) ?_
              refine sqQ.r ?_
              refine seqQ.r ?_
              refine blkQ.r ?_
              refine seqQ.r ?_
              cases h
              refine lpQ.r ?_
              refine blkQ.r ?_
              exact hrx83 _ hsx87 _ (RetOk.forget [2, 3, 4] (by kernel_rfl) (RetOk.mk' (.v (.agg [(vI v100.fCode), (vI v100.fIndex)])) (by kernel_rfl) (by kernel_rfl)))
            · refine Wp.sk ?_
              refine sqQ.n' ?_
              refine seqQ.n ?_
              refine Wp.sq ?_
              refine Wp.rg ?_
              refine Ops.sg 3 3 ?_
              refine Ops.on 4 (fun h0 e0 => (len_r (T := T) h0 23 25 .plain ep24 v88.fP.fSubs (by kernel_rfl))) ?_
              refine Ops.sg 1 5 ?_
              refine Ops.dn ?_
              refine seqQ.n ?_
              refine Wp.sq ?_
              refine Wp.sq ?_
              refine Wp.rg ?_
              refine Ops.sg 2 2 ?_
              refine Ops.dn ?_
              refine seqQ.n ?_
              have J12j102 : ∀ (v101 : Int) , f12_j2 m v78 v88 v89 v101 = some sx86 → (seqQ (X12 n) (cR (cR (cR (cR (cR (cR (cL (cL (cR p12_1))))))))) (blkQ (X12 n) 1 [2, 3, 4] 5 (seqQ (X12 n) p12_2 (lpQ (X12 n) [2, 3, 4] 3 p12_1 nx81 (blkQ (X12 n) 0 [2] 3 (seqQ (X12 n) p12_0 (fnQ (X12 n).E.T (resOf Proofs.Tryd.prog 12) (e27 o)))))))) .normal ⟨q2 ((.ptr 1 0) :: (pilD 8 (List.map e52 v89)) :: (dI v78) :: (.ptr 5 0) :: q1 ((dI v101) :: q40 (q23 []))), [(b12_0 a0), b12_1, .dead, .dead, .dead, (b12_2 v88), .dead, .dead, (.row 6 (List.map e52 v89))]⟩ := by
                intro v101  h
                unfold f12_j2 at h
                refine seqQ.n ?_
                refine Wp.sq ?_
                refine Wp.rg ?_
                refine Ops.sg 3 3 ?_
                refine Ops.dn ?_
                refine seqQ.n ?_
                refine Wp.block' 2 [2, 3, 4] 9 (by kernel_rfl) ?_
                have hLx122 : ∀ (kx112 : Nat) (v109 : (List S52)) (v110 : Int)  (ox111 : S27 ⊕ ((List S52) × Int)), iter (fun (y : (List S52) × Int) => f12_B1 m v88 y.1 y.2) kx112 (v109, v110) = some ox111 → ∀ nx113, kx112 ≤ nx113 → (∀ r, ox111 = .inl r → ∀ σ, RetOk (X12 n) (resOf Proofs.Tryd.prog 12) (e27 r) σ → (blkQ (X12 n) 1 [2, 3, 4] 5 (seqQ (X12 n) p12_2 (lpQ (X12 n) [2, 3, 4] 3 p12_1 nx81 (blkQ (X12 n) 0 [2] 3 (seqQ (X12 n) p12_0 (fnQ (X12 n).E.T (resOf Proofs.Tryd.prog 12) (e27 o))))))) .ret σ) → (∀ (y : (List S52) × Int) , ox111 = .inr y → (blkQ (X12 n) 1 [2, 3, 4] 5 (seqQ (X12 n) p12_2 (lpQ (X12 n) [2, 3, 4] 3 p12_1 nx81 (blkQ (X12 n) 0 [2] 3 (seqQ (X12 n) p12_0 (fnQ (X12 n).E.T (resOf Proofs.Tryd.prog 12) (e27 o))))))) .normal ⟨q2 ((.ptr 1 0) :: (pilD 9 (List.map e52 y.1)) :: (dI v78) :: q40 (q26 [])), [(b12_0 a0), b12_1, .dead, .dead, .dead, (b12_2 v88), .dead, .dead, .dead, (.row 6 (List.map e52 y.1))]⟩) → Lp (X12 n) [2, 3, 4, 5, 8] 9 (cL (cL (cR (cR (cR (cR (cR (cR (cR (cL (cL (cR p12_1)))))))))))) nx113 ⟨q2 ((.ptr 1 0) :: (pilD 9 (List.map e52 v109)) :: (dI v78) :: (.ptr 5 0) :: q2 ((dI v110) :: q40 (q22 []))), [(b12_0 a0), b12_1, .dead, .dead, .dead, (b12_2 v88), .dead, .dead, .dead, (.row 6 (List.map e52 v109))]⟩ (blkQ (X12 n) 2 [2, 3, 4] 9 (blkQ (X12 n) 1 [2, 3, 4] 5 (seqQ (X12 n) p12_2 (lpQ (X12 n) [2, 3, 4] 3 p12_1 nx81 (blkQ (X12 n) 0 [2] 3 (seqQ (X12 n) p12_0 (fnQ (X12 n).E.T (resOf Proofs.Tryd.prog 12) (e27 o)))))))) := by
                  intro kx112
                  induction kx112 with
                  | zero => intro v109 v110  ox111 h; exact (iter_zero h).elim
                  | succ kx112 ihx114 =>
                    intro v109 v110  ox111 h nx113 hnx117 hrx115 hxx116
                    obtain ⟨nx113, rfl⟩ : ∃ q, nx113 = q + 1 := ⟨nx113 - 1, by omega⟩
                    obtain ⟨sx118, h, hsx119⟩ := iter_some h
                    have h : f12_B1 m v88 v109 v110 = some sx118 := h
                    unfold f12_B1 at h
                    refine Lp.succ ?_
                    refine Wp.sq ?_
                    refine Wp.sq ?_
                    refine Wp.rg ?_
                    refine Ops.sg 2 2 ?_
                    refine Ops.dn ?_
                    refine seqQ.n ?_
                    refine Wp.cnd h [2, 3, 4, 5, 8] 10 (by kernel_rfl) (fun h => ?_) (fun h => ?_)
                    · refine Wp.sk ?_
                      refine sqQ.n' ?_
                      refine seqQ.n ?_
                      refine Wp.sq ?_
                      refine Wp.block' 3 [2, 3, 4, 5, 8] 11 (by kernel_rfl) ?_
                      refine Wp.rg ?_
                      refine Ops.sg 5 5 ?_
                      obtain ⟨v120, ev120, h⟩ := bnd_some h
                      refine Ops.on 6 (fun h0 e0 => (ixb24 (ix_r (T := T) h0 23 25 5 .plain ep24 v88.fP.fSubs v110 v120 ev120 (by kernel_rfl) (by kernel_rfl) ep24_len))) ?_
                      refine Ops.sg 6 12 ?_
                      obtain ⟨v121, ev121, h⟩ := bnd_some h
                      refine Ops.on 13 (fun h0 e0 => (pil_app (T := T) h0 54 53 10 11 ti53 e52 v109 ([(⟨v120.vw, w64 (v88.fDepth + 1)⟩ : S52)]) v121 ev121 (by kernel_rfl) (by kernel_rfl) (by kernel_rfl) (by kernel_rfl) (hq_of e0 (by kernel_rfl)) (hq_of e0 (by kernel_rfl)))) ?_
                      refine Ops.sg 1 14 ?_
                      refine Ops.dn ?_
                      refine blkQ.n' ?_
                      refine seqQ.n ?_
                      refine Wp.rg ?_
                      refine Ops.sg 3 3 ?_
                      refine Ops.dn ?_
                      refine lpQ.n ⟨q2 ((.ptr 1 0) :: (pilD 9 (List.map e52 v121)) :: (dI v78) :: (.ptr 5 0) :: q2 ((dI (w64 (v110 - 1))) :: q40 (q22 []))), [(b12_0 a0), b12_1, .dead, .dead, .dead, (b12_2 v88), .dead, .dead, .dead, (.row 6 (List.map e52 v121))]⟩ (by kernel_rfl) ?_
                      cases h
                      exact ihx114 v121 (w64 (v110 - 1))  _ hsx119 _ (by omega) hrx115 hxx116
                    · refine Wp.exit (id := 2) (by kernel_rfl) ?_
                      refine sqQ.x ?_
                      refine seqQ.x ?_
                      cases h
                      refine lpQ.x ?_
                      refine blkQ.x ⟨q2 ((.ptr 1 0) :: (pilD 9 (List.map e52 v109)) :: (dI v78) :: q40 (q26 [])), [(b12_0 a0), b12_1, .dead, .dead, .dead, (b12_2 v88), .dead, .dead, .dead, (.row 6 (List.map e52 v109))]⟩ (by kernel_rfl) ?_
                      exact hxx116 (v109, v110)  hsx119
                refine Wp.loop' [2, 3, 4, 5, 8] 9 (by kernel_rfl) ⟨q2 ((.ptr 1 0) :: (pilD 9 (List.map e52 v89)) :: (dI v78) :: (.ptr 5 0) :: q2 ((dI (w64 (v101 - 1))) :: q40 (q22 []))), [(b12_0 a0), b12_1, .dead, .dead, .dead, (b12_2 v88), .dead, .dead, .dead, (.row 6 (List.map e52 v89))]⟩ (by kernel_rfl) ?_
                rcases brk_some h with ⟨r124, er124, h⟩ | ⟨y123, ey123, h⟩
                · refine hLx122 _ v89 (w64 (v101 - 1))  _ er124 n (by omega) (fun r er σ hσ => ?_) (fun y  ey => by cases ey)
                  cases er
                  refine blkQ.r ?_
                  refine seqQ.r ?_
                  refine lpQ.r ?_
                  cases h
                  refine blkQ.r ?_
                  exact hrx83 _ hsx87 _ (RetOk.forget [2, 3, 4] (by kernel_rfl) hσ)
                · refine hLx122 _ v89 (w64 (v101 - 1))  _ ey123 n (by omega) (fun r er => by cases er) (fun y  ey => ?_)
                  cases ey
                  refine blkQ.n' ?_
                  refine seqQ.n ?_
                  refine Wp.rg ?_
                  refine Ops.sg 3 3 ?_
                  refine Ops.dn ?_
                  refine lpQ.n ⟨q2 ((.ptr 1 0) :: (pilD 3 (List.map e52 y123.1)) :: (dI (w64 (v78 + 1))) :: q40 (q26 [])), [(b12_0 a0), b12_1, .dead, (.row 6 (List.map e52 y123.1))]⟩ (by kernel_rfl) ?_
                  cases h
                  exact ihx82 y123.1 (w64 (v78 + 1))  _ hsx87 _ (by omega) hrx83 hxx84
              refine Wp.cnd h [2, 3, 4, 5, 7] 8 (by kernel_rfl) (fun h => ?_) (fun h => ?_)
              · refine Wp.rg ?_
                refine Ops.sg 1 1 ?_
                refine Ops.dn ?_
                refine sqQ.n ⟨q2 ((.ptr 1 0) :: (pilD 8 (List.map e52 v89)) :: (dI v78) :: (.ptr 5 0) :: q1 ((dI 201) :: q40 (q23 []))), [(b12_0 a0), b12_1, .dead, .dead, .dead, (b12_2 v88), .dead, .dead, (.row 6 (List.map e52 v89))]⟩ (by kernel_rfl) ?_
                exact J12j102 201  h
              · refine Wp.sk ?_
                refine sqQ.n ⟨q2 ((.ptr 1 0) :: (pilD 8 (List.map e52 v89)) :: (dI v78) :: (.ptr 5 0) :: q1 ((dI (v88.fP.fSubs.length : Int)) :: q40 (q23 []))), [(b12_0 a0), b12_1, .dead, .dead, .dead, (b12_2 v88), .dead, .dead, (.row 6 (List.map e52 v89))]⟩ (by kernel_rfl) ?_
                exact J12j102 (v88.fP.fSubs.length : Int)  h
        refine Ops.hv (fun KQ => ∀ v90 : Bool, f12_r3 m v78 v88 v89 (v90 || (decide (v88.fDepth > 40))) = some sx86 → KQ 3 ⟨q2 ((.ptr 1 0) :: (pilD 4 (List.map e52 v89)) :: (dI v78) :: (.ptr 5 0) :: q11 ((pilD 4 (List.map e52 v77)) :: (pilD 4 (List.map e52 v77)) :: (dI (v77.length : Int)) :: (dI (w64 ((v77.length : Int) - 1))) :: (.eptr 4 (Int.toNat (w64 ((v77.length : Int) - 1))) 0) :: (.v (.agg [(vI v88.fP.fKind), (vP eI v88.fP.fLabels), (vP ep24 v88.fP.fSubs), (vI v88.fP.fLeast), (vI v88.fP.fMost), (vI v88.fDepth)])) :: (pilD 4 (List.map e52 v77)) :: (pilD 4 (List.map e52 v77)) :: (dI (v77.length : Int)) :: (dI (w64 ((v77.length : Int) - 1))) :: (pilD 4 (List.map e52 v89)) :: (dI v78) :: (dB v90) :: (dB v90) :: q40 [])), [(b12_0 a0), b12_1, .dead, .dead, (.row 6 (List.map e52 v89)), (b12_2 v88)]⟩) ?_ fun G12g91 => Ops.st _ (by kernel_rfl) (G12g91 (decide (v78 ≥ 200)) h)
        intro v90 h
        cases v90
        · refine Ops.sg 4 7 ?_
          exact Ops.st _ (by kernel_rfl) (J12j97 (.ptr 5 5) (dI v88.fDepth) (dB (decide (v88.fDepth > 40))) false (decide (v88.fDepth > 40)) h)
        · refine Ops.sg 4 7 ?_
          exact Ops.st _ (by kernel_rfl) (J12j97 U U U true true h)
      · refine Wp.exit (id := 0) (by kernel_rfl) ?_
        refine sqQ.x ?_
        refine seqQ.x ?_
        cases h
        refine lpQ.x ?_
        refine blkQ.x ⟨q2 ((.ptr 1 0) :: q40 (q28 [])), [(b12_0 a0), b12_1, .dead, (.row 6 (List.map e52 v77))]⟩ (by kernel_rfl) ?_
        exact hxx84 (v77, v78)  hsx87
  refine Wp.loop' [2, 3, 4] 3 (by kernel_rfl) ⟨q2 ((.ptr 1 0) :: (pilD 3 (List.map e52 ([(⟨a0, 1⟩ : S52)]))) :: (dI 0) :: q40 (q26 [])), [(b12_0 a0), b12_1, .dead, (.row 6 (List.map e52 ([(⟨a0, 1⟩ : S52)])))]⟩ (by kernel_rfl) ?_
  rcases brk_some h with ⟨r127, er127, h⟩ | ⟨y126, ey126, h⟩
  · refine hLx125 _ ([(⟨a0, 1⟩ : S52)]) 0  _ er127 n (by omega) (fun r er σ hσ => ?_) (fun y  ey => by cases ey)
    cases er
    refine seqQ.r ?_
    exact fnQ.r' (X12 n) (fun z => (e27 z)) h hσ
  · refine hLx125 _ ([(⟨a0, 1⟩ : S52)]) 0  _ ey126 n (by omega) (fun r er => by cases er) (fun y  ey => ?_)
    cases ey
    refine seqQ.n ?_
    refine Wp.sq ?_
    refine Wp.rg ?_
    refine Ops.sg 2 2 ?_
    refine Ops.dn ?_
    refine seqQ.n ?_
    refine Wp.ret (by kernel_rfl) ?_
    exact fnQ.r' (X12 n) (fun z => (e27 z)) h (RetOk.mk' (.v (.agg [(vI 0), (vI 0)])) (by kernel_rfl) (by kernel_rfl))
noncomputable def f34 (m : Nat) (a0 : Int) (a1 : Int) : Option S27 :=
  some ((⟨a0, a1⟩ : S27))
noncomputable abbrev X34 (n : Nat) : Cx := cxOf Proofs.Tryd.prog EG 34 n
noncomputable def C34 : Code := bodyOf Proofs.Tryd.prog 34
theorem ok34 (m : Nat) (a0 : Int) (a1 : Int) (o : S27) (h : f34 m a0 a1 = some o) (n : Nat) (hn : m + 1 ≤ n) : Fn Proofs.Tryd.prog EG n 34 [.v (eI a0), .v (eI a1)] (e27 o) := by
  obtain ⟨n, rfl⟩ : ∃ q, n = q + 1 := ⟨n - 1, by omega⟩
  unfold f34 at h
  refine Fn.of (by kernel_rfl) (by kernel_rfl) (by kernel_rfl) ⟨(dI a0) :: (dI a1) :: u6 [], []⟩ (by kernel_rfl) ?_
  refine Wp.sq ?_
  refine Wp.rg ?_
  refine Ops.sg 1 1 ?_
  refine Ops.dn ?_
  refine seqQ.n ?_
  refine Wp.sq ?_
  refine Wp.rg ?_
  refine Ops.sg 4 4 ?_
  refine Ops.dn ?_
  refine seqQ.n ?_
  refine Wp.ret (by kernel_rfl) ?_
  exact fnQ.r' (X34 n) (fun z => (e27 z)) h (RetOk.mk' (.v (.agg [(vI a0), (vI a1)])) (by kernel_rfl) (by kernel_rfl))
noncomputable def f17_r1 (m : Nat) (a1 : Int) (v21 : Int) (v37 : Bool) : Option (Stp S27 (Int)) :=
  cnd v37
  (bnd (f34 m 3 a1) fun v39 =>
  some (.ret v39))
  (some (.nxt (w64 (v21 + 1))))
noncomputable def f17_B2 (m : Nat) (a0 : (List Int)) (a1 : Int) (v21 : Int) : Option (Stp S27 (Int)) :=
  cnd (decide (v21 < (a0.length : Int)))
  (bnd (idx a0 v21) fun v31 =>
  f17_r1 m a1 v21 ((decide (v31 < 1)) || (decide (v31 > 1114111))))
  (some (.brk v21))
noncomputable def f17 (m : Nat) (a0 : (List Int)) (a1 : Int) : Option S27 :=
  cnd (decide ((a0.length : Int) > 30))
  (bnd (f34 m 2 a1) fun v1 =>
  some v1)
  (brk (iter (fun (y : Int) => f17_B2 m a0 a1 y) m 0) some fun y41 =>
  some ((⟨0, 0⟩ : S27)))
noncomputable abbrev X17 (n : Nat) : Cx := cxOf Proofs.Tryd.prog EG 17 n
noncomputable def C17 : Code := bodyOf Proofs.Tryd.prog 17
theorem ok17 (m : Nat) (a0 : (List Int)) (a1 : Int) (o : S27) (h : f17 m a0 a1 = some o) (n : Nat) (hn : m + 2 ≤ n) : Fn Proofs.Tryd.prog EG n 17 [.v ((eL eI) a0), .v (eI a1)] (e27 o) := by
  obtain ⟨n, rfl⟩ : ∃ q, n = q + 1 := ⟨n - 1, by omega⟩
  unfold f17 at h
  refine Fn.of (by kernel_rfl) (by kernel_rfl) (by kernel_rfl) ⟨(dP eI a0) :: (dI a1) :: u26 [], []⟩ (by kernel_rfl) ?_
  refine Wp.sq ?_
  refine Wp.rg ?_
  refine Ops.sg 1 1 ?_
  refine Ops.dn ?_
  refine seqQ.n ?_
  refine Wp.sq ?_
  refine Wp.sq ?_
  refine Wp.rg ?_
  refine Ops.sg 1 1 ?_
  refine Ops.on 2 (fun h0 e0 => (len_r (T := T) h0 22 3 .plain eI a0 (by kernel_rfl))) ?_
  refine Ops.sg 1 3 ?_
  refine Ops.dn ?_
  refine seqQ.n ?_
  refine Wp.cnd h [0, 1, 4] 1 (by kernel_rfl) (fun h => ?_) (fun h => ?_)
  · refine Wp.sq ?_
    refine Wp.rg ?_
    refine Ops.sg 1 1 ?_
    obtain ⟨v1, ev1, h⟩ := bnd_some h
    refine Ops.on 2 (fun h0 e0 => (call_ok (E' := EG) (h := h0) (by kernel_rfl) (Args.v (vI 2) (eI 2) (by kernel_rfl) (Args.v (vI a1) (eI a1) (by kernel_rfl) Args.nil)) (ok34 m 2 a1 v1 ev1 n (by omega)))) ?_
    refine Ops.sg 1 3 ?_
    refine Ops.dn ?_
    refine seqQ.n ?_
    refine Wp.ret (by kernel_rfl) ?_
    refine sqQ.r ?_
    refine seqQ.r ?_
    exact fnQ.r' (X17 n) (fun z => (e27 z)) h (RetOk.mk' (.v (.agg [(vI v1.fCode), (vI v1.fIndex)])) (by kernel_rfl) (by kernel_rfl))
  · refine Wp.sk ?_
    refine sqQ.n' ?_
    refine seqQ.n ?_
    refine Wp.sq ?_
    refine Wp.sq ?_
    refine Wp.rg ?_
    refine Ops.sg 1 1 ?_
    refine Ops.on 2 (fun h0 e0 => (len_r (T := T) h0 22 3 .plain eI a0 (by kernel_rfl))) ?_
    refine Ops.sg 1 3 ?_
    refine Ops.dn ?_
    refine seqQ.n ?_
    refine Wp.block' 0 [4] 1 (by kernel_rfl) ?_
    have hLx40 : ∀ (kx23 : Nat) (v21 : Int)  (ox22 : S27 ⊕ (Int)), iter (fun (y : Int) => f17_B2 m a0 a1 y) kx23 v21 = some ox22 → ∀ nx24, kx23 ≤ nx24 → (∀ r, ox22 = .inl r → ∀ σ, RetOk (X17 n) (resOf Proofs.Tryd.prog 17) (e27 r) σ → (seqQ (X17 n) (cR (cR (cR C17))) (fnQ (X17 n).E.T (resOf Proofs.Tryd.prog 17) (e27 o))) .ret σ) → (∀ (y : Int) , ox22 = .inr y → (seqQ (X17 n) (cR (cR (cR C17))) (fnQ (X17 n).E.T (resOf Proofs.Tryd.prog 17) (e27 o))) .normal ⟨q1 ((dI a1) :: q2 ((.ptr 0 0) :: q7 ((dP eI a0) :: (dI (a0.length : Int)) :: (dI y) :: q13 []))), [(.cells [(dI 0), (dI 0)])]⟩) → Lp (X17 n) [1, 4, 12, 13, 14] 1 (cL (cL (cR (cL (cR (cR C17)))))) nx24 ⟨q1 ((dI a1) :: q2 ((.ptr 0 0) :: q7 ((dP eI a0) :: (dI (a0.length : Int)) :: (dI v21) :: q13 []))), [(.cells [(dI 0), (dI 0)])]⟩ (blkQ (X17 n) 0 [4] 1 (seqQ (X17 n) (cR (cR (cR C17))) (fnQ (X17 n).E.T (resOf Proofs.Tryd.prog 17) (e27 o)))) := by
      intro kx23
      induction kx23 with
      | zero => intro v21  ox22 h; exact (iter_zero h).elim
      | succ kx23 ihx25 =>
        intro v21  ox22 h nx24 hnx28 hrx26 hxx27
        obtain ⟨nx24, rfl⟩ : ∃ q, nx24 = q + 1 := ⟨nx24 - 1, by omega⟩
        obtain ⟨sx29, h, hsx30⟩ := iter_some h
        have h : f17_B2 m a0 a1 v21 = some sx29 := h
        unfold f17_B2 at h
        refine Lp.succ ?_
        refine Wp.sq ?_
        refine Wp.rg ?_
        refine Ops.sg 1 1 ?_
        refine Ops.dn ?_
        refine seqQ.n ?_
        refine Wp.sq ?_
        refine Wp.cnd h [1, 4, 12, 13, 14] 1 (by kernel_rfl) (fun h => ?_) (fun h => ?_)
        · refine Wp.sk ?_
          refine sqQ.n' ?_
          refine seqQ.n ?_
          refine Wp.sq ?_
          refine Wp.block' 1 [1, 4, 12, 13, 14] 1 (by kernel_rfl) ?_
          refine Wp.sq ?_
          refine Wp.rg ?_
          obtain ⟨v31, ev31, h⟩ := bnd_some h
          refine Ops.on 1 (fun h0 e0 => (ix_r (T := T) h0 22 3 1 .plain eI a0 v21 v31 ev31 (by kernel_rfl) (by kernel_rfl) (fun _ => rfl))) ?_
          refine Ops.sg 2 3 ?_
          refine Ops.dn ?_
          refine seqQ.n ?_
          refine Wp.sq ?_
          refine Wp.rg ?_
          refine Ops.sg 3 3 ?_
          refine Ops.hv (fun KQ => ∀ (d34 d35 : D) (v36 : Bool) (v37 : Bool), f17_r1 m a1 v21 v37 = some sx29 → KQ 6 ⟨q1 ((dI a1) :: q2 ((.ptr 0 0) :: q1 ((dI v31) :: q5 ((dP eI a0) :: (dI (a0.length : Int)) :: (dI v21) :: (dB (decide (v21 < (a0.length : Int)))) :: (.vptr [(vI v31)]) :: (dI v31) :: (dI v31) :: (dB v36) :: (dB v36) :: d34 :: d35 :: (dB v37) :: q4 [])))), [(.cells [(dI 0), (dI 0)])]⟩) ?_ fun J17j38 => ?_
          · intro d34 d35 v36 v37 h
            unfold f17_r1 at h
            refine Ops.dn ?_
            refine seqQ.n ?_
            refine Wp.cnd h [1, 4, 12, 13, 14] 1 (by kernel_rfl) (fun h => ?_) (fun h => ?_)
            · refine Wp.sq ?_
              refine Wp.rg ?_
              refine Ops.sg 1 1 ?_
              obtain ⟨v39, ev39, h⟩ := bnd_some h
              refine Ops.on 2 (fun h0 e0 => (call_ok (E' := EG) (h := h0) (by kernel_rfl) (Args.v (vI 3) (eI 3) (by kernel_rfl) (Args.v (vI a1) (eI a1) (by kernel_rfl) Args.nil)) (ok34 m 3 a1 v39 ev39 n (by omega)))) ?_
              refine Ops.sg 1 3 ?_
              refine Ops.dn ?_
              refine seqQ.n ?_
              refine Wp.ret (by kernel_rfl) ?_
              refine sqQ.r ?_
              refine blkQ.r ?_
              refine seqQ.r ?_
              cases h
              refine lpQ.r ?_
              refine blkQ.r ?_
              exact hrx26 _ hsx30 _ (RetOk.forget [1, 4, 12, 13, 14] (by kernel_rfl) (RetOk.mk' (.v (.agg [(vI v39.fCode), (vI v39.fIndex)])) (by kernel_rfl) (by kernel_rfl)))
            · refine Wp.sk ?_
              refine sqQ.n' ?_
              refine blkQ.n' ?_
              refine seqQ.n ?_
              refine Wp.rg ?_
              refine Ops.sg 2 2 ?_
              refine Ops.dn ?_
              refine lpQ.n ⟨q1 ((dI a1) :: q2 ((.ptr 0 0) :: q7 ((dP eI a0) :: (dI (a0.length : Int)) :: (dI (w64 (v21 + 1))) :: q13 []))), [(.cells [(dI 0), (dI 0)])]⟩ (by kernel_rfl) ?_
              cases h
              exact ihx25 (w64 (v21 + 1))  _ hsx30 _ (by omega) hrx26 hxx27
          refine Ops.hv (fun KQ => ∀ v32 : Bool, f17_r1 m a1 v21 (v32 || (decide (v31 > 1114111))) = some sx29 → KQ 3 ⟨q1 ((dI a1) :: q2 ((.ptr 0 0) :: q1 ((dI v31) :: q5 ((dP eI a0) :: (dI (a0.length : Int)) :: (dI v21) :: (dB (decide (v21 < (a0.length : Int)))) :: (.vptr [(vI v31)]) :: (dI v31) :: (dI v31) :: (dB v32) :: (dB v32) :: q7 [])))), [(.cells [(dI 0), (dI 0)])]⟩) ?_ fun G17g33 => Ops.st _ (by kernel_rfl) (G17g33 (decide (v31 < 1)) h)
          intro v32 h
          cases v32
          · refine Ops.sg 3 6 ?_
            exact Ops.st _ (by kernel_rfl) (J17j38 (dI v31) (dB (decide (v31 > 1114111))) false (decide (v31 > 1114111)) h)
          · refine Ops.sg 3 6 ?_
            exact Ops.st _ (by kernel_rfl) (J17j38 U U true true h)
        · refine Wp.exit (id := 0) (by kernel_rfl) ?_
          refine sqQ.x ?_
          refine seqQ.x ?_
          cases h
          refine lpQ.x ?_
          refine blkQ.x ⟨q1 ((dI a1) :: q2 ((.ptr 0 0) :: q7 ((dP eI a0) :: (dI (a0.length : Int)) :: (dI v21) :: q13 []))), [(.cells [(dI 0), (dI 0)])]⟩ (by kernel_rfl) ?_
          exact hxx27 v21  hsx30
    refine Wp.loop' [1, 4, 12, 13, 14] 1 (by kernel_rfl) ⟨q1 ((dI a1) :: q2 ((.ptr 0 0) :: q7 ((dP eI a0) :: (dI (a0.length : Int)) :: (dI 0) :: q13 []))), [(.cells [(dI 0), (dI 0)])]⟩ (by kernel_rfl) ?_
    rcases brk_some h with ⟨r42, er42, h⟩ | ⟨y41, ey41, h⟩
    · refine hLx40 _ 0  _ er42 n (by omega) (fun r er σ hσ => ?_) (fun y  ey => by cases ey)
      cases er
      refine seqQ.r ?_
      exact fnQ.r' (X17 n) (fun z => (e27 z)) h hσ
    · refine hLx40 _ 0  _ ey41 n (by omega) (fun r er => by cases er) (fun y  ey => ?_)
      cases ey
      refine seqQ.n ?_
      refine Wp.sq ?_
      refine Wp.rg ?_
      refine Ops.sg 2 2 ?_
      refine Ops.dn ?_
      refine seqQ.n ?_
      refine Wp.ret (by kernel_rfl) ?_
      exact fnQ.r' (X17 n) (fun z => (e27 z)) h (RetOk.mk' (.v (.agg [(vI 0), (vI 0)])) (by kernel_rfl) (by kernel_rfl))
structure Rec18 where
  r18 : S24 → Option Int
structure OkRec18 (m : Nat) (K : Rec18) (nn : Nat) : Prop where
  ok18 : ∀ (a0 : S24) (o : Int), K.r18 a0 = some o → ∀ n, nn ≤ n → Fn Proofs.Tryd.prog EG n 18 [.v (e24 a0)] (eI o)
noncomputable def f18_B1 (m : Nat) (K : Rec18) (a0 : S24) (v7 : Int) (v8 : Int) : Option (Stp Int (Int × Int)) :=
  cnd (decide (v8 < (a0.fSubs.length : Int)))
  (bnd (idx a0.fSubs v8) fun v18 =>
  bnd (K.r18 v18.vw) fun v19 =>
  some (.nxt (w64 (v7 + v19), w64 (v8 + 1))))
  (some (.brk (v7, v8)))
noncomputable def f18_j2 (m : Nat) (K : Rec18) (v23 : Int) : Option Int :=
  some v23
noncomputable def f18_j3 (m : Nat) (K : Rec18) (v37 : Int) : Option Int :=
  f18_j2 m K v37
noncomputable def f18_j4 (m : Nat) (K : Rec18) (v48 : Int) : Option Int :=
  f18_j3 m K v48
noncomputable def b18 (m : Nat) (K : Rec18) (a0 : S24) : Option Int :=
  brk (iter (fun (y : Int × Int) => f18_B1 m K a0 y.1 y.2) m (1, 0)) some fun y21 =>
  cnd (a0.fKind == 5)
  (cnd (decide (a0.fMost < 0))
  (f18_j3 m K (w64 (y21.1 * 5)))
  (cnd (decide (a0.fMost > 1))
  (f18_j4 m K (w64 (y21.1 * a0.fMost)))
  (f18_j4 m K y21.1)))
  (f18_j2 m K y21.1)
noncomputable abbrev X18 (n : Nat) : Cx := cxOf Proofs.Tryd.prog EG 18 n
noncomputable def C18 : Code := bodyOf Proofs.Tryd.prog 18
noncomputable abbrev b18_0 (w0 : S24) : AObj := .cells [(dI w0.fKind), (dP eI w0.fLabels), (dP ep24 w0.fSubs), (dI w0.fLeast), (dI w0.fMost)]
theorem okb18 (m : Nat) (K : Rec18) (nn : Nat) (hK : OkRec18 m K nn) (a0 : S24) (o : Int) (h : b18 m K a0 = some o) (n : Nat) (hn : m + 1 ≤ n) (hk : nn + 1 ≤ n) : Fn Proofs.Tryd.prog EG n 18 [.v (e24 a0)] (eI o) := by
  obtain ⟨n, rfl⟩ : ∃ q, n = q + 1 := ⟨n - 1, by omega⟩
  unfold b18 at h
  refine Fn.of (by kernel_rfl) (by kernel_rfl) (by kernel_rfl) ⟨(.v (.agg [(vI a0.fKind), (vP eI a0.fLabels), (vP ep24 a0.fSubs), (vI a0.fLeast), (vI a0.fMost)])) :: u33 [], []⟩ (by kernel_rfl) ?_
  refine Wp.sq ?_
  refine Wp.rg ?_
  refine Ops.sg 2 2 ?_
  refine Ops.dn ?_
  refine seqQ.n ?_
  refine Wp.sq ?_
  refine Wp.rg ?_
  refine Ops.sg 1 1 ?_
  refine Ops.dn ?_
  refine seqQ.n ?_
  refine Wp.sq ?_
  refine Wp.sq ?_
  refine Wp.rg ?_
  refine Ops.sg 2 2 ?_
  refine Ops.on 3 (fun h0 e0 => (len_r (T := T) h0 23 25 .plain ep24 a0.fSubs (by kernel_rfl))) ?_
  refine Ops.sg 1 4 ?_
  refine Ops.dn ?_
  refine seqQ.n ?_
  refine Wp.block' 0 [1, 2, 3] 1 (by kernel_rfl) ?_
  have hLx20 : ∀ (kx10 : Nat) (v7 : Int) (v8 : Int)  (ox9 : Int ⊕ (Int × Int)), iter (fun (y : Int × Int) => f18_B1 m K a0 y.1 y.2) kx10 (v7, v8) = some ox9 → ∀ nx11, kx10 ≤ nx11 → (∀ r, ox9 = .inl r → ∀ σ, RetOk (X18 n) (resOf Proofs.Tryd.prog 18) (eI r) σ → (seqQ (X18 n) (cR (cR (cR C18))) (fnQ (X18 n).E.T (resOf Proofs.Tryd.prog 18) (eI o))) .ret σ) → (∀ (y : Int × Int) , ox9 = .inr y → (seqQ (X18 n) (cR (cR (cR C18))) (fnQ (X18 n).E.T (resOf Proofs.Tryd.prog 18) (eI o))) .normal ⟨q1 ((.ptr 0 0) :: (dI 0) :: (dI y.1) :: q3 ((dP ep24 a0.fSubs) :: (dI (a0.fSubs.length : Int)) :: (dI y.2) :: q24 [])), [(b18_0 a0)]⟩) → Lp (X18 n) [1, 2, 3, 7, 8, 9] 1 (cL (cL (cR (cL (cR (cR C18)))))) nx11 ⟨q1 ((.ptr 0 0) :: (dI 0) :: (dI v7) :: q3 ((dP ep24 a0.fSubs) :: (dI (a0.fSubs.length : Int)) :: (dI v8) :: q24 [])), [(b18_0 a0)]⟩ (blkQ (X18 n) 0 [1, 2, 3] 1 (seqQ (X18 n) (cR (cR (cR C18))) (fnQ (X18 n).E.T (resOf Proofs.Tryd.prog 18) (eI o)))) := by
    intro kx10
    induction kx10 with
    | zero => intro v7 v8  ox9 h; exact (iter_zero h).elim
    | succ kx10 ihx12 =>
      intro v7 v8  ox9 h nx11 hnx15 hrx13 hxx14
      obtain ⟨nx11, rfl⟩ : ∃ q, nx11 = q + 1 := ⟨nx11 - 1, by omega⟩
      obtain ⟨sx16, h, hsx17⟩ := iter_some h
      have h : f18_B1 m K a0 v7 v8 = some sx16 := h
      unfold f18_B1 at h
      refine Lp.succ ?_
      refine Wp.sq ?_
      refine Wp.rg ?_
      refine Ops.sg 1 1 ?_
      refine Ops.dn ?_
      refine seqQ.n ?_
      refine Wp.sq ?_
      refine Wp.cnd h [1, 2, 3, 7, 8, 9] 1 (by kernel_rfl) (fun h => ?_) (fun h => ?_)
      · refine Wp.sk ?_
        refine sqQ.n' ?_
        refine seqQ.n ?_
        refine Wp.sq ?_
        refine Wp.block' 1 [1, 2, 3, 7, 8, 9] 1 (by kernel_rfl) ?_
        refine Wp.sq ?_
        refine Wp.rg ?_
        obtain ⟨v18, ev18, h⟩ := bnd_some h
        refine Ops.on 1 (fun h0 e0 => (ixb24 (ix_r (T := T) h0 23 25 5 .plain ep24 a0.fSubs v8 v18 ev18 (by kernel_rfl) (by kernel_rfl) ep24_len))) ?_
        refine Ops.sg 3 4 ?_
        refine Ops.dn ?_
        refine seqQ.n ?_
        refine Wp.rg ?_
        refine Ops.sg 2 2 ?_
        obtain ⟨v19, ev19, h⟩ := bnd_some h
        refine Ops.on 3 (fun h0 e0 => (call_ok (E' := EG) (h := h0) (by kernel_rfl) (Args.v (.agg [(vI v18.vw.fKind), (vP eI v18.vw.fLabels), (vP ep24 v18.vw.fSubs), (vI v18.vw.fLeast), (vI v18.vw.fMost)]) (e24 v18.vw) (by kernel_rfl) Args.nil) (hK.ok18 v18.vw v19 ev19 n (by omega)))) ?_
        refine Ops.sg 2 5 ?_
        refine Ops.dn ?_
        refine blkQ.n' ?_
        refine seqQ.n ?_
        refine Wp.rg ?_
        refine Ops.sg 2 2 ?_
        refine Ops.dn ?_
        refine lpQ.n ⟨q1 ((.ptr 0 0) :: (dI 0) :: (dI (w64 (v7 + v19))) :: q3 ((dP ep24 a0.fSubs) :: (dI (a0.fSubs.length : Int)) :: (dI (w64 (v8 + 1))) :: q24 [])), [(b18_0 a0)]⟩ (by kernel_rfl) ?_
        cases h
        exact ihx12 (w64 (v7 + v19)) (w64 (v8 + 1))  _ hsx17 _ (by omega) hrx13 hxx14
      · refine Wp.exit (id := 0) (by kernel_rfl) ?_
        refine sqQ.x ?_
        refine seqQ.x ?_
        cases h
        refine lpQ.x ?_
        refine blkQ.x ⟨q1 ((.ptr 0 0) :: (dI 0) :: (dI v7) :: q3 ((dP ep24 a0.fSubs) :: (dI (a0.fSubs.length : Int)) :: (dI v8) :: q24 [])), [(b18_0 a0)]⟩ (by kernel_rfl) ?_
        exact hxx14 (v7, v8)  hsx17
  refine Wp.loop' [1, 2, 3, 7, 8, 9] 1 (by kernel_rfl) ⟨q1 ((.ptr 0 0) :: (dI 0) :: (dI 1) :: q3 ((dP ep24 a0.fSubs) :: (dI (a0.fSubs.length : Int)) :: (dI 0) :: q24 [])), [(b18_0 a0)]⟩ (by kernel_rfl) ?_
  rcases brk_some h with ⟨r22, er22, h⟩ | ⟨y21, ey21, h⟩
  · refine hLx20 _ 1 0  _ er22 n (by omega) (fun r er σ hσ => ?_) (fun y  ey => by cases ey)
    cases er
    refine seqQ.r ?_
    exact fnQ.r' (X18 n) (fun z => (eI z)) h hσ
  · refine hLx20 _ 1 0  _ ey21 n (by omega) (fun r er => by cases er) (fun y  ey => ?_)
    cases ey
    refine seqQ.n ?_
    refine Wp.sq ?_
    refine Wp.sq ?_
    refine Wp.rg ?_
    refine Ops.sg 3 3 ?_
    refine Ops.dn ?_
    refine seqQ.n ?_
    have J18j36 : ∀ (v23 : Int) (d24 : D) (d25 : D) (d26 : D) (d27 : D) (d28 : D) (d29 : D) (d30 : D) (d31 : D) (d32 : D) (d33 : D) (d34 : D) (d35 : D), f18_j2 m K v23 = some o → (seqQ (X18 n) (cR (cR (cR (cR C18)))) (fnQ (X18 n).E.T (resOf Proofs.Tryd.prog 18) (eI o))) .normal ⟨q1 ((.ptr 0 0) :: (dI 0) :: (dI v23) :: q3 ((dP ep24 a0.fSubs) :: (dI (a0.fSubs.length : Int)) :: (dI y21.2) :: q8 ((.ptr 0 0) :: (dI a0.fKind) :: (dB (a0.fKind == 5)) :: d24 :: d25 :: d26 :: d27 :: d28 :: d29 :: d30 :: d31 :: d32 :: d33 :: d34 :: d35 :: q1 []))), [(b18_0 a0)]⟩ := by
      intro v23 d24 d25 d26 d27 d28 d29 d30 d31 d32 d33 d34 d35 h
      unfold f18_j2 at h
      refine seqQ.n ?_
      refine Wp.sq ?_
      refine Wp.rg ?_
      refine Ops.sg 2 2 ?_
      refine Ops.dn ?_
      refine seqQ.n ?_
      refine Wp.ret (by kernel_rfl) ?_
      exact fnQ.r' (X18 n) (fun z => (eI z)) h (RetOk.mk' (dI v23) (by kernel_rfl) (by kernel_rfl))
    refine Wp.cnd h [2, 3] 1 (by kernel_rfl) (fun h => ?_) (fun h => ?_)
    · refine Wp.sq ?_
      refine Wp.rg ?_
      refine Ops.sg 3 3 ?_
      refine Ops.dn ?_
      refine seqQ.n ?_
      have J18j47 : ∀ (v37 : Int) (d38 : D) (d39 : D) (d40 : D) (d41 : D) (d42 : D) (d43 : D) (d44 : D) (d45 : D) (d46 : D), f18_j3 m K v37 = some o → (sqQ (X18 n) [2, 3] 1 (seqQ (X18 n) (cR (cR (cR (cR C18)))) (fnQ (X18 n).E.T (resOf Proofs.Tryd.prog 18) (eI o)))) .normal ⟨q1 ((.ptr 0 0) :: (dI 0) :: (dI v37) :: q3 ((dP ep24 a0.fSubs) :: (dI (a0.fSubs.length : Int)) :: (dI y21.2) :: q8 ((.ptr 0 0) :: (dI a0.fKind) :: (dB (a0.fKind == 5)) :: (.ptr 0 4) :: (dI a0.fMost) :: (dB (decide (a0.fMost < 0))) :: d38 :: d39 :: d40 :: d41 :: d42 :: d43 :: d44 :: d45 :: d46 :: q1 []))), [(b18_0 a0)]⟩ := by
        intro v37 d38 d39 d40 d41 d42 d43 d44 d45 d46 h
        unfold f18_j3 at h
        refine sqQ.n ⟨q1 ((.ptr 0 0) :: (dI 0) :: (dI v37) :: q3 ((dP ep24 a0.fSubs) :: (dI (a0.fSubs.length : Int)) :: (dI y21.2) :: q8 ((.ptr 0 0) :: (dI a0.fKind) :: (dB (a0.fKind == 5)) :: (.ptr 0 4) :: (dI a0.fMost) :: (dB (decide (a0.fMost < 0))) :: d38 :: d39 :: d40 :: d41 :: d42 :: d43 :: d44 :: d45 :: d46 :: q1 []))), [(b18_0 a0)]⟩ (by kernel_rfl) ?_
        exact J18j36 v37 _ _ _ _ _ _ _ _ _ _ _ _ h
      refine Wp.cnd h [2, 3] 1 (by kernel_rfl) (fun h => ?_) (fun h => ?_)
      · refine Wp.rg ?_
        refine Ops.sg 3 3 ?_
        refine Ops.dn ?_
        refine sqQ.n ⟨q1 ((.ptr 0 0) :: (dI 0) :: (dI (w64 (y21.1 * 5))) :: q3 ((dP ep24 a0.fSubs) :: (dI (a0.fSubs.length : Int)) :: (dI y21.2) :: q8 ((.ptr 0 0) :: (dI a0.fKind) :: (dB (a0.fKind == 5)) :: (.ptr 0 4) :: (dI a0.fMost) :: (dB (decide (a0.fMost < 0))) :: (dI y21.1) :: (dI (w64 (y21.1 * 5))) :: q8 []))), [(b18_0 a0)]⟩ (by kernel_rfl) ?_
        exact J18j47 (w64 (y21.1 * 5)) _ _ _ _ _ _ _ _ _ h
      · refine Wp.sq ?_
        refine Wp.rg ?_
        refine Ops.sg 3 3 ?_
        refine Ops.dn ?_
        refine seqQ.n ?_
        have J18j53 : ∀ (v48 : Int) (d49 : D) (d50 : D) (d51 : D) (d52 : D), f18_j4 m K v48 = some o → (sqQ (X18 n) [2, 3] 1 (sqQ (X18 n) [2, 3] 1 (seqQ (X18 n) (cR (cR (cR (cR C18)))) (fnQ (X18 n).E.T (resOf Proofs.Tryd.prog 18) (eI o))))) .normal ⟨q1 ((.ptr 0 0) :: (dI 0) :: (dI v48) :: q3 ((dP ep24 a0.fSubs) :: (dI (a0.fSubs.length : Int)) :: (dI y21.2) :: q8 ((.ptr 0 0) :: (dI a0.fKind) :: (dB (a0.fKind == 5)) :: (.ptr 0 4) :: (dI a0.fMost) :: (dB (decide (a0.fMost < 0))) :: q2 ((.ptr 0 4) :: (dI a0.fMost) :: (dB (decide (a0.fMost > 1))) :: d49 :: d50 :: d51 :: d52 :: q1 [])))), [(b18_0 a0)]⟩ := by
          intro v48 d49 d50 d51 d52 h
          unfold f18_j4 at h
          refine sqQ.n ⟨q1 ((.ptr 0 0) :: (dI 0) :: (dI v48) :: q3 ((dP ep24 a0.fSubs) :: (dI (a0.fSubs.length : Int)) :: (dI y21.2) :: q8 ((.ptr 0 0) :: (dI a0.fKind) :: (dB (a0.fKind == 5)) :: (.ptr 0 4) :: (dI a0.fMost) :: (dB (decide (a0.fMost < 0))) :: q2 ((.ptr 0 4) :: (dI a0.fMost) :: (dB (decide (a0.fMost > 1))) :: d49 :: d50 :: d51 :: d52 :: q1 [])))), [(b18_0 a0)]⟩ (by kernel_rfl) ?_
          exact J18j47 v48 _ _ _ _ _ _ _ _ _ h
        refine Wp.cnd h [2, 3] 1 (by kernel_rfl) (fun h => ?_) (fun h => ?_)
        · refine Wp.rg ?_
          refine Ops.sg 5 5 ?_
          refine Ops.dn ?_
          refine sqQ.n ⟨q1 ((.ptr 0 0) :: (dI 0) :: (dI (w64 (y21.1 * a0.fMost))) :: q3 ((dP ep24 a0.fSubs) :: (dI (a0.fSubs.length : Int)) :: (dI y21.2) :: q8 ((.ptr 0 0) :: (dI a0.fKind) :: (dB (a0.fKind == 5)) :: (.ptr 0 4) :: (dI a0.fMost) :: (dB (decide (a0.fMost < 0))) :: q2 ((.ptr 0 4) :: (dI a0.fMost) :: (dB (decide (a0.fMost > 1))) :: (dI y21.1) :: (.ptr 0 4) :: (dI a0.fMost) :: (dI (w64 (y21.1 * a0.fMost))) :: q1 [])))), [(b18_0 a0)]⟩ (by kernel_rfl) ?_
          exact J18j53 (w64 (y21.1 * a0.fMost)) _ _ _ _ h
        · refine Wp.sk ?_
          refine sqQ.n ⟨q1 ((.ptr 0 0) :: (dI 0) :: (dI y21.1) :: q3 ((dP ep24 a0.fSubs) :: (dI (a0.fSubs.length : Int)) :: (dI y21.2) :: q8 ((.ptr 0 0) :: (dI a0.fKind) :: (dB (a0.fKind == 5)) :: (.ptr 0 4) :: (dI a0.fMost) :: (dB (decide (a0.fMost < 0))) :: q2 ((.ptr 0 4) :: (dI a0.fMost) :: (dB (decide (a0.fMost > 1))) :: q5 [])))), [(b18_0 a0)]⟩ (by kernel_rfl) ?_
          exact J18j53 y21.1 _ _ _ _ h
    · refine Wp.sk ?_
      refine sqQ.n ⟨q1 ((.ptr 0 0) :: (dI 0) :: (dI y21.1) :: q3 ((dP ep24 a0.fSubs) :: (dI (a0.fSubs.length : Int)) :: (dI y21.2) :: q8 ((.ptr 0 0) :: (dI a0.fKind) :: (dB (a0.fKind == 5)) :: q13 []))), [(b18_0 a0)]⟩ (by kernel_rfl) ?_
      exact J18j36 y21.1 _ _ _ _ _ _ _ _ _ _ _ _ h
noncomputable def K18 (m : Nat) : Nat → Rec18
  | 0 => ⟨fun _ => none⟩
  | r + 1 => ⟨fun a0 => b18 m (K18 m r) a0⟩
theorem okK18 (m : Nat) : ∀ r, OkRec18 m (K18 m r) (m + 1 + r)
  | 0 => ⟨fun _ o h => (by cases h)⟩
  | r + 1 => ⟨fun a0 o h n hn => okb18 m (K18 m r) (m + 1 + r) (okK18 m r) a0 o h n (by omega) (by omega)⟩
noncomputable def f18 (m : Nat) (a0 : S24) : Option Int := (K18 m m).r18 a0
theorem ok18 (m : Nat) (a0 : S24) (o : Int) (h : f18 m a0 = some o) (n : Nat) (hn : 2 * m + 1 ≤ n) : Fn Proofs.Tryd.prog EG n 18 [.v (e24 a0)] (eI o) := (okK18 m m).ok18 a0 o h n (by omega)
structure Rec19 where
  r19 : S24 → (List Int) → Option Bool
  r35 : (List P24) → (List Int) → Option Bool
  r36 : S24 → Int → Int → (List Int) → Option Bool
structure OkRec19 (m : Nat) (K : Rec19) (nn : Nat) : Prop where
  ok19 : ∀ (a0 : S24) (a1 : (List Int)) (o : Bool), K.r19 a0 a1 = some o → ∀ n, nn ≤ n → Fn Proofs.Tryd.prog EG n 19 [.v (e24 a0), .v ((eL eI) a1)] (eB o)
  ok35 : ∀ (a0 : (List P24)) (a1 : (List Int)) (o : Bool), K.r35 a0 a1 = some o → ∀ n, nn ≤ n → Fn Proofs.Tryd.prog EG n 35 [.v ((eL ep24) a0), .v ((eL eI) a1)] (eB o)
  ok36 : ∀ (a0 : S24) (a1 : Int) (a2 : Int) (a3 : (List Int)) (o : Bool), K.r36 a0 a1 a2 a3 = some o → ∀ n, nn ≤ n → Fn Proofs.Tryd.prog EG n 36 [.v (e24 a0), .v (eI a1), .v (eI a2), .v ((eL eI) a3)] (eB o)
noncomputable def f19_B1 (m : Nat) (K : Rec19) (a0 : S24) (a1 : (List Int)) (v6 : Int) : Option (Stp Bool (Int)) :=
  cnd (decide (v6 < (a0.fLabels.length : Int)))
  (bnd (idx a0.fLabels v6) fun v16 =>
  bnd (idx a1 0) fun v17 =>
  cnd (v16 == v17)
  (some (.ret true))
  (some (.nxt (w64 (v6 + 1)))))
  (some (.brk v6))
noncomputable def f19_B2 (m : Nat) (K : Rec19) (a0 : S24) (a1 : (List Int)) (v27 : Int) : Option (Stp Bool (Int)) :=
  cnd (decide (v27 < (a0.fSubs.length : Int)))
  (bnd (idx a0.fSubs v27) fun v37 =>
  bnd (K.r19 v37.vw a1) fun v38 =>
  cnd v38
  (some (.ret true))
  (some (.nxt (w64 (v27 + 1)))))
  (some (.brk v27))
noncomputable def f19_r3 (m : Nat) (K : Rec19) (v53 : Bool) : Option Bool :=
  some v53
noncomputable def f19_r4 (m : Nat) (K : Rec19) (v69 : Bool) : Option Bool :=
  some v69
noncomputable def b19 (m : Nat) (K : Rec19) (a0 : S24) (a1 : (List Int)) : Option Bool :=
  cnd (a0.fKind == 1)
  (some ((a1.length : Int) == 0))
  (cnd (a0.fKind == 2)
  (cnd ((a1.length : Int) != 1)
  (some false)
  (brk (iter (fun (y : Int) => f19_B1 m K a0 a1 y) m 0) some fun y19 =>
  some false))
  (cnd (a0.fKind == 3)
  (bnd (K.r35 a0.fSubs a1) fun v21 =>
  some v21)
  (cnd (a0.fKind == 4)
  (brk (iter (fun (y : Int) => f19_B2 m K a0 a1 y) m 0) some fun y40 =>
  some false)
  (cnd (a0.fKind == 6)
  (bnd (idx a0.fSubs 0) fun v42 =>
  bnd (K.r19 v42.vw a1) fun v43 =>
  bnd (cnd v43
  (bnd (idx a0.fSubs 1) fun v55 =>
  bnd (K.r19 v55.vw a1) fun v56 =>
  some v56)
  (some false)) fun v53 =>
  f19_r3 m K v53)
  (cnd (a0.fKind == 7)
  (bnd (idx a0.fSubs 0) fun v57 =>
  bnd (K.r19 v57.vw a1) fun v58 =>
  bnd (cnd v58
  (bnd (idx a0.fSubs 1) fun v71 =>
  bnd (K.r19 v71.vw a1) fun v72 =>
  some (!v72))
  (some false)) fun v69 =>
  f19_r4 m K v69)
  (bnd (idx a0.fSubs 0) fun v73 =>
  bnd (K.r36 v73.vw a0.fLeast a0.fMost a1) fun v74 =>
  some v74))))))
noncomputable abbrev X19 (n : Nat) : Cx := cxOf Proofs.Tryd.prog EG 19 n
noncomputable def C19 : Code := bodyOf Proofs.Tryd.prog 19
noncomputable abbrev p19_0 : Code := cR (cR (cL (cR (cR (cR (cL (cR (cL (cR C19)))))))))
noncomputable abbrev p19_1 : Code := cR (cL (cR (cR (cR (cR (cR (cR (cR (cL (cR (cL (cR C19))))))))))))
noncomputable abbrev b19_0 (w0 : S24) : AObj := .cells [(dI w0.fKind), (dP eI w0.fLabels), (dP ep24 w0.fSubs), (dI w0.fLeast), (dI w0.fMost)]
theorem okb19 (m : Nat) (K : Rec19) (nn : Nat) (hK : OkRec19 m K nn) (a0 : S24) (a1 : (List Int)) (o : Bool) (h : b19 m K a0 a1 = some o) (n : Nat) (hn : m + 1 ≤ n) (hk : nn + 1 ≤ n) : Fn Proofs.Tryd.prog EG n 19 [.v (e24 a0), .v ((eL eI) a1)] (eB o) := by
  obtain ⟨n, rfl⟩ : ∃ q, n = q + 1 := ⟨n - 1, by omega⟩
  unfold b19 at h
  refine Fn.of (by kernel_rfl) (by kernel_rfl) (by kernel_rfl) ⟨(.v (.agg [(vI a0.fKind), (vP eI a0.fLabels), (vP ep24 a0.fSubs), (vI a0.fLeast), (vI a0.fMost)])) :: (dP eI a1) :: u40 (u40 (u14 [])), []⟩ (by kernel_rfl) ?_
  refine Wp.sq ?_
  refine Wp.rg ?_
  refine Ops.sg 2 2 ?_
  refine Ops.dn ?_
  refine seqQ.n ?_
  refine Wp.sq ?_
  refine Wp.sq ?_
  refine Wp.rg ?_
  refine Ops.sg 2 2 ?_
  refine Ops.dn ?_
  refine seqQ.n ?_
  refine Wp.block' 0 [1, 2, 4] 1 (by kernel_rfl) ?_
  refine Wp.sq ?_
  refine Wp.rg ?_
  refine Ops.sg 2 2 ?_
  refine Ops.dn ?_
  refine seqQ.n ?_
  refine Wp.cnd h [1, 2, 4] 1 (by kernel_rfl) (fun h => ?_) (fun h => ?_)
  · refine Wp.sq ?_
    refine Wp.rg ?_
    refine Ops.sg 1 1 ?_
    refine Ops.on 2 (fun h0 e0 => (len_r (T := T) h0 22 3 .plain eI a1 (by kernel_rfl))) ?_
    refine Ops.sg 2 4 ?_
    refine Ops.dn ?_
    refine seqQ.n ?_
    refine Wp.ret (by kernel_rfl) ?_
    refine sqQ.r ?_
    refine blkQ.r ?_
    refine seqQ.r ?_
    exact fnQ.r' (X19 n) (fun z => (eB z)) h (RetOk.mk' (dB ((a1.length : Int) == 0)) (by kernel_rfl) (by kernel_rfl))
  · refine Wp.sq ?_
    refine Wp.rg ?_
    refine Ops.sg 2 2 ?_
    refine Ops.dn ?_
    refine seqQ.n ?_
    refine Wp.cnd h [1, 2, 4] 1 (by kernel_rfl) (fun h => ?_) (fun h => ?_)
    · refine Wp.sq ?_
      refine Wp.sq ?_
      refine Wp.rg ?_
      refine Ops.sg 1 1 ?_
      refine Ops.on 2 (fun h0 e0 => (len_r (T := T) h0 22 3 .plain eI a1 (by kernel_rfl))) ?_
      refine Ops.sg 1 3 ?_
      refine Ops.dn ?_
      refine seqQ.n ?_
      refine Wp.cnd h [1, 2, 4] 1 (by kernel_rfl) (fun h => ?_) (fun h => ?_)
      · refine Wp.sq ?_
        refine Wp.rg ?_
        refine Ops.sg 1 1 ?_
        refine Ops.dn ?_
        refine seqQ.n ?_
        refine Wp.ret (by kernel_rfl) ?_
        refine sqQ.r ?_
        refine seqQ.r ?_
        refine sqQ.r ?_
        refine sqQ.r ?_
        refine blkQ.r ?_
        refine seqQ.r ?_
        exact fnQ.r' (X19 n) (fun z => (eB z)) h (RetOk.mk' (dB false) (by kernel_rfl) (by kernel_rfl))
      · refine Wp.sk ?_
        refine sqQ.n' ?_
        refine seqQ.n ?_
        refine Wp.sq ?_
        refine Wp.sq ?_
        refine Wp.rg ?_
        refine Ops.sg 2 2 ?_
        refine Ops.on 3 (fun h0 e0 => (len_r (T := T) h0 22 3 .plain eI a0.fLabels (by kernel_rfl))) ?_
        refine Ops.sg 1 4 ?_
        refine Ops.dn ?_
        refine seqQ.n ?_
        refine Wp.block' 1 [4] 1 (by kernel_rfl) ?_
        have hLx18 : ∀ (kx8 : Nat) (v6 : Int)  (ox7 : Bool ⊕ (Int)), iter (fun (y : Int) => f19_B1 m K a0 a1 y) kx8 v6 = some ox7 → ∀ nx9, kx8 ≤ nx9 → (∀ r, ox7 = .inl r → ∀ σ, RetOk (X19 n) (resOf Proofs.Tryd.prog 19) (eB r) σ → (seqQ (X19 n) p19_0 (sqQ (X19 n) [1, 2, 4] 1 (sqQ (X19 n) [1, 2, 4] 1 (blkQ (X19 n) 0 [1, 2, 4] 1 (seqQ (X19 n) (cR (cR C19)) (fnQ (X19 n).E.T (resOf Proofs.Tryd.prog 19) (eB o))))))) .ret σ) → (∀ (y : Int) , ox7 = .inr y → (seqQ (X19 n) p19_0 (sqQ (X19 n) [1, 2, 4] 1 (sqQ (X19 n) [1, 2, 4] 1 (blkQ (X19 n) 0 [1, 2, 4] 1 (seqQ (X19 n) (cR (cR C19)) (fnQ (X19 n).E.T (resOf Proofs.Tryd.prog 19) (eB o))))))) .normal ⟨q1 ((dP eI a1) :: q2 ((dB false) :: q17 ((dP eI a0.fLabels) :: (dI (a0.fLabels.length : Int)) :: (dI y) :: q40 (q31 [])))), [(b19_0 a0)]⟩) → Lp (X19 n) [1, 4, 22, 23, 24] 1 (cL (cL (cR (cL (cR (cL (cR (cR (cR (cL (cR (cL (cR C19))))))))))))) nx9 ⟨q1 ((dP eI a1) :: q2 ((dB false) :: q17 ((dP eI a0.fLabels) :: (dI (a0.fLabels.length : Int)) :: (dI v6) :: q40 (q31 [])))), [(b19_0 a0)]⟩ (blkQ (X19 n) 1 [4] 1 (seqQ (X19 n) p19_0 (sqQ (X19 n) [1, 2, 4] 1 (sqQ (X19 n) [1, 2, 4] 1 (blkQ (X19 n) 0 [1, 2, 4] 1 (seqQ (X19 n) (cR (cR C19)) (fnQ (X19 n).E.T (resOf Proofs.Tryd.prog 19) (eB o)))))))) := by
          intro kx8
          induction kx8 with
          | zero => intro v6  ox7 h; exact (iter_zero h).elim
          | succ kx8 ihx10 =>
            intro v6  ox7 h nx9 hnx13 hrx11 hxx12
            obtain ⟨nx9, rfl⟩ : ∃ q, nx9 = q + 1 := ⟨nx9 - 1, by omega⟩
            obtain ⟨sx14, h, hsx15⟩ := iter_some h
            have h : f19_B1 m K a0 a1 v6 = some sx14 := h
            unfold f19_B1 at h
            refine Lp.succ ?_
            refine Wp.sq ?_
            refine Wp.rg ?_
            refine Ops.sg 1 1 ?_
            refine Ops.dn ?_
            refine seqQ.n ?_
            refine Wp.sq ?_
            refine Wp.cnd h [1, 4, 22, 23, 24] 1 (by kernel_rfl) (fun h => ?_) (fun h => ?_)
            · refine Wp.sk ?_
              refine sqQ.n' ?_
              refine seqQ.n ?_
              refine Wp.sq ?_
              refine Wp.block' 2 [1, 4, 22, 23, 24] 1 (by kernel_rfl) ?_
              refine Wp.sq ?_
              refine Wp.rg ?_
              obtain ⟨v16, ev16, h⟩ := bnd_some h
              refine Ops.on 1 (fun h0 e0 => (ix_r (T := T) h0 22 3 1 .plain eI a0.fLabels v6 v16 ev16 (by kernel_rfl) (by kernel_rfl) (fun _ => rfl))) ?_
              refine Ops.sg 2 3 ?_
              refine Ops.dn ?_
              refine seqQ.n ?_
              refine Wp.sq ?_
              refine Wp.rg ?_
              refine Ops.sg 2 2 ?_
              obtain ⟨v17, ev17, h⟩ := bnd_some h
              refine Ops.on 3 (fun h0 e0 => (ix_r (T := T) h0 22 3 1 .plain eI a1 0 v17 ev17 (by kernel_rfl) (by kernel_rfl) (fun _ => rfl))) ?_
              refine Ops.sg 2 5 ?_
              refine Ops.dn ?_
              refine seqQ.n ?_
              refine Wp.cnd h [1, 4, 22, 23, 24] 1 (by kernel_rfl) (fun h => ?_) (fun h => ?_)
              · refine Wp.sq ?_
                refine Wp.rg ?_
                refine Ops.sg 1 1 ?_
                refine Ops.dn ?_
                refine seqQ.n ?_
                refine Wp.ret (by kernel_rfl) ?_
                refine sqQ.r ?_
                refine blkQ.r ?_
                refine seqQ.r ?_
                cases h
                refine lpQ.r ?_
                refine blkQ.r ?_
                exact hrx11 _ hsx15 _ (RetOk.forget [1, 4, 22, 23, 24] (by kernel_rfl) (RetOk.mk' (dB true) (by kernel_rfl) (by kernel_rfl)))
              · refine Wp.sk ?_
                refine sqQ.n' ?_
                refine blkQ.n' ?_
                refine seqQ.n ?_
                refine Wp.rg ?_
                refine Ops.sg 2 2 ?_
                refine Ops.dn ?_
                refine lpQ.n ⟨q1 ((dP eI a1) :: q2 ((dB false) :: q17 ((dP eI a0.fLabels) :: (dI (a0.fLabels.length : Int)) :: (dI (w64 (v6 + 1))) :: q40 (q31 [])))), [(b19_0 a0)]⟩ (by kernel_rfl) ?_
                cases h
                exact ihx10 (w64 (v6 + 1))  _ hsx15 _ (by omega) hrx11 hxx12
            · refine Wp.exit (id := 1) (by kernel_rfl) ?_
              refine sqQ.x ?_
              refine seqQ.x ?_
              cases h
              refine lpQ.x ?_
              refine blkQ.x ⟨q1 ((dP eI a1) :: q2 ((dB false) :: q17 ((dP eI a0.fLabels) :: (dI (a0.fLabels.length : Int)) :: (dI v6) :: q40 (q31 [])))), [(b19_0 a0)]⟩ (by kernel_rfl) ?_
              exact hxx12 v6  hsx15
        refine Wp.loop' [1, 4, 22, 23, 24] 1 (by kernel_rfl) ⟨q1 ((dP eI a1) :: q2 ((dB false) :: q17 ((dP eI a0.fLabels) :: (dI (a0.fLabels.length : Int)) :: (dI 0) :: q40 (q31 [])))), [(b19_0 a0)]⟩ (by kernel_rfl) ?_
        rcases brk_some h with ⟨r20, er20, h⟩ | ⟨y19, ey19, h⟩
        · refine hLx18 _ 0  _ er20 n (by omega) (fun r er σ hσ => ?_) (fun y  ey => by cases ey)
          cases er
          refine seqQ.r ?_
          refine sqQ.r ?_
          refine sqQ.r ?_
          refine blkQ.r ?_
          refine seqQ.r ?_
          exact fnQ.r' (X19 n) (fun z => (eB z)) h hσ
        · refine hLx18 _ 0  _ ey19 n (by omega) (fun r er => by cases er) (fun y  ey => ?_)
          cases ey
          refine seqQ.n ?_
          refine Wp.sq ?_
          refine Wp.rg ?_
          refine Ops.sg 1 1 ?_
          refine Ops.dn ?_
          refine seqQ.n ?_
          refine Wp.ret (by kernel_rfl) ?_
          refine sqQ.r ?_
          refine sqQ.r ?_
          refine blkQ.r ?_
          refine seqQ.r ?_
          exact fnQ.r' (X19 n) (fun z => (eB z)) h (RetOk.mk' (dB false) (by kernel_rfl) (by kernel_rfl))
    · refine Wp.sq ?_
      refine Wp.rg ?_
      refine Ops.sg 2 2 ?_
      refine Ops.dn ?_
      refine seqQ.n ?_
      refine Wp.cnd h [1, 2, 4] 1 (by kernel_rfl) (fun h => ?_) (fun h => ?_)
      · refine Wp.sq ?_
        refine Wp.rg ?_
        refine Ops.sg 3 3 ?_
        obtain ⟨v21, ev21, h⟩ := bnd_some h
        refine Ops.on 4 (fun h0 e0 => (call_ok (E' := EG) (h := h0) (by kernel_rfl) (Args.v (vP ep24 a0.fSubs) ((eL ep24) a0.fSubs) (by kernel_rfl) (Args.v (vP eI a1) ((eL eI) a1) (by kernel_rfl) Args.nil)) (hK.ok35 a0.fSubs a1 v21 ev21 n (by omega)))) ?_
        refine Ops.sg 1 5 ?_
        refine Ops.dn ?_
        refine seqQ.n ?_
        refine Wp.ret (by kernel_rfl) ?_
        refine sqQ.r ?_
        refine sqQ.r ?_
        refine sqQ.r ?_
        refine blkQ.r ?_
        refine seqQ.r ?_
        exact fnQ.r' (X19 n) (fun z => (eB z)) h (RetOk.mk' (dB v21) (by kernel_rfl) (by kernel_rfl))
      · refine Wp.sq ?_
        refine Wp.rg ?_
        refine Ops.sg 2 2 ?_
        refine Ops.dn ?_
        refine seqQ.n ?_
        refine Wp.cnd h [1, 2, 4] 1 (by kernel_rfl) (fun h => ?_) (fun h => ?_)
        · refine Wp.sq ?_
          refine Wp.sq ?_
          refine Wp.rg ?_
          refine Ops.sg 2 2 ?_
          refine Ops.on 3 (fun h0 e0 => (len_r (T := T) h0 23 25 .plain ep24 a0.fSubs (by kernel_rfl))) ?_
          refine Ops.sg 1 4 ?_
          refine Ops.dn ?_
          refine seqQ.n ?_
          refine Wp.block' 3 [4] 1 (by kernel_rfl) ?_
          have hLx39 : ∀ (kx29 : Nat) (v27 : Int)  (ox28 : Bool ⊕ (Int)), iter (fun (y : Int) => f19_B2 m K a0 a1 y) kx29 v27 = some ox28 → ∀ nx30, kx29 ≤ nx30 → (∀ r, ox28 = .inl r → ∀ σ, RetOk (X19 n) (resOf Proofs.Tryd.prog 19) (eB r) σ → (seqQ (X19 n) p19_1 (sqQ (X19 n) [1, 2, 4] 1 (sqQ (X19 n) [1, 2, 4] 1 (sqQ (X19 n) [1, 2, 4] 1 (sqQ (X19 n) [1, 2, 4] 1 (blkQ (X19 n) 0 [1, 2, 4] 1 (seqQ (X19 n) (cR (cR C19)) (fnQ (X19 n).E.T (resOf Proofs.Tryd.prog 19) (eB o))))))))) .ret σ) → (∀ (y : Int) , ox28 = .inr y → (seqQ (X19 n) p19_1 (sqQ (X19 n) [1, 2, 4] 1 (sqQ (X19 n) [1, 2, 4] 1 (sqQ (X19 n) [1, 2, 4] 1 (sqQ (X19 n) [1, 2, 4] 1 (blkQ (X19 n) 0 [1, 2, 4] 1 (seqQ (X19 n) (cR (cR C19)) (fnQ (X19 n).E.T (resOf Proofs.Tryd.prog 19) (eB o))))))))) .normal ⟨q1 ((dP eI a1) :: q2 ((dB false) :: q38 ((dP ep24 a0.fSubs) :: (dI (a0.fSubs.length : Int)) :: (dI y) :: q40 (q10 [])))), [(b19_0 a0)]⟩) → Lp (X19 n) [1, 4, 43, 44, 45] 1 (cL (cL (cR (cL (cL (cR (cR (cR (cR (cR (cR (cR (cL (cR (cL (cR C19)))))))))))))))) nx30 ⟨q1 ((dP eI a1) :: q2 ((dB false) :: q38 ((dP ep24 a0.fSubs) :: (dI (a0.fSubs.length : Int)) :: (dI v27) :: q40 (q10 [])))), [(b19_0 a0)]⟩ (blkQ (X19 n) 3 [4] 1 (seqQ (X19 n) p19_1 (sqQ (X19 n) [1, 2, 4] 1 (sqQ (X19 n) [1, 2, 4] 1 (sqQ (X19 n) [1, 2, 4] 1 (sqQ (X19 n) [1, 2, 4] 1 (blkQ (X19 n) 0 [1, 2, 4] 1 (seqQ (X19 n) (cR (cR C19)) (fnQ (X19 n).E.T (resOf Proofs.Tryd.prog 19) (eB o)))))))))) := by
            intro kx29
            induction kx29 with
            | zero => intro v27  ox28 h; exact (iter_zero h).elim
            | succ kx29 ihx31 =>
              intro v27  ox28 h nx30 hnx34 hrx32 hxx33
              obtain ⟨nx30, rfl⟩ : ∃ q, nx30 = q + 1 := ⟨nx30 - 1, by omega⟩
              obtain ⟨sx35, h, hsx36⟩ := iter_some h
              have h : f19_B2 m K a0 a1 v27 = some sx35 := h
              unfold f19_B2 at h
              refine Lp.succ ?_
              refine Wp.sq ?_
              refine Wp.rg ?_
              refine Ops.sg 1 1 ?_
              refine Ops.dn ?_
              refine seqQ.n ?_
              refine Wp.sq ?_
              refine Wp.cnd h [1, 4, 43, 44, 45] 1 (by kernel_rfl) (fun h => ?_) (fun h => ?_)
              · refine Wp.sk ?_
                refine sqQ.n' ?_
                refine seqQ.n ?_
                refine Wp.sq ?_
                refine Wp.block' 4 [1, 4, 43, 44, 45] 1 (by kernel_rfl) ?_
                refine Wp.sq ?_
                refine Wp.rg ?_
                obtain ⟨v37, ev37, h⟩ := bnd_some h
                refine Ops.on 1 (fun h0 e0 => (ixb24 (ix_r (T := T) h0 23 25 5 .plain ep24 a0.fSubs v27 v37 ev37 (by kernel_rfl) (by kernel_rfl) ep24_len))) ?_
                refine Ops.sg 3 4 ?_
                refine Ops.dn ?_
                refine seqQ.n ?_
                refine Wp.sq ?_
                refine Wp.rg ?_
                refine Ops.sg 2 2 ?_
                obtain ⟨v38, ev38, h⟩ := bnd_some h
                refine Ops.on 3 (fun h0 e0 => (call_ok (E' := EG) (h := h0) (by kernel_rfl) (Args.v (.agg [(vI v37.vw.fKind), (vP eI v37.vw.fLabels), (vP ep24 v37.vw.fSubs), (vI v37.vw.fLeast), (vI v37.vw.fMost)]) (e24 v37.vw) (by kernel_rfl) (Args.v (vP eI a1) ((eL eI) a1) (by kernel_rfl) Args.nil)) (hK.ok19 v37.vw a1 v38 ev38 n (by omega)))) ?_
                refine Ops.dn ?_
                refine seqQ.n ?_
                refine Wp.cnd h [1, 4, 43, 44, 45] 2 (by kernel_rfl) (fun h => ?_) (fun h => ?_)
                · refine Wp.sq ?_
                  refine Wp.rg ?_
                  refine Ops.sg 1 1 ?_
                  refine Ops.dn ?_
                  refine seqQ.n ?_
                  refine Wp.ret (by kernel_rfl) ?_
                  refine sqQ.r ?_
                  refine blkQ.r ?_
                  refine seqQ.r ?_
                  cases h
                  refine lpQ.r ?_
                  refine blkQ.r ?_
                  exact hrx32 _ hsx36 _ (RetOk.forget [1, 4, 43, 44, 45] (by kernel_rfl) (RetOk.mk' (dB true) (by kernel_rfl) (by kernel_rfl)))
                · refine Wp.sk ?_
                  refine sqQ.n' ?_
                  refine blkQ.n' ?_
                  refine seqQ.n ?_
                  refine Wp.rg ?_
                  refine Ops.sg 2 2 ?_
                  refine Ops.dn ?_
                  refine lpQ.n ⟨q1 ((dP eI a1) :: q2 ((dB false) :: q38 ((dP ep24 a0.fSubs) :: (dI (a0.fSubs.length : Int)) :: (dI (w64 (v27 + 1))) :: q40 (q10 [])))), [(b19_0 a0)]⟩ (by kernel_rfl) ?_
                  cases h
                  exact ihx31 (w64 (v27 + 1))  _ hsx36 _ (by omega) hrx32 hxx33
              · refine Wp.exit (id := 3) (by kernel_rfl) ?_
                refine sqQ.x ?_
                refine seqQ.x ?_
                cases h
                refine lpQ.x ?_
                refine blkQ.x ⟨q1 ((dP eI a1) :: q2 ((dB false) :: q38 ((dP ep24 a0.fSubs) :: (dI (a0.fSubs.length : Int)) :: (dI v27) :: q40 (q10 [])))), [(b19_0 a0)]⟩ (by kernel_rfl) ?_
                exact hxx33 v27  hsx36
          refine Wp.loop' [1, 4, 43, 44, 45] 1 (by kernel_rfl) ⟨q1 ((dP eI a1) :: q2 ((dB false) :: q38 ((dP ep24 a0.fSubs) :: (dI (a0.fSubs.length : Int)) :: (dI 0) :: q40 (q10 [])))), [(b19_0 a0)]⟩ (by kernel_rfl) ?_
          rcases brk_some h with ⟨r41, er41, h⟩ | ⟨y40, ey40, h⟩
          · refine hLx39 _ 0  _ er41 n (by omega) (fun r er σ hσ => ?_) (fun y  ey => by cases ey)
            cases er
            refine seqQ.r ?_
            refine sqQ.r ?_
            refine sqQ.r ?_
            refine sqQ.r ?_
            refine sqQ.r ?_
            refine blkQ.r ?_
            refine seqQ.r ?_
            exact fnQ.r' (X19 n) (fun z => (eB z)) h hσ
          · refine hLx39 _ 0  _ ey40 n (by omega) (fun r er => by cases er) (fun y  ey => ?_)
            cases ey
            refine seqQ.n ?_
            refine Wp.sq ?_
            refine Wp.rg ?_
            refine Ops.sg 1 1 ?_
            refine Ops.dn ?_
            refine seqQ.n ?_
            refine Wp.ret (by kernel_rfl) ?_
            refine sqQ.r ?_
            refine sqQ.r ?_
            refine sqQ.r ?_
            refine sqQ.r ?_
            refine blkQ.r ?_
            refine seqQ.r ?_
            exact fnQ.r' (X19 n) (fun z => (eB z)) h (RetOk.mk' (dB false) (by kernel_rfl) (by kernel_rfl))
        · refine Wp.sq ?_
          refine Wp.rg ?_
          refine Ops.sg 2 2 ?_
          refine Ops.dn ?_
          refine seqQ.n ?_
          refine Wp.cnd h [1, 2, 4] 1 (by kernel_rfl) (fun h => ?_) (fun h => ?_)
          · refine Wp.sq ?_
            refine Wp.rg ?_
            refine Ops.sg 2 2 ?_
            obtain ⟨v42, ev42, h⟩ := bnd_some h
            refine Ops.on 3 (fun h0 e0 => (ixb24 (ix_r (T := T) h0 23 25 5 .plain ep24 a0.fSubs 0 v42 ev42 (by kernel_rfl) (by kernel_rfl) ep24_len))) ?_
            refine Ops.sg 2 5 ?_
            obtain ⟨v43, ev43, h⟩ := bnd_some h
            refine Ops.on 6 (fun h0 e0 => (call_ok (E' := EG) (h := h0) (by kernel_rfl) (Args.v (.agg [(vI v42.vw.fKind), (vP eI v42.vw.fLabels), (vP ep24 v42.vw.fSubs), (vI v42.vw.fLeast), (vI v42.vw.fMost)]) (e24 v42.vw) (by kernel_rfl) (Args.v (vP eI a1) ((eL eI) a1) (by kernel_rfl) Args.nil)) (hK.ok19 v42.vw a1 v43 ev43 n (by omega)))) ?_
            refine Ops.sg 1 7 ?_
            refine Ops.hv (fun KQ => ∀ (d46 d47 d48 d49 d50 d51 : D) (v52 : Bool) (v53 : Bool), f19_r3 m K v53 = some o → KQ 14 ⟨(.v (.agg [(vI a0.fKind), (vP eI a0.fLabels), (vP ep24 a0.fSubs), (vI a0.fLeast), (vI a0.fMost)])) :: (dP eI a1) :: (.ptr 0 0) :: u1 ((dB false) :: u4 ((.ptr 0 0) :: (dI a0.fKind) :: (dB (a0.fKind == 1)) :: (dB (a0.fKind == 1)) :: u3 ((dB (a0.fKind == 2)) :: (dB (a0.fKind == 2)) :: u16 ((dB (a0.fKind == 3)) :: (dB (a0.fKind == 3)) :: u4 ((dB (a0.fKind == 4)) :: (dB (a0.fKind == 4)) :: u11 ((dB (a0.fKind == 6)) :: (dB (a0.fKind == 6)) :: (.ptr 0 2) :: (dP ep24 a0.fSubs) :: (.vptr [(vI v42.vw.fKind), (vP eI v42.vw.fLabels), (vP ep24 v42.vw.fSubs), (vI v42.vw.fLeast), (vI v42.vw.fMost)]) :: (.v (.agg [(vI v42.vw.fKind), (vP eI v42.vw.fLabels), (vP ep24 v42.vw.fSubs), (vI v42.vw.fLeast), (vI v42.vw.fMost)])) :: (dP eI a1) :: (dB v52) :: (dB v52) :: d46 :: d47 :: d48 :: d49 :: d50 :: d51 :: (dB v53) :: u27 [])))))), [(b19_0 a0)]⟩) ?_ fun J19j54 => ?_
            · intro d46 d47 d48 d49 d50 d51 v52 v53 h
              unfold f19_r3 at h
              refine Ops.sg 1 15 ?_
              refine Ops.dn ?_
              refine seqQ.n ?_
              refine Wp.ret (by kernel_rfl) ?_
              refine sqQ.r ?_
              refine sqQ.r ?_
              refine sqQ.r ?_
              refine sqQ.r ?_
              refine sqQ.r ?_
              refine blkQ.r ?_
              refine seqQ.r ?_
              exact fnQ.r' (X19 n) (fun z => (eB z)) h (RetOk.mk' (dB v53) (by kernel_rfl) (by kernel_rfl))
            obtain ⟨v53, ev53, h⟩ := bnd_some h
            refine Ops.hv (fun KQ => ∀ v44 : Bool, (cnd v44 (bnd (idx a0.fSubs 1) fun v55 => bnd (K.r19 v55.vw a1) fun v56 => some v56) (some false)) = some v53 → KQ 7 ⟨(.v (.agg [(vI a0.fKind), (vP eI a0.fLabels), (vP ep24 a0.fSubs), (vI a0.fLeast), (vI a0.fMost)])) :: (dP eI a1) :: (.ptr 0 0) :: u1 ((dB false) :: u4 ((.ptr 0 0) :: (dI a0.fKind) :: (dB (a0.fKind == 1)) :: (dB (a0.fKind == 1)) :: u3 ((dB (a0.fKind == 2)) :: (dB (a0.fKind == 2)) :: u16 ((dB (a0.fKind == 3)) :: (dB (a0.fKind == 3)) :: u4 ((dB (a0.fKind == 4)) :: (dB (a0.fKind == 4)) :: u11 ((dB (a0.fKind == 6)) :: (dB (a0.fKind == 6)) :: (.ptr 0 2) :: (dP ep24 a0.fSubs) :: (.vptr [(vI v42.vw.fKind), (vP eI v42.vw.fLabels), (vP ep24 v42.vw.fSubs), (vI v42.vw.fLeast), (vI v42.vw.fMost)]) :: (.v (.agg [(vI v42.vw.fKind), (vP eI v42.vw.fLabels), (vP ep24 v42.vw.fSubs), (vI v42.vw.fLeast), (vI v42.vw.fMost)])) :: (dP eI a1) :: (dB v44) :: (dB v44) :: u34 [])))))), [(b19_0 a0)]⟩) ?_ fun G19g45 => Ops.st _ (by kernel_rfl) (G19g45 v43 ev53)
            intro v44 ev53
            cases v44
            · have ev53 := cnd_f ev53
              refine Ops.sg 7 14 ?_
              exact Ops.st _ (by kernel_rfl) (J19j54 U U U U U U false false (some_sub (fun v53 => f19_r3 m K v53 = some o) ev53 h))
            · have ev53 := cnd_t ev53
              refine Ops.sg 2 9 ?_
              obtain ⟨v55, ev55, ev53⟩ := bnd_some ev53
              refine Ops.on 10 (fun h0 e0 => (ixb24 (ix_r (T := T) h0 23 25 5 .plain ep24 a0.fSubs 1 v55 ev55 (by kernel_rfl) (by kernel_rfl) ep24_len))) ?_
              refine Ops.sg 2 12 ?_
              obtain ⟨v56, ev56, ev53⟩ := bnd_some ev53
              refine Ops.on 13 (fun h0 e0 => (call_ok (E' := EG) (h := h0) (by kernel_rfl) (Args.v (.agg [(vI v55.vw.fKind), (vP eI v55.vw.fLabels), (vP ep24 v55.vw.fSubs), (vI v55.vw.fLeast), (vI v55.vw.fMost)]) (e24 v55.vw) (by kernel_rfl) (Args.v (vP eI a1) ((eL eI) a1) (by kernel_rfl) Args.nil)) (hK.ok19 v55.vw a1 v56 ev56 n (by omega)))) ?_
              refine Ops.sg 1 14 ?_
              exact Ops.st _ (by kernel_rfl) (J19j54 (.ptr 0 2) (dP ep24 a0.fSubs) ((.vptr [(vI v55.vw.fKind), (vP eI v55.vw.fLabels), (vP ep24 v55.vw.fSubs), (vI v55.vw.fLeast), (vI v55.vw.fMost)])) ((.v (.agg [(vI v55.vw.fKind), (vP eI v55.vw.fLabels), (vP ep24 v55.vw.fSubs), (vI v55.vw.fLeast), (vI v55.vw.fMost)]))) (dP eI a1) (dB v56) true v56 (some_sub (fun v53 => f19_r3 m K v53 = some o) ev53 h))
          · refine Wp.sq ?_
            refine Wp.rg ?_
            refine Ops.sg 2 2 ?_
            refine Ops.dn ?_
            refine seqQ.n ?_
            refine Wp.cnd h [1, 2, 4] 1 (by kernel_rfl) (fun h => ?_) (fun h => ?_)
            · refine Wp.sq ?_
              refine Wp.rg ?_
              refine Ops.sg 2 2 ?_
              obtain ⟨v57, ev57, h⟩ := bnd_some h
              refine Ops.on 3 (fun h0 e0 => (ixb24 (ix_r (T := T) h0 23 25 5 .plain ep24 a0.fSubs 0 v57 ev57 (by kernel_rfl) (by kernel_rfl) ep24_len))) ?_
              refine Ops.sg 2 5 ?_
              obtain ⟨v58, ev58, h⟩ := bnd_some h
              refine Ops.on 6 (fun h0 e0 => (call_ok (E' := EG) (h := h0) (by kernel_rfl) (Args.v (.agg [(vI v57.vw.fKind), (vP eI v57.vw.fLabels), (vP ep24 v57.vw.fSubs), (vI v57.vw.fLeast), (vI v57.vw.fMost)]) (e24 v57.vw) (by kernel_rfl) (Args.v (vP eI a1) ((eL eI) a1) (by kernel_rfl) Args.nil)) (hK.ok19 v57.vw a1 v58 ev58 n (by omega)))) ?_
              refine Ops.sg 1 7 ?_
              refine Ops.hv (fun KQ => ∀ (d61 d62 d63 d64 d65 d66 d67 : D) (v68 : Bool) (v69 : Bool), f19_r4 m K v69 = some o → KQ 15 ⟨(.v (.agg [(vI a0.fKind), (vP eI a0.fLabels), (vP ep24 a0.fSubs), (vI a0.fLeast), (vI a0.fMost)])) :: (dP eI a1) :: (.ptr 0 0) :: u1 ((dB false) :: u4 ((.ptr 0 0) :: (dI a0.fKind) :: (dB (a0.fKind == 1)) :: (dB (a0.fKind == 1)) :: u3 ((dB (a0.fKind == 2)) :: (dB (a0.fKind == 2)) :: u16 ((dB (a0.fKind == 3)) :: (dB (a0.fKind == 3)) :: u4 ((dB (a0.fKind == 4)) :: (dB (a0.fKind == 4)) :: u11 ((dB (a0.fKind == 6)) :: (dB (a0.fKind == 6)) :: u14 ((dB (a0.fKind == 7)) :: (dB (a0.fKind == 7)) :: (.ptr 0 2) :: (dP ep24 a0.fSubs) :: (.vptr [(vI v57.vw.fKind), (vP eI v57.vw.fLabels), (vP ep24 v57.vw.fSubs), (vI v57.vw.fLeast), (vI v57.vw.fMost)]) :: (.v (.agg [(vI v57.vw.fKind), (vP eI v57.vw.fLabels), (vP ep24 v57.vw.fSubs), (vI v57.vw.fLeast), (vI v57.vw.fMost)])) :: (dP eI a1) :: (dB v68) :: (dB v68) :: d61 :: d62 :: d63 :: d64 :: d65 :: d66 :: d67 :: (dB v69) :: u10 []))))))), [(b19_0 a0)]⟩) ?_ fun J19j70 => ?_
              · intro d61 d62 d63 d64 d65 d66 d67 v68 v69 h
                unfold f19_r4 at h
                refine Ops.sg 1 16 ?_
                refine Ops.dn ?_
                refine seqQ.n ?_
                refine Wp.ret (by kernel_rfl) ?_
                refine sqQ.r ?_
                refine sqQ.r ?_
                refine sqQ.r ?_
                refine sqQ.r ?_
                refine sqQ.r ?_
                refine sqQ.r ?_
                refine blkQ.r ?_
                refine seqQ.r ?_
                exact fnQ.r' (X19 n) (fun z => (eB z)) h (RetOk.mk' (dB v69) (by kernel_rfl) (by kernel_rfl))
              obtain ⟨v69, ev69, h⟩ := bnd_some h
              refine Ops.hv (fun KQ => ∀ v59 : Bool, (cnd v59 (bnd (idx a0.fSubs 1) fun v71 => bnd (K.r19 v71.vw a1) fun v72 => some (!v72)) (some false)) = some v69 → KQ 7 ⟨(.v (.agg [(vI a0.fKind), (vP eI a0.fLabels), (vP ep24 a0.fSubs), (vI a0.fLeast), (vI a0.fMost)])) :: (dP eI a1) :: (.ptr 0 0) :: u1 ((dB false) :: u4 ((.ptr 0 0) :: (dI a0.fKind) :: (dB (a0.fKind == 1)) :: (dB (a0.fKind == 1)) :: u3 ((dB (a0.fKind == 2)) :: (dB (a0.fKind == 2)) :: u16 ((dB (a0.fKind == 3)) :: (dB (a0.fKind == 3)) :: u4 ((dB (a0.fKind == 4)) :: (dB (a0.fKind == 4)) :: u11 ((dB (a0.fKind == 6)) :: (dB (a0.fKind == 6)) :: u14 ((dB (a0.fKind == 7)) :: (dB (a0.fKind == 7)) :: (.ptr 0 2) :: (dP ep24 a0.fSubs) :: (.vptr [(vI v57.vw.fKind), (vP eI v57.vw.fLabels), (vP ep24 v57.vw.fSubs), (vI v57.vw.fLeast), (vI v57.vw.fMost)]) :: (.v (.agg [(vI v57.vw.fKind), (vP eI v57.vw.fLabels), (vP ep24 v57.vw.fSubs), (vI v57.vw.fLeast), (vI v57.vw.fMost)])) :: (dP eI a1) :: (dB v59) :: (dB v59) :: u18 []))))))), [(b19_0 a0)]⟩) ?_ fun G19g60 => Ops.st _ (by kernel_rfl) (G19g60 v58 ev69)
              intro v59 ev69
              cases v59
              · have ev69 := cnd_f ev69
                refine Ops.sg 8 15 ?_
                exact Ops.st _ (by kernel_rfl) (J19j70 U U U U U U U false false (some_sub (fun v69 => f19_r4 m K v69 = some o) ev69 h))
              · have ev69 := cnd_t ev69
                refine Ops.sg 2 9 ?_
                obtain ⟨v71, ev71, ev69⟩ := bnd_some ev69
                refine Ops.on 10 (fun h0 e0 => (ixb24 (ix_r (T := T) h0 23 25 5 .plain ep24 a0.fSubs 1 v71 ev71 (by kernel_rfl) (by kernel_rfl) ep24_len))) ?_
                refine Ops.sg 2 12 ?_
                obtain ⟨v72, ev72, ev69⟩ := bnd_some ev69
                refine Ops.on 13 (fun h0 e0 => (call_ok (E' := EG) (h := h0) (by kernel_rfl) (Args.v (.agg [(vI v71.vw.fKind), (vP eI v71.vw.fLabels), (vP ep24 v71.vw.fSubs), (vI v71.vw.fLeast), (vI v71.vw.fMost)]) (e24 v71.vw) (by kernel_rfl) (Args.v (vP eI a1) ((eL eI) a1) (by kernel_rfl) Args.nil)) (hK.ok19 v71.vw a1 v72 ev72 n (by omega)))) ?_
                refine Ops.sg 2 15 ?_
                exact Ops.st _ (by kernel_rfl) (J19j70 (.ptr 0 2) (dP ep24 a0.fSubs) ((.vptr [(vI v71.vw.fKind), (vP eI v71.vw.fLabels), (vP ep24 v71.vw.fSubs), (vI v71.vw.fLeast), (vI v71.vw.fMost)])) ((.v (.agg [(vI v71.vw.fKind), (vP eI v71.vw.fLabels), (vP ep24 v71.vw.fSubs), (vI v71.vw.fLeast), (vI v71.vw.fMost)]))) (dP eI a1) (dB v72) (dB (!v72)) true (!v72) (some_sub (fun v69 => f19_r4 m K v69 = some o) ev69 h))
            · refine Wp.sk ?_
              refine sqQ.n' ?_
              refine sqQ.n' ?_
              refine sqQ.n' ?_
              refine sqQ.n' ?_
              refine sqQ.n' ?_
              refine sqQ.n' ?_
              refine blkQ.n' ?_
              refine seqQ.n ?_
              refine Wp.sq ?_
              refine Wp.rg ?_
              refine Ops.sg 2 2 ?_
              obtain ⟨v73, ev73, h⟩ := bnd_some h
              refine Ops.on 3 (fun h0 e0 => (ixb24 (ix_r (T := T) h0 23 25 5 .plain ep24 a0.fSubs 0 v73 ev73 (by kernel_rfl) (by kernel_rfl) ep24_len))) ?_
              refine Ops.sg 6 9 ?_
              obtain ⟨v74, ev74, h⟩ := bnd_some h
              refine Ops.on 10 (fun h0 e0 => (call_ok (E' := EG) (h := h0) (by kernel_rfl) (Args.v (.agg [(vI v73.vw.fKind), (vP eI v73.vw.fLabels), (vP ep24 v73.vw.fSubs), (vI v73.vw.fLeast), (vI v73.vw.fMost)]) (e24 v73.vw) (by kernel_rfl) (Args.v (vI a0.fLeast) (eI a0.fLeast) (by kernel_rfl) (Args.v (vI a0.fMost) (eI a0.fMost) (by kernel_rfl) (Args.v (vP eI a1) ((eL eI) a1) (by kernel_rfl) Args.nil)))) (hK.ok36 v73.vw a0.fLeast a0.fMost a1 v74 ev74 n (by omega)))) ?_
              refine Ops.seg 1 11 (by kernel_rfl) ⟨(.v (.agg [(vI a0.fKind), (vP eI a0.fLabels), (vP ep24 a0.fSubs), (vI a0.fLeast), (vI a0.fMost)])) :: (dP eI a1) :: (.ptr 0 0) :: u1 ((dB v74) :: u4 ((.ptr 0 0) :: (dI a0.fKind) :: (dB (a0.fKind == 1)) :: (dB (a0.fKind == 1)) :: u3 ((dB (a0.fKind == 2)) :: (dB (a0.fKind == 2)) :: u16 ((dB (a0.fKind == 3)) :: (dB (a0.fKind == 3)) :: u4 ((dB (a0.fKind == 4)) :: (dB (a0.fKind == 4)) :: u11 ((dB (a0.fKind == 6)) :: (dB (a0.fKind == 6)) :: u14 ((dB (a0.fKind == 7)) :: (dB (a0.fKind == 7)) :: u15 ((.ptr 0 2) :: (dP ep24 a0.fSubs) :: (.vptr [(vI v73.vw.fKind), (vP eI v73.vw.fLabels), (vP ep24 v73.vw.fSubs), (vI v73.vw.fLeast), (vI v73.vw.fMost)]) :: (.v (.agg [(vI v73.vw.fKind), (vP eI v73.vw.fLabels), (vP ep24 v73.vw.fSubs), (vI v73.vw.fLeast), (vI v73.vw.fMost)])) :: (.ptr 0 3) :: (dI a0.fLeast) :: (.ptr 0 4) :: (dI a0.fMost) :: (dP eI a1) :: (dB v74) :: [])))))))), [(b19_0 a0)]⟩ (by kernel_rfl) ?_
              refine Ops.dn ?_
              refine seqQ.n ?_
              refine Wp.ret (by kernel_rfl) ?_
              exact fnQ.r' (X19 n) (fun z => (eB z)) h (RetOk.mk' (dB v74) (by kernel_rfl) (by kernel_rfl))
noncomputable def f35_r1 (m : Nat) (K : Rec19) (v38 : Int) (v60 : Bool) : Option (Stp Bool (Int)) :=
  cnd v60
  (some (.ret true))
  (some (.nxt (w64 (v38 + 1))))
noncomputable def f35_B2 (m : Nat) (K : Rec19) (a0 : (List P24)) (a1 : (List Int)) (v38 : Int) : Option (Stp Bool (Int)) :=
  cnd (decide (v38 ≤ (a1.length : Int)))
  (bnd (idx a0 0) fun v48 =>
  bnd (sub a1 0 v38) fun v49 =>
  bnd (K.r19 v48.vw v49) fun v50 =>
  bnd (cnd v50
  (bnd (sub a0 1 (a0.length : Int)) fun v62 =>
  bnd (sub a1 v38 (a1.length : Int)) fun v63 =>
  bnd (K.r35 v62 v63) fun v64 =>
  some v64)
  (some false)) fun v60 =>
  f35_r1 m K v38 v60)
  (some (.brk v38))
noncomputable def b35 (m : Nat) (K : Rec19) (a0 : (List P24)) (a1 : (List Int)) : Option Bool :=
  cnd ((a0.length : Int) == 1)
  (bnd (idx a0 0) fun v1 =>
  bnd (K.r19 v1.vw a1) fun v2 =>
  some v2)
  (brk (iter (fun (y : Int) => f35_B2 m K a0 a1 y) m 0) some fun y66 =>
  some false)
noncomputable abbrev X35 (n : Nat) : Cx := cxOf Proofs.Tryd.prog EG 35 n
noncomputable def C35 : Code := bodyOf Proofs.Tryd.prog 35
theorem okb35 (m : Nat) (K : Rec19) (nn : Nat) (hK : OkRec19 m K nn) (a0 : (List P24)) (a1 : (List Int)) (o : Bool) (h : b35 m K a0 a1 = some o) (n : Nat) (hn : m + 1 ≤ n) (hk : nn + 1 ≤ n) : Fn Proofs.Tryd.prog EG n 35 [.v ((eL ep24) a0), .v ((eL eI) a1)] (eB o) := by
  obtain ⟨n, rfl⟩ : ∃ q, n = q + 1 := ⟨n - 1, by omega⟩
  unfold b35 at h
  refine Fn.of (by kernel_rfl) (by kernel_rfl) (by kernel_rfl) ⟨(dP ep24 a0) :: (dP eI a1) :: u33 [], []⟩ (by kernel_rfl) ?_
  refine Wp.sq ?_
  refine Wp.rg ?_
  refine Ops.sg 1 1 ?_
  refine Ops.dn ?_
  refine seqQ.n ?_
  refine Wp.sq ?_
  refine Wp.sq ?_
  refine Wp.rg ?_
  refine Ops.sg 1 1 ?_
  refine Ops.on 2 (fun h0 e0 => (len_r (T := T) h0 23 25 .plain ep24 a0 (by kernel_rfl))) ?_
  refine Ops.sg 1 3 ?_
  refine Ops.dn ?_
  refine seqQ.n ?_
  refine Wp.cnd h [0, 1, 4] 0 (by kernel_rfl) (fun h => ?_) (fun h => ?_)
  · refine Wp.sq ?_
    refine Wp.rg ?_
    refine Ops.sg 1 1 ?_
    obtain ⟨v1, ev1, h⟩ := bnd_some h
    refine Ops.on 2 (fun h0 e0 => (ixb24 (ix_r (T := T) h0 23 25 5 .plain ep24 a0 0 v1 ev1 (by kernel_rfl) (by kernel_rfl) ep24_len))) ?_
    refine Ops.sg 2 4 ?_
    obtain ⟨v2, ev2, h⟩ := bnd_some h
    refine Ops.on 5 (fun h0 e0 => (call_ok (E' := EG) (h := h0) (by kernel_rfl) (Args.v (.agg [(vI v1.vw.fKind), (vP eI v1.vw.fLabels), (vP ep24 v1.vw.fSubs), (vI v1.vw.fLeast), (vI v1.vw.fMost)]) (e24 v1.vw) (by kernel_rfl) (Args.v (vP eI a1) ((eL eI) a1) (by kernel_rfl) Args.nil)) (hK.ok19 v1.vw a1 v2 ev2 n (by omega)))) ?_
    refine Ops.sg 1 6 ?_
    refine Ops.dn ?_
    refine seqQ.n ?_
    refine Wp.ret (by kernel_rfl) ?_
    refine sqQ.r ?_
    refine seqQ.r ?_
    exact fnQ.r' (X35 n) (fun z => (eB z)) h (RetOk.mk' (dB v2) (by kernel_rfl) (by kernel_rfl))
  · refine Wp.sk ?_
    refine sqQ.n' ?_
    refine seqQ.n ?_
    refine Wp.sq ?_
    refine Wp.sq ?_
    refine Wp.rg ?_
    refine Ops.sg 1 1 ?_
    refine Ops.dn ?_
    refine seqQ.n ?_
    refine Wp.block' 0 [4] 0 (by kernel_rfl) ?_
    have hLx65 : ∀ (kx40 : Nat) (v38 : Int)  (ox39 : Bool ⊕ (Int)), iter (fun (y : Int) => f35_B2 m K a0 a1 y) kx40 v38 = some ox39 → ∀ nx41, kx40 ≤ nx41 → (∀ r, ox39 = .inl r → ∀ σ, RetOk (X35 n) (resOf Proofs.Tryd.prog 35) (eB r) σ → (seqQ (X35 n) (cR (cR (cR C35))) (fnQ (X35 n).E.T (resOf Proofs.Tryd.prog 35) (eB o))) .ret σ) → (∀ (y : Int) , ox39 = .inr y → (seqQ (X35 n) (cR (cR (cR C35))) (fnQ (X35 n).E.T (resOf Proofs.Tryd.prog 35) (eB o))) .normal ⟨(dP ep24 a0) :: (dP eI a1) :: q2 ((dB false) :: (dI y) :: q29 []), []⟩) → Lp (X35 n) [0, 1, 4, 5] 0 (cL (cL (cR (cL (cR (cR C35)))))) nx41 ⟨(dP ep24 a0) :: (dP eI a1) :: q2 ((dB false) :: (dI v38) :: q29 []), []⟩ (blkQ (X35 n) 0 [4] 0 (seqQ (X35 n) (cR (cR (cR C35))) (fnQ (X35 n).E.T (resOf Proofs.Tryd.prog 35) (eB o)))) := by
      intro kx40
      induction kx40 with
      | zero => intro v38  ox39 h; exact (iter_zero h).elim
      | succ kx40 ihx42 =>
        intro v38  ox39 h nx41 hnx45 hrx43 hxx44
        obtain ⟨nx41, rfl⟩ : ∃ q, nx41 = q + 1 := ⟨nx41 - 1, by omega⟩
        obtain ⟨sx46, h, hsx47⟩ := iter_some h
        have h : f35_B2 m K a0 a1 v38 = some sx46 := h
        unfold f35_B2 at h
        refine Lp.succ ?_
        refine Wp.sq ?_
        refine Wp.sq ?_
        refine Wp.rg ?_
        refine Ops.sg 2 2 ?_
        refine Ops.on 3 (fun h0 e0 => (len_r (T := T) h0 22 3 .plain eI a1 (by kernel_rfl))) ?_
        refine Ops.sg 1 4 ?_
        refine Ops.dn ?_
        refine seqQ.n ?_
        refine Wp.cnd h [0, 1, 4, 5] 0 (by kernel_rfl) (fun h => ?_) (fun h => ?_)
        · refine Wp.sk ?_
          refine sqQ.n' ?_
          refine seqQ.n ?_
          refine Wp.sq ?_
          refine Wp.block' 1 [0, 1, 4, 5] 0 (by kernel_rfl) ?_
          refine Wp.sq ?_
          refine Wp.rg ?_
          refine Ops.sg 1 1 ?_
          obtain ⟨v48, ev48, h⟩ := bnd_some h
          refine Ops.on 2 (fun h0 e0 => (ixb24 (ix_r (T := T) h0 23 25 5 .plain ep24 a0 0 v48 ev48 (by kernel_rfl) (by kernel_rfl) ep24_len))) ?_
          refine Ops.sg 3 5 ?_
          obtain ⟨v49, ev49, h⟩ := bnd_some h
          refine Ops.on 6 (fun h0 e0 => (sub_r (T := T) h0 22 3 1 .plain eI a1 v49 none (some v38) rfl ev49 (by kernel_rfl) (by kernel_rfl) (fun _ => rfl))) ?_
          obtain ⟨v50, ev50, h⟩ := bnd_some h
          refine Ops.on 7 (fun h0 e0 => (call_ok (E' := EG) (h := h0) (by kernel_rfl) (Args.v (.agg [(vI v48.vw.fKind), (vP eI v48.vw.fLabels), (vP ep24 v48.vw.fSubs), (vI v48.vw.fLeast), (vI v48.vw.fMost)]) (e24 v48.vw) (by kernel_rfl) (Args.v (vP eI v49) ((eL eI) v49) (by kernel_rfl) Args.nil)) (hK.ok19 v48.vw v49 v50 ev50 n (by omega)))) ?_
          refine Ops.sg 1 8 ?_
          refine Ops.hv (fun KQ => ∀ (d53 d54 d55 d56 d57 d58 : D) (v59 : Bool) (v60 : Bool), f35_r1 m K v38 v60 = some sx46 → KQ 15 ⟨(dP ep24 a0) :: (dP eI a1) :: q2 ((dB false) :: (dI v38) :: q8 ((dI v38) :: (dP eI a1) :: (dI (a1.length : Int)) :: (dB (decide (v38 ≤ (a1.length : Int)))) :: q2 ((dP ep24 a0) :: (.vptr [(vI v48.vw.fKind), (vP eI v48.vw.fLabels), (vP ep24 v48.vw.fSubs), (vI v48.vw.fLeast), (vI v48.vw.fMost)]) :: (.v (.agg [(vI v48.vw.fKind), (vP eI v48.vw.fLabels), (vP ep24 v48.vw.fSubs), (vI v48.vw.fLeast), (vI v48.vw.fMost)])) :: (dP eI a1) :: (dI v38) :: (dP eI v49) :: (dB v59) :: (dB v59) :: d53 :: d54 :: d55 :: d56 :: d57 :: d58 :: (dB v60) :: []))), []⟩) ?_ fun J35j61 => ?_
          · intro d53 d54 d55 d56 d57 d58 v59 v60 h
            unfold f35_r1 at h
            refine Ops.dn ?_
            refine seqQ.n ?_
            refine Wp.cnd h [0, 1, 4, 5] 0 (by kernel_rfl) (fun h => ?_) (fun h => ?_)
            · refine Wp.sq ?_
              refine Wp.rg ?_
              refine Ops.sg 1 1 ?_
              refine Ops.dn ?_
              refine seqQ.n ?_
              refine Wp.ret (by kernel_rfl) ?_
              refine sqQ.r ?_
              refine blkQ.r ?_
              refine seqQ.r ?_
              cases h
              refine lpQ.r ?_
              refine blkQ.r ?_
              exact hrx43 _ hsx47 _ (RetOk.forget [0, 1, 4, 5] (by kernel_rfl) (RetOk.mk' (dB true) (by kernel_rfl) (by kernel_rfl)))
            · refine Wp.sk ?_
              refine sqQ.n' ?_
              refine blkQ.n' ?_
              refine seqQ.n ?_
              refine Wp.rg ?_
              refine Ops.sg 3 3 ?_
              refine Ops.dn ?_
              refine lpQ.n ⟨(dP ep24 a0) :: (dP eI a1) :: q2 ((dB false) :: (dI (w64 (v38 + 1))) :: q29 []), []⟩ (by kernel_rfl) ?_
              cases h
              exact ihx42 (w64 (v38 + 1))  _ hsx47 _ (by omega) hrx43 hxx44
          obtain ⟨v60, ev60, h⟩ := bnd_some h
          refine Ops.hv (fun KQ => ∀ v51 : Bool, (cnd v51 (bnd (sub a0 1 (a0.length : Int)) fun v62 => bnd (sub a1 v38 (a1.length : Int)) fun v63 => bnd (K.r35 v62 v63) fun v64 => some v64) (some false)) = some v60 → KQ 8 ⟨(dP ep24 a0) :: (dP eI a1) :: q2 ((dB false) :: (dI v38) :: q8 ((dI v38) :: (dP eI a1) :: (dI (a1.length : Int)) :: (dB (decide (v38 ≤ (a1.length : Int)))) :: q2 ((dP ep24 a0) :: (.vptr [(vI v48.vw.fKind), (vP eI v48.vw.fLabels), (vP ep24 v48.vw.fSubs), (vI v48.vw.fLeast), (vI v48.vw.fMost)]) :: (.v (.agg [(vI v48.vw.fKind), (vP eI v48.vw.fLabels), (vP ep24 v48.vw.fSubs), (vI v48.vw.fLeast), (vI v48.vw.fMost)])) :: (dP eI a1) :: (dI v38) :: (dP eI v49) :: (dB v51) :: (dB v51) :: q7 []))), []⟩) ?_ fun G35g52 => Ops.st _ (by kernel_rfl) (G35g52 v50 ev60)
          intro v51 ev60
          cases v51
          · have ev60 := cnd_f ev60
            refine Ops.sg 7 15 ?_
            exact Ops.st _ (by kernel_rfl) (J35j61 U U U U U U false false (some_sub (fun v60 => f35_r1 m K v38 v60 = some sx46) ev60 h))
          · have ev60 := cnd_t ev60
            refine Ops.sg 1 9 ?_
            obtain ⟨v62, ev62, ev60⟩ := bnd_some ev60
            refine Ops.on 10 (fun h0 e0 => (sub_r (T := T) h0 23 25 5 .plain ep24 a0 v62 (some 1) none rfl ev62 (by kernel_rfl) (by kernel_rfl) ep24_len)) ?_
            refine Ops.sg 2 12 ?_
            obtain ⟨v63, ev63, ev60⟩ := bnd_some ev60
            refine Ops.on 13 (fun h0 e0 => (sub_r (T := T) h0 22 3 1 .plain eI a1 v63 (some v38) none rfl ev63 (by kernel_rfl) (by kernel_rfl) (fun _ => rfl))) ?_
            obtain ⟨v64, ev64, ev60⟩ := bnd_some ev60
            refine Ops.on 14 (fun h0 e0 => (call_ok (E' := EG) (h := h0) (by kernel_rfl) (Args.v (vP ep24 v62) ((eL ep24) v62) (by kernel_rfl) (Args.v (vP eI v63) ((eL eI) v63) (by kernel_rfl) Args.nil)) (hK.ok35 v62 v63 v64 ev64 n (by omega)))) ?_
            refine Ops.sg 1 15 ?_
            exact Ops.st _ (by kernel_rfl) (J35j61 (dP ep24 a0) (dP ep24 v62) (dP eI a1) (dI v38) (dP eI v63) (dB v64) true v64 (some_sub (fun v60 => f35_r1 m K v38 v60 = some sx46) ev60 h))
        · refine Wp.exit (id := 0) (by kernel_rfl) ?_
          refine sqQ.x ?_
          refine seqQ.x ?_
          cases h
          refine lpQ.x ?_
          refine blkQ.x ⟨(dP ep24 a0) :: (dP eI a1) :: q2 ((dB false) :: (dI v38) :: q29 []), []⟩ (by kernel_rfl) ?_
          exact hxx44 v38  hsx47
    refine Wp.loop' [0, 1, 4, 5] 0 (by kernel_rfl) ⟨(dP ep24 a0) :: (dP eI a1) :: q2 ((dB false) :: (dI 0) :: q29 []), []⟩ (by kernel_rfl) ?_
    rcases brk_some h with ⟨r67, er67, h⟩ | ⟨y66, ey66, h⟩
    · refine hLx65 _ 0  _ er67 n (by omega) (fun r er σ hσ => ?_) (fun y  ey => by cases ey)
      cases er
      refine seqQ.r ?_
      exact fnQ.r' (X35 n) (fun z => (eB z)) h hσ
    · refine hLx65 _ 0  _ ey66 n (by omega) (fun r er => by cases er) (fun y  ey => ?_)
      cases ey
      refine seqQ.n ?_
      refine Wp.sq ?_
      refine Wp.rg ?_
      refine Ops.sg 1 1 ?_
      refine Ops.dn ?_
      refine seqQ.n ?_
      refine Wp.ret (by kernel_rfl) ?_
      exact fnQ.r' (X35 n) (fun z => (eB z)) h (RetOk.mk' (dB false) (by kernel_rfl) (by kernel_rfl))
noncomputable def f36_r1 (m : Nat) (K : Rec19) (v6 : Bool) : Option Bool :=
  some v6
noncomputable def f36_r2 (m : Nat) (K : Rec19) (v52 : Int) (v79 : Bool) : Option (Stp Bool (Int)) :=
  cnd v79
  (some (.ret true))
  (some (.nxt (w64 (v52 + 1))))
noncomputable def f36_j3 (m : Nat) (K : Rec19) (a0 : S24) (a1 : Int) (a3 : (List Int)) (v52 : Int) (v62 : Int) : Option (Stp Bool (Int)) :=
  bnd (sub a3 0 v52) fun v66 =>
  bnd (K.r19 a0 v66) fun v67 =>
  bnd (cnd v67
  (bnd (sub a3 v52 (a3.length : Int)) fun v81 =>
  bnd (K.r36 a0 (w64 (a1 - 1)) v62 v81) fun v82 =>
  some v82)
  (some false)) fun v79 =>
  f36_r2 m K v52 v79
noncomputable def f36_B4 (m : Nat) (K : Rec19) (a0 : S24) (a1 : Int) (a2 : Int) (a3 : (List Int)) (v52 : Int) : Option (Stp Bool (Int)) :=
  cnd (decide (v52 ≤ (a3.length : Int)))
  (cnd (decide (a2 > 0))
  (f36_j3 m K a0 a1 a3 v52 (w64 (a2 - 1)))
  (f36_j3 m K a0 a1 a3 v52 a2))
  (some (.brk v52))
noncomputable def b36 (m : Nat) (K : Rec19) (a0 : S24) (a1 : Int) (a2 : Int) (a3 : (List Int)) : Option Bool :=
  cnd ((a3.length : Int) == 0)
  (bnd (cnd (decide (a1 ≤ 0))
  (some true)
  (bnd (K.r19 a0 []) fun v8 =>
  some v8)) fun v6 =>
  f36_r1 m K v6)
  (cnd (a2 == 0)
  (some false)
  (brk (iter (fun (y : Int) => f36_B4 m K a0 a1 a2 a3 y) m 1) some fun y84 =>
  some false))
noncomputable abbrev X36 (n : Nat) : Cx := cxOf Proofs.Tryd.prog EG 36 n
noncomputable def C36 : Code := bodyOf Proofs.Tryd.prog 36
noncomputable abbrev b36_0 (w0 : S24) : AObj := .cells [(dI w0.fKind), (dP eI w0.fLabels), (dP ep24 w0.fSubs), (dI w0.fLeast), (dI w0.fMost)]
noncomputable abbrev k36_0 : List Nat := [1, 2, 3, 4, 8, 9]
theorem okb36 (m : Nat) (K : Rec19) (nn : Nat) (hK : OkRec19 m K nn) (a0 : S24) (a1 : Int) (a2 : Int) (a3 : (List Int)) (o : Bool) (h : b36 m K a0 a1 a2 a3 = some o) (n : Nat) (hn : m + 1 ≤ n) (hk : nn + 1 ≤ n) : Fn Proofs.Tryd.prog EG n 36 [.v (e24 a0), .v (eI a1), .v (eI a2), .v ((eL eI) a3)] (eB o) := by
  obtain ⟨n, rfl⟩ : ∃ q, n = q + 1 := ⟨n - 1, by omega⟩
  unfold b36 at h
  refine Fn.of (by kernel_rfl) (by kernel_rfl) (by kernel_rfl) ⟨(.v (.agg [(vI a0.fKind), (vP eI a0.fLabels), (vP ep24 a0.fSubs), (vI a0.fLeast), (vI a0.fMost)])) :: (dI a1) :: (dI a2) :: (dP eI a3) :: u40 (u4 []), []⟩ (by kernel_rfl) ?_
  refine Wp.sq ?_
  refine Wp.rg ?_
  refine Ops.sg 2 2 ?_
  refine Ops.dn ?_
  refine seqQ.n ?_
  refine Wp.sq ?_
  refine Wp.sq ?_
  refine Wp.rg ?_
  refine Ops.sg 1 1 ?_
  refine Ops.on 2 (fun h0 e0 => (len_r (T := T) h0 22 3 .plain eI a3 (by kernel_rfl))) ?_
  refine Ops.sg 1 3 ?_
  refine Ops.dn ?_
  refine seqQ.n ?_
  refine Wp.cnd h [1, 2, 3, 4, 8] 1 (by kernel_rfl) (fun h => ?_) (fun h => ?_)
  · refine Wp.sq ?_
    refine Wp.rg ?_
    refine Ops.sg 3 3 ?_
    refine Ops.hv (fun KQ => ∀ (d3 d4 : D) (v5 : Bool) (v6 : Bool), f36_r1 m K v6 = some o → KQ 6 ⟨(.v (.agg [(vI a0.fKind), (vP eI a0.fLabels), (vP ep24 a0.fSubs), (vI a0.fLeast), (vI a0.fMost)])) :: (dI a1) :: (dI a2) :: (dP eI a3) :: (.ptr 0 0) :: u3 ((dB false) :: u2 ((dP eI a3) :: (dI (a3.length : Int)) :: (dB ((a3.length : Int) == 0)) :: (dI a1) :: (dB v5) :: (dB v5) :: d3 :: d4 :: (dB v6) :: u28 [])), [(b36_0 a0)]⟩) ?_ fun J36j7 => ?_
    · intro d3 d4 v5 v6 h
      unfold f36_r1 at h
      refine Ops.sg 1 7 ?_
      refine Ops.dn ?_
      refine seqQ.n ?_
      refine Wp.ret (by kernel_rfl) ?_
      refine sqQ.r ?_
      refine seqQ.r ?_
      exact fnQ.r' (X36 n) (fun z => (eB z)) h (RetOk.mk' (dB v6) (by kernel_rfl) (by kernel_rfl))
    obtain ⟨v6, ev6, h⟩ := bnd_some h
    refine Ops.hv (fun KQ => ∀ v1 : Bool, (cnd v1 (some true) (bnd (K.r19 a0 []) fun v8 => some v8)) = some v6 → KQ 3 ⟨(.v (.agg [(vI a0.fKind), (vP eI a0.fLabels), (vP ep24 a0.fSubs), (vI a0.fLeast), (vI a0.fMost)])) :: (dI a1) :: (dI a2) :: (dP eI a3) :: (.ptr 0 0) :: u3 ((dB false) :: u2 ((dP eI a3) :: (dI (a3.length : Int)) :: (dB ((a3.length : Int) == 0)) :: (dI a1) :: (dB v1) :: (dB v1) :: u31 [])), [(b36_0 a0)]⟩) ?_ fun G36g2 => Ops.st _ (by kernel_rfl) (G36g2 (decide (a1 ≤ 0)) ev6)
    intro v1 ev6
    cases v1
    · have ev6 := cnd_f ev6
      refine Ops.sg 1 4 ?_
      obtain ⟨v8, ev8, ev6⟩ := bnd_some ev6
      refine Ops.on 5 (fun h0 e0 => (call_ok (E' := EG) (h := h0) (by kernel_rfl) (Args.v (.agg [(vI a0.fKind), (vP eI a0.fLabels), (vP ep24 a0.fSubs), (vI a0.fLeast), (vI a0.fMost)]) (e24 a0) (by kernel_rfl) (Args.v (.sl .nil (List.map eI [])) ((eL eI) []) (by kernel_rfl) Args.nil)) (hK.ok19 a0 [] v8 ev8 n (by omega)))) ?_
      refine Ops.sg 1 6 ?_
      exact Ops.st _ (by kernel_rfl) (J36j7 ((.v (.agg [(vI a0.fKind), (vP eI a0.fLabels), (vP ep24 a0.fSubs), (vI a0.fLeast), (vI a0.fMost)]))) (dB v8) false v8 (some_sub (fun v6 => f36_r1 m K v6 = some o) ev6 h))
    · have ev6 := cnd_t ev6
      refine Ops.sg 3 6 ?_
      exact Ops.st _ (by kernel_rfl) (J36j7 U U true true (some_sub (fun v6 => f36_r1 m K v6 = some o) ev6 h))
  · refine Wp.sk ?_
    refine sqQ.n' ?_
    refine seqQ.n ?_
    refine Wp.sq ?_
    refine Wp.sq ?_
    refine Wp.rg ?_
    refine Ops.sg 2 2 ?_
    refine Ops.dn ?_
    refine seqQ.n ?_
    refine Wp.cnd h [1, 2, 3, 4, 8] 1 (by kernel_rfl) (fun h => ?_) (fun h => ?_)
    · refine Wp.sq ?_
      refine Wp.rg ?_
      refine Ops.sg 1 1 ?_
      refine Ops.dn ?_
      refine seqQ.n ?_
      refine Wp.ret (by kernel_rfl) ?_
      refine sqQ.r ?_
      refine seqQ.r ?_
      exact fnQ.r' (X36 n) (fun z => (eB z)) h (RetOk.mk' (dB false) (by kernel_rfl) (by kernel_rfl))
    · refine Wp.sk ?_
      refine sqQ.n' ?_
      refine seqQ.n ?_
      refine Wp.sq ?_
      refine Wp.sq ?_
      refine Wp.rg ?_
      refine Ops.sg 1 1 ?_
      refine Ops.dn ?_
      refine seqQ.n ?_
      refine Wp.block' 0 [8] 1 (by kernel_rfl) ?_
      have hLx83 : ∀ (kx54 : Nat) (v52 : Int)  (ox53 : Bool ⊕ (Int)), iter (fun (y : Int) => f36_B4 m K a0 a1 a2 a3 y) kx54 v52 = some ox53 → ∀ nx55, kx54 ≤ nx55 → (∀ r, ox53 = .inl r → ∀ σ, RetOk (X36 n) (resOf Proofs.Tryd.prog 36) (eB r) σ → (seqQ (X36 n) (cR (cR (cR (cR C36)))) (fnQ (X36 n).E.T (resOf Proofs.Tryd.prog 36) (eB o))) .ret σ) → (∀ (y : Int) , ox53 = .inr y → (seqQ (X36 n) (cR (cR (cR (cR C36)))) (fnQ (X36 n).E.T (resOf Proofs.Tryd.prog 36) (eB o))) .normal ⟨q1 ((dI a1) :: (dI a2) :: (dP eI a3) :: (.ptr 0 0) :: q3 ((dB false) :: (dI y) :: q38 [])), [(b36_0 a0)]⟩) → Lp (X36 n) k36_0 1 (cL (cL (cR (cL (cR (cR (cR C36))))))) nx55 ⟨q1 ((dI a1) :: (dI a2) :: (dP eI a3) :: (.ptr 0 0) :: q3 ((dB false) :: (dI v52) :: q38 [])), [(b36_0 a0)]⟩ (blkQ (X36 n) 0 [8] 1 (seqQ (X36 n) (cR (cR (cR (cR C36)))) (fnQ (X36 n).E.T (resOf Proofs.Tryd.prog 36) (eB o)))) := by
        intro kx54
        induction kx54 with
        | zero => intro v52  ox53 h; exact (iter_zero h).elim
        | succ kx54 ihx56 =>
          intro v52  ox53 h nx55 hnx59 hrx57 hxx58
          obtain ⟨nx55, rfl⟩ : ∃ q, nx55 = q + 1 := ⟨nx55 - 1, by omega⟩
          obtain ⟨sx60, h, hsx61⟩ := iter_some h
          have h : f36_B4 m K a0 a1 a2 a3 v52 = some sx60 := h
          unfold f36_B4 at h
          refine Lp.succ ?_
          refine Wp.sq ?_
          refine Wp.sq ?_
          refine Wp.rg ?_
          refine Ops.sg 2 2 ?_
          refine Ops.on 3 (fun h0 e0 => (len_r (T := T) h0 22 3 .plain eI a3 (by kernel_rfl))) ?_
          refine Ops.sg 1 4 ?_
          refine Ops.dn ?_
          refine seqQ.n ?_
          refine Wp.cnd h k36_0 1 (by kernel_rfl) (fun h => ?_) (fun h => ?_)
          · refine Wp.sk ?_
            refine sqQ.n' ?_
            refine seqQ.n ?_
            refine Wp.sq ?_
            refine Wp.block' 1 k36_0 1 (by kernel_rfl) ?_
            refine Wp.sq ?_
            refine Wp.rg ?_
            refine Ops.sg 2 2 ?_
            refine Ops.dn ?_
            refine seqQ.n ?_
            refine Wp.sq ?_
            refine Wp.sq ?_
            refine Wp.rg ?_
            refine Ops.sg 2 2 ?_
            refine Ops.dn ?_
            refine seqQ.n ?_
            have J36j65 : ∀ (v62 : Int) (d63 : D) (d64 : D), f36_j3 m K a0 a1 a3 v52 v62 = some sx60 → (seqQ (X36 n) (cR (cR (cL (cL (cR (cL (cL (cR (cL (cR (cR (cR C36)))))))))))) (blkQ (X36 n) 1 k36_0 1 (seqQ (X36 n) (cR (cR (cL (cL (cR (cL (cR (cR (cR C36))))))))) (lpQ (X36 n) k36_0 1 (cL (cL (cR (cL (cR (cR (cR C36))))))) nx55 (blkQ (X36 n) 0 [8] 1 (seqQ (X36 n) (cR (cR (cR (cR C36)))) (fnQ (X36 n).E.T (resOf Proofs.Tryd.prog 36) (eB o)))))))) .normal ⟨q1 ((dI a1) :: (dI a2) :: (dP eI a3) :: (.ptr 0 0) :: q3 ((dB false) :: (dI v52) :: (dI v62) :: q11 ((dI v52) :: (dP eI a3) :: (dI (a3.length : Int)) :: (dB (decide (v52 ≤ (a3.length : Int)))) :: q2 ((dI a2) :: (dI a2) :: (dB (decide (a2 > 0))) :: d63 :: d64 :: q15 [])))), [(b36_0 a0)]⟩ := by
              intro v62 d63 d64 h
              unfold f36_j3 at h
              refine seqQ.n ?_
              refine Wp.sq ?_
              refine Wp.rg ?_
              refine Ops.sg 3 3 ?_
              obtain ⟨v66, ev66, h⟩ := bnd_some h
              refine Ops.on 4 (fun h0 e0 => (sub_r (T := T) h0 22 3 1 .plain eI a3 v66 none (some v52) rfl ev66 (by kernel_rfl) (by kernel_rfl) (fun _ => rfl))) ?_
              obtain ⟨v67, ev67, h⟩ := bnd_some h
              refine Ops.on 5 (fun h0 e0 => (call_ok (E' := EG) (h := h0) (by kernel_rfl) (Args.v (.agg [(vI a0.fKind), (vP eI a0.fLabels), (vP ep24 a0.fSubs), (vI a0.fLeast), (vI a0.fMost)]) (e24 a0) (by kernel_rfl) (Args.v (vP eI v66) ((eL eI) v66) (by kernel_rfl) Args.nil)) (hK.ok19 a0 v66 v67 ev67 n (by omega)))) ?_
              refine Ops.sg 1 6 ?_
              refine Ops.hv (fun KQ => ∀ (d70 d71 d72 d73 d74 d75 d76 d77 : D) (v78 : Bool) (v79 : Bool), f36_r2 m K v52 v79 = some sx60 → KQ 15 ⟨q1 ((dI a1) :: (dI a2) :: (dP eI a3) :: (.ptr 0 0) :: q3 ((dB false) :: (dI v52) :: (dI v62) :: q11 ((dI v52) :: (dP eI a3) :: (dI (a3.length : Int)) :: (dB (decide (v52 ≤ (a3.length : Int)))) :: q2 ((dI a2) :: (dI a2) :: (dB (decide (a2 > 0))) :: d63 :: d64 :: (.v (.agg [(vI a0.fKind), (vP eI a0.fLabels), (vP ep24 a0.fSubs), (vI a0.fLeast), (vI a0.fMost)])) :: (dP eI a3) :: (dI v52) :: (dP eI v66) :: (dB v78) :: (dB v78) :: d70 :: d71 :: d72 :: d73 :: d74 :: d75 :: d76 :: d77 :: (dB v79) :: [])))), [(b36_0 a0)]⟩) ?_ fun J36j80 => ?_
              · intro d70 d71 d72 d73 d74 d75 d76 d77 v78 v79 h
                unfold f36_r2 at h
                refine Ops.dn ?_
                refine seqQ.n ?_
                refine Wp.cnd h k36_0 1 (by kernel_rfl) (fun h => ?_) (fun h => ?_)
                · refine Wp.sq ?_
                  refine Wp.rg ?_
                  refine Ops.sg 1 1 ?_
                  refine Ops.dn ?_
                  refine seqQ.n ?_
                  refine Wp.ret (by kernel_rfl) ?_
                  refine sqQ.r ?_
                  refine blkQ.r ?_
                  refine seqQ.r ?_
                  cases h
                  refine lpQ.r ?_
                  refine blkQ.r ?_
                  exact hrx57 _ hsx61 _ (RetOk.forget k36_0 (by kernel_rfl) (RetOk.mk' (dB true) (by kernel_rfl) (by kernel_rfl)))
                · refine Wp.sk ?_
                  refine sqQ.n' ?_
                  refine blkQ.n' ?_
                  refine seqQ.n ?_
                  refine Wp.rg ?_
                  refine Ops.sg 3 3 ?_
                  refine Ops.dn ?_
                  refine lpQ.n ⟨q1 ((dI a1) :: (dI a2) :: (dP eI a3) :: (.ptr 0 0) :: q3 ((dB false) :: (dI (w64 (v52 + 1))) :: q38 [])), [(b36_0 a0)]⟩ (by kernel_rfl) ?_
                  cases h
                  exact ihx56 (w64 (v52 + 1))  _ hsx61 _ (by omega) hrx57 hxx58
              obtain ⟨v79, ev79, h⟩ := bnd_some h
              refine Ops.hv (fun KQ => ∀ v68 : Bool, (cnd v68 (bnd (sub a3 v52 (a3.length : Int)) fun v81 => bnd (K.r36 a0 (w64 (a1 - 1)) v62 v81) fun v82 => some v82) (some false)) = some v79 → KQ 6 ⟨q1 ((dI a1) :: (dI a2) :: (dP eI a3) :: (.ptr 0 0) :: q3 ((dB false) :: (dI v52) :: (dI v62) :: q11 ((dI v52) :: (dP eI a3) :: (dI (a3.length : Int)) :: (dB (decide (v52 ≤ (a3.length : Int)))) :: q2 ((dI a2) :: (dI a2) :: (dB (decide (a2 > 0))) :: d63 :: d64 :: (.v (.agg [(vI a0.fKind), (vP eI a0.fLabels), (vP ep24 a0.fSubs), (vI a0.fLeast), (vI a0.fMost)])) :: (dP eI a3) :: (dI v52) :: (dP eI v66) :: (dB v68) :: (dB v68) :: q9 [])))), [(b36_0 a0)]⟩) ?_ fun G36g69 => Ops.st _ (by kernel_rfl) (G36g69 v67 ev79)
              intro v68 ev79
              cases v68
              · have ev79 := cnd_f ev79
                refine Ops.sg 9 15 ?_
                exact Ops.st _ (by kernel_rfl) (J36j80 U U U U U U U U false false (some_sub (fun v79 => f36_r2 m K v52 v79 = some sx60) ev79 h))
              · have ev79 := cnd_t ev79
                refine Ops.sg 6 12 ?_
                obtain ⟨v81, ev81, ev79⟩ := bnd_some ev79
                refine Ops.on 13 (fun h0 e0 => (sub_r (T := T) h0 22 3 1 .plain eI a3 v81 (some v52) none rfl ev81 (by kernel_rfl) (by kernel_rfl) (fun _ => rfl))) ?_
                obtain ⟨v82, ev82, ev79⟩ := bnd_some ev79
                refine Ops.on 14 (fun h0 e0 => (call_ok (E' := EG) (h := h0) (by kernel_rfl) (Args.v (.agg [(vI a0.fKind), (vP eI a0.fLabels), (vP ep24 a0.fSubs), (vI a0.fLeast), (vI a0.fMost)]) (e24 a0) (by kernel_rfl) (Args.v (vI (w64 (a1 - 1))) (eI (w64 (a1 - 1))) (by kernel_rfl) (Args.v (vI v62) (eI v62) (by kernel_rfl) (Args.v (vP eI v81) ((eL eI) v81) (by kernel_rfl) Args.nil)))) (hK.ok36 a0 (w64 (a1 - 1)) v62 v81 v82 ev82 n (by omega)))) ?_
                refine Ops.sg 1 15 ?_
                exact Ops.st _ (by kernel_rfl) (J36j80 ((.v (.agg [(vI a0.fKind), (vP eI a0.fLabels), (vP ep24 a0.fSubs), (vI a0.fLeast), (vI a0.fMost)]))) (dI a1) (dI (w64 (a1 - 1))) (dI v62) (dP eI a3) (dI v52) (dP eI v81) (dB v82) true v82 (some_sub (fun v79 => f36_r2 m K v52 v79 = some sx60) ev79 h))
            refine Wp.cnd h [1, 2, 3, 4, 8, 9, 10] 1 (by kernel_rfl) (fun h => ?_) (fun h => ?_)
            · refine Wp.rg ?_
              refine Ops.sg 3 3 ?_
              refine Ops.dn ?_
              refine sqQ.n ⟨q1 ((dI a1) :: (dI a2) :: (dP eI a3) :: (.ptr 0 0) :: q3 ((dB false) :: (dI v52) :: (dI (w64 (a2 - 1))) :: q11 ((dI v52) :: (dP eI a3) :: (dI (a3.length : Int)) :: (dB (decide (v52 ≤ (a3.length : Int)))) :: q2 ((dI a2) :: (dI a2) :: (dB (decide (a2 > 0))) :: (dI a2) :: (dI (w64 (a2 - 1))) :: q15 [])))), [(b36_0 a0)]⟩ (by kernel_rfl) ?_
              exact J36j65 (w64 (a2 - 1)) _ _ h
            · refine Wp.sk ?_
              refine sqQ.n ⟨q1 ((dI a1) :: (dI a2) :: (dP eI a3) :: (.ptr 0 0) :: q3 ((dB false) :: (dI v52) :: (dI a2) :: q11 ((dI v52) :: (dP eI a3) :: (dI (a3.length : Int)) :: (dB (decide (v52 ≤ (a3.length : Int)))) :: q2 ((dI a2) :: (dI a2) :: (dB (decide (a2 > 0))) :: q17 [])))), [(b36_0 a0)]⟩ (by kernel_rfl) ?_
              exact J36j65 a2 _ _ h
          · refine Wp.exit (id := 0) (by kernel_rfl) ?_
            refine sqQ.x ?_
            refine seqQ.x ?_
            cases h
            refine lpQ.x ?_
            refine blkQ.x ⟨q1 ((dI a1) :: (dI a2) :: (dP eI a3) :: (.ptr 0 0) :: q3 ((dB false) :: (dI v52) :: q38 [])), [(b36_0 a0)]⟩ (by kernel_rfl) ?_
            exact hxx58 v52  hsx61
      refine Wp.loop' k36_0 1 (by kernel_rfl) ⟨q1 ((dI a1) :: (dI a2) :: (dP eI a3) :: (.ptr 0 0) :: q3 ((dB false) :: (dI 1) :: q38 [])), [(b36_0 a0)]⟩ (by kernel_rfl) ?_
      rcases brk_some h with ⟨r85, er85, h⟩ | ⟨y84, ey84, h⟩
      · refine hLx83 _ 1  _ er85 n (by omega) (fun r er σ hσ => ?_) (fun y  ey => by cases ey)
        cases er
        refine seqQ.r ?_
        exact fnQ.r' (X36 n) (fun z => (eB z)) h hσ
      · refine hLx83 _ 1  _ ey84 n (by omega) (fun r er => by cases er) (fun y  ey => ?_)
        cases ey
        refine seqQ.n ?_
        refine Wp.sq ?_
        refine Wp.rg ?_
        refine Ops.sg 1 1 ?_
        refine Ops.dn ?_
        refine seqQ.n ?_
        refine Wp.ret (by kernel_rfl) ?_
        exact fnQ.r' (X36 n) (fun z => (eB z)) h (RetOk.mk' (dB false) (by kernel_rfl) (by kernel_rfl))
noncomputable def K19 (m : Nat) : Nat → Rec19
  | 0 => ⟨fun _ _ => none, fun _ _ => none, fun _ _ _ _ => none⟩
  | r + 1 => ⟨fun a0 a1 => b19 m (K19 m r) a0 a1, fun a0 a1 => b35 m (K19 m r) a0 a1, fun a0 a1 a2 a3 => b36 m (K19 m r) a0 a1 a2 a3⟩
theorem okK19 (m : Nat) : ∀ r, OkRec19 m (K19 m r) (m + 1 + r)
  | 0 => ⟨fun _ _ o h => (by cases h), fun _ _ o h => (by cases h), fun _ _ _ _ o h => (by cases h)⟩
  | r + 1 => ⟨fun a0 a1 o h n hn => okb19 m (K19 m r) (m + 1 + r) (okK19 m r) a0 a1 o h n (by omega) (by omega), fun a0 a1 o h n hn => okb35 m (K19 m r) (m + 1 + r) (okK19 m r) a0 a1 o h n (by omega) (by omega), fun a0 a1 a2 a3 o h n hn => okb36 m (K19 m r) (m + 1 + r) (okK19 m r) a0 a1 a2 a3 o h n (by omega) (by omega)⟩
noncomputable def f19 (m : Nat) (a0 : S24) (a1 : (List Int)) : Option Bool := (K19 m m).r19 a0 a1
theorem ok19 (m : Nat) (a0 : S24) (a1 : (List Int)) (o : Bool) (h : f19 m a0 a1 = some o) (n : Nat) (hn : 2 * m + 1 ≤ n) : Fn Proofs.Tryd.prog EG n 19 [.v (e24 a0), .v ((eL eI) a1)] (eB o) := (okK19 m m).ok19 a0 a1 o h n (by omega)
noncomputable def f35 (m : Nat) (a0 : (List P24)) (a1 : (List Int)) : Option Bool := (K19 m m).r35 a0 a1
theorem ok35 (m : Nat) (a0 : (List P24)) (a1 : (List Int)) (o : Bool) (h : f35 m a0 a1 = some o) (n : Nat) (hn : 2 * m + 1 ≤ n) : Fn Proofs.Tryd.prog EG n 35 [.v ((eL ep24) a0), .v ((eL eI) a1)] (eB o) := (okK19 m m).ok35 a0 a1 o h n (by omega)
noncomputable def f36 (m : Nat) (a0 : S24) (a1 : Int) (a2 : Int) (a3 : (List Int)) : Option Bool := (K19 m m).r36 a0 a1 a2 a3
theorem ok36 (m : Nat) (a0 : S24) (a1 : Int) (a2 : Int) (a3 : (List Int)) (o : Bool) (h : f36 m a0 a1 a2 a3 = some o) (n : Nat) (hn : 2 * m + 1 ≤ n) : Fn Proofs.Tryd.prog EG n 36 [.v (e24 a0), .v (eI a1), .v (eI a2), .v ((eL eI) a3)] (eB o) := (okK19 m m).ok36 a0 a1 a2 a3 o h n (by omega)
noncomputable def f5_r1 (m : Nat) (v14 : Bool) : Option Bool :=
  some v14
noncomputable def f5_r2 (m : Nat) (v32 : Bool) : Option Bool :=
  some v32
noncomputable def f5_r3 (m : Nat) (a0 : S24) (a1 : (List Int)) (v2 : (Bool × S27)) (v22 : Bool) : Option Bool :=
  cnd v22
  (some ((v2.2.fCode == 0) && ((v2.2.fIndex == 0) && true)))
  (bnd (cnd ((v2.2.fCode == 0) && ((v2.2.fIndex == 0) && true))
  (bnd (f19 m a0 a1) fun v34 =>
  some (v2.1 == v34))
  (some false)) fun v32 =>
  f5_r2 m v32)
noncomputable def f5_j4 (m : Nat) (a0 : S24) (a1 : (List Int)) (v2 : (Bool × S27)) (v6 : Int) (v7 : Int) : Option Bool :=
  cnd (!((v6 == 0) && ((v7 == 0) && true)))
  (f5_r1 m (((v2.2.fCode == v6) && ((v2.2.fIndex == v7) && true)) && (!v2.1)))
  (bnd (cnd (decide ((a1.length : Int) > 5))
  (some true)
  (bnd (f18 m a0) fun v35 =>
  some (decide (v35 > 25)))) fun v22 =>
  f5_r3 m a0 a1 v2 v22)
noncomputable def f5 (m : Nat) (a0 : S24) (a1 : (List Int)) : Option Bool :=
  bnd (f8 m ) fun v1 =>
  cnd (!v1)
  (some false)
  (bnd (f16 m a0 a1) fun v2 =>
  bnd (f12 m a0) fun v3 =>
  cnd ((v3.fCode == 0) && ((v3.fIndex == 0) && true))
  (bnd (f17 m a1 (-2)) fun v36 =>
  f5_j4 m a0 a1 v2 v36.fCode v36.fIndex)
  (f5_j4 m a0 a1 v2 v3.fCode v3.fIndex))
noncomputable abbrev X5 (n : Nat) : Cx := cxOf Proofs.Tryd.prog EG 5 n
noncomputable def C5 : Code := bodyOf Proofs.Tryd.prog 5
noncomputable abbrev b5_0 (w0 : S24) : AObj := .cells [(dI w0.fKind), (dP eI w0.fLabels), (dP ep24 w0.fSubs), (dI w0.fLeast), (dI w0.fMost)]
noncomputable abbrev b5_1 (w0 : (Bool × S27)) : AObj := .cells [(dI w0.2.fCode), (dI w0.2.fIndex)]
theorem ok5 (m : Nat) (a0 : S24) (a1 : (List Int)) (o : Bool) (h : f5 m a0 a1 = some o) (n : Nat) (hn : 2 * m + 5 ≤ n) : Fn Proofs.Tryd.prog EG n 5 [.v (e24 a0), .v ((eL eI) a1)] (eB o) := by
  obtain ⟨n, rfl⟩ : ∃ q, n = q + 1 := ⟨n - 1, by omega⟩
  unfold f5 at h
  refine Fn.of (by kernel_rfl) (by kernel_rfl) (by kernel_rfl) ⟨(.v (.agg [(vI a0.fKind), (vP eI a0.fLabels), (vP ep24 a0.fSubs), (vI a0.fLeast), (vI a0.fMost)])) :: (dP eI a1) :: u40 (u12 []), []⟩ (by kernel_rfl) ?_
  refine Wp.sq ?_
  refine Wp.rg ?_
  refine Ops.sg 2 2 ?_
  refine Ops.dn ?_
  refine seqQ.n ?_
  refine Wp.sq ?_
  refine Wp.sq ?_
  refine Wp.rg ?_
  obtain ⟨v1, ev1, h⟩ := bnd_some h
  refine Ops.on 1 (fun h0 e0 => (call_ok (E' := EG) (h := h0) (by kernel_rfl) Args.nil (ok8 m  v1 ev1 n (by omega)))) ?_
  refine Ops.sg 1 2 ?_
  refine Ops.dn ?_
  refine seqQ.n ?_
  refine Wp.cnd h [1, 2, 4] 1 (by kernel_rfl) (fun h => ?_) (fun h => ?_)
  · refine Wp.sq ?_
    refine Wp.rg ?_
    refine Ops.sg 1 1 ?_
    refine Ops.dn ?_
    refine seqQ.n ?_
    refine Wp.ret (by kernel_rfl) ?_
    refine sqQ.r ?_
    refine seqQ.r ?_
    exact fnQ.r' (X5 n) (fun z => (eB z)) h (RetOk.mk' (dB false) (by kernel_rfl) (by kernel_rfl))
  · refine Wp.sk ?_
    refine sqQ.n' ?_
    refine seqQ.n ?_
    refine Wp.sq ?_
    refine Wp.rg ?_
    refine Ops.sg 2 2 ?_
    obtain ⟨v2, ev2, h⟩ := bnd_some h
    refine Ops.on 3 (fun h0 e0 => (call_ok (E' := EG) (h := h0) (by kernel_rfl) (Args.v (.agg [(vI a0.fKind), (vP eI a0.fLabels), (vP ep24 a0.fSubs), (vI a0.fLeast), (vI a0.fMost)]) (e24 a0) (by kernel_rfl) (Args.v (vP eI a1) ((eL eI) a1) (by kernel_rfl) Args.nil)) (ok16 m a0 a1 v2 ev2 n (by omega)))) ?_
    refine Ops.sg 6 9 ?_
    refine Ops.dn ?_
    refine seqQ.n ?_
    refine Wp.sq ?_
    refine Wp.rg ?_
    refine Ops.sg 1 1 ?_
    obtain ⟨v3, ev3, h⟩ := bnd_some h
    refine Ops.on 2 (fun h0 e0 => (call_ok (E' := EG) (h := h0) (by kernel_rfl) (Args.v (.agg [(vI a0.fKind), (vP eI a0.fLabels), (vP ep24 a0.fSubs), (vI a0.fLeast), (vI a0.fMost)]) (e24 a0) (by kernel_rfl) Args.nil) (ok12 m a0 v3 ev3 n (by omega)))) ?_
    refine Ops.sg 2 4 ?_
    refine Ops.dn ?_
    refine seqQ.n ?_
    refine Wp.sq ?_
    refine Wp.sq ?_
    refine Wp.rg ?_
    refine Ops.sg 3 3 ?_
    refine Ops.dn ?_
    refine seqQ.n ?_
    have J5j8 : ∀ (v6 : Int) (v7 : Int) (d4 : D) (d5 : D), f5_j4 m a0 a1 v2 v6 v7 = some o → (seqQ (X5 n) (cR (cR (cR (cR (cR C5))))) (fnQ (X5 n).E.T (resOf Proofs.Tryd.prog 5) (eB o))) .normal ⟨(.v (.agg [(vI a0.fKind), (vP eI a0.fLabels), (vP ep24 a0.fSubs), (vI a0.fLeast), (vI a0.fMost)])) :: (dP eI a1) :: (.ptr 0 0) :: u1 ((dB false) :: (dB v2.1) :: (.ptr 1 0) :: (.ptr 2 0) :: (dB v1) :: (dB (!v1)) :: (.v (.tuple [(vB v2.1), (.agg [(vI v2.2.fCode), (vI v2.2.fIndex)])])) :: (.v (.agg [(vI a0.fKind), (vP eI a0.fLabels), (vP ep24 a0.fSubs), (vI a0.fLeast), (vI a0.fMost)])) :: (dP eI a1) :: (.v (.tuple [(vB v2.1), (.agg [(vI v2.2.fCode), (vI v2.2.fIndex)])])) :: (dB v2.1) :: (.v (.agg [(vI v2.2.fCode), (vI v2.2.fIndex)])) :: (.v (.agg [(vI a0.fKind), (vP eI a0.fLabels), (vP ep24 a0.fSubs), (vI a0.fLeast), (vI a0.fMost)])) :: (.v (.agg [(vI v3.fCode), (vI v3.fIndex)])) :: (.v (.agg [(vI v3.fCode), (vI v3.fIndex)])) :: (.v (.agg [(vI 0), (vI 0)])) :: (dB ((v3.fCode == 0) && ((v3.fIndex == 0) && true))) :: d4 :: d5 :: u31 []), [(b5_0 a0), (b5_1 v2), (.cells [(dI v6), (dI v7)])]⟩ := by
      intro v6 v7 d4 d5 h
      unfold f5_j4 at h
      refine seqQ.n ?_
      refine Wp.sq ?_
      refine Wp.sq ?_
      refine Wp.rg ?_
      refine Ops.sg 3 3 ?_
      refine Ops.dn ?_
      refine seqQ.n ?_
      refine Wp.cnd h [1, 2, 4, 5, 6] 3 (by kernel_rfl) (fun h => ?_) (fun h => ?_)
      · refine Wp.sq ?_
        refine Wp.rg ?_
        refine Ops.sg 4 4 ?_
        refine Ops.hv (fun KQ => ∀ (d11 d12 : D) (v13 : Bool) (v14 : Bool), f5_r1 m v14 = some o → KQ 7 ⟨(.v (.agg [(vI a0.fKind), (vP eI a0.fLabels), (vP ep24 a0.fSubs), (vI a0.fLeast), (vI a0.fMost)])) :: (dP eI a1) :: (.ptr 0 0) :: u1 ((dB false) :: (dB v2.1) :: (.ptr 1 0) :: (.ptr 2 0) :: (dB v1) :: (dB (!v1)) :: (.v (.tuple [(vB v2.1), (.agg [(vI v2.2.fCode), (vI v2.2.fIndex)])])) :: (.v (.agg [(vI a0.fKind), (vP eI a0.fLabels), (vP ep24 a0.fSubs), (vI a0.fLeast), (vI a0.fMost)])) :: (dP eI a1) :: (.v (.tuple [(vB v2.1), (.agg [(vI v2.2.fCode), (vI v2.2.fIndex)])])) :: (dB v2.1) :: (.v (.agg [(vI v2.2.fCode), (vI v2.2.fIndex)])) :: (.v (.agg [(vI a0.fKind), (vP eI a0.fLabels), (vP ep24 a0.fSubs), (vI a0.fLeast), (vI a0.fMost)])) :: (.v (.agg [(vI v3.fCode), (vI v3.fIndex)])) :: (.v (.agg [(vI v3.fCode), (vI v3.fIndex)])) :: (.v (.agg [(vI 0), (vI 0)])) :: (dB ((v3.fCode == 0) && ((v3.fIndex == 0) && true))) :: d4 :: d5 :: (.v (.agg [(vI v6), (vI v7)])) :: (.v (.agg [(vI 0), (vI 0)])) :: (dB (!((v6 == 0) && ((v7 == 0) && true)))) :: (.v (.agg [(vI v2.2.fCode), (vI v2.2.fIndex)])) :: (.v (.agg [(vI v6), (vI v7)])) :: (dB v13) :: (dB v13) :: d11 :: d12 :: (dB v14) :: u21 []), [(b5_0 a0), (b5_1 v2), (.cells [(dI v6), (dI v7)])]⟩) ?_ fun J5j15 => ?_
        · intro d11 d12 v13 v14 h
          unfold f5_r1 at h
          refine Ops.sg 1 8 ?_
          refine Ops.dn ?_
          refine seqQ.n ?_
          refine Wp.ret (by kernel_rfl) ?_
          refine sqQ.r ?_
          refine seqQ.r ?_
          exact fnQ.r' (X5 n) (fun z => (eB z)) h (RetOk.mk' (dB v14) (by kernel_rfl) (by kernel_rfl))
        refine Ops.hv (fun KQ => ∀ v9 : Bool, f5_r1 m (v9 && (!v2.1)) = some o → KQ 4 ⟨(.v (.agg [(vI a0.fKind), (vP eI a0.fLabels), (vP ep24 a0.fSubs), (vI a0.fLeast), (vI a0.fMost)])) :: (dP eI a1) :: (.ptr 0 0) :: u1 ((dB false) :: (dB v2.1) :: (.ptr 1 0) :: (.ptr 2 0) :: (dB v1) :: (dB (!v1)) :: (.v (.tuple [(vB v2.1), (.agg [(vI v2.2.fCode), (vI v2.2.fIndex)])])) :: (.v (.agg [(vI a0.fKind), (vP eI a0.fLabels), (vP ep24 a0.fSubs), (vI a0.fLeast), (vI a0.fMost)])) :: (dP eI a1) :: (.v (.tuple [(vB v2.1), (.agg [(vI v2.2.fCode), (vI v2.2.fIndex)])])) :: (dB v2.1) :: (.v (.agg [(vI v2.2.fCode), (vI v2.2.fIndex)])) :: (.v (.agg [(vI a0.fKind), (vP eI a0.fLabels), (vP ep24 a0.fSubs), (vI a0.fLeast), (vI a0.fMost)])) :: (.v (.agg [(vI v3.fCode), (vI v3.fIndex)])) :: (.v (.agg [(vI v3.fCode), (vI v3.fIndex)])) :: (.v (.agg [(vI 0), (vI 0)])) :: (dB ((v3.fCode == 0) && ((v3.fIndex == 0) && true))) :: d4 :: d5 :: (.v (.agg [(vI v6), (vI v7)])) :: (.v (.agg [(vI 0), (vI 0)])) :: (dB (!((v6 == 0) && ((v7 == 0) && true)))) :: (.v (.agg [(vI v2.2.fCode), (vI v2.2.fIndex)])) :: (.v (.agg [(vI v6), (vI v7)])) :: (dB v9) :: (dB v9) :: u24 []), [(b5_0 a0), (b5_1 v2), (.cells [(dI v6), (dI v7)])]⟩) ?_ fun G5g10 => Ops.st _ (by kernel_rfl) (G5g10 ((v2.2.fCode == v6) && ((v2.2.fIndex == v7) && true)) h)
        intro v9 h
        cases v9
        · refine Ops.sg 3 7 ?_
          exact Ops.st _ (by kernel_rfl) (J5j15 U U false false h)
        · refine Ops.sg 3 7 ?_
          exact Ops.st _ (by kernel_rfl) (J5j15 (dB v2.1) (dB (!v2.1)) true (!v2.1) h)
      · refine Wp.sk ?_
        refine sqQ.n' ?_
        refine seqQ.n ?_
        refine Wp.sq ?_
        refine Wp.sq ?_
        refine Wp.rg ?_
        refine Ops.sg 1 1 ?_
        refine Ops.on 2 (fun h0 e0 => (len_r (T := T) h0 22 3 .plain eI a1 (by kernel_rfl))) ?_
        refine Ops.sg 2 4 ?_
        refine Ops.hv (fun KQ => ∀ (d18 d19 d20 : D) (v21 : Bool) (v22 : Bool), f5_r3 m a0 a1 v2 v22 = some o → KQ 8 ⟨(.v (.agg [(vI a0.fKind), (vP eI a0.fLabels), (vP ep24 a0.fSubs), (vI a0.fLeast), (vI a0.fMost)])) :: (dP eI a1) :: (.ptr 0 0) :: u1 ((dB false) :: (dB v2.1) :: (.ptr 1 0) :: (.ptr 2 0) :: (dB v1) :: (dB (!v1)) :: (.v (.tuple [(vB v2.1), (.agg [(vI v2.2.fCode), (vI v2.2.fIndex)])])) :: (.v (.agg [(vI a0.fKind), (vP eI a0.fLabels), (vP ep24 a0.fSubs), (vI a0.fLeast), (vI a0.fMost)])) :: (dP eI a1) :: (.v (.tuple [(vB v2.1), (.agg [(vI v2.2.fCode), (vI v2.2.fIndex)])])) :: (dB v2.1) :: (.v (.agg [(vI v2.2.fCode), (vI v2.2.fIndex)])) :: (.v (.agg [(vI a0.fKind), (vP eI a0.fLabels), (vP ep24 a0.fSubs), (vI a0.fLeast), (vI a0.fMost)])) :: (.v (.agg [(vI v3.fCode), (vI v3.fIndex)])) :: (.v (.agg [(vI v3.fCode), (vI v3.fIndex)])) :: (.v (.agg [(vI 0), (vI 0)])) :: (dB ((v3.fCode == 0) && ((v3.fIndex == 0) && true))) :: d4 :: d5 :: (.v (.agg [(vI v6), (vI v7)])) :: (.v (.agg [(vI 0), (vI 0)])) :: (dB (!((v6 == 0) && ((v7 == 0) && true)))) :: u7 ((dP eI a1) :: (dI (a1.length : Int)) :: (dB v21) :: (dB v21) :: d18 :: d19 :: d20 :: (dB v22) :: u13 [])), [(b5_0 a0), (b5_1 v2), (.cells [(dI v6), (dI v7)])]⟩) ?_ fun J5j23 => ?_
        · intro d18 d19 d20 v21 v22 h
          unfold f5_r3 at h
          refine Ops.dn ?_
          refine seqQ.n ?_
          refine Wp.cnd h [1, 2, 4, 5, 6] 3 (by kernel_rfl) (fun h => ?_) (fun h => ?_)
          · refine Wp.sq ?_
            refine Wp.rg ?_
            refine Ops.sg 4 4 ?_
            refine Ops.dn ?_
            refine seqQ.n ?_
            refine Wp.ret (by kernel_rfl) ?_
            refine sqQ.r ?_
            refine seqQ.r ?_
            exact fnQ.r' (X5 n) (fun z => (eB z)) h (RetOk.mk' (dB ((v2.2.fCode == 0) && ((v2.2.fIndex == 0) && true))) (by kernel_rfl) (by kernel_rfl))
          · refine Wp.sk ?_
            refine sqQ.n' ?_
            refine seqQ.n ?_
            refine Wp.sq ?_
            refine Wp.rg ?_
            refine Ops.sg 4 4 ?_
            refine Ops.hv (fun KQ => ∀ (d26 d27 d28 d29 d30 : D) (v31 : Bool) (v32 : Bool), f5_r2 m v32 = some o → KQ 10 ⟨(.v (.agg [(vI a0.fKind), (vP eI a0.fLabels), (vP ep24 a0.fSubs), (vI a0.fLeast), (vI a0.fMost)])) :: (dP eI a1) :: (.ptr 0 0) :: u1 ((dB false) :: (dB v2.1) :: (.ptr 1 0) :: (.ptr 2 0) :: (dB v1) :: (dB (!v1)) :: (.v (.tuple [(vB v2.1), (.agg [(vI v2.2.fCode), (vI v2.2.fIndex)])])) :: (.v (.agg [(vI a0.fKind), (vP eI a0.fLabels), (vP ep24 a0.fSubs), (vI a0.fLeast), (vI a0.fMost)])) :: (dP eI a1) :: (.v (.tuple [(vB v2.1), (.agg [(vI v2.2.fCode), (vI v2.2.fIndex)])])) :: (dB v2.1) :: (.v (.agg [(vI v2.2.fCode), (vI v2.2.fIndex)])) :: (.v (.agg [(vI a0.fKind), (vP eI a0.fLabels), (vP ep24 a0.fSubs), (vI a0.fLeast), (vI a0.fMost)])) :: (.v (.agg [(vI v3.fCode), (vI v3.fIndex)])) :: (.v (.agg [(vI v3.fCode), (vI v3.fIndex)])) :: (.v (.agg [(vI 0), (vI 0)])) :: (dB ((v3.fCode == 0) && ((v3.fIndex == 0) && true))) :: d4 :: d5 :: (.v (.agg [(vI v6), (vI v7)])) :: (.v (.agg [(vI 0), (vI 0)])) :: (dB (!((v6 == 0) && ((v7 == 0) && true)))) :: u7 ((dP eI a1) :: (dI (a1.length : Int)) :: (dB v21) :: (dB v21) :: d18 :: d19 :: d20 :: (dB v22) :: u3 ((.v (.agg [(vI v2.2.fCode), (vI v2.2.fIndex)])) :: (.v (.agg [(vI 0), (vI 0)])) :: (dB v31) :: (dB v31) :: d26 :: d27 :: d28 :: d29 :: d30 :: (dB v32) :: []))), [(b5_0 a0), (b5_1 v2), (.cells [(dI v6), (dI v7)])]⟩) ?_ fun J5j33 => ?_
            · intro d26 d27 d28 d29 d30 v31 v32 h
              unfold f5_r2 at h
              refine Ops.sg 1 11 ?_
              refine Ops.dn ?_
              refine seqQ.n ?_
              refine Wp.ret (by kernel_rfl) ?_
              exact fnQ.r' (X5 n) (fun z => (eB z)) h (RetOk.mk' (dB v32) (by kernel_rfl) (by kernel_rfl))
            obtain ⟨v32, ev32, h⟩ := bnd_some h
            refine Ops.hv (fun KQ => ∀ v24 : Bool, (cnd v24 (bnd (f19 m a0 a1) fun v34 => some (v2.1 == v34)) (some false)) = some v32 → KQ 4 ⟨(.v (.agg [(vI a0.fKind), (vP eI a0.fLabels), (vP ep24 a0.fSubs), (vI a0.fLeast), (vI a0.fMost)])) :: (dP eI a1) :: (.ptr 0 0) :: u1 ((dB false) :: (dB v2.1) :: (.ptr 1 0) :: (.ptr 2 0) :: (dB v1) :: (dB (!v1)) :: (.v (.tuple [(vB v2.1), (.agg [(vI v2.2.fCode), (vI v2.2.fIndex)])])) :: (.v (.agg [(vI a0.fKind), (vP eI a0.fLabels), (vP ep24 a0.fSubs), (vI a0.fLeast), (vI a0.fMost)])) :: (dP eI a1) :: (.v (.tuple [(vB v2.1), (.agg [(vI v2.2.fCode), (vI v2.2.fIndex)])])) :: (dB v2.1) :: (.v (.agg [(vI v2.2.fCode), (vI v2.2.fIndex)])) :: (.v (.agg [(vI a0.fKind), (vP eI a0.fLabels), (vP ep24 a0.fSubs), (vI a0.fLeast), (vI a0.fMost)])) :: (.v (.agg [(vI v3.fCode), (vI v3.fIndex)])) :: (.v (.agg [(vI v3.fCode), (vI v3.fIndex)])) :: (.v (.agg [(vI 0), (vI 0)])) :: (dB ((v3.fCode == 0) && ((v3.fIndex == 0) && true))) :: d4 :: d5 :: (.v (.agg [(vI v6), (vI v7)])) :: (.v (.agg [(vI 0), (vI 0)])) :: (dB (!((v6 == 0) && ((v7 == 0) && true)))) :: u7 ((dP eI a1) :: (dI (a1.length : Int)) :: (dB v21) :: (dB v21) :: d18 :: d19 :: d20 :: (dB v22) :: u3 ((.v (.agg [(vI v2.2.fCode), (vI v2.2.fIndex)])) :: (.v (.agg [(vI 0), (vI 0)])) :: (dB v24) :: (dB v24) :: u6 []))), [(b5_0 a0), (b5_1 v2), (.cells [(dI v6), (dI v7)])]⟩) ?_ fun G5g25 => Ops.st _ (by kernel_rfl) (G5g25 ((v2.2.fCode == 0) && ((v2.2.fIndex == 0) && true)) ev32)
            intro v24 ev32
            cases v24
            · have ev32 := cnd_f ev32
              refine Ops.sg 6 10 ?_
              exact Ops.st _ (by kernel_rfl) (J5j33 U U U U U false false (some_sub (fun v32 => f5_r2 m v32 = some o) ev32 h))
            · have ev32 := cnd_t ev32
              refine Ops.sg 3 7 ?_
              obtain ⟨v34, ev34, ev32⟩ := bnd_some ev32
              refine Ops.on 8 (fun h0 e0 => (call_ok (E' := EG) (h := h0) (by kernel_rfl) (Args.v (.agg [(vI a0.fKind), (vP eI a0.fLabels), (vP ep24 a0.fSubs), (vI a0.fLeast), (vI a0.fMost)]) (e24 a0) (by kernel_rfl) (Args.v (vP eI a1) ((eL eI) a1) (by kernel_rfl) Args.nil)) (ok19 m a0 a1 v34 ev34 n (by omega)))) ?_
              refine Ops.sg 2 10 ?_
              exact Ops.st _ (by kernel_rfl) (J5j33 (dB v2.1) ((.v (.agg [(vI a0.fKind), (vP eI a0.fLabels), (vP ep24 a0.fSubs), (vI a0.fLeast), (vI a0.fMost)]))) (dP eI a1) (dB v34) (dB (v2.1 == v34)) true (v2.1 == v34) (some_sub (fun v32 => f5_r2 m v32 = some o) ev32 h))
        obtain ⟨v22, ev22, h⟩ := bnd_some h
        refine Ops.hv (fun KQ => ∀ v16 : Bool, (cnd v16 (some true) (bnd (f18 m a0) fun v35 => some (decide (v35 > 25)))) = some v22 → KQ 4 ⟨(.v (.agg [(vI a0.fKind), (vP eI a0.fLabels), (vP ep24 a0.fSubs), (vI a0.fLeast), (vI a0.fMost)])) :: (dP eI a1) :: (.ptr 0 0) :: u1 ((dB false) :: (dB v2.1) :: (.ptr 1 0) :: (.ptr 2 0) :: (dB v1) :: (dB (!v1)) :: (.v (.tuple [(vB v2.1), (.agg [(vI v2.2.fCode), (vI v2.2.fIndex)])])) :: (.v (.agg [(vI a0.fKind), (vP eI a0.fLabels), (vP ep24 a0.fSubs), (vI a0.fLeast), (vI a0.fMost)])) :: (dP eI a1) :: (.v (.tuple [(vB v2.1), (.agg [(vI v2.2.fCode), (vI v2.2.fIndex)])])) :: (dB v2.1) :: (.v (.agg [(vI v2.2.fCode), (vI v2.2.fIndex)])) :: (.v (.agg [(vI a0.fKind), (vP eI a0.fLabels), (vP ep24 a0.fSubs), (vI a0.fLeast), (vI a0.fMost)])) :: (.v (.agg [(vI v3.fCode), (vI v3.fIndex)])) :: (.v (.agg [(vI v3.fCode), (vI v3.fIndex)])) :: (.v (.agg [(vI 0), (vI 0)])) :: (dB ((v3.fCode == 0) && ((v3.fIndex == 0) && true))) :: d4 :: d5 :: (.v (.agg [(vI v6), (vI v7)])) :: (.v (.agg [(vI 0), (vI 0)])) :: (dB (!((v6 == 0) && ((v7 == 0) && true)))) :: u7 ((dP eI a1) :: (dI (a1.length : Int)) :: (dB v16) :: (dB v16) :: u17 [])), [(b5_0 a0), (b5_1 v2), (.cells [(dI v6), (dI v7)])]⟩) ?_ fun G5g17 => Ops.st _ (by kernel_rfl) (G5g17 (decide ((a1.length : Int) > 5)) ev22)
        intro v16 ev22
        cases v16
        · have ev22 := cnd_f ev22
          refine Ops.sg 1 5 ?_
          obtain ⟨v35, ev35, ev22⟩ := bnd_some ev22
          refine Ops.on 6 (fun h0 e0 => (call_ok (E' := EG) (h := h0) (by kernel_rfl) (Args.v (.agg [(vI a0.fKind), (vP eI a0.fLabels), (vP ep24 a0.fSubs), (vI a0.fLeast), (vI a0.fMost)]) (e24 a0) (by kernel_rfl) Args.nil) (ok18 m a0 v35 ev35 n (by omega)))) ?_
          refine Ops.sg 2 8 ?_
          exact Ops.st _ (by kernel_rfl) (J5j23 ((.v (.agg [(vI a0.fKind), (vP eI a0.fLabels), (vP ep24 a0.fSubs), (vI a0.fLeast), (vI a0.fMost)]))) (dI v35) (dB (decide (v35 > 25))) false (decide (v35 > 25)) (some_sub (fun v22 => f5_r3 m a0 a1 v2 v22 = some o) ev22 h))
        · have ev22 := cnd_t ev22
          refine Ops.sg 4 8 ?_
          exact Ops.st _ (by kernel_rfl) (J5j23 U U U true true (some_sub (fun v22 => f5_r3 m a0 a1 v2 v22 = some o) ev22 h))
    refine Wp.cnd h [1, 2, 4, 5, 6, 7] 3 (by kernel_rfl) (fun h => ?_) (fun h => ?_)
    · refine Wp.rg ?_
      refine Ops.sg 1 1 ?_
      obtain ⟨v36, ev36, h⟩ := bnd_some h
      refine Ops.on 2 (fun h0 e0 => (call_ok (E' := EG) (h := h0) (by kernel_rfl) (Args.v (vP eI a1) ((eL eI) a1) (by kernel_rfl) (Args.v (vI (-2)) (eI (-2)) (by kernel_rfl) Args.nil)) (ok17 m a1 (-2) v36 ev36 n (by omega)))) ?_
      refine Ops.sg 1 3 ?_
      refine Ops.dn ?_
      refine sqQ.n ⟨(.v (.agg [(vI a0.fKind), (vP eI a0.fLabels), (vP ep24 a0.fSubs), (vI a0.fLeast), (vI a0.fMost)])) :: (dP eI a1) :: (.ptr 0 0) :: u1 ((dB false) :: (dB v2.1) :: (.ptr 1 0) :: (.ptr 2 0) :: (dB v1) :: (dB (!v1)) :: (.v (.tuple [(vB v2.1), (.agg [(vI v2.2.fCode), (vI v2.2.fIndex)])])) :: (.v (.agg [(vI a0.fKind), (vP eI a0.fLabels), (vP ep24 a0.fSubs), (vI a0.fLeast), (vI a0.fMost)])) :: (dP eI a1) :: (.v (.tuple [(vB v2.1), (.agg [(vI v2.2.fCode), (vI v2.2.fIndex)])])) :: (dB v2.1) :: (.v (.agg [(vI v2.2.fCode), (vI v2.2.fIndex)])) :: (.v (.agg [(vI a0.fKind), (vP eI a0.fLabels), (vP ep24 a0.fSubs), (vI a0.fLeast), (vI a0.fMost)])) :: (.v (.agg [(vI v3.fCode), (vI v3.fIndex)])) :: (.v (.agg [(vI v3.fCode), (vI v3.fIndex)])) :: (.v (.agg [(vI 0), (vI 0)])) :: (dB ((v3.fCode == 0) && ((v3.fIndex == 0) && true))) :: (dP eI a1) :: (.v (.agg [(vI v36.fCode), (vI v36.fIndex)])) :: u31 []), [(b5_0 a0), (b5_1 v2), (.cells [(dI v36.fCode), (dI v36.fIndex)])]⟩ (by kernel_rfl) ?_
      exact J5j8 v36.fCode v36.fIndex _ _ h
    · refine Wp.sk ?_
      refine sqQ.n ⟨(.v (.agg [(vI a0.fKind), (vP eI a0.fLabels), (vP ep24 a0.fSubs), (vI a0.fLeast), (vI a0.fMost)])) :: (dP eI a1) :: (.ptr 0 0) :: u1 ((dB false) :: (dB v2.1) :: (.ptr 1 0) :: (.ptr 2 0) :: (dB v1) :: (dB (!v1)) :: (.v (.tuple [(vB v2.1), (.agg [(vI v2.2.fCode), (vI v2.2.fIndex)])])) :: (.v (.agg [(vI a0.fKind), (vP eI a0.fLabels), (vP ep24 a0.fSubs), (vI a0.fLeast), (vI a0.fMost)])) :: (dP eI a1) :: (.v (.tuple [(vB v2.1), (.agg [(vI v2.2.fCode), (vI v2.2.fIndex)])])) :: (dB v2.1) :: (.v (.agg [(vI v2.2.fCode), (vI v2.2.fIndex)])) :: (.v (.agg [(vI a0.fKind), (vP eI a0.fLabels), (vP ep24 a0.fSubs), (vI a0.fLeast), (vI a0.fMost)])) :: (.v (.agg [(vI v3.fCode), (vI v3.fIndex)])) :: (.v (.agg [(vI v3.fCode), (vI v3.fIndex)])) :: (.v (.agg [(vI 0), (vI 0)])) :: (dB ((v3.fCode == 0) && ((v3.fIndex == 0) && true))) :: u33 []), [(b5_0 a0), (b5_1 v2), (.cells [(dI v3.fCode), (dI v3.fIndex)])]⟩ (by kernel_rfl) ?_
      exact J5j8 v3.fCode v3.fIndex _ _ h
noncomputable def f20 (m : Nat) (a0 : Int) (a1 : S24) (a2 : S24) : Option S24 :=
  some ((⟨a0, [], [(P24.con a1), (P24.con a2)], 0, 0⟩ : S24))
noncomputable abbrev X20 (n : Nat) : Cx := cxOf Proofs.Tryd.prog EG 20 n
noncomputable def C20 : Code := bodyOf Proofs.Tryd.prog 20
theorem ok20 (m : Nat) (a0 : Int) (a1 : S24) (a2 : S24) (o : S24) (h : f20 m a0 a1 a2 = some o) (n : Nat) (hn : m + 1 ≤ n) : Fn Proofs.Tryd.prog EG n 20 [.v (eI a0), .v (e24 a1), .v (e24 a2)] (e24 o) := by
  obtain ⟨n, rfl⟩ : ∃ q, n = q + 1 := ⟨n - 1, by omega⟩
  unfold f20 at h
  refine Fn.of (by kernel_rfl) (by kernel_rfl) (by kernel_rfl) ⟨(dI a0) :: (.v (.agg [(vI a1.fKind), (vP eI a1.fLabels), (vP ep24 a1.fSubs), (vI a1.fLeast), (vI a1.fMost)])) :: (.v (.agg [(vI a2.fKind), (vP eI a2.fLabels), (vP ep24 a2.fSubs), (vI a2.fLeast), (vI a2.fMost)])) :: u9 [], []⟩ (by kernel_rfl) ?_
  refine Wp.sq ?_
  refine Wp.rg ?_
  refine Ops.sg 3 3 ?_
  refine Ops.dn ?_
  refine seqQ.n ?_
  refine Wp.sq ?_
  refine Wp.rg ?_
  refine Ops.sg 6 6 ?_
  refine Ops.dn ?_
  refine seqQ.n ?_
  refine Wp.ret (by kernel_rfl) ?_
  exact fnQ.r' (X20 n) (fun z => (e24 z)) h (RetOk.mk' (.v (.agg [(vI a0), (.sl .nil (List.map eI [])), (.sl .nonfull (List.map ep24 ([(P24.con a1), (P24.con a2)]))), (vI 0), (vI 0)])) (by kernel_rfl) (by kernel_rfl))
end Go.Abs
