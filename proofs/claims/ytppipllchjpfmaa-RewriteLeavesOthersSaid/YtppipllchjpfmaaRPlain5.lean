import Derived.Test.YtppipllchjpfmaaRPlain
namespace Go.Abs
set_option linter.unusedVariables false
/-- From stands at a place -/
def standsS (r : S28) (w : List Int) (i : Nat) : Bool := decide (i + r.fFrom.length ≤ w.length) && decide ((w.drop i).take r.fFrom.length = r.fFrom)
theorem inner_loop (m : Nat) (r : S28) (w : List Int) (i : Nat) (hr : r.fFrom.length ≤ 3) (hi : i + r.fFrom.length ≤ w.length) (hw : w.length ≤ 1000) : ∀ (d kk k : Nat), r.fFrom.length = k + d → d + 1 < kk →
    ∃ j, iter (fun (y : Bool × Int) => f5_B2 m r w (i : Int) y.1 y.2) kk (true, (k : Int)) = some (.inr (decide ((w.drop (i + k)).take d = r.fFrom.drop k), j))
  | d, 0, k, h1, h2 => by omega
  | 0, kk + 1, k, h1, h2 => by
    have hd : decide ((k : Int) < (r.fFrom.length : Int)) = false := decide_eq_false (by omega)
    have e : r.fFrom.drop k = [] := List.drop_eq_nil_of_le (by omega)
    unfold iter
    simp only [f5_B2, f5_r1, hd, Bool.false_and, cnd_false, List.take_zero, e, decide_true]
    exact ⟨_, rfl⟩
  | d + 1, kk + 1, k, h1, h2 => by
    have hd : decide ((k : Int) < (r.fFrom.length : Int)) = true := decide_eq_true (by omega)
    have w1 : w64 ((i : Int) + (k : Int)) = ((i + k : Nat) : Int) := by rw [w64_id ⟨by omega, by omega⟩]; omega
    have w2 : w64 ((k : Int) + 1) = ((k + 1 : Nat) : Int) := by rw [w64_id ⟨by omega, by omega⟩]; omega
    have g1 : w[i + k]? = some w[i + k] := List.getElem?_eq_getElem (by omega)
    have g2 : r.fFrom[k]? = some r.fFrom[k] := List.getElem?_eq_getElem (by omega)
    have e0 : f5_B2 m r w (i : Int) true (k : Int) = some (.nxt (w[i + k] == r.fFrom[k], ((k + 1 : Nat) : Int))) := by
      simp only [f5_B2, f5_r1, hd, Bool.true_and, cnd_true, w1, w2, idx_get, g1, g2, bnd_some']
    unfold iter
    simp only [e0]
    rw [List.drop_eq_getElem_cons (by omega : i + k < w.length), List.drop_eq_getElem_cons (by omega : k < r.fFrom.length), List.take_succ_cons]
    by_cases hx : w[i + k] = r.fFrom[k]
    · obtain ⟨j, hj⟩ := inner_loop m r w i hr hi hw d kk (k + 1) (by omega) (by omega)
      have hb : (w[i + k] == r.fFrom[k]) = true := by simpa using hx
      rw [hb]
      refine ⟨j, ?_⟩
      have hj : iter (fun (y : Bool × Int) => f5_B2 m r w (i : Int) y.1 y.2) kk (true, ((k + 1 : Nat) : Int)) = some (.inr (decide ((w.drop (i + (k + 1))).take d = r.fFrom.drop (k + 1)), j)) := hj
      have e2 : decide (r.fFrom[k] :: (w.drop (i + k + 1)).take d = r.fFrom[k] :: r.fFrom.drop (k + 1)) = decide ((w.drop (i + (k + 1))).take d = r.fFrom.drop (k + 1)) :=
        decide_eq_decide.2 ⟨fun h => (List.cons.inj h).2, fun h => congrArg (List.cons _) h⟩
      rw [hj, hx, e2]
    · have hb : (w[i + k] == r.fFrom[k]) = false := by simpa using hx
      rw [hb]
      have hne : decide (w[i + k] :: (w.drop (i + k + 1)).take d = r.fFrom[k] :: r.fFrom.drop (k + 1)) = false := decide_eq_false fun h => hx (List.cons.inj h).1
      rw [hne]
      cases kk with
      | zero => omega
      | succ kk =>
        have e1 : f5_B2 m r w (i : Int) false ((k + 1 : Nat) : Int) = some (.brk (false, ((k + 1 : Nat) : Int))) := by
          simp only [f5_B2, f5_r1, Bool.and_false, cnd_false]
        unfold iter
        simp only [e1]
        exact ⟨_, rfl⟩
theorem inner_eq (m : Nat) (r : S28) (w : List Int) (i : Nat) (hr : r.fFrom.length ≤ 3) (hi : i < w.length) (hw : w.length ≤ 1000) (hm : 1000 < m) :
    ∃ j, iter (fun (y : Bool × Int) => f5_B2 m r w (i : Int) y.1 y.2) m (decide (w64 ((i : Int) + (r.fFrom.length : Int)) ≤ (w.length : Int)), 0) = some (.inr (standsS r w i, j)) := by
  have w1 : w64 ((i : Int) + (r.fFrom.length : Int)) = ((i + r.fFrom.length : Nat) : Int) := by rw [w64_id ⟨by omega, by omega⟩]; omega
  rw [w1]
  by_cases h : i + r.fFrom.length ≤ w.length
  · obtain ⟨j, hj⟩ := inner_loop m r w i hr h hw r.fFrom.length m 0 (by omega) (by omega)
    have hd : decide ((((i + r.fFrom.length : Nat) : Int)) ≤ (w.length : Int)) = true := decide_eq_true (by omega)
    rw [hd]
    refine ⟨j, ?_⟩
    have hj : iter (fun (y : Bool × Int) => f5_B2 m r w (i : Int) y.1 y.2) m (true, 0) = some (.inr (decide ((w.drop (i + 0)).take r.fFrom.length = r.fFrom.drop 0), j)) := hj
    rw [hj]
    unfold standsS
    rw [decide_eq_true h]
    simp
  · have hd : decide ((((i + r.fFrom.length : Nat) : Int)) ≤ (w.length : Int)) = false := decide_eq_false (by omega)
    have hs : standsS r w i = false := by unfold standsS; rw [decide_eq_false h]; rfl
    rw [hd, hs]
    obtain ⟨q, rfl⟩ : ∃ q, m = q + 1 := ⟨m - 1, by omega⟩
    unfold iter
    simp only [f5_B2, f5_r1, Bool.and_false, cnd_false]
    exact ⟨_, rfl⟩
theorem body_turn' {α R S A : Type} {xs : List α} {mk : S → Int → A} {g : Int → S → α → Option (R ⊕ S)} {s : S} {i : Nat} {K : Option (Stp R A)} {z : A} (hz : z = mk s i)
    (hK : ∀ x, xs[i]? = some x → K = match g i s x with
      | some (.inl r) => some (.ret r)
      | some (.inr s') => some (.nxt (mk s' ((i : Int) + 1)))
      | none => none) : cnd (decide ((i : Int) < (xs.length : Int))) K (some (.brk z)) = turn xs mk g s i := by
  unfold turn
  rcases Nat.lt_or_ge i xs.length with hlt | hge
  · have h1 : decide ((i : Int) < (xs.length : Int)) = true := by simpa using hlt
    have h3 := List.getElem?_eq_getElem hlt
    rw [h1, h3]
    exact hK _ h3
  · have h1 : decide ((i : Int) < (xs.length : Int)) = false := by simpa using hge
    rw [h1, List.getElem?_eq_none hge, hz]
    rfl
theorem scan_or (st : Nat → Bool) : ∀ (xs : List Int) (i : Nat) (b0 : Bool), ∃ b, scan (R := Bool) (fun i b _ => some (.inr (b || st i.toNat))) (i : Int) b0 xs = some (.inr b) ∧ (b = false → b0 = false ∧ ∀ q, q < xs.length → st (i + q) = false)
  | [], i, b0 => ⟨b0, rfl, fun h => ⟨h, fun q hq => by simp at hq⟩⟩
  | x :: r, i, b0 => by
    obtain ⟨b, h1, h2⟩ := scan_or st r (i + 1) (b0 || st i)
    refine ⟨b, ?_, fun h => ?_⟩
    · simp only [scan, Int.toNat_natCast]
      exact h1
    · obtain ⟨h3, h4⟩ := h2 h
      rw [Bool.or_eq_false_iff] at h3
      refine ⟨h3.1, fun q hq => ?_⟩
      cases q with
      | zero => exact h3.2
      | succ q =>
        have := h4 q (by simpa using hq)
        rw [← this]; congr 1; omega
theorem outer_eq (m : Nat) (r : S28) (w : List Int) (hr : r.fFrom.length ≤ 3) (hw : w.length ≤ 1000) (hm : 1000 < m) :
    ∃ b j, iter (fun (y : Bool × Int) => f5_B4 m r w y.1 y.2) m (false, 0) = some (.inr (b, j)) ∧ (b = false → ∀ q, q < w.length → standsS r w q = false) := by
  have e : iter (fun (y : Bool × Int) => f5_B4 m r w y.1 y.2) m (false, 0) = landed (fun (b : Bool) (i : Int) => (b, i)) w.length (scan (R := Bool) (fun i b _ => some (.inr (b || standsS r w i.toNat))) 0 false w) := by
    refine iter_scan w (fun (y : Bool × Int) => f5_B4 m r w y.1 y.2) (fun (b : Bool) (i : Int) => (b, i)) (fun i b _ => some (.inr (b || standsS r w i.toNat))) (fun s k hi => ?_) m 0 false (by omega) (by omega)
    refine body_turn' rfl fun x hx => ?_
    have hlt := lt_of_get hx
    have hw1 : w64 ((k : Int) + 1) = (k : Int) + 1 := w64_id ⟨by omega, by omega⟩
    obtain ⟨j, hj⟩ := inner_eq m r w k hr hlt hw hm
    rw [hj]
    simp only [brk_inr, f5_r3, hw1, Int.toNat_natCast]
  obtain ⟨b, h1, h2⟩ := scan_or (standsS r w) w 0 false
  have h1 : scan (R := Bool) (fun i b _ => some (.inr (b || standsS r w i.toNat))) 0 false w = some (.inr b) := h1
  rw [e, h1]
  exact ⟨b, _, rfl, fun h q hq => by have := (h2 h).2 q hq; rwa [Nat.zero_add] at this⟩
theorem match_stands {r : S28} {w : List Int} {i : Nat} (h : matchS r w i = true) : i + r.fFrom.length ≤ w.length ∧ (w.drop i).take r.fFrom.length = r.fFrom := by
  unfold matchS at h
  simp only [Bool.and_eq_true, decide_eq_true_eq] at h
  exact ⟨by omega, h.2.2.1⟩
theorem goS_copy (r : S28) (w : List Int) (h : ∀ q, q < w.length → matchS r w q = false) : ∀ (n i : Nat) (out : List Int), w.length ≤ n + i → goS r w n i out = out ++ w.drop i
  | 0, i, out, hn => by
    have : w.drop i = [] := List.drop_eq_nil_of_le (by omega)
    rw [this, List.append_nil]; rfl
  | n + 1, i, out, hn => by
    unfold goS
    split
    · rename_i hx
      have : w.drop i = [] := List.drop_eq_nil_of_le (by simpa using hx)
      rw [this, List.append_nil]
    · rename_i x hx
      have hlt := lt_of_get hx
      rw [h i hlt]
      simp only [Bool.false_eq_true, if_false]
      rw [goS_copy r w h n (i + 1) _ (by omega), List.drop_eq_getElem_cons hlt, List.append_assoc]
      have : w[i] = x := by rw [List.getElem?_eq_getElem hlt] at hx; exact Option.some.inj hx
      rw [this]; rfl
theorem goS_same (r : S28) (w : List Int) (hto : r.fTo = r.fFrom) : ∀ (n i : Nat), w.length ≤ n + i → i ≤ w.length → (1 ≤ r.fFrom.length) → goS r w n i (w.take i) = w
  | 0, i, hn, hi, h1 => by
    unfold goS
    exact List.take_of_length_le (by omega)
  | n + 1, i, hn, hi, h1 => by
    unfold goS
    split
    · rename_i hx
      have : w.length ≤ i := by simpa using hx
      exact List.take_of_length_le this
    · rename_i x hx
      have hlt := lt_of_get hx
      by_cases hm : matchS r w i = true
      · obtain ⟨m1, m2⟩ := match_stands hm
        rw [if_pos hm, hto]
        have e : w.take i ++ r.fFrom = w.take (i + r.fFrom.length) := by
          conv => lhs; rw [← m2]
          rw [List.take_add]
        rw [e]
        exact goS_same r w hto n _ (by omega) m1 h1
      · rw [if_neg hm]
        have e : w.take i ++ [x] = w.take (i + 1) := by
          rw [List.take_add_one, hx]; rfl
        rw [e]
        exact goS_same r w hto n (i + 1) (by omega) hlt h1
theorem ruleF_same (r : S28) (h : ruleF r = 0) : ruleF ⟨r.fFrom, r.fFrom, r.fLeft, r.fRight⟩ = 0 := by
  unfold ruleF at h ⊢
  split at h
  · cases h
  · rename_i hn
    split at h
    · rename_i hr
      simp only [Bool.and_eq_true] at hr
      rw [if_neg (by simp only; omega)]
      simp [hr.1, hr.2.2.1, hr.2.2.2]
    · cases h
theorem applyAll_one (r : S28) (w : List Int) (h : (applyS r w).length ≤ 300) : applyAll [r] 0 w = (applyS r w, ⟨0, 0⟩) := by
  unfold applyAll
  rw [if_neg (by omega)]
  rfl
theorem plain5 (r : S28) (w : List Int) : f5 1001 r w = some true := by
  unfold f5
  rw [f10_big]
  simp only [bnd_some', Bool.not_true, cnd_false]
  rw [f12_eq 1001 [r] w (by omega)]
  simp only [bnd_some', zero25]
  by_cases h0 : (applyF [r] w).2.fCode ≠ 0 ∨ (applyF [r] w).2.fIndex ≠ 0
  · rw [decide_eq_true h0]; rfl
  · have hc : (applyF [r] w).2.fCode = 0 := Decidable.byContradiction fun h => h0 (.inl h)
    obtain ⟨a1, a2, a3, a4, a5⟩ := applyF_ok hc
    have hz : ruleF r = 0 := by
      unfold firstF at a2
      split at a2
      · rename_i h; exact h
      · cases a2
    have hok := ruleF_ok hz
    have hx : (applyS r w).length ≤ 300 := by
      rw [a5] at hc
      unfold applyAll at hc
      split at hc
      · cases hc
      · omega
    have hx1 : (applyF [r] w).1 = applyS r w := by rw [a5, applyAll_one r w hx]
    rw [decide_eq_false h0, cnd_false]
    obtain ⟨b, j, hb, hst⟩ := outer_eq 1001 r w hok.f3 (by omega) (by omega)
    rw [hb]
    simp only [brk_inr]
    have hv : (bnd (cnd (!b) (bnd (f14 1001 (applyF [r] w).1 w) fun v170 => some (!v170)) (some false)) fun v158 => f5_r6 1001 r w v158) = f5_r6 1001 r w false := by
      cases b with
      | true => rfl
      | false =>
        have hs := hst rfl
        have hcopy : applyS r w = w := by
          have := goS_copy r w (fun q hq => by
            cases hmm : matchS r w q with
            | false => rfl
            | true =>
              obtain ⟨m1, m2⟩ := match_stands hmm
              have := hs q hq
              unfold standsS at this
              rw [decide_eq_true m1, decide_eq_true m2] at this
              cases this) w.length 0 [] (by omega)
          unfold applyS
          rw [this]; simp
        rw [Bool.not_false, cnd_true, f14_eq 1001 _ _ (by rw [hx1]; omega) (by rw [hx1]; omega), hx1, hcopy]
        simp
    rw [hv]
    unfold f5_r6
    rw [cnd_false, f12_eq 1001 _ w (by omega)]
    have hzs := ruleF_same r hz
    have hap : applyS ⟨r.fFrom, r.fFrom, r.fLeft, r.fRight⟩ w = w := goS_same ⟨r.fFrom, r.fFrom, r.fLeft, r.fRight⟩ w rfl w.length 0 (by omega) (by omega) hok.f1
    have hF : applyF [⟨r.fFrom, r.fFrom, r.fLeft, r.fRight⟩] w = (w, ⟨0, 0⟩) := by
      rw [applyF_of (by simp) (by simp [firstF, hzs]) a3 a4, applyAll_one _ _ (by rw [hap]; omega), hap]
    rw [hF]
    simp only [bnd_some']
    rw [f14_eq 1001 _ _ (by omega) (by omega)]
    simp [f5_r5]
end Go.Abs
