/-
  PATTERNS, the plain laws: the fault of a node, as the plain check says it.
-/
import Derived.Test.YthiikobbfpfbkaaDoorPC
namespace Go.Abs
open Go.Sort Go.Proofs
set_option linter.unusedVariables false
set_option maxRecDepth 100000

instance (x : Int) : Decidable (okC x) := by unfold okC; infer_instance
/-- the first fault of labels -/
def labE : Option Int → List Int → Int
  | _, [] => 0
  | l, x :: r => if okC x then (if l.any (fun y => decide (x ≤ y)) = true then 13 else labE (some x) r) else 3
def lastAt (l : List Int) : Nat → Option Int
  | 0 => none
  | i + 1 => l[i]?
theorem lab_gen {R : Type} (l : List Int) (B : Int → Option (Stp R Int)) (rf : Int → R)
    (hB : ∀ (i : Nat) (x : Int), l[i]? = some x → B (i : Int) = if okC x then (if (lastAt l i).any (fun y => decide (x ≤ y)) = true then some (.ret (rf 13)) else some (.nxt ((i + 1 : Nat) : Int))) else some (.ret (rf 3)))
    (hE : B (l.length : Int) = some (.brk (l.length : Int))) : ∀ (M i : Nat), i ≤ l.length → l.length < M + i →
    iter B M (i : Int) = some (if labE (lastAt l i) (l.drop i) = 0 then .inr (l.length : Int) else .inl (rf (labE (lastAt l i) (l.drop i))))
  | 0, i, h1, h2 => by omega
  | M + 1, i, h1, h2 => by
    unfold iter
    rcases Nat.lt_or_ge i l.length with hlt | hge
    · have hx := List.getElem?_eq_getElem hlt
      rw [hB i _ hx, List.drop_eq_getElem_cons hlt]
      unfold labE
      by_cases h3 : okC l[i]
      · rw [if_pos h3, if_pos h3]
        by_cases h4 : (lastAt l i).any (fun y => decide (l[i] ≤ y)) = true
        · rw [if_pos h4, if_pos h4]
          rfl
        · rw [if_neg h4, if_neg h4]
          have ih := lab_gen l B rf hB hE M (i + 1) hlt (by omega)
          have hl : lastAt l (i + 1) = some l[i] := hx
          rw [hl] at ih
          exact ih
      · rw [if_neg h3, if_neg h3]
        rfl
    · have : i = l.length := by omega
      subst this
      rw [hE, List.drop_length]
      rfl
theorem f37_dec (m : Nat) (x : Int) : f37 m x = some (decide (okC x)) := by
  obtain ⟨b, h1, h2⟩ := f37_eq m x
  rw [h1]
  cases b with
  | true => rw [decide_eq_true (h2.1 rfl)]
  | false => rw [decide_eq_false fun h => by have := h2.2 h; cases this]
theorem f42_eq (m : Nat) (x : Int) : f42 m x = some ((decide (x ≥ 0) && decide (x < 55296)) || (decide (x > 57343) && decide (x ≤ 1114111))) := rfl
theorem bool_ok (x : Int) : (if decide (x < 1) = true then some true else some (!((decide (x ≥ 0) && decide (x < 55296)) || (decide (x > 57343) && decide (x ≤ 1114111))))) = some (!(decide (okC x))) := by
  by_cases h : x < 1
  · rw [if_pos (decide_eq_true h), decide_eq_false (by unfold okC; omega)]
    rfl
  · rw [if_neg (by simpa using h)]
    congr 2
    rw [Bool.eq_iff_iff]
    simp only [Bool.or_eq_true, Bool.and_eq_true, decide_eq_true_eq]
    unfold okC
    omega
def SubsOk (p : S24) : Prop := (p.fKind = 1 ∨ p.fKind = 2) ∧ p.fSubs.length = 0 ∨ (p.fKind = 3 ∨ p.fKind = 4) ∧ 2 ≤ p.fSubs.length ∨ p.fKind = 5 ∧ p.fSubs.length = 1 ∨ (p.fKind = 6 ∨ p.fKind = 7) ∧ p.fSubs.length = 2
def LabsOk (p : S24) : Prop := (p.fKind = 2 ∧ 0 < p.fLabels.length ∨ p.fKind ≠ 2 ∧ p.fLabels.length = 0) ∧ p.fLabels.length ≤ 300
instance (p : S24) : Decidable (SubsOk p) := by unfold SubsOk; infer_instance
instance (p : S24) : Decidable (LabsOk p) := by unfold LabsOk; infer_instance
/-- the counts that a node states -/
def repE (p : S24) : Int :=
  if p.fKind = 5 then (if p.fLeast < 0 ∨ p.fLeast > 9 ∨ p.fMost < -1 ∨ p.fMost > 9 then 3 else if 0 ≤ p.fMost ∧ p.fMost < p.fLeast then 13 else 0)
  else if p.fLeast ≠ 0 ∨ p.fMost ≠ 0 then 5 else 0
/-- the fault of a node by itself -/
def nodeE (p : S24) : Int :=
  if p.fKind < 1 ∨ 7 < p.fKind then 4 else if ¬ (SubsOk p ∧ LabsOk p) then 9 else if labE none p.fLabels ≠ 0 then labE none p.fLabels else repE p
/-! ### the reference -/
theorem lab26 (m : Nat) (p : S24) (hl : p.fLabels.length ≤ 300) (hm : 1000 ≤ m) : iter (fun (y : Int) => f26_B3 m p y) m 0 = some (if labE none p.fLabels = 0 then .inr (p.fLabels.length : Int) else .inl (labE none p.fLabels)) := by
  refine lab_gen p.fLabels _ id (fun i x hx => ?_) ?_ m 0 (Nat.zero_le _) (by omega)
  · have hlt : i < p.fLabels.length := (List.getElem?_eq_some_iff.1 hx).1
    have e1 : idx p.fLabels (i : Int) = some x := by simp [idx, hx]
    have hwi : w64 ((i : Int) + 1) = ((i + 1 : Nat) : Int) := by rw [w64_id ⟨by omega, by omega⟩]; omega
    unfold f26_B3
    rw [decide_eq_true (by omega : (i : Int) < (p.fLabels.length : Int)), cnd_true, e1, bnd_some', f42_eq, bnd_some']
    have hb := bool_ok x
    have hc : (cnd (decide (x < 1)) (some true) (some (!((decide (x ≥ 0) && decide (x < 55296)) || (decide (x > 57343) && decide (x ≤ 1114111)))))) = some (!(decide (okC x))) := by
      rw [← hb]
      cases decide (x < 1) <;> rfl
    rw [hc, bnd_some']
    unfold f26_r2
    by_cases h3 : okC x
    · rw [decide_eq_true h3, if_pos h3, Bool.not_true, cnd_false]
      cases i with
      | zero =>
        rw [decide_eq_false (by omega : ¬ (((0 : Nat) : Int) > 0)), cnd_false, bnd_some']
        unfold f26_r1
        rw [cnd_false, hwi]
        rfl
      | succ j =>
        have e0 : w64 (((j + 1 : Nat) : Int) - 1) = (j : Int) := by rw [w64_id ⟨by omega, by omega⟩]; omega
        have hj : j < p.fLabels.length := by omega
        have e2 : idx p.fLabels (j : Int) = some p.fLabels[j] := by simp [idx, List.getElem?_eq_getElem hj]
        have e3 : lastAt p.fLabels (j + 1) = some p.fLabels[j] := List.getElem?_eq_getElem hj
        rw [decide_eq_true (by omega : (((j + 1 : Nat) : Int) > 0)), cnd_true, e0, e2, bnd_some', bnd_some', e3]
        unfold f26_r1
        show cnd (decide (x ≤ p.fLabels[j])) _ _ = if decide (x ≤ p.fLabels[j]) = true then _ else _
        rw [hwi]
        cases decide (x ≤ p.fLabels[j]) <;> rfl
    · rw [decide_eq_false h3, if_neg h3]
      rfl
  · unfold f26_B3
    rw [decide_eq_false (by omega), cnd_false]
theorem j13_eq (m : Nat) (hm : 1000 ≤ m) (p : S24) (hk : ¬ (p.fKind < 1 ∨ 7 < p.fKind)) (v1 v2 : Bool) (hv : v1 = true ↔ SubsOk p) : f26_j13 m p v1 v2 = some (nodeE p) := by
  unfold f26_j13 f26_r12 f26_r11 f26_r10 nodeE
  rw [if_neg hk]
  by_cases hs : SubsOk p ∧ LabsOk p
  · have hb : (((((p.fKind == 2) && ((p.fLabels.length : Int) == 0)) || ((p.fKind != 2) && (decide ((p.fLabels.length : Int) > 0)))) || (decide ((p.fLabels.length : Int) > 300))) || (!v1)) = false := by
      rw [hv.2 hs.1]
      obtain ⟨h1, h2⟩ := hs.2
      simp only [Bool.or_eq_false_iff, Bool.and_eq_false_iff, beq_eq_false_iff_ne, bne_eq_false_iff_eq, decide_eq_false_iff_not, ne_eq, Bool.not_true, and_true]
      omega
    rw [hb, if_neg (by simpa using hs)]
    unfold f26_r9
    rw [cnd_false, lab26 m p hs.2.2 hm]
    by_cases h0 : labE none p.fLabels = 0
    · rw [if_pos h0, if_neg (by simpa using h0)]
      show cnd (p.fKind != 5) _ _ = _
      unfold repE
      by_cases h5 : p.fKind = 5
      · have e5 : (p.fKind != 5) = false := by simpa using h5
        rw [e5, cnd_false, if_pos h5]
        unfold f26_r8 f26_r7 f26_r6 f26_r5
        by_cases hr : p.fLeast < 0 ∨ p.fLeast > 9 ∨ p.fMost < -1 ∨ p.fMost > 9
        · have : (((decide (p.fLeast < 0) || decide (p.fLeast > 9)) || decide (p.fMost < -1)) || decide (p.fMost > 9)) = true := by
            simp only [Bool.or_eq_true, decide_eq_true_eq]; omega
          rw [this, cnd_true, if_pos hr]
        · have : (((decide (p.fLeast < 0) || decide (p.fLeast > 9)) || decide (p.fMost < -1)) || decide (p.fMost > 9)) = false := by
            simp only [Bool.or_eq_false_iff, decide_eq_false_iff_not]; omega
          rw [this, cnd_false, if_neg hr]
          by_cases ho : 0 ≤ p.fMost ∧ p.fMost < p.fLeast
          · have : ((p.fMost != -1) && decide (p.fMost < p.fLeast)) = true := by simp only [Bool.and_eq_true, bne_iff_ne, ne_eq, decide_eq_true_eq]; omega
            rw [this, cnd_true, if_pos ho]
          · have : ((p.fMost != -1) && decide (p.fMost < p.fLeast)) = false := by
              rw [Bool.and_eq_false_iff, bne_eq_false_iff_eq, decide_eq_false_iff_not]; omega
            rw [this, cnd_false, if_neg ho]
      · have e5 : (p.fKind != 5) = true := by simpa using h5
        rw [e5, cnd_true, if_neg h5]
        unfold f26_r4
        by_cases hz : p.fLeast ≠ 0 ∨ p.fMost ≠ 0
        · have : ((p.fLeast != 0) || (p.fMost != 0)) = true := by
            simp only [Bool.or_eq_true, bne_iff_ne, ne_eq]; omega
          rw [this, cnd_true, if_pos hz]
        · have : ((p.fLeast != 0) || (p.fMost != 0)) = false := by
            simp only [Bool.or_eq_false_iff, bne_eq_false_iff_eq]; omega
          rw [this, cnd_false, if_neg hz]
    · rw [if_neg h0, if_pos (by simpa using h0)]
      rfl
  · have hb : (((((p.fKind == 2) && ((p.fLabels.length : Int) == 0)) || ((p.fKind != 2) && (decide ((p.fLabels.length : Int) > 0)))) || (decide ((p.fLabels.length : Int) > 300))) || (!v1)) = true := by
      by_cases h1 : SubsOk p
      · have h2 : ¬ LabsOk p := fun h => hs ⟨h1, h⟩
        unfold LabsOk at h2
        simp only [Bool.or_eq_true, Bool.and_eq_true, beq_iff_eq, bne_iff_ne, decide_eq_true_eq, ne_eq]
        omega
      · have : v1 = false := by
          cases v1 with
          | false => rfl
          | true => exact (h1 (hv.1 rfl)).elim
        rw [this]
        simp
    rw [hb, if_pos hs]
    rfl
theorem f26_eq (m : Nat) (hm : 1000 ≤ m) (p : S24) : f26 m p = some (nodeE p) := by
  have kb : ∀ z : Int, p.fKind = z → ((p.fKind == z) = true) := fun z h => by simpa using h
  have nk : ∀ z : Int, p.fKind ≠ z → ((p.fKind == z) = false) := fun z h => by simpa using h
  have hlen : ∀ z : Nat, (((p.fSubs.length : Int) == (z : Int)) = true ↔ p.fSubs.length = z) := fun z => by simp only [beq_iff_eq]; omega
  unfold f26
  by_cases k1 : p.fKind = 1
  · rw [kb 1 k1, cnd_true]
    exact j13_eq m hm p (by omega) ((p.fSubs.length : Int) == 0) true ((hlen 0).trans (by unfold SubsOk; omega))
  rw [nk 1 k1, cnd_false]
  by_cases k2 : p.fKind = 2
  · rw [kb 2 k2]
    exact j13_eq m hm p (by omega) ((p.fSubs.length : Int) == 0) true ((hlen 0).trans (by unfold SubsOk; omega))
  rw [nk 2 k2]
  unfold f26_j19
  rw [cnd_false]
  have h34 : (p.fKind = 3 ∨ p.fKind = 4) → f26_j18 m p false true = some (nodeE p) := fun h =>
    j13_eq m hm p (by omega) (decide ((p.fSubs.length : Int) ≥ 2)) false (by simp only [decide_eq_true_eq]; unfold SubsOk; omega)
  by_cases k3 : p.fKind = 3
  · rw [kb 3 k3, cnd_true]
    exact h34 (.inl k3)
  rw [nk 3 k3, cnd_false]
  by_cases k4 : p.fKind = 4
  · rw [kb 4 k4]
    exact h34 (.inr k4)
  rw [nk 4 k4]
  unfold f26_j18
  rw [cnd_false]
  by_cases k5 : p.fKind = 5
  · rw [kb 5 k5, cnd_true]
    exact j13_eq m hm p (by omega) ((p.fSubs.length : Int) == 1) false ((hlen 1).trans (by unfold SubsOk; omega))
  rw [nk 5 k5, cnd_false]
  have h67 : (p.fKind = 6 ∨ p.fKind = 7) → f26_j17 m p false true = some (nodeE p) := fun h =>
    j13_eq m hm p (by omega) ((p.fSubs.length : Int) == 2) false ((hlen 2).trans (by unfold SubsOk; omega))
  by_cases k6 : p.fKind = 6
  · rw [kb 6 k6, cnd_true]
    exact h67 (.inl k6)
  rw [nk 6 k6, cnd_false]
  by_cases k7 : p.fKind = 7
  · rw [kb 7 k7]
    exact h67 (.inr k7)
  rw [nk 7 k7]
  unfold nodeE
  rw [if_pos (by omega)]
  rfl
end Go.Abs
