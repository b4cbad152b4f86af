import Derived.Test.YtppipllchjpfmaaTPlainA
namespace Go.Abs
set_option linter.unusedVariables false
def kindR (a : S42) (k : Int) : S42 := ⟨k, a.fPair, a.fContexts⟩
theorem ruleS_kind (a : S42) (k : Int) (hk : 1 ≤ k ∧ k ≤ 4) : ruleS (kindR a k) = ruleS (kindR a 1) := by
  unfold ruleS
  have h1 : ¬ ¬ (1 ≤ (kindR a k).fKind ∧ (kindR a k).fKind ≤ 4) := fun h => h hk
  have h2 : ¬ ¬ (1 ≤ (kindR a 1).fKind ∧ (kindR a 1).fKind ≤ 4) := fun h => h ⟨Int.le_refl 1, by show (1 : Int) ≤ 4; decide⟩
  rw [if_neg h1, if_neg h2]
  rfl
theorem rulesS_one (a : S42) (k : Int) (hk : 1 ≤ k ∧ k ≤ 4) : rulesS [kindR a k] = some (if ruleS (kindR a 1) = 0 then ⟨0, 0⟩ else ⟨ruleS (kindR a 1), 0⟩) := by
  unfold rulesS
  rw [if_neg (by simp)]
  simp only [scan, gRule, ruleS_kind a k hk]
  by_cases h : ruleS (kindR a 1) = 0 <;> simp [h, landed]
theorem rulesS_two (a : S42) (k j : Int) (hk : 1 ≤ k ∧ k ≤ 4) (hj : 1 ≤ j ∧ j ≤ 4) : rulesS [kindR a k, kindR a j] = some (if ruleS (kindR a 1) = 0 then ⟨0, 0⟩ else ⟨ruleS (kindR a 1), 0⟩) := by
  unfold rulesS
  rw [if_neg (by simp)]
  simp only [scan, gRule, ruleS_kind a k hk, ruleS_kind a j hj]
  by_cases h : ruleS (kindR a 1) = 0 <;> simp [h, landed]
theorem allP_and {α : Type} (P Q R : Int → α → Bool) (h : ∀ i x, P i x = (Q i x && R i x)) : ∀ (l : List α) (i : Int), allP P i l = (allP Q i l && allP R i l)
  | [], i => rfl
  | x :: r, i => by
    simp only [allP, h, allP_and P Q R h r]
    cases Q i x <;> cases R i x <;> cases allP Q (i + 1) r <;> cases allP R (i + 1) r <;> rfl
theorem obey_both (a : S42) (l : List S39) : obeyedS l (kindR a 3) = (obeyedS l (kindR a 1) && obeyedS l (kindR a 2)) := by
  unfold obeyedS
  exact allP_and _ _ _ (fun i p => rfl) l 0
theorem plain7 (a : S42) (l : List S39) : f7 1001 a l = some true := by
  unfold f7
  rw [f16_big]
  simp only [bnd_some', Bool.not_true, cnd_false]
  have e1 : (⟨3, a.fPair, a.fContexts⟩ : S42) = kindR a 3 := rfl
  have e2 : (⟨1, a.fPair, a.fContexts⟩ : S42) = kindR a 1 := rfl
  have e3 : (⟨2, a.fPair, a.fContexts⟩ : S42) = kindR a 2 := rfl
  rw [e1, e2, e3]
  have r1 := rulesS_one a 3 (by decide)
  have r2 := rulesS_two a 1 2 (by decide) (by decide)
  rcases f18_eq 1001 [kindR a 3] l (by omega) with ⟨v, h1, h2, h3⟩ | ⟨h1, v, h2, h3, h4⟩ | ⟨h1, h2, h3, h4, h5, h6⟩
  · rcases f18_eq 1001 [kindR a 1, kindR a 2] l (by omega) with ⟨u, g1, g2, g3⟩ | ⟨g1, u, g2, g3, g4⟩ | ⟨g1, g2, g3, g4, g5, g6⟩
    · have : u = v := by rw [r1] at h2; rw [r2] at g2; exact (Option.some.inj g2).symm.trans (Option.some.inj h2)
      subst this
      rw [h3, g3]
      simp only [bnd_some', f7_r2, f7_r1, ok25 u h1, beq_self_eq_true, Bool.and_self, Bool.not_false, Bool.true_or]
    · rw [r2] at g1; rw [r1, Option.some.inj g1] at h2; cases h2; exact (h1 rfl).elim
    · rw [r2] at g1; rw [r1, Option.some.inj g1] at h2; cases h2; exact (h1 rfl).elim
  · rcases f18_eq 1001 [kindR a 1, kindR a 2] l (by omega) with ⟨u, g1, g2, g3⟩ | ⟨g1, u, g2, g3, g4⟩ | ⟨g1, g2, g3, g4, g5, g6⟩
    · rw [r1] at h1; rw [r2, Option.some.inj h1] at g2; cases g2; exact (g1 rfl).elim
    · have : u = v := by rw [h3] at g3; exact (Option.some.inj g3).symm
      subst this
      rw [h4, g4]
      simp only [bnd_some', f7_r2, f7_r1, ok25 u h2, beq_self_eq_true, Bool.and_self, Bool.not_false, Bool.true_or]
    · rw [h3] at g2; cases g2; exact (h2 rfl).elim
  · rcases f18_eq 1001 [kindR a 1, kindR a 2] l (by omega) with ⟨u, g1, g2, g3⟩ | ⟨g1, u, g2, g3, g4⟩ | ⟨g1, g2, g3, g4, g5, g6⟩
    · rw [r1] at h1; rw [r2, Option.some.inj h1] at g2; cases g2; exact (g1 rfl).elim
    · rw [h2] at g3; cases g3; exact (g2 rfl).elim
    · rw [h6, g6]
      unfold allowedS
      simp only [firstP, obey_both]
      cases q1 : obeyedS l (kindR a 1) <;> cases q2 : obeyedS l (kindR a 2) <;> simp [f7_r2, f7_r1]
end Go.Abs
