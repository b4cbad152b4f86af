import Derived.Test.YtppipllchjpfmaaTPlainA
namespace Go.Abs
set_option linter.unusedVariables false
theorem app_some {α : Type} (b : Nat) (xs ys : List α) (h : (xs.length + ys.length) * b ≤ 140737488355328) (h2 : xs.length + ys.length ≤ 1000000) : app b xs ys = some (xs ++ ys) := by
  unfold app
  rw [if_pos ⟨h, by unfold maxLen; omega⟩]
theorem firstP_append {α : Type} (P : α → Bool) : ∀ (a b : List α) (i : Int), firstP P i (a ++ b) = match firstP P i a with
    | some j => some j
    | none => firstP P (i + a.length) b
  | [], b, i => by simp [firstP]
  | x :: a, b, i => by
    simp only [List.cons_append, firstP]
    split
    · rw [firstP_append P a b (i + 1)]
      have : i + 1 + (a.length : Int) = i + ((x :: a).length : Int) := by simp only [List.length_cons]; omega
      rw [this]
    · rfl
theorem firstP_shift {α : Type} (P : α → Bool) : ∀ (b : List α) (i d : Int), firstP P (i + d) b = (firstP P i b).map (· + d)
  | [], i, d => rfl
  | x :: b, i, d => by
    simp only [firstP]
    split
    · rw [← firstP_shift P b (i + 1) d]
      congr 1
      omega
    · rfl
theorem firstP_lt {α : Type} (P : α → Bool) : ∀ (b : List α) (i j : Int), firstP P i b = some j → j < i + b.length
  | x :: b, i, j, h => by
    simp only [firstP] at h
    simp only [List.length_cons]
    split at h
    · have := firstP_lt P b (i + 1) j h; omega
    · cases h; omega
theorem rulesS_of (l : List S42) (hl : l.length ≤ 40) (h : ∀ r ∈ l, ruleS r = 0) : rulesS l = some ⟨0, 0⟩ := by
  unfold rulesS
  rw [if_neg (by omega)]
  have : ∀ (l : List S42) (i : Int), (∀ r ∈ l, ruleS r = 0) → scan gRule i () l = some (.inr ()) := by
    intro l
    induction l with
    | nil => intro i _; rfl
    | cons x r ih =>
      intro i h
      simp only [scan, gRule, h x List.mem_cons_self, if_true]
      exact ih (i + 1) fun y hy => h y (List.mem_cons_of_mem _ hy)
  rw [this l 0 h]; rfl
theorem rulesS_all {l : List S42} (h : rulesS l = some ⟨0, 0⟩) : ∀ r ∈ l, ruleS r = 0 := by
  unfold rulesS at h
  split at h
  · cases h
  · have : ∀ (l : List S42) (i : Int), scan gRule i () l = some (.inr ()) → ∀ r ∈ l, ruleS r = 0 := by
      intro l
      induction l with
      | nil => intro i _ r hr; cases hr
      | cons x r ih =>
        intro i h y hy
        by_cases hx : ruleS x = 0
        · simp only [scan, gRule, hx, if_true] at h
          rcases List.mem_cons.1 hy with rfl | hy
          · exact hx
          · exact ih (i + 1) h y hy
        · simp [scan, gRule, hx] at h
    refine this l 0 ?_
    rcases scan_rule_ok l 0 with ⟨v, h1, h2⟩ | ⟨h1, h2⟩
    · rw [h1] at h
      simp only [landed, brk_inl, Option.some.injEq] at h
      subst h
      exact (h2 rfl).elim
    · exact h1
theorem z25 (v : S25) (h : v.fCode ≠ 0) : (!((v.fCode == 0) && ((v.fIndex == 0) && true))) = true := by rw [ok25 v h]; rfl
theorem plain8 (a b : List S42) (l : List S39) : f8 1001 a b l = some true := by
  unfold f8
  rw [f16_big]
  simp only [bnd_some', Bool.not_true, cnd_false]
  rcases f18_eq 1001 a l (by omega) with ⟨v, h1, h2, h3⟩ | ⟨h1, v, h2, h3, h4⟩ | ⟨h1, h2, h3, h4, h5, h6⟩
  · rw [h3]
    rcases f18_eq 1001 b l (by omega) with ⟨u, g1, g2, g3⟩ | ⟨g1, u, g2, g3, g4⟩ | ⟨g1, g2, g3, g4, g5, g6⟩
    · rw [g3]; simp only [bnd_some', f8_r3, f8_r2, z25 v h1, Bool.true_or, cnd_true]
    · rw [g4]; simp only [bnd_some', f8_r3, f8_r2, z25 v h1, Bool.true_or, cnd_true]
    · rw [g6]; simp only [bnd_some', f8_r3, f8_r2, z25 v h1, Bool.true_or, cnd_true]
  · rw [h4]
    rcases f18_eq 1001 b l (by omega) with ⟨u, g1, g2, g3⟩ | ⟨g1, u, g2, g3, g4⟩ | ⟨g1, g2, g3, g4, g5, g6⟩
    · rw [g3]; simp only [bnd_some', f8_r3, f8_r2, z25 v h2, Bool.true_or, cnd_true]
    · rw [g4]; simp only [bnd_some', f8_r3, f8_r2, z25 v h2, Bool.true_or, cnd_true]
    · rw [g6]; simp only [bnd_some', f8_r3, f8_r2, z25 v h2, Bool.true_or, cnd_true]
  · rw [h6]
    rcases f18_eq 1001 b l (by omega) with ⟨u, g1, g2, g3⟩ | ⟨g1, u, g2, g3, g4⟩ | ⟨g1, g2, g3, g4, g5, g6⟩
    · rw [g3]; simp only [bnd_some', f8_r3, f8_r2, z25 u g1, Bool.or_true, Bool.true_or, cnd_true]
    · rw [g4]; simp only [bnd_some', f8_r3, f8_r2, z25 u g2, Bool.or_true, Bool.true_or, cnd_true]
    · rw [g6]
      have hw : w64 ((a.length : Int) + (b.length : Int)) = (a.length : Int) + (b.length : Int) := w64_id ⟨by omega, by omega⟩
      have za : (!(((allowedS a l).2.2.fCode == 0) && (((allowedS a l).2.2.fIndex == 0) && true))) = false := by unfold allowedS; cases firstP (obeyedS l) 0 a <;> rfl
      have zb : (!(((allowedS b l).2.2.fCode == 0) && (((allowedS b l).2.2.fIndex == 0) && true))) = false := by unfold allowedS; cases firstP (obeyedS l) 0 b <;> rfl
      simp only [bnd_some', f8_r3, hw, za, zb, Bool.or_self, Bool.false_or]
      by_cases hs : (a.length : Int) + (b.length : Int) > 40
      · rw [decide_eq_true hs]; rfl
      · rw [decide_eq_false hs]
        simp only [f8_r2, cnd_false]
        rw [app_some 48 [] a (by simp; omega) (by simp; omega)]
        simp only [bnd_some', List.nil_append]
        rw [app_some 48 a b (by omega) (by omega)]
        simp only [bnd_some']
        have hall : rulesS (a ++ b) = some ⟨0, 0⟩ := rulesS_of _ (by rw [List.length_append]; omega) fun r hr => by
          rcases List.mem_append.1 hr with hr | hr
          · exact rulesS_all h1 r hr
          · exact rulesS_all g1 r hr
        rcases f18_eq 1001 (a ++ b) l (by omega) with ⟨u, k1, k2, k3⟩ | ⟨k1, u, k2, k3, k4⟩ | ⟨k1, k2, k3, k4, k5, k6⟩
        · rw [hall] at k2; cases k2; exact (k1 rfl).elim
        · rw [h2] at k3; cases k3; exact (k2 rfl).elim
        · rw [k6]
          have ea : firstP (obeyedS l) 0 (a ++ b) = match firstP (obeyedS l) 0 a with
              | some j => some j
              | none => (firstP (obeyedS l) 0 b).map (· + (a.length : Int)) := by
            rw [firstP_append]
            cases firstP (obeyedS l) 0 a with
            | some j => rfl
            | none => exact firstP_shift (obeyedS l) b 0 a.length
          unfold allowedS
          rw [ea]
          cases ha : firstP (obeyedS l) 0 a with
          | some j =>
            have := firstP_ge _ _ _ _ ha
            simp [f8_r1]
          | none =>
            cases hb : firstP (obeyedS l) 0 b with
            | none => simp [f8_r1]
            | some j =>
              have h7 := firstP_ge _ _ _ _ hb
              have h8 := firstP_lt _ _ _ _ hb
              have hw2 : w64 ((a.length : Int) + j) = j + (a.length : Int) := by rw [w64_id ⟨by omega, by omega⟩, Int.add_comm]
              simp [f8_r1, hw2]
end Go.Abs
