import Derived.Test.YtppipllchjpfmaaRPlain
namespace Go.Abs
set_option linter.unusedVariables false
theorem plain4 (a b : List S28) (w : List Int) (hbl : b.length ≤ 9000000000000000000) : f4 1001 a b w = some true := by
  unfold f4
  rw [f10_big]
  simp only [bnd_some', Bool.not_true, cnd_false]
  rw [f12_eq 1001 a w (by omega)]
  simp only [bnd_some', zero25, f4_r3]
  by_cases h0 : (applyF a w).2.fCode ≠ 0 ∨ (applyF a w).2.fIndex ≠ 0
  · rw [decide_eq_true h0]
    rfl
  · rw [decide_eq_false h0, Bool.false_or]
    have hc : (applyF a w).2.fCode = 0 := Decidable.byContradiction fun h => h0 (.inl h)
    obtain ⟨a1, a2, a3, a4, a5⟩ := applyF_ok hc
    by_cases hx : (applyF a w).1.length > 30
    · rw [decide_eq_true (by omega : (((applyF a w).1.length : Int)) > 30), Bool.true_or]
      rfl
    · rw [decide_eq_false (by omega : ¬ (((applyF a w).1.length : Int)) > 30), Bool.false_or]
      have hw : w64 ((a.length : Int) + (b.length : Int)) = (a.length : Int) + (b.length : Int) := w64_id ⟨by omega, by omega⟩
      rw [hw]
      by_cases hs : (a.length : Int) + (b.length : Int) > 40
      · rw [decide_eq_true hs]; rfl
      · rw [decide_eq_false hs]
        simp only [f4_r2, cnd_false]
        rw [f12_eq 1001 b _ (by omega), app_some 96 [] a (by simp; omega) (by simp; omega)]
        simp only [bnd_some', List.nil_append]
        rw [app_some 96 a b (by omega) (by omega)]
        simp only [bnd_some', f12_eq 1001 (a ++ b) w (by omega), b25]
        have hr : rightS (applyF a w).1 = true := by
          rw [a5]; exact applyAll_right a 0 w (firstF_ok a 0 a2) a4
        have hlen : (a ++ b).length ≤ 40 := by rw [List.length_append]; omega
        have hfa := firstF_append a b 0 a2
        by_cases hfb : firstF 0 b = none
        · -- b is valid, too
          have e1 : applyF b (applyF a w).1 = applyAll b 0 (applyF a w).1 := applyF_of (by omega) hfb (by omega) hr
          have e2 : applyF (a ++ b) w = applyAll b (0 + a.length) (applyF a w).1 := by
            rw [applyF_of hlen (by rw [hfa]; exact firstF_none b _ _ hfb) a3 a4, applyAll_append a b 0 w (by rw [← a5]; exact hc), ← a5]
          obtain ⟨s1, s2⟩ := applyAll_shift b 0 (0 + a.length) (applyF a w).1
          rw [← e1, ← e2] at s1 s2
          rcases applyF_code b (applyF a w).1 with hz | hn
          · have hz2 : (applyF (a ++ b) w).2 = ⟨0, 0⟩ := by
              rcases applyF_code (a ++ b) w with h | h
              · exact h
              · rw [← s2, hz] at h; exact (h rfl).elim
            have hl3 := applyF_len b (applyF a w).1 (by rw [hz])
            rw [hz, hz2]
            simp only [and_self, decide_true, Bool.not_true, cnd_false, cnd_true]
            rw [f14_eq 1001 _ _ (by omega) (by omega), s1]
            simp [f4_r1]
          · have hn2 : (applyF (a ++ b) w).2.fCode ≠ 0 := by rw [← s2]; exact hn
            rw [decide_eq_false (fun h => hn h.1), decide_eq_false (fun h => hn2 h.1)]
            rfl
        · obtain ⟨f, hf⟩ := Option.ne_none_iff_exists'.1 hfb
          have hn : (applyF b (applyF a w).1).2.fCode ≠ 0 := by
            intro h
            have := (applyF_ok h).2.1
            rw [hf] at this; cases this
          have hn2 : (applyF (a ++ b) w).2.fCode ≠ 0 := by
            intro h
            have := (applyF_ok h).2.1
            rw [hfa] at this
            have := firstF_none b _ 0 this
            rw [hf] at this; cases this
          rw [decide_eq_false (fun h => hn h.1), decide_eq_false (fun h => hn2 h.1)]
          rfl
theorem plain4s (a b : List S28) (w : List Int) (hz : SizedL Proofs.Try.prog [22, 22, 23] [eL e28 a, eL e28 b, eL eI w]) : f4 1001 a b w = some true := by
  have h : (b.map e28).length * Proofs.Try.prog.bytesOf 29 ≤ reachBytes := hz 1 22 29 (b.map e28) rfl rfl Proofs.Try.underlying22
  have hb : Proofs.Try.prog.bytesOf 29 = 96 := by kernel_rfl
  have hr : reachBytes = 140737488351232 := by kernel_rfl
  rw [hb, hr, List.length_map] at h
  exact plain4 a b w (by omega)
end Go.Abs
