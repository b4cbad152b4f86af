import Derived.Test.YtgbhimkbfaebeaaGreatDoorWF3
namespace Go.Abs
set_option linter.unusedVariables false
set_option linter.unusedSimpArgs false
set_option linter.unnecessarySimpa false
def WStr (s : ByteArray) : Prop := s.size ≤ maxLen
theorem dec9 : ∀ n x, typed T n 9 x → ∃ a : ByteArray, eS a = x ∧ WStr a := by
 intro n x h
 cases n with
 | zero => exact h.elim
 | succ n =>
  have h : ∃ b, x = .str b ∧ b.size ≤ maxLen := h
  obtain ⟨b, rfl, hb⟩ := h
  exact ⟨b, rfl, hb⟩
def LT : List Nat := [3, 9, 22, 24, 29, 43, 45, 47]
theorem LT_ok : LT.all (lvl E.T LT) = true := by kernel_rfl
theorem law4 (hp : ∀ (a0 : ByteArray), WStr a0 → ∃ m, f4 m a0 = some true) : ∀ xs, TypedL E.T [9] xs → ∃ n, runV Proofs.Tryz.prog EG n 4 xs = some (.bool true) := by
 intro xs h
 match xs, h with
 | [x0], ⟨⟨n0, h0⟩, _⟩ =>
  obtain ⟨a0, rfl, w0⟩ := dec9 n0 x0 h0
  obtain ⟨m, hm⟩ := hp a0 w0
  exact ⟨_, law_run (xs := [eS a0]) (ok4 m a0 true hm (m + 8) (Nat.le_refl _))⟩
end Go.Abs
