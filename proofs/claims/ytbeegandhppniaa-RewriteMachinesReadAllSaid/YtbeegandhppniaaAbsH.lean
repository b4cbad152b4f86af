import Derived.Test.YtbeegandhppniaaAbsV
import Derived.Test.YtbeegandhppniaaAbsU
namespace Go.Abs
set_option linter.unusedVariables false
set_option linter.unusedSimpArgs false
set_option linter.unnecessarySimpa false
theorem idx_get {α : Type} (l : List α) (i : Nat) : idx l (i : Int) = l[i]? := by
 unfold idx
 rw [if_pos (by omega), Int.toNat_natCast]
theorem app_some {α : Type} (b : Nat) (xs ys : List α) (h : (xs.length + ys.length) * b ≤ 140737488355328) (h2 : xs.length + ys.length ≤ 1000000000) : app b xs ys = some (xs ++ ys) := by
 unfold app
 rw [if_pos ⟨h, by unfold maxLen; omega⟩]
end Go.Abs
