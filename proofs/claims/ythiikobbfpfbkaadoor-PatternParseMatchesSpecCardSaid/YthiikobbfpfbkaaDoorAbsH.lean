import Derived.Test.YthiikobbfpfbkaaDoorAbsV
import Derived.Test.YthiikobbfpfbkaaDoorAbsU
namespace Go.Abs
set_option linter.unusedVariables false
theorem app_some {α : Type} (b : Nat) (xs ys : List α) (h : (xs.length + ys.length) * b ≤ 140737488355328) (h2 : xs.length + ys.length ≤ 1000000000) : app b xs ys = some (xs ++ ys) := by
 unfold app
 rw [if_pos ⟨h, by unfold maxLen; omega⟩]
def byt (s : ByteArray) : List Int := s.data.toList.map fun b => (b.toNat : Int)
theorem sidx_get (s : ByteArray) (i : Nat) : sidx s (i : Int) = (byt s)[i]? := by
 unfold sidx byt
 rw [if_pos (by omega), Int.toNat_natCast, List.getElem?_map, Array.getElem?_toList]
 rfl
end Go.Abs
