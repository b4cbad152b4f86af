import Derived.Test.YtgbhimkbfaebeaaGreatDoorAbsM
import Derived.Shelf.SlSortCmp.WholeK
namespace Go.Abs
open Go.Sort Go.Proofs
set_option linter.unusedVariables false
set_option linter.unusedSimpArgs false
set_option linter.unnecessarySimpa false
variable {DR : Prop}
section
variable {α : Type} [Inhabited α] {enc : α → List Value} {k : Nat} {w : World} {blk off : Nat} {dk : Array α}
end
end Go.Abs
