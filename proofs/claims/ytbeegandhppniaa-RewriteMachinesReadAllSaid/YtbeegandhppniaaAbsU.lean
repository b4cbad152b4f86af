import Derived.Test.YtbeegandhppniaaAbsN
import Derived.Shelf.Unicode.DecodeSlow
import Derived.Lib.RuneCount
import Derived.Shelf.Small.Strs
namespace Go.Abs
open Go.RowKit (Below)
set_option linter.unusedVariables false
set_option linter.unusedSimpArgs false
set_option linter.unnecessarySimpa false
variable {DR : Prop}
end Go.Abs
