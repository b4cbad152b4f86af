import Derived.Test.YtkmmaelmdioleaaGreatDoorUX
namespace Go.Abs.Uv
open Go.Sort Go.Proofs
set_option linter.unusedVariables false
set_option linter.unusedSimpArgs false
set_option linter.unnecessarySimpa false
set_option maxRecDepth 100000
theorem r27b : (RB 60 27 ([cDogs].map .v) []).bind (fun p => frz p.2 15 p.1) = some (.tuple [cLex, cF0]) := by kernel_rfl
end Go.Abs.Uv
