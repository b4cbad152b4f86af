import Derived.Test.YtkmmaelmdioleaaGreatDoorUP
namespace Go.Abs.Uv
open Go.Sort Go.Proofs
set_option linter.unusedVariables false
set_option linter.unusedSimpArgs false
set_option linter.unnecessarySimpa false
set_option maxRecDepth 100000
theorem r35g : (RD 60 35 ([cM2].map .v) []).bind (fun p => frz p.2 15 p.1) = some (.tuple [cAll2, cF0]) := by kernel_rfl
end Go.Abs.Uv
