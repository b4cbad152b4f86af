import Derived.Test.YtkmmaelmdioleaaGreatDoorUXE
namespace Go.Abs.Uv
open Go.Sort Go.Proofs
set_option linter.unusedVariables false
set_option linter.unusedSimpArgs false
set_option linter.unnecessarySimpa false
set_option maxRecDepth 100000
theorem r28d : (RX 60 28 ([cAna, cAcc1].map .v) []).bind (fun p => frz p.2 15 p.1) = some (.tuple [cM1, cF0]) := by kernel_rfl
end Go.Abs.Uv
