import Derived.Test.YtkmmaelmdioleaaGreatDoorUX
namespace Go.Abs.Uv
open Go.Sort Go.Proofs
set_option linter.unusedVariables false
set_option linter.unusedSimpArgs false
set_option linter.unnecessarySimpa false
set_option maxRecDepth 100000
theorem r24a : (RB 60 24 ([cDogs].map .v) []).bind (fun p => frz p.2 15 p.1) = some (.tuple [cTags, cF0]) := by kernel_rfl
theorem r26a : (RB 60 26 ([.sl .plain [], cCop].map .v) []).bind (fun p => frz p.2 15 p.1) = some (.tuple [cSur, cF0]) := by kernel_rfl
end Go.Abs.Uv
