import Derived.Test.YtomjllcnpddiaaaGreatDoorRxSeat
import Derived.JoinedOf
set_option linter.unusedSimpArgs false
set_option linter.unusedVariables false
set_option linter.unusedSectionVars false
namespace Go.Proofs.YtomjllcnpddiaaaGreatDoor
open Go
set_option maxRecDepth 1000000
theorem jf1 : (laidOutB Tryz.prog) = true := by kernel_rfl
end Go.Proofs.YtomjllcnpddiaaaGreatDoor
