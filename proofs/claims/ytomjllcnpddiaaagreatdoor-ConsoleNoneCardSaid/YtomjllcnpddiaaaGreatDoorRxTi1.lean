import Derived.Test.YtomjllcnpddiaaaGreatDoorRxTi0
set_option linter.unusedSimpArgs false
set_option linter.unusedVariables false
set_option linter.unusedSectionVars false
namespace Go.Proofs.YtomjllcnpddiaaaGreatDoor
open Go
set_option maxRecDepth 1000000
theorem ti_hn : varsNamedLaterB Tryz.prog (varsId Tryz.prog) tieLaid = true := by kernel_rfl
end Go.Proofs.YtomjllcnpddiaaaGreatDoor
