import Derived.Test.YtomjllcnpddiaaaGreatDoorRxTi0
set_option linter.unusedSimpArgs false
set_option linter.unusedVariables false
set_option linter.unusedSectionVars false
namespace Go.Proofs.YtomjllcnpddiaaaGreatDoor
open Go
set_option maxRecDepth 1000000
theorem ti_h1 : ∀ os tape, (DataW.laidRun Tryz.prog (varsWorld Tryz.prog 400 (varsId Tryz.prog) os tape).memory 8 (tieLaid.map (·.1))).map (·.1) = some tieLaid := fun _ _ => by kernel_rfl
end Go.Proofs.YtomjllcnpddiaaaGreatDoor
