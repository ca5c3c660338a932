import Derived.Test.YtomjllcnpddiaaaGreatDoorRxLawT
set_option linter.unusedSimpArgs false
set_option linter.unusedVariables false
set_option linter.unusedSectionVars false
namespace Go.Proofs
open Go Go.Rx
set_option maxRecDepth 1000000
theorem Tryz.runA (e : TypeId) (b : ByteArray) : okG (Tryz.G e true b) = true := by kernel_rfl
end Go.Proofs
