import Derived.Test.YtomjllcnpddiaaaGreatDoorRxLawT
set_option linter.unusedSimpArgs false
set_option linter.unusedVariables false
set_option linter.unusedSectionVars false
namespace Go.Proofs
open Go Go.Rx
set_option maxRecDepth 1000000
theorem Tryz.runB (e : TypeId) (b : ByteArray) : okG (Tryz.G e false b) = true := by kernel_rfl
end Go.Proofs
