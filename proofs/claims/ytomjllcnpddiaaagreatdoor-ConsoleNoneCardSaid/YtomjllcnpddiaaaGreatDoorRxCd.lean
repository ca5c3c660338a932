import Derived.Test.YtomjllcnpddiaaaGreatDoorRxSeat
import Derived.SevenTiedAt
set_option linter.unusedSimpArgs false
set_option linter.unusedVariables false
set_option linter.unusedSectionVars false
namespace Go.Proofs.YtomjllcnpddiaaaGreatDoor
open Go
set_option maxRecDepth 1000000
theorem cd_wf : Rows.consoleNoneRow.wfByText (OpenSpec.ofChange Rows.consoleNoneSpec) = true := by kernel_rfl
theorem cd_main : Tryz.pinned.checked.prog.mainIs = some (true, "9dfc5af691f7932e5822bffe6298b575ac4e7ee689c9357f4cba149457d675e7".toList) := by kernel_rfl
theorem cd_looks : true = Tryz.pinned.checked.prog.looks [] := by kernel_rfl
theorem cd_stand : Tryz.pinned.checked.prog.wantsStandIn 9 = false := by kernel_rfl
theorem cd_named : Tryz.prog.funcNamed "zeitnot/zeitnotlaw53.ConsoleNone" = some 3 := by kernel_rfl
end Go.Proofs.YtomjllcnpddiaaaGreatDoor
