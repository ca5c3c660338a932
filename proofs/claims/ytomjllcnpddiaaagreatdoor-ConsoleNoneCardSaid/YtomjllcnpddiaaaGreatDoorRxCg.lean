/- No function of the program starts a goroutine. -/
import Derived.Test.YtomjllcnpddiaaaGreatDoorRxSeat
import Derived.SevenTiedAt
set_option linter.unusedSimpArgs false
set_option linter.unusedVariables false
set_option linter.unusedSectionVars false
namespace Go.Proofs.YtomjllcnpddiaaaGreatDoor
open Go
theorem nogo {P : Program} (h : P.funcs.toList.any Func.goes = false) (f : FuncId) : P.goes f = false := by
  have h1 : ∀ fn ∈ P.funcs.toList, fn.goes = false := fun fn hm => by
    have := List.any_eq_false.1 h fn hm
    simpa using this
  have h2 : ∀ g : Nat, (P.funcs[g]?).any Func.goes = false := fun g => by
    cases hg : P.funcs[g]? with
    | none => rfl
    | some fn => exact h1 fn (by simpa using Array.mem_of_getElem? hg)
  have h3 : P.funcs.any Func.goes = false := by rw [← Array.any_toList]; exact h
  unfold Program.goes
  simp [h2, h3]
theorem nogo_by {P : Program} (h : P.funcs.toList.any Func.goes = false) (c : OpenClaim) (hs : c.start = .entering) : false = c.goesBy P := by
  unfold OpenClaim.goesBy Program.goesAt Program.goesFrom
  rw [hs]
  cases P.funcNamed c.func with
  | none => rfl
  | some f => simp [nogo h f]
set_option maxRecDepth 1000000
theorem cd_nogo : Tryz.prog.funcs.toList.any Func.goes = false := by kernel_rfl
theorem cd_goes : false = Rows.consoleNoneRow.goesBy Tryz.pinned.checked.prog := nogo_by (P := Tryz.pinned.checked.prog) cd_nogo _ rfl
end Go.Proofs.YtomjllcnpddiaaaGreatDoor
