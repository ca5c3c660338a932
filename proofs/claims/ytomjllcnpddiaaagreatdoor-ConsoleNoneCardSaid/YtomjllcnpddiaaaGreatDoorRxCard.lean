/- At every line of text the law 'ConsoleNone' returns true and leaves the line as it was: the consoles that are nil or zero answer 'error 1', and the chapter's examples hold.
Conditions: none on the line. The package-level variables that the row lists read, when the call begins, as the program's text lays them; the card ties them to that text (over the pruned copy that the seat's root loads; Go's table unicode/utf8.first is pinned by name). The five variables that are left open (effect.words, effect.names, prompt.words, result.outcomes, result.reasons) may hold any value: the run never reads them. -/
import Derived.Test.YtomjllcnpddiaaaGreatDoorRxFinal
import Derived.Test.YtomjllcnpddiaaaGreatDoorRxTi1
import Derived.Test.YtomjllcnpddiaaaGreatDoorRxTi2
import Derived.Test.YtomjllcnpddiaaaGreatDoorRxTi3
import Derived.Test.YtomjllcnpddiaaaGreatDoorRxTi4
import Derived.Test.YtomjllcnpddiaaaGreatDoorRxCd
import Derived.Test.YtomjllcnpddiaaaGreatDoorRxCg
import Derived.Test.YtomjllcnpddiaaaGreatDoorCards
set_option linter.unusedSimpArgs false
set_option linter.unusedVariables false
set_option linter.unusedSectionVars false
namespace Go.Proofs.YtomjllcnpddiaaaGreatDoor
open Go
set_option maxRecDepth 1000000
theorem ti_tie : Tryz.prog.laidByTextLater tieLaid [.data, .data, .data, .data, .data, .sentinel, .sentinel] true :=
  Program.laidByTextLater_by_run 400 8 ti_hw ti_hw' ti_hroot ti_hk ti_hg ti_hn ti_hd ti_h1 ti_h2 ti_hp
theorem ti_row : Rows.consoleNoneRow.laidByTextAt .later Tryz.pinned [.pinned, .data, .data, .data, .data, .data, .sentinel, .sentinel] true :=
  OpenClaim.laidByTextAt_pinned rfl rfl ti_tie rfl rfl rfl rfl (fun y hy _e => by
    simp only [Rows.consoleNoneRow, List.zip_cons_cons, List.zip_nil_right, List.mem_cons, List.mem_nil_iff, or_false] at hy
    rcases hy with rfl | rfl | rfl | rfl | rfl | rfl | rfl | rfl
    · exact ⟨ti_pin, by kernel_rfl⟩
    · cases _e
    · cases _e
    · cases _e
    · cases _e
    · cases _e
    · cases _e
    · cases _e) ti_fits
/-- The card of 'ConsoleNone', tied. -/
theorem consoleNone_card : Rows.ConsoleNoneCardSaid :=
  Claim7.holds_tied_plain_at .later [] [.pinned, .data, .data, .data, .data, .data, .sentinel, .sentinel] true (true, "9dfc5af691f7932e5822bffe6298b575ac4e7ee689c9357f4cba149457d675e7") true
    consoleNone_holds (fun _ h => by cases h) cd_wf (fun _ h => by cases h) ti_row rfl ⟨rfl, rfl⟩ cd_main rfl
    (fun f fn hf hfn => by
      obtain rfl : f = 3 := Option.some.inj (cd_named.symm.trans hf) |>.symm
      obtain rfl : fn = Tryz.f3 := (Option.some.inj (Tryz.func3.symm.trans hfn)).symm
      exact ⟨cd_looks, fun j t ht => by
        rw [Tryz.params3] at ht
        have h9 : t = 9 := by
          rcases j with _ | j
          · simpa using ht.symm
          · simp at ht
        subst h9
        exact cd_stand⟩)
    cd_goes
#print axioms consoleNone_card
end Go.Proofs.YtomjllcnpddiaaaGreatDoor
