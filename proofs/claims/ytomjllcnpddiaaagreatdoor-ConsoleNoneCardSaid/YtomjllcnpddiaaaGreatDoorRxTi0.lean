import Derived.Test.YtomjllcnpddiaaaGreatDoorRxSeat
import Derived.LaidByTextLater
import Derived.SevenTiedAt
set_option linter.unusedSimpArgs false
set_option linter.unusedVariables false
set_option linter.unusedSectionVars false
namespace Go.Proofs.YtomjllcnpddiaaaGreatDoor
open Go
set_option maxRecDepth 1000000
abbrev tieLaid : List (String × DataW Unit) := [("unicode/utf8.acceptRanges", Rows.laid_unicode_utf8_acceptRanges), ("internal/strconv.uint64pow10", Rows.laid_internal_strconv_uint64pow10), ("math/bits.deBruijn32tab", Rows.laid_math_bits_deBruijn32tab), ("math/bits.deBruijn64tab", Rows.laid_math_bits_deBruijn64tab), ("zeitnot/turn.words", Rows.laid_zeitnot_turn_words), ("strconv.ErrSyntax", Rows.laid_strconv_ErrSyntax), ("strconv.ErrRange", Rows.laid_strconv_ErrRange)]
theorem ti_pin : Tryz.pinned.checked.prog.pinnedFits "unicode/utf8.first" = true := by kernel_rfl
theorem ti_noOwnUnsafe : Tryz.pinned.checked.prog.headLifts.contains "ownunsafe" = false := by kernel_rfl
theorem ti_fits : Tryz.pinned.checked.prog.listedFits [("unicode/utf8.first", Rows.laid_unicode_utf8_first), ("unicode/utf8.acceptRanges", Rows.laid_unicode_utf8_acceptRanges), ("internal/strconv.uint64pow10", Rows.laid_internal_strconv_uint64pow10), ("math/bits.deBruijn32tab", Rows.laid_math_bits_deBruijn32tab), ("math/bits.deBruijn64tab", Rows.laid_math_bits_deBruijn64tab), ("zeitnot/turn.words", Rows.laid_zeitnot_turn_words), ("strconv.ErrSyntax", Rows.laid_strconv_ErrSyntax), ("strconv.ErrRange", Rows.laid_strconv_ErrRange)] = true := by
  unfold Program.listedFits
  rw [ti_noOwnUnsafe]
  kernel_rfl
theorem ti_hw : Tryz.prog.worded (varsWordLater true) = true := by kernel_rfl
theorem ti_hw' : Tryz.prog.worded (varsWordLater !true) = false := by kernel_rfl
theorem ti_hroot : Tryz.prog.worded rootWordLater = true := by kernel_rfl
theorem ti_hk : tieLaid.map (fun x => Tryz.prog.kindOfLater x.1) = ([.data, .data, .data, .data, .data, .sentinel, .sentinel] : List LaidKind).map some := by kernel_rfl
theorem ti_hg : (Tryz.prog.funcNamed "gosem.cut.vars").isSome = true := by kernel_rfl
theorem ti_hp : (tieLaid.all fun x => x.2.handleName?.isNone) = true := by kernel_rfl
end Go.Proofs.YtomjllcnpddiaaaGreatDoor
