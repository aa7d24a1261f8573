/- What the rows' list of package-level variables gives: Go's tables. -/
import Derived.Test.YtjgegnjclmkpeaaDoorJobArg
set_option linter.unusedVariables false
set_option linter.unusedSimpArgs false
namespace Go.Proofs.YtjgegnjclmkpeaaDoor
open Go.ChangeShapes Go.WideShapes Go.ChangeAt Go.RowKit Go.Deep Go.Lib Go.Proofs

theorem xL : RExtra Tryd.prog Tryd.laysLetter_ren := ⟨by kernel_rfl, by kernel_rfl, by kernel_rfl, by kernel_rfl, by kernel_rfl, by kernel_rfl, by kernel_rfl, by kernel_rfl⟩
theorem props_type : (Tryd.prog.globals[1]?).map (·.type) = some 202 := by kernel_rfl
theorem cellsProps : Tryd.prog.cellsOf 202 = 256 := by kernel_rfl
theorem cellsU8 : Tryd.prog.cellsOf 5 = 1 := by kernel_rfl
theorem props_eq : (Rows.laid_unicode_properties : DataW Unit) = tabData .u8 propertiesTab := by kernel_rfl
theorem accept_eq : (Rows.laid_unicode_utf8_acceptRanges : DataW Unit) = acceptData := by kernel_rfl
/-- WHAT THE ROWS' LIST GIVES: Go's tables. -/
theorem tabs_of {W : World} (hL : laidMetH Tryd.prog Rows.robustHardRow.laid W) : Tabs W := by
  have hL' : laidMet Tryd.prog [("unicode/utf8.acceptRanges", Rows.laid_unicode_utf8_acceptRanges), ("unicode.properties", Rows.laid_unicode_properties), ("unicode.Letter", Rows.laid_unicode_Letter), ("unicode/utf8.first", Rows.laid_unicode_utf8_first)] W := by
    have := hL
    rw [MakeChecks.laidMetH_plain _ _ _ (by kernel_rfl)] at this
    exact this
  refine ⟨?_, ?_, ?_⟩
  · have hp : VarReads Tryd.prog W "unicode.properties" (tabData .u8 propertiesTab) := props_eq ▸ Lib.laidMet.reads hL' (.tail _ (.head _))
    obtain ⟨g', t', cs, fuel, p, hg', ht', hvar, hd⟩ := hp
    obtain rfl := Option.some.inj (glob_props.symm.trans hg')
    obtain rfl := Option.some.inj (props_type.symm.trans ht')
    unfold TabIs
    rw [hvar, ← cells_of_tab Tryd.underlying202 Tryd.underlying5 cellsU8 cellsProps hd]
  · have hl : VarReads Tryd.prog W "unicode.Letter" Pinned.letter := Lib.laidMet.reads hL' (.tail _ (.tail _ (.head _)))
    rw [Pinned.letter_eq] at hl
    exact rvar_of_reads { Tryd.laysLetter with } xL (by kernel_rfl) (by kernel_rfl) hl
  · have hf : VarReads Tryd.prog W "unicode/utf8.first" Pinned.utf8First := Lib.laidMet.reads hL' (.tail _ (.tail _ (.tail _ (.head _))))
    rw [Pinned.utf8First_eq] at hf
    have ha : VarReads Tryd.prog W "unicode/utf8.acceptRanges" Rows.laid_unicode_utf8_acceptRanges := Lib.laidMet.reads hL' (.head _)
    rw [accept_eq] at ha
    exact utf8Tabs_of_readsT (U8Types.of196 Tryd.laysValid) ⟨by kernel_rfl, by kernel_rfl, by kernel_rfl, by kernel_rfl, by kernel_rfl, by kernel_rfl, by kernel_rfl⟩ hf ha
end Go.Proofs.YtjgegnjclmkpeaaDoor
