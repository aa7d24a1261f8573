/- The leaves out of the library: unicode.IsLetter, utf8.ValidString, by the shelf's contracts. -/
import Derived.Test.YtjgegnjclmkpeaaDoorBase
import Derived.Test.YtjgegnjclmkpeaaDoorShelf
import Derived.Shelf.Unicode.PredsPay
set_option linter.unusedVariables false
set_option linter.unusedSimpArgs false
namespace Go.Proofs.YtjgegnjclmkpeaaDoor
open Go.RowKit

/-- The tables that package unicode reads, as they are laid. -/
structure Tabs (w : World) : Prop where
  props : Lib.TabIs Tryd.prog w "unicode.properties" .u8 Lib.propertiesTab
  letter : Lib.RVar 2 Lib.letterT w
  utf8 : Lib.Utf8Tabs 3 4 w
theorem glob_props : Tryd.prog.globalNamed "unicode.properties" = some 1 := by kernel_rfl
theorem Tabs.below {w w' : World} (h : Tabs w) (hb : Below w.heap.size w w') : Tabs w' :=
  ⟨Go.Proofs.TabIs_below glob_props h.props hb, Go.Proofs.RVar_below h.letter hb, Go.Proofs.Utf8Tabs_below h.utf8 hb⟩
theorem isLetter_any (r : Int) (w : World) (hlo : -2147483648 ≤ r) (hhi : r ≤ 2147483647) (hT : Tabs w) :
    Calls Tryd.prog 140 #[.int .i32 r] w fun e w' => e = .returned (.bool (Lib.isLetterU r)) ∧ Below w.heap.size w w' :=
  Go.Proofs.Any.unicode_IsLetter_all Tryd.laysLetter glob_props r w hlo hhi hT.props hT.letter
theorem validString_any (s : ByteArray) (w : World) (hs : s.size ≤ 9223372036854775807) (hT : Tabs w) :
    Calls Tryd.prog 142 #[.string s] w fun e w' => e = .returned (.bool (Lib.validD s.data.toList)) ∧ Below w.heap.size w w' :=
  Go.Proofs.Any.utf8_ValidString Tryd.laysValid s w hs hT.utf8
end Go.Proofs.YtjgegnjclmkpeaaDoor
