/-
  NARROWER THAN 'FOR EVERY INPUT', by the rows' own cells (each row's printed sentence says how): RobustHard: laid · RobustCalm: laid · DoverTrace: laid · DoverCalm: laid · DoverTwo: laid · OverSays: laid · OverNone: laid · OverApart: laid · StretchWithin: laid · StretchNames: laid · StretchBack: laid.
  DERIVED. THE GIVEN ROWS OF THIS SEAT. 11 by the template 'for every input the law returns true; each argument reads behind the call as it read before'; 0 by the template 'total and deterministic' (their statements: YtjgegnjclmkpeaaDoorTotals.lean).
  GIVEN WITH THE SEED: the statements are not yours to turn. If you find one false, say at which input.
  Laid BY PROGRAM, IN A SANDBOX (cutbox-rows.mjs): the forced cells as the released guide's own fill.sh prints them over the translation e8215b2ceca9bc90… (all of the seat's roots in one cut). By AI agents, Wed Nov 11 2026. No macro, syntax, notation, axiom, sorry.
-/
import Derived.Test.YtjgegnjclmkpeaaDoorChecked
import GoSem.PinnedTables
import GoSem.Claim
import GoSem.ClaimJoined
import GoSem.ClaimMapViews
import Derived.JoinedTies
import Derived.KernelRfl
namespace Go.Proofs.YtjgegnjclmkpeaaDoor
/- THE CELL 'sum', in the pinned program and in every row, IS THE sha256 OF THE DUMP (.gsa) THAT YtjgegnjclmkpeaaDoorProg.lean LOADS. Nothing in Lean hashes anything: it is a label: what it is worth is what the hold of that sum in a sandbox is worth. -/
noncomputable def Tryd.pinned : Pinned := { name := "ytjgegnjclmkpeaadoor", sum := "e8215b2ceca9bc90c02f894a2f302cd977a323b9e07854dcb2753799fad64e4e", checked := Tryd.checked }
namespace Rows
def none {H : Type} : Left H := { results := [], args := [] }

/- WHAT THE LISTED PACKAGE-LEVEL VARIABLES READ AS WHEN THE CALL BEGINS. Each datum BY PROGRAM (the guide's laid-datum.mjs) off the statement by which the dump's own 'gosem.cut.vars' lays the variable. In a bare row this is a premise. The card (YtjgegnjclmkpeaaDoorCards.lean) ties it to the program's text. -/
def laid_unicode_utf8_acceptRanges {H : Type} : DataW H := .agg [.agg [.lit (.int .u8 128), .lit (.int .u8 191)], .agg [.lit (.int .u8 160), .lit (.int .u8 191)], .agg [.lit (.int .u8 128), .lit (.int .u8 159)], .agg [.lit (.int .u8 144), .lit (.int .u8 191)], .agg [.lit (.int .u8 128), .lit (.int .u8 143)], .agg [.lit (.int .u8 0), .lit (.int .u8 0)], .agg [.lit (.int .u8 0), .lit (.int .u8 0)], .agg [.lit (.int .u8 0), .lit (.int .u8 0)], .agg [.lit (.int .u8 0), .lit (.int .u8 0)], .agg [.lit (.int .u8 0), .lit (.int .u8 0)], .agg [.lit (.int .u8 0), .lit (.int .u8 0)], .agg [.lit (.int .u8 0), .lit (.int .u8 0)], .agg [.lit (.int .u8 0), .lit (.int .u8 0)], .agg [.lit (.int .u8 0), .lit (.int .u8 0)], .agg [.lit (.int .u8 0), .lit (.int .u8 0)], .agg [.lit (.int .u8 0), .lit (.int .u8 0)]]
def laid_unicode_properties {H : Type} : DataW H := .agg [.lit (.int .u8 1), .lit (.int .u8 1), .lit (.int .u8 1), .lit (.int .u8 1), .lit (.int .u8 1), .lit (.int .u8 1), .lit (.int .u8 1), .lit (.int .u8 1), .lit (.int .u8 1), .lit (.int .u8 1), .lit (.int .u8 1), .lit (.int .u8 1), .lit (.int .u8 1), .lit (.int .u8 1), .lit (.int .u8 1), .lit (.int .u8 1), .lit (.int .u8 1), .lit (.int .u8 1), .lit (.int .u8 1), .lit (.int .u8 1), .lit (.int .u8 1), .lit (.int .u8 1), .lit (.int .u8 1), .lit (.int .u8 1), .lit (.int .u8 1), .lit (.int .u8 1), .lit (.int .u8 1), .lit (.int .u8 1), .lit (.int .u8 1), .lit (.int .u8 1), .lit (.int .u8 1), .lit (.int .u8 1), .lit (.int .u8 144), .lit (.int .u8 130), .lit (.int .u8 130), .lit (.int .u8 130), .lit (.int .u8 136), .lit (.int .u8 130), .lit (.int .u8 130), .lit (.int .u8 130), .lit (.int .u8 130), .lit (.int .u8 130), .lit (.int .u8 130), .lit (.int .u8 136), .lit (.int .u8 130), .lit (.int .u8 130), .lit (.int .u8 130), .lit (.int .u8 130), .lit (.int .u8 132), .lit (.int .u8 132), .lit (.int .u8 132), .lit (.int .u8 132), .lit (.int .u8 132), .lit (.int .u8 132), .lit (.int .u8 132), .lit (.int .u8 132), .lit (.int .u8 132), .lit (.int .u8 132), .lit (.int .u8 130), .lit (.int .u8 130), .lit (.int .u8 136), .lit (.int .u8 136), .lit (.int .u8 136), .lit (.int .u8 130), .lit (.int .u8 130), .lit (.int .u8 160), .lit (.int .u8 160), .lit (.int .u8 160), .lit (.int .u8 160), .lit (.int .u8 160), .lit (.int .u8 160), .lit (.int .u8 160), .lit (.int .u8 160), .lit (.int .u8 160), .lit (.int .u8 160), .lit (.int .u8 160), .lit (.int .u8 160), .lit (.int .u8 160), .lit (.int .u8 160), .lit (.int .u8 160), .lit (.int .u8 160), .lit (.int .u8 160), .lit (.int .u8 160), .lit (.int .u8 160), .lit (.int .u8 160), .lit (.int .u8 160), .lit (.int .u8 160), .lit (.int .u8 160), .lit (.int .u8 160), .lit (.int .u8 160), .lit (.int .u8 160), .lit (.int .u8 130), .lit (.int .u8 130), .lit (.int .u8 130), .lit (.int .u8 136), .lit (.int .u8 130), .lit (.int .u8 136), .lit (.int .u8 192), .lit (.int .u8 192), .lit (.int .u8 192), .lit (.int .u8 192), .lit (.int .u8 192), .lit (.int .u8 192), .lit (.int .u8 192), .lit (.int .u8 192), .lit (.int .u8 192), .lit (.int .u8 192), .lit (.int .u8 192), .lit (.int .u8 192), .lit (.int .u8 192), .lit (.int .u8 192), .lit (.int .u8 192), .lit (.int .u8 192), .lit (.int .u8 192), .lit (.int .u8 192), .lit (.int .u8 192), .lit (.int .u8 192), .lit (.int .u8 192), .lit (.int .u8 192), .lit (.int .u8 192), .lit (.int .u8 192), .lit (.int .u8 192), .lit (.int .u8 192), .lit (.int .u8 130), .lit (.int .u8 136), .lit (.int .u8 130), .lit (.int .u8 136), .lit (.int .u8 1), .lit (.int .u8 1), .lit (.int .u8 1), .lit (.int .u8 1), .lit (.int .u8 1), .lit (.int .u8 1), .lit (.int .u8 1), .lit (.int .u8 1), .lit (.int .u8 1), .lit (.int .u8 1), .lit (.int .u8 1), .lit (.int .u8 1), .lit (.int .u8 1), .lit (.int .u8 1), .lit (.int .u8 1), .lit (.int .u8 1), .lit (.int .u8 1), .lit (.int .u8 1), .lit (.int .u8 1), .lit (.int .u8 1), .lit (.int .u8 1), .lit (.int .u8 1), .lit (.int .u8 1), .lit (.int .u8 1), .lit (.int .u8 1), .lit (.int .u8 1), .lit (.int .u8 1), .lit (.int .u8 1), .lit (.int .u8 1), .lit (.int .u8 1), .lit (.int .u8 1), .lit (.int .u8 1), .lit (.int .u8 1), .lit (.int .u8 16), .lit (.int .u8 130), .lit (.int .u8 136), .lit (.int .u8 136), .lit (.int .u8 136), .lit (.int .u8 136), .lit (.int .u8 136), .lit (.int .u8 130), .lit (.int .u8 136), .lit (.int .u8 136), .lit (.int .u8 224), .lit (.int .u8 130), .lit (.int .u8 136), .lit (.int .u8 0), .lit (.int .u8 136), .lit (.int .u8 136), .lit (.int .u8 136), .lit (.int .u8 136), .lit (.int .u8 132), .lit (.int .u8 132), .lit (.int .u8 136), .lit (.int .u8 192), .lit (.int .u8 130), .lit (.int .u8 130), .lit (.int .u8 136), .lit (.int .u8 132), .lit (.int .u8 224), .lit (.int .u8 130), .lit (.int .u8 132), .lit (.int .u8 132), .lit (.int .u8 132), .lit (.int .u8 130), .lit (.int .u8 160), .lit (.int .u8 160), .lit (.int .u8 160), .lit (.int .u8 160), .lit (.int .u8 160), .lit (.int .u8 160), .lit (.int .u8 160), .lit (.int .u8 160), .lit (.int .u8 160), .lit (.int .u8 160), .lit (.int .u8 160), .lit (.int .u8 160), .lit (.int .u8 160), .lit (.int .u8 160), .lit (.int .u8 160), .lit (.int .u8 160), .lit (.int .u8 160), .lit (.int .u8 160), .lit (.int .u8 160), .lit (.int .u8 160), .lit (.int .u8 160), .lit (.int .u8 160), .lit (.int .u8 160), .lit (.int .u8 136), .lit (.int .u8 160), .lit (.int .u8 160), .lit (.int .u8 160), .lit (.int .u8 160), .lit (.int .u8 160), .lit (.int .u8 160), .lit (.int .u8 160), .lit (.int .u8 192), .lit (.int .u8 192), .lit (.int .u8 192), .lit (.int .u8 192), .lit (.int .u8 192), .lit (.int .u8 192), .lit (.int .u8 192), .lit (.int .u8 192), .lit (.int .u8 192), .lit (.int .u8 192), .lit (.int .u8 192), .lit (.int .u8 192), .lit (.int .u8 192), .lit (.int .u8 192), .lit (.int .u8 192), .lit (.int .u8 192), .lit (.int .u8 192), .lit (.int .u8 192), .lit (.int .u8 192), .lit (.int .u8 192), .lit (.int .u8 192), .lit (.int .u8 192), .lit (.int .u8 192), .lit (.int .u8 192), .lit (.int .u8 136), .lit (.int .u8 192), .lit (.int .u8 192), .lit (.int .u8 192), .lit (.int .u8 192), .lit (.int .u8 192), .lit (.int .u8 192), .lit (.int .u8 192), .lit (.int .u8 192)]
/-- One of Go's own tables, pinned by name: the form's constant. -/
def laid_unicode_Letter : DataW Unit := Go.Pinned.letter
/-- One of Go's own tables, pinned by name: the form's constant. -/
def laid_unicode_utf8_first : DataW Unit := Go.Pinned.utf8First

/-- 'tocsinlaw20.RobustHard': WHATEVER THE INPUT: true; the input reads as it did. -/
def robustHardSpec : ChangeSpec := { name := "robustHard", fn := fun _ => fun
  | [d] => { results := [.lit (.bool true)], args := [d] }
  | _ => none }
def robustHardRow : OpenClaim := { program := "ytjgegnjclmkpeaadoor", sum := "e8215b2ceca9bc90c02f894a2f302cd977a323b9e07854dcb2753799fad64e4e", func := "tocsin/tocsinlaw20.RobustHard", spec := "robustHard", unfollowed := true, recurses := true, named := ["unicode.properties", "unicode.Letter", "unicode/utf8.first", "unicode/utf8.acceptRanges"], apart := false, laid := [("unicode/utf8.acceptRanges", laid_unicode_utf8_acceptRanges), ("unicode.properties", laid_unicode_properties), ("unicode.Letter", laid_unicode_Letter), ("unicode/utf8.first", laid_unicode_utf8_first)] }
def RobustHardSaid : Prop := robustHardRow.holds Tryd.pinned (OpenSpec.ofChange robustHardSpec)

/-- ITS FALSE NEIGHBOUR: 'it returns false'. Refute it at one input. -/
def robustHardWrong : ChangeSpec := { name := "robustHard", fn := fun _ => fun
  | [d] => { results := [.lit (.bool false)], args := [d] }
  | _ => none }
def RobustHardWrongFalsely : Prop := robustHardRow.holds Tryd.pinned (OpenSpec.ofChange robustHardWrong)

/-- 'tocsinlaw20.RobustCalm': WHATEVER THE INPUT: true; the input reads as it did. -/
def robustCalmSpec : ChangeSpec := { name := "robustCalm", fn := fun _ => fun
  | [d] => { results := [.lit (.bool true)], args := [d] }
  | _ => none }
def robustCalmRow : OpenClaim := { program := "ytjgegnjclmkpeaadoor", sum := "e8215b2ceca9bc90c02f894a2f302cd977a323b9e07854dcb2753799fad64e4e", func := "tocsin/tocsinlaw20.RobustCalm", spec := "robustCalm", unfollowed := true, recurses := true, named := ["unicode.properties", "unicode.Letter", "unicode/utf8.first", "unicode/utf8.acceptRanges"], apart := false, laid := [("unicode/utf8.acceptRanges", laid_unicode_utf8_acceptRanges), ("unicode.properties", laid_unicode_properties), ("unicode.Letter", laid_unicode_Letter), ("unicode/utf8.first", laid_unicode_utf8_first)] }
def RobustCalmSaid : Prop := robustCalmRow.holds Tryd.pinned (OpenSpec.ofChange robustCalmSpec)

/-- ITS FALSE NEIGHBOUR: 'it returns false'. Refute it at one input. -/
def robustCalmWrong : ChangeSpec := { name := "robustCalm", fn := fun _ => fun
  | [d] => { results := [.lit (.bool false)], args := [d] }
  | _ => none }
def RobustCalmWrongFalsely : Prop := robustCalmRow.holds Tryd.pinned (OpenSpec.ofChange robustCalmWrong)

/-- 'tocsinlaw19.DoverTrace': WHATEVER THE INPUT: true; the input reads as it did. -/
def doverTraceSpec : ChangeSpec := { name := "doverTrace", fn := fun _ => fun
  | [d1, d2] => { results := [.lit (.bool true)], args := [d1, d2] }
  | _ => none }
def doverTraceRow : OpenClaim := { program := "ytjgegnjclmkpeaadoor", sum := "e8215b2ceca9bc90c02f894a2f302cd977a323b9e07854dcb2753799fad64e4e", func := "tocsin/tocsinlaw19.DoverTrace", spec := "doverTrace", unfollowed := true, recurses := true, named := ["unicode.properties", "unicode.Letter", "unicode/utf8.first", "unicode/utf8.acceptRanges"], apart := false, laid := [("unicode/utf8.acceptRanges", laid_unicode_utf8_acceptRanges), ("unicode.properties", laid_unicode_properties), ("unicode.Letter", laid_unicode_Letter), ("unicode/utf8.first", laid_unicode_utf8_first)] }
def DoverTraceSaid : Prop := doverTraceRow.holds Tryd.pinned (OpenSpec.ofChange doverTraceSpec)

/-- ITS FALSE NEIGHBOUR: 'it returns false'. Refute it at one input. -/
def doverTraceWrong : ChangeSpec := { name := "doverTrace", fn := fun _ => fun
  | [d1, d2] => { results := [.lit (.bool false)], args := [d1, d2] }
  | _ => none }
def DoverTraceWrongFalsely : Prop := doverTraceRow.holds Tryd.pinned (OpenSpec.ofChange doverTraceWrong)

/-- 'tocsinlaw19.DoverCalm': WHATEVER THE INPUT: true; the input reads as it did. -/
def doverCalmSpec : ChangeSpec := { name := "doverCalm", fn := fun _ => fun
  | [d1, d2] => { results := [.lit (.bool true)], args := [d1, d2] }
  | _ => none }
def doverCalmRow : OpenClaim := { program := "ytjgegnjclmkpeaadoor", sum := "e8215b2ceca9bc90c02f894a2f302cd977a323b9e07854dcb2753799fad64e4e", func := "tocsin/tocsinlaw19.DoverCalm", spec := "doverCalm", unfollowed := true, recurses := true, named := ["unicode.properties", "unicode.Letter", "unicode/utf8.first", "unicode/utf8.acceptRanges"], apart := false, laid := [("unicode/utf8.acceptRanges", laid_unicode_utf8_acceptRanges), ("unicode.properties", laid_unicode_properties), ("unicode.Letter", laid_unicode_Letter), ("unicode/utf8.first", laid_unicode_utf8_first)] }
def DoverCalmSaid : Prop := doverCalmRow.holds Tryd.pinned (OpenSpec.ofChange doverCalmSpec)

/-- ITS FALSE NEIGHBOUR: 'it returns false'. Refute it at one input. -/
def doverCalmWrong : ChangeSpec := { name := "doverCalm", fn := fun _ => fun
  | [d1, d2] => { results := [.lit (.bool false)], args := [d1, d2] }
  | _ => none }
def DoverCalmWrongFalsely : Prop := doverCalmRow.holds Tryd.pinned (OpenSpec.ofChange doverCalmWrong)

/-- 'tocsinlaw19.DoverTwo': WHATEVER THE INPUT: true; the input reads as it did. -/
def doverTwoSpec : ChangeSpec := { name := "doverTwo", fn := fun _ => fun
  | [d1, d2, d3, d4] => { results := [.lit (.bool true)], args := [d1, d2, d3, d4] }
  | _ => none }
def doverTwoRow : OpenClaim := { program := "ytjgegnjclmkpeaadoor", sum := "e8215b2ceca9bc90c02f894a2f302cd977a323b9e07854dcb2753799fad64e4e", func := "tocsin/tocsinlaw19.DoverTwo", spec := "doverTwo", unfollowed := true, recurses := true, named := ["unicode.properties", "unicode.Letter", "unicode/utf8.first", "unicode/utf8.acceptRanges"], apart := false, laid := [("unicode/utf8.acceptRanges", laid_unicode_utf8_acceptRanges), ("unicode.properties", laid_unicode_properties), ("unicode.Letter", laid_unicode_Letter), ("unicode/utf8.first", laid_unicode_utf8_first)] }
def DoverTwoSaid : Prop := doverTwoRow.holds Tryd.pinned (OpenSpec.ofChange doverTwoSpec)

/-- ITS FALSE NEIGHBOUR: 'it returns false'. Refute it at one input. -/
def doverTwoWrong : ChangeSpec := { name := "doverTwo", fn := fun _ => fun
  | [d1, d2, d3, d4] => { results := [.lit (.bool false)], args := [d1, d2, d3, d4] }
  | _ => none }
def DoverTwoWrongFalsely : Prop := doverTwoRow.holds Tryd.pinned (OpenSpec.ofChange doverTwoWrong)

/-- 'tocsinlaw18.OverSays': WHATEVER THE INPUT: true; the input reads as it did. -/
def overSaysSpec : ChangeSpec := { name := "overSays", fn := fun _ => fun
  | [d1, d2, d3] => { results := [.lit (.bool true)], args := [d1, d2, d3] }
  | _ => none }
def overSaysRow : OpenClaim := { program := "ytjgegnjclmkpeaadoor", sum := "e8215b2ceca9bc90c02f894a2f302cd977a323b9e07854dcb2753799fad64e4e", func := "tocsin/tocsinlaw18.OverSays", spec := "overSays", unfollowed := true, recurses := true, named := ["unicode.properties", "unicode.Letter", "unicode/utf8.first", "unicode/utf8.acceptRanges"], apart := false, laid := [("unicode/utf8.acceptRanges", laid_unicode_utf8_acceptRanges), ("unicode.properties", laid_unicode_properties), ("unicode.Letter", laid_unicode_Letter), ("unicode/utf8.first", laid_unicode_utf8_first)] }
def OverSaysSaid : Prop := overSaysRow.holds Tryd.pinned (OpenSpec.ofChange overSaysSpec)

/-- ITS FALSE NEIGHBOUR: 'it returns false'. Refute it at one input. -/
def overSaysWrong : ChangeSpec := { name := "overSays", fn := fun _ => fun
  | [d1, d2, d3] => { results := [.lit (.bool false)], args := [d1, d2, d3] }
  | _ => none }
def OverSaysWrongFalsely : Prop := overSaysRow.holds Tryd.pinned (OpenSpec.ofChange overSaysWrong)

/-- 'tocsinlaw18.OverNone': WHATEVER THE INPUT: true; the input reads as it did. -/
def overNoneSpec : ChangeSpec := { name := "overNone", fn := fun _ => fun
  | [d1, d2, d3, d4] => { results := [.lit (.bool true)], args := [d1, d2, d3, d4] }
  | _ => none }
def overNoneRow : OpenClaim := { program := "ytjgegnjclmkpeaadoor", sum := "e8215b2ceca9bc90c02f894a2f302cd977a323b9e07854dcb2753799fad64e4e", func := "tocsin/tocsinlaw18.OverNone", spec := "overNone", unfollowed := true, recurses := true, named := ["unicode.properties", "unicode.Letter", "unicode/utf8.first", "unicode/utf8.acceptRanges"], apart := false, laid := [("unicode/utf8.acceptRanges", laid_unicode_utf8_acceptRanges), ("unicode.properties", laid_unicode_properties), ("unicode.Letter", laid_unicode_Letter), ("unicode/utf8.first", laid_unicode_utf8_first)] }
def OverNoneSaid : Prop := overNoneRow.holds Tryd.pinned (OpenSpec.ofChange overNoneSpec)

/-- ITS FALSE NEIGHBOUR: 'it returns false'. Refute it at one input. -/
def overNoneWrong : ChangeSpec := { name := "overNone", fn := fun _ => fun
  | [d1, d2, d3, d4] => { results := [.lit (.bool false)], args := [d1, d2, d3, d4] }
  | _ => none }
def OverNoneWrongFalsely : Prop := overNoneRow.holds Tryd.pinned (OpenSpec.ofChange overNoneWrong)

/-- 'tocsinlaw18.OverApart': WHATEVER THE INPUT: true; the input reads as it did. -/
def overApartSpec : ChangeSpec := { name := "overApart", fn := fun _ => fun
  | [d] => { results := [.lit (.bool true)], args := [d] }
  | _ => none }
def overApartRow : OpenClaim := { program := "ytjgegnjclmkpeaadoor", sum := "e8215b2ceca9bc90c02f894a2f302cd977a323b9e07854dcb2753799fad64e4e", func := "tocsin/tocsinlaw18.OverApart", spec := "overApart", unfollowed := true, recurses := true, named := ["unicode.properties", "unicode.Letter", "unicode/utf8.first", "unicode/utf8.acceptRanges"], apart := false, laid := [("unicode/utf8.acceptRanges", laid_unicode_utf8_acceptRanges), ("unicode.properties", laid_unicode_properties), ("unicode.Letter", laid_unicode_Letter), ("unicode/utf8.first", laid_unicode_utf8_first)] }
def OverApartSaid : Prop := overApartRow.holds Tryd.pinned (OpenSpec.ofChange overApartSpec)

/-- ITS FALSE NEIGHBOUR: 'it returns false'. Refute it at one input. -/
def overApartWrong : ChangeSpec := { name := "overApart", fn := fun _ => fun
  | [d] => { results := [.lit (.bool false)], args := [d] }
  | _ => none }
def OverApartWrongFalsely : Prop := overApartRow.holds Tryd.pinned (OpenSpec.ofChange overApartWrong)

/-- 'tocsinlaw22.StretchWithin': WHATEVER THE INPUT: true; the input reads as it did. -/
def stretchWithinSpec : ChangeSpec := { name := "stretchWithin", fn := fun _ => fun
  | [d1, d2] => { results := [.lit (.bool true)], args := [d1, d2] }
  | _ => none }
def stretchWithinRow : OpenClaim := { program := "ytjgegnjclmkpeaadoor", sum := "e8215b2ceca9bc90c02f894a2f302cd977a323b9e07854dcb2753799fad64e4e", func := "tocsin/tocsinlaw22.StretchWithin", spec := "stretchWithin", inPlace := ["internal/bytealg.abigen_runtime_cmpstring"], unfollowed := true, recurses := true, named := ["unicode.properties", "unicode.Letter", "unicode/utf8.first", "unicode/utf8.acceptRanges", "math/bits.divideError", "math/bits.overflowError"], apart := false, laid := [("unicode/utf8.acceptRanges", laid_unicode_utf8_acceptRanges), ("unicode.properties", laid_unicode_properties), ("unicode.Letter", laid_unicode_Letter), ("unicode/utf8.first", laid_unicode_utf8_first)] }
def StretchWithinSaid : Prop := stretchWithinRow.holds Tryd.pinned (OpenSpec.ofChange stretchWithinSpec)

/-- ITS FALSE NEIGHBOUR: 'it returns false'. Refute it at one input. -/
def stretchWithinWrong : ChangeSpec := { name := "stretchWithin", fn := fun _ => fun
  | [d1, d2] => { results := [.lit (.bool false)], args := [d1, d2] }
  | _ => none }
def StretchWithinWrongFalsely : Prop := stretchWithinRow.holds Tryd.pinned (OpenSpec.ofChange stretchWithinWrong)

/-- 'tocsinlaw22.StretchNames': WHATEVER THE INPUT: true; the input reads as it did. -/
def stretchNamesSpec : ChangeSpec := { name := "stretchNames", fn := fun _ => fun
  | [d1, d2] => { results := [.lit (.bool true)], args := [d1, d2] }
  | _ => none }
def stretchNamesRow : OpenClaim := { program := "ytjgegnjclmkpeaadoor", sum := "e8215b2ceca9bc90c02f894a2f302cd977a323b9e07854dcb2753799fad64e4e", func := "tocsin/tocsinlaw22.StretchNames", spec := "stretchNames", inPlace := ["internal/bytealg.abigen_runtime_cmpstring"], unfollowed := true, recurses := true, named := ["unicode.properties", "unicode.Letter", "unicode/utf8.first", "unicode/utf8.acceptRanges", "math/bits.divideError", "math/bits.overflowError"], apart := false, laid := [("unicode/utf8.acceptRanges", laid_unicode_utf8_acceptRanges), ("unicode.properties", laid_unicode_properties), ("unicode.Letter", laid_unicode_Letter), ("unicode/utf8.first", laid_unicode_utf8_first)] }
def StretchNamesSaid : Prop := stretchNamesRow.holds Tryd.pinned (OpenSpec.ofChange stretchNamesSpec)

/-- ITS FALSE NEIGHBOUR: 'it returns false'. Refute it at one input. -/
def stretchNamesWrong : ChangeSpec := { name := "stretchNames", fn := fun _ => fun
  | [d1, d2] => { results := [.lit (.bool false)], args := [d1, d2] }
  | _ => none }
def StretchNamesWrongFalsely : Prop := stretchNamesRow.holds Tryd.pinned (OpenSpec.ofChange stretchNamesWrong)

/-- 'tocsinlaw22.StretchBack': WHATEVER THE INPUT: true; the input reads as it did. -/
def stretchBackSpec : ChangeSpec := { name := "stretchBack", fn := fun _ => fun
  | [d1, d2, d3] => { results := [.lit (.bool true)], args := [d1, d2, d3] }
  | _ => none }
def stretchBackRow : OpenClaim := { program := "ytjgegnjclmkpeaadoor", sum := "e8215b2ceca9bc90c02f894a2f302cd977a323b9e07854dcb2753799fad64e4e", func := "tocsin/tocsinlaw22.StretchBack", spec := "stretchBack", inPlace := ["internal/bytealg.abigen_runtime_cmpstring"], unfollowed := true, recurses := true, named := ["unicode.properties", "unicode.Letter", "unicode/utf8.first", "unicode/utf8.acceptRanges", "math/bits.divideError", "math/bits.overflowError"], apart := false, laid := [("unicode/utf8.acceptRanges", laid_unicode_utf8_acceptRanges), ("unicode.properties", laid_unicode_properties), ("unicode.Letter", laid_unicode_Letter), ("unicode/utf8.first", laid_unicode_utf8_first)] }
def StretchBackSaid : Prop := stretchBackRow.holds Tryd.pinned (OpenSpec.ofChange stretchBackSpec)

/-- ITS FALSE NEIGHBOUR: 'it returns false'. Refute it at one input. -/
def stretchBackWrong : ChangeSpec := { name := "stretchBack", fn := fun _ => fun
  | [d1, d2, d3] => { results := [.lit (.bool false)], args := [d1, d2, d3] }
  | _ => none }
def StretchBackWrongFalsely : Prop := stretchBackRow.holds Tryd.pinned (OpenSpec.ofChange stretchBackWrong)

/- THE SECOND FORM. 'bulk': how many values and letters a reading holds, each counted each time it is reached (what is shared counts as often as it is met; a slice's spare places count too). A statement '..UptoSaid' is the law's where the arguments, and the package variables that the reading takes, are together of bulk at most 1048576: NARROWER than '..Said'. Prove '..Said' where nothing that the law and all that it calls make is longer than what came in: it says more and counts as full. Else prove '..UptoSaid'. A law counts once. -/
mutual
def uptoBulk {H : Type} : DataW H → Nat
  | .lit (.string bytes) => bytes.length + 1
  | .lit _ => 1
  | .nil => 1
  | .ptr d => uptoBulk d + 1
  | .slice elems spare => uptoBulkAll elems + uptoBulkAll spare + 1
  | .agg parts => uptoBulkAll parts + 1
  | .iface _ d => uptoBulk d + 1
  | .map entries => uptoBulkEntries entries + 1
  | .held _ => 1
def uptoBulkAll {H : Type} : List (DataW H) → Nat
  | [] => 0
  | d :: r => uptoBulk d + uptoBulkAll r
def uptoBulkEntries {H : Type} : List (Lit × DataW H) → Nat
  | [] => 0
  | x :: r => uptoBulkEntry x + uptoBulkEntries r
def uptoBulkEntry {H : Type} : Lit × DataW H → Nat
  | (.string bytes, d) => bytes.length + uptoBulk d + 1
  | (_, d) => uptoBulk d + 1
 end
def uptoSmall : (H : Type) → List (DataW H) → Bool := fun _ ds => decide (uptoBulkAll ds ≤ 1048576)
def OpenSpec.upto (s : _root_.Go.ChangeSpec) : _root_.Go.OpenSpec := { _root_.Go.OpenSpec.ofChange s with cond := some uptoSmall }

/-- 'tocsinlaw20.RobustHard', WHERE WHAT IT READS IS OF BULK AT MOST 1048576: true; the input reads as it did. -/
def robustHardUptoRow : OpenClaim := { program := "ytjgegnjclmkpeaadoor", sum := "e8215b2ceca9bc90c02f894a2f302cd977a323b9e07854dcb2753799fad64e4e", func := "tocsin/tocsinlaw20.RobustHard", spec := "robustHard", unfollowed := true, recurses := true, named := ["unicode.properties", "unicode.Letter", "unicode/utf8.first", "unicode/utf8.acceptRanges"], apart := false, laid := [("unicode/utf8.acceptRanges", laid_unicode_utf8_acceptRanges), ("unicode.properties", laid_unicode_properties), ("unicode.Letter", laid_unicode_Letter), ("unicode/utf8.first", laid_unicode_utf8_first)], narrowed := true }
def RobustHardUptoSaid : Prop := robustHardUptoRow.holds Tryd.pinned (OpenSpec.upto robustHardSpec)

/-- 'tocsinlaw20.RobustCalm', WHERE WHAT IT READS IS OF BULK AT MOST 1048576: true; the input reads as it did. -/
def robustCalmUptoRow : OpenClaim := { program := "ytjgegnjclmkpeaadoor", sum := "e8215b2ceca9bc90c02f894a2f302cd977a323b9e07854dcb2753799fad64e4e", func := "tocsin/tocsinlaw20.RobustCalm", spec := "robustCalm", unfollowed := true, recurses := true, named := ["unicode.properties", "unicode.Letter", "unicode/utf8.first", "unicode/utf8.acceptRanges"], apart := false, laid := [("unicode/utf8.acceptRanges", laid_unicode_utf8_acceptRanges), ("unicode.properties", laid_unicode_properties), ("unicode.Letter", laid_unicode_Letter), ("unicode/utf8.first", laid_unicode_utf8_first)], narrowed := true }
def RobustCalmUptoSaid : Prop := robustCalmUptoRow.holds Tryd.pinned (OpenSpec.upto robustCalmSpec)

/-- 'tocsinlaw19.DoverTrace', WHERE WHAT IT READS IS OF BULK AT MOST 1048576: true; the input reads as it did. -/
def doverTraceUptoRow : OpenClaim := { program := "ytjgegnjclmkpeaadoor", sum := "e8215b2ceca9bc90c02f894a2f302cd977a323b9e07854dcb2753799fad64e4e", func := "tocsin/tocsinlaw19.DoverTrace", spec := "doverTrace", unfollowed := true, recurses := true, named := ["unicode.properties", "unicode.Letter", "unicode/utf8.first", "unicode/utf8.acceptRanges"], apart := false, laid := [("unicode/utf8.acceptRanges", laid_unicode_utf8_acceptRanges), ("unicode.properties", laid_unicode_properties), ("unicode.Letter", laid_unicode_Letter), ("unicode/utf8.first", laid_unicode_utf8_first)], narrowed := true }
def DoverTraceUptoSaid : Prop := doverTraceUptoRow.holds Tryd.pinned (OpenSpec.upto doverTraceSpec)

/-- 'tocsinlaw19.DoverCalm', WHERE WHAT IT READS IS OF BULK AT MOST 1048576: true; the input reads as it did. -/
def doverCalmUptoRow : OpenClaim := { program := "ytjgegnjclmkpeaadoor", sum := "e8215b2ceca9bc90c02f894a2f302cd977a323b9e07854dcb2753799fad64e4e", func := "tocsin/tocsinlaw19.DoverCalm", spec := "doverCalm", unfollowed := true, recurses := true, named := ["unicode.properties", "unicode.Letter", "unicode/utf8.first", "unicode/utf8.acceptRanges"], apart := false, laid := [("unicode/utf8.acceptRanges", laid_unicode_utf8_acceptRanges), ("unicode.properties", laid_unicode_properties), ("unicode.Letter", laid_unicode_Letter), ("unicode/utf8.first", laid_unicode_utf8_first)], narrowed := true }
def DoverCalmUptoSaid : Prop := doverCalmUptoRow.holds Tryd.pinned (OpenSpec.upto doverCalmSpec)

/-- 'tocsinlaw19.DoverTwo', WHERE WHAT IT READS IS OF BULK AT MOST 1048576: true; the input reads as it did. -/
def doverTwoUptoRow : OpenClaim := { program := "ytjgegnjclmkpeaadoor", sum := "e8215b2ceca9bc90c02f894a2f302cd977a323b9e07854dcb2753799fad64e4e", func := "tocsin/tocsinlaw19.DoverTwo", spec := "doverTwo", unfollowed := true, recurses := true, named := ["unicode.properties", "unicode.Letter", "unicode/utf8.first", "unicode/utf8.acceptRanges"], apart := false, laid := [("unicode/utf8.acceptRanges", laid_unicode_utf8_acceptRanges), ("unicode.properties", laid_unicode_properties), ("unicode.Letter", laid_unicode_Letter), ("unicode/utf8.first", laid_unicode_utf8_first)], narrowed := true }
def DoverTwoUptoSaid : Prop := doverTwoUptoRow.holds Tryd.pinned (OpenSpec.upto doverTwoSpec)

/-- 'tocsinlaw18.OverSays', WHERE WHAT IT READS IS OF BULK AT MOST 1048576: true; the input reads as it did. -/
def overSaysUptoRow : OpenClaim := { program := "ytjgegnjclmkpeaadoor", sum := "e8215b2ceca9bc90c02f894a2f302cd977a323b9e07854dcb2753799fad64e4e", func := "tocsin/tocsinlaw18.OverSays", spec := "overSays", unfollowed := true, recurses := true, named := ["unicode.properties", "unicode.Letter", "unicode/utf8.first", "unicode/utf8.acceptRanges"], apart := false, laid := [("unicode/utf8.acceptRanges", laid_unicode_utf8_acceptRanges), ("unicode.properties", laid_unicode_properties), ("unicode.Letter", laid_unicode_Letter), ("unicode/utf8.first", laid_unicode_utf8_first)], narrowed := true }
def OverSaysUptoSaid : Prop := overSaysUptoRow.holds Tryd.pinned (OpenSpec.upto overSaysSpec)

/-- 'tocsinlaw18.OverNone', WHERE WHAT IT READS IS OF BULK AT MOST 1048576: true; the input reads as it did. -/
def overNoneUptoRow : OpenClaim := { program := "ytjgegnjclmkpeaadoor", sum := "e8215b2ceca9bc90c02f894a2f302cd977a323b9e07854dcb2753799fad64e4e", func := "tocsin/tocsinlaw18.OverNone", spec := "overNone", unfollowed := true, recurses := true, named := ["unicode.properties", "unicode.Letter", "unicode/utf8.first", "unicode/utf8.acceptRanges"], apart := false, laid := [("unicode/utf8.acceptRanges", laid_unicode_utf8_acceptRanges), ("unicode.properties", laid_unicode_properties), ("unicode.Letter", laid_unicode_Letter), ("unicode/utf8.first", laid_unicode_utf8_first)], narrowed := true }
def OverNoneUptoSaid : Prop := overNoneUptoRow.holds Tryd.pinned (OpenSpec.upto overNoneSpec)

/-- 'tocsinlaw18.OverApart', WHERE WHAT IT READS IS OF BULK AT MOST 1048576: true; the input reads as it did. -/
def overApartUptoRow : OpenClaim := { program := "ytjgegnjclmkpeaadoor", sum := "e8215b2ceca9bc90c02f894a2f302cd977a323b9e07854dcb2753799fad64e4e", func := "tocsin/tocsinlaw18.OverApart", spec := "overApart", unfollowed := true, recurses := true, named := ["unicode.properties", "unicode.Letter", "unicode/utf8.first", "unicode/utf8.acceptRanges"], apart := false, laid := [("unicode/utf8.acceptRanges", laid_unicode_utf8_acceptRanges), ("unicode.properties", laid_unicode_properties), ("unicode.Letter", laid_unicode_Letter), ("unicode/utf8.first", laid_unicode_utf8_first)], narrowed := true }
def OverApartUptoSaid : Prop := overApartUptoRow.holds Tryd.pinned (OpenSpec.upto overApartSpec)

/-- 'tocsinlaw22.StretchWithin', WHERE WHAT IT READS IS OF BULK AT MOST 1048576: true; the input reads as it did. -/
def stretchWithinUptoRow : OpenClaim := { program := "ytjgegnjclmkpeaadoor", sum := "e8215b2ceca9bc90c02f894a2f302cd977a323b9e07854dcb2753799fad64e4e", func := "tocsin/tocsinlaw22.StretchWithin", spec := "stretchWithin", inPlace := ["internal/bytealg.abigen_runtime_cmpstring"], unfollowed := true, recurses := true, named := ["unicode.properties", "unicode.Letter", "unicode/utf8.first", "unicode/utf8.acceptRanges", "math/bits.divideError", "math/bits.overflowError"], apart := false, laid := [("unicode/utf8.acceptRanges", laid_unicode_utf8_acceptRanges), ("unicode.properties", laid_unicode_properties), ("unicode.Letter", laid_unicode_Letter), ("unicode/utf8.first", laid_unicode_utf8_first)], narrowed := true }
def StretchWithinUptoSaid : Prop := stretchWithinUptoRow.holds Tryd.pinned (OpenSpec.upto stretchWithinSpec)

/-- 'tocsinlaw22.StretchNames', WHERE WHAT IT READS IS OF BULK AT MOST 1048576: true; the input reads as it did. -/
def stretchNamesUptoRow : OpenClaim := { program := "ytjgegnjclmkpeaadoor", sum := "e8215b2ceca9bc90c02f894a2f302cd977a323b9e07854dcb2753799fad64e4e", func := "tocsin/tocsinlaw22.StretchNames", spec := "stretchNames", inPlace := ["internal/bytealg.abigen_runtime_cmpstring"], unfollowed := true, recurses := true, named := ["unicode.properties", "unicode.Letter", "unicode/utf8.first", "unicode/utf8.acceptRanges", "math/bits.divideError", "math/bits.overflowError"], apart := false, laid := [("unicode/utf8.acceptRanges", laid_unicode_utf8_acceptRanges), ("unicode.properties", laid_unicode_properties), ("unicode.Letter", laid_unicode_Letter), ("unicode/utf8.first", laid_unicode_utf8_first)], narrowed := true }
def StretchNamesUptoSaid : Prop := stretchNamesUptoRow.holds Tryd.pinned (OpenSpec.upto stretchNamesSpec)

/-- 'tocsinlaw22.StretchBack', WHERE WHAT IT READS IS OF BULK AT MOST 1048576: true; the input reads as it did. -/
def stretchBackUptoRow : OpenClaim := { program := "ytjgegnjclmkpeaadoor", sum := "e8215b2ceca9bc90c02f894a2f302cd977a323b9e07854dcb2753799fad64e4e", func := "tocsin/tocsinlaw22.StretchBack", spec := "stretchBack", inPlace := ["internal/bytealg.abigen_runtime_cmpstring"], unfollowed := true, recurses := true, named := ["unicode.properties", "unicode.Letter", "unicode/utf8.first", "unicode/utf8.acceptRanges", "math/bits.divideError", "math/bits.overflowError"], apart := false, laid := [("unicode/utf8.acceptRanges", laid_unicode_utf8_acceptRanges), ("unicode.properties", laid_unicode_properties), ("unicode.Letter", laid_unicode_Letter), ("unicode/utf8.first", laid_unicode_utf8_first)], narrowed := true }
def StretchBackUptoSaid : Prop := stretchBackUptoRow.holds Tryd.pinned (OpenSpec.upto stretchBackSpec)

end Rows
end Go.Proofs.YtjgegnjclmkpeaaDoor
