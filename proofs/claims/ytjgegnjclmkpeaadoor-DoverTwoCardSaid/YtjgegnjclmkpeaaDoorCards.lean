/-
  DERIVED. GIVEN WITH THE SEED: THE CARDS: each row of YtjgegnjclmkpeaaDoorRows.lean that lists a variable, with what it lists TIED to the program's text (the seventh form; the later family's looks); each row that meets fmt, with fmt's text TOLD by the authors' own Lean function (tested against real Go, not proved from fmt's source: count such statements apart). THE CARD IS WHAT COUNTS. Prove the row's statement (the work); the ties are given (YtjgegnjclmkpeaaDoorTie.lean); close each card by the builder's one call (the guide's Derived/Test/ToyasCard.lean, 'card_holds'). Laid BY PROGRAM, IN A SANDBOX (cutbox-door.mjs). By AI agents, Wed Nov 11 2026. No macro, syntax, notation, axiom, sorry.
-/
import Derived.Test.YtjgegnjclmkpeaaDoorRows
import GoSem.ClaimSeven
namespace Go.Proofs.YtjgegnjclmkpeaaDoor
namespace Rows

/-- THE TIED CARD OF 'tocsinlaw20.RobustHard'. -/
def robustHardCard : Claim7 := { stood := { row := robustHardRow, standIns := [], harness := (true, "58b17c6c890f3392ae976cf0557a4ac4591aee134aa0d3892e956c1701cd0c8f"), looks := false }, kinds := [], alts := [], laidByText := true, laidKinds := [.data, .data, .pinned, .pinned], laidTests := true, laidLooks := .later }
def RobustHardCardSaid : Prop := Claim7.holds Tryd.pinned (.plain (OpenSpec.ofChange robustHardSpec)) robustHardCard

/-- THE TIED CARD OF 'tocsinlaw20.RobustCalm'. -/
def robustCalmCard : Claim7 := { stood := { row := robustCalmRow, standIns := [], harness := (true, "58b17c6c890f3392ae976cf0557a4ac4591aee134aa0d3892e956c1701cd0c8f"), looks := false }, kinds := [], alts := [], laidByText := true, laidKinds := [.data, .data, .pinned, .pinned], laidTests := true, laidLooks := .later }
def RobustCalmCardSaid : Prop := Claim7.holds Tryd.pinned (.plain (OpenSpec.ofChange robustCalmSpec)) robustCalmCard

/-- THE TIED CARD OF 'tocsinlaw19.DoverTrace'. -/
def doverTraceCard : Claim7 := { stood := { row := doverTraceRow, standIns := [], harness := (true, "58b17c6c890f3392ae976cf0557a4ac4591aee134aa0d3892e956c1701cd0c8f"), looks := false }, kinds := [], alts := [], laidByText := true, laidKinds := [.data, .data, .pinned, .pinned], laidTests := true, laidLooks := .later }
def DoverTraceCardSaid : Prop := Claim7.holds Tryd.pinned (.plain (OpenSpec.ofChange doverTraceSpec)) doverTraceCard

/-- THE TIED CARD OF 'tocsinlaw19.DoverCalm'. -/
def doverCalmCard : Claim7 := { stood := { row := doverCalmRow, standIns := [], harness := (true, "58b17c6c890f3392ae976cf0557a4ac4591aee134aa0d3892e956c1701cd0c8f"), looks := false }, kinds := [], alts := [], laidByText := true, laidKinds := [.data, .data, .pinned, .pinned], laidTests := true, laidLooks := .later }
def DoverCalmCardSaid : Prop := Claim7.holds Tryd.pinned (.plain (OpenSpec.ofChange doverCalmSpec)) doverCalmCard

/-- THE TIED CARD OF 'tocsinlaw19.DoverTwo'. -/
def doverTwoCard : Claim7 := { stood := { row := doverTwoRow, standIns := [], harness := (true, "58b17c6c890f3392ae976cf0557a4ac4591aee134aa0d3892e956c1701cd0c8f"), looks := false }, kinds := [], alts := [], laidByText := true, laidKinds := [.data, .data, .pinned, .pinned], laidTests := true, laidLooks := .later }
def DoverTwoCardSaid : Prop := Claim7.holds Tryd.pinned (.plain (OpenSpec.ofChange doverTwoSpec)) doverTwoCard

/-- THE TIED CARD OF 'tocsinlaw18.OverSays'. -/
def overSaysCard : Claim7 := { stood := { row := overSaysRow, standIns := [], harness := (true, "58b17c6c890f3392ae976cf0557a4ac4591aee134aa0d3892e956c1701cd0c8f"), looks := false }, kinds := [], alts := [], laidByText := true, laidKinds := [.data, .data, .pinned, .pinned], laidTests := true, laidLooks := .later }
def OverSaysCardSaid : Prop := Claim7.holds Tryd.pinned (.plain (OpenSpec.ofChange overSaysSpec)) overSaysCard

/-- THE TIED CARD OF 'tocsinlaw18.OverNone'. -/
def overNoneCard : Claim7 := { stood := { row := overNoneRow, standIns := [], harness := (true, "58b17c6c890f3392ae976cf0557a4ac4591aee134aa0d3892e956c1701cd0c8f"), looks := false }, kinds := [], alts := [], laidByText := true, laidKinds := [.data, .data, .pinned, .pinned], laidTests := true, laidLooks := .later }
def OverNoneCardSaid : Prop := Claim7.holds Tryd.pinned (.plain (OpenSpec.ofChange overNoneSpec)) overNoneCard

/-- THE TIED CARD OF 'tocsinlaw18.OverApart'. -/
def overApartCard : Claim7 := { stood := { row := overApartRow, standIns := [], harness := (true, "58b17c6c890f3392ae976cf0557a4ac4591aee134aa0d3892e956c1701cd0c8f"), looks := false }, kinds := [], alts := [], laidByText := true, laidKinds := [.data, .data, .pinned, .pinned], laidTests := true, laidLooks := .later }
def OverApartCardSaid : Prop := Claim7.holds Tryd.pinned (.plain (OpenSpec.ofChange overApartSpec)) overApartCard

/-- THE TIED CARD OF 'tocsinlaw22.StretchWithin'. -/
def stretchWithinCard : Claim7 := { stood := { row := stretchWithinRow, standIns := [], harness := (true, "58b17c6c890f3392ae976cf0557a4ac4591aee134aa0d3892e956c1701cd0c8f"), looks := false }, kinds := [], alts := [], laidByText := true, laidKinds := [.data, .data, .pinned, .pinned], laidTests := true, laidLooks := .later }
def StretchWithinCardSaid : Prop := Claim7.holds Tryd.pinned (.plain (OpenSpec.ofChange stretchWithinSpec)) stretchWithinCard

/-- THE TIED CARD OF 'tocsinlaw22.StretchNames'. -/
def stretchNamesCard : Claim7 := { stood := { row := stretchNamesRow, standIns := [], harness := (true, "58b17c6c890f3392ae976cf0557a4ac4591aee134aa0d3892e956c1701cd0c8f"), looks := false }, kinds := [], alts := [], laidByText := true, laidKinds := [.data, .data, .pinned, .pinned], laidTests := true, laidLooks := .later }
def StretchNamesCardSaid : Prop := Claim7.holds Tryd.pinned (.plain (OpenSpec.ofChange stretchNamesSpec)) stretchNamesCard

/-- THE TIED CARD OF 'tocsinlaw22.StretchBack'. -/
def stretchBackCard : Claim7 := { stood := { row := stretchBackRow, standIns := [], harness := (true, "58b17c6c890f3392ae976cf0557a4ac4591aee134aa0d3892e956c1701cd0c8f"), looks := false }, kinds := [], alts := [], laidByText := true, laidKinds := [.data, .data, .pinned, .pinned], laidTests := true, laidLooks := .later }
def StretchBackCardSaid : Prop := Claim7.holds Tryd.pinned (.plain (OpenSpec.ofChange stretchBackSpec)) stretchBackCard

/-- THE SECOND FORM's CARD OF 'tocsinlaw20.RobustHard'. -/
def robustHardUptoCard : Claim7 := { stood := { row := robustHardUptoRow, standIns := [], harness := (true, "58b17c6c890f3392ae976cf0557a4ac4591aee134aa0d3892e956c1701cd0c8f"), looks := false }, kinds := [], alts := [], laidByText := true, laidKinds := [.data, .data, .pinned, .pinned], laidTests := true, laidLooks := .later }
def RobustHardUptoCardSaid : Prop := Claim7.holds Tryd.pinned (.plain (OpenSpec.upto robustHardSpec)) robustHardUptoCard

/-- THE SECOND FORM's CARD OF 'tocsinlaw20.RobustCalm'. -/
def robustCalmUptoCard : Claim7 := { stood := { row := robustCalmUptoRow, standIns := [], harness := (true, "58b17c6c890f3392ae976cf0557a4ac4591aee134aa0d3892e956c1701cd0c8f"), looks := false }, kinds := [], alts := [], laidByText := true, laidKinds := [.data, .data, .pinned, .pinned], laidTests := true, laidLooks := .later }
def RobustCalmUptoCardSaid : Prop := Claim7.holds Tryd.pinned (.plain (OpenSpec.upto robustCalmSpec)) robustCalmUptoCard

/-- THE SECOND FORM's CARD OF 'tocsinlaw19.DoverTrace'. -/
def doverTraceUptoCard : Claim7 := { stood := { row := doverTraceUptoRow, standIns := [], harness := (true, "58b17c6c890f3392ae976cf0557a4ac4591aee134aa0d3892e956c1701cd0c8f"), looks := false }, kinds := [], alts := [], laidByText := true, laidKinds := [.data, .data, .pinned, .pinned], laidTests := true, laidLooks := .later }
def DoverTraceUptoCardSaid : Prop := Claim7.holds Tryd.pinned (.plain (OpenSpec.upto doverTraceSpec)) doverTraceUptoCard

/-- THE SECOND FORM's CARD OF 'tocsinlaw19.DoverCalm'. -/
def doverCalmUptoCard : Claim7 := { stood := { row := doverCalmUptoRow, standIns := [], harness := (true, "58b17c6c890f3392ae976cf0557a4ac4591aee134aa0d3892e956c1701cd0c8f"), looks := false }, kinds := [], alts := [], laidByText := true, laidKinds := [.data, .data, .pinned, .pinned], laidTests := true, laidLooks := .later }
def DoverCalmUptoCardSaid : Prop := Claim7.holds Tryd.pinned (.plain (OpenSpec.upto doverCalmSpec)) doverCalmUptoCard

/-- THE SECOND FORM's CARD OF 'tocsinlaw19.DoverTwo'. -/
def doverTwoUptoCard : Claim7 := { stood := { row := doverTwoUptoRow, standIns := [], harness := (true, "58b17c6c890f3392ae976cf0557a4ac4591aee134aa0d3892e956c1701cd0c8f"), looks := false }, kinds := [], alts := [], laidByText := true, laidKinds := [.data, .data, .pinned, .pinned], laidTests := true, laidLooks := .later }
def DoverTwoUptoCardSaid : Prop := Claim7.holds Tryd.pinned (.plain (OpenSpec.upto doverTwoSpec)) doverTwoUptoCard

/-- THE SECOND FORM's CARD OF 'tocsinlaw18.OverSays'. -/
def overSaysUptoCard : Claim7 := { stood := { row := overSaysUptoRow, standIns := [], harness := (true, "58b17c6c890f3392ae976cf0557a4ac4591aee134aa0d3892e956c1701cd0c8f"), looks := false }, kinds := [], alts := [], laidByText := true, laidKinds := [.data, .data, .pinned, .pinned], laidTests := true, laidLooks := .later }
def OverSaysUptoCardSaid : Prop := Claim7.holds Tryd.pinned (.plain (OpenSpec.upto overSaysSpec)) overSaysUptoCard

/-- THE SECOND FORM's CARD OF 'tocsinlaw18.OverNone'. -/
def overNoneUptoCard : Claim7 := { stood := { row := overNoneUptoRow, standIns := [], harness := (true, "58b17c6c890f3392ae976cf0557a4ac4591aee134aa0d3892e956c1701cd0c8f"), looks := false }, kinds := [], alts := [], laidByText := true, laidKinds := [.data, .data, .pinned, .pinned], laidTests := true, laidLooks := .later }
def OverNoneUptoCardSaid : Prop := Claim7.holds Tryd.pinned (.plain (OpenSpec.upto overNoneSpec)) overNoneUptoCard

/-- THE SECOND FORM's CARD OF 'tocsinlaw18.OverApart'. -/
def overApartUptoCard : Claim7 := { stood := { row := overApartUptoRow, standIns := [], harness := (true, "58b17c6c890f3392ae976cf0557a4ac4591aee134aa0d3892e956c1701cd0c8f"), looks := false }, kinds := [], alts := [], laidByText := true, laidKinds := [.data, .data, .pinned, .pinned], laidTests := true, laidLooks := .later }
def OverApartUptoCardSaid : Prop := Claim7.holds Tryd.pinned (.plain (OpenSpec.upto overApartSpec)) overApartUptoCard

/-- THE SECOND FORM's CARD OF 'tocsinlaw22.StretchWithin'. -/
def stretchWithinUptoCard : Claim7 := { stood := { row := stretchWithinUptoRow, standIns := [], harness := (true, "58b17c6c890f3392ae976cf0557a4ac4591aee134aa0d3892e956c1701cd0c8f"), looks := false }, kinds := [], alts := [], laidByText := true, laidKinds := [.data, .data, .pinned, .pinned], laidTests := true, laidLooks := .later }
def StretchWithinUptoCardSaid : Prop := Claim7.holds Tryd.pinned (.plain (OpenSpec.upto stretchWithinSpec)) stretchWithinUptoCard

/-- THE SECOND FORM's CARD OF 'tocsinlaw22.StretchNames'. -/
def stretchNamesUptoCard : Claim7 := { stood := { row := stretchNamesUptoRow, standIns := [], harness := (true, "58b17c6c890f3392ae976cf0557a4ac4591aee134aa0d3892e956c1701cd0c8f"), looks := false }, kinds := [], alts := [], laidByText := true, laidKinds := [.data, .data, .pinned, .pinned], laidTests := true, laidLooks := .later }
def StretchNamesUptoCardSaid : Prop := Claim7.holds Tryd.pinned (.plain (OpenSpec.upto stretchNamesSpec)) stretchNamesUptoCard

/-- THE SECOND FORM's CARD OF 'tocsinlaw22.StretchBack'. -/
def stretchBackUptoCard : Claim7 := { stood := { row := stretchBackUptoRow, standIns := [], harness := (true, "58b17c6c890f3392ae976cf0557a4ac4591aee134aa0d3892e956c1701cd0c8f"), looks := false }, kinds := [], alts := [], laidByText := true, laidKinds := [.data, .data, .pinned, .pinned], laidTests := true, laidLooks := .later }
def StretchBackUptoCardSaid : Prop := Claim7.holds Tryd.pinned (.plain (OpenSpec.upto stretchBackSpec)) stretchBackUptoCard
end Rows
end Go.Proofs.YtjgegnjclmkpeaaDoor
