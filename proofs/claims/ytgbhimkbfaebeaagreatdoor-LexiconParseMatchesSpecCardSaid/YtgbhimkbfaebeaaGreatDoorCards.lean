/-
  DERIVED. GIVEN WITH THE SEED: THE CARDS: each row of YtgbhimkbfaebeaaGreatDoorRows.lean that lists a variable, with what it lists TIED to the program's text (the seventh form; the later family's looks); each row that meets fmt, with fmt's text TOLD by the authors' own Lean function (tested against real Go, not proved from fmt's source: count such statements apart). THE CARD IS WHAT COUNTS. Prove the row's statement (the work); the ties are given (YtgbhimkbfaebeaaGreatDoorTie.lean); close each card by the builder's one call (the guide's Derived/Test/ToyasCard.lean, 'card_holds'). Laid BY PROGRAM, IN A SANDBOX (cutbox-door.mjs). By AI agents, Wed Nov 11 2026. No macro, syntax, notation, axiom, sorry.
-/
import Derived.Test.YtgbhimkbfaebeaaGreatDoorRows
import GoSem.ClaimSeven
namespace Go.Proofs.YtgbhimkbfaebeaaGreatDoor
namespace Rows

/-- THE TIED CARD OF 'glosswrightlaw6.LexiconShapeMatchesSpec'. -/
def lexiconShapeMatchesSpecCard : Claim7 := { stood := { row := lexiconShapeMatchesSpecRow, standIns := [], harness := (true, "74b80b8254cbf4e246a7b503026cd4c5d2054beb5ab24967f819cc5e5296d2a9"), looks := true }, kinds := [], alts := [], laidByText := true, laidKinds := [.data, .data, .data, .data, .sentinel, .sentinel, .pinned], laidTests := true, laidLooks := .later }
def LexiconShapeMatchesSpecCardSaid : Prop := Claim7.holds Tryz.pinned (.plain (OpenSpec.ofChange lexiconShapeMatchesSpecSpec)) lexiconShapeMatchesSpecCard

/-- THE TIED CARD OF 'glosswrightlaw6.LexiconParseMatchesSpec'. -/
def lexiconParseMatchesSpecCard : Claim7 := { stood := { row := lexiconParseMatchesSpecRow, standIns := [], harness := (true, "74b80b8254cbf4e246a7b503026cd4c5d2054beb5ab24967f819cc5e5296d2a9"), looks := true }, kinds := [], alts := [], laidByText := true, laidKinds := [.data, .data, .data, .data, .sentinel, .sentinel, .pinned], laidTests := true, laidLooks := .later }
def LexiconParseMatchesSpecCardSaid : Prop := Claim7.holds Tryz.pinned (.plain (OpenSpec.ofChange lexiconParseMatchesSpecSpec)) lexiconParseMatchesSpecCard

/-- THE TIED CARD OF 'glosswrightlaw6.LexiconTextsComeBack'. -/
def lexiconTextsComeBackCard : Claim7 := { stood := { row := lexiconTextsComeBackRow, standIns := [], harness := (true, "74b80b8254cbf4e246a7b503026cd4c5d2054beb5ab24967f819cc5e5296d2a9"), looks := true }, kinds := [], alts := [], laidByText := true, laidKinds := [.data, .data, .data, .data, .sentinel, .sentinel, .pinned], laidTests := true, laidLooks := .later }
def LexiconTextsComeBackCardSaid : Prop := Claim7.holds Tryz.pinned (.plain (OpenSpec.ofChange lexiconTextsComeBackSpec)) lexiconTextsComeBackCard

/-- THE SECOND FORM's CARD OF 'glosswrightlaw6.LexiconShapeMatchesSpec'. -/
def lexiconShapeMatchesSpecUptoCard : Claim7 := { stood := { row := lexiconShapeMatchesSpecUptoRow, standIns := [], harness := (true, "74b80b8254cbf4e246a7b503026cd4c5d2054beb5ab24967f819cc5e5296d2a9"), looks := true }, kinds := [], alts := [], laidByText := true, laidKinds := [.data, .data, .data, .data, .sentinel, .sentinel, .pinned], laidTests := true, laidLooks := .later }
def LexiconShapeMatchesSpecUptoCardSaid : Prop := Claim7.holds Tryz.pinned (.plain (OpenSpec.upto lexiconShapeMatchesSpecSpec)) lexiconShapeMatchesSpecUptoCard

/-- THE SECOND FORM's CARD OF 'glosswrightlaw6.LexiconParseMatchesSpec'. -/
def lexiconParseMatchesSpecUptoCard : Claim7 := { stood := { row := lexiconParseMatchesSpecUptoRow, standIns := [], harness := (true, "74b80b8254cbf4e246a7b503026cd4c5d2054beb5ab24967f819cc5e5296d2a9"), looks := true }, kinds := [], alts := [], laidByText := true, laidKinds := [.data, .data, .data, .data, .sentinel, .sentinel, .pinned], laidTests := true, laidLooks := .later }
def LexiconParseMatchesSpecUptoCardSaid : Prop := Claim7.holds Tryz.pinned (.plain (OpenSpec.upto lexiconParseMatchesSpecSpec)) lexiconParseMatchesSpecUptoCard

/-- THE SECOND FORM's CARD OF 'glosswrightlaw6.LexiconTextsComeBack'. -/
def lexiconTextsComeBackUptoCard : Claim7 := { stood := { row := lexiconTextsComeBackUptoRow, standIns := [], harness := (true, "74b80b8254cbf4e246a7b503026cd4c5d2054beb5ab24967f819cc5e5296d2a9"), looks := true }, kinds := [], alts := [], laidByText := true, laidKinds := [.data, .data, .data, .data, .sentinel, .sentinel, .pinned], laidTests := true, laidLooks := .later }
def LexiconTextsComeBackUptoCardSaid : Prop := Claim7.holds Tryz.pinned (.plain (OpenSpec.upto lexiconTextsComeBackSpec)) lexiconTextsComeBackUptoCard
end Rows
end Go.Proofs.YtgbhimkbfaebeaaGreatDoor
