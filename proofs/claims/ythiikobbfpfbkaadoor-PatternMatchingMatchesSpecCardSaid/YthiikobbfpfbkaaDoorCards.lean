/-
  DERIVED. GIVEN WITH THE SEED: THE CARDS: each row of YthiikobbfpfbkaaDoorRows.lean that lists a variable, with what it lists TIED to the program's text (the seventh form; the later family's looks); each row that meets fmt, with fmt's text TOLD by the authors' own Lean function (tested against real Go, not proved from fmt's source: count such statements apart). THE CARD IS WHAT COUNTS. Prove the row's statement (the work); the ties are given (YthiikobbfpfbkaaDoorTie.lean); close each card by the builder's one call (the guide's Derived/Test/ToyasCard.lean, 'card_holds'). Laid BY PROGRAM, IN A SANDBOX (cutbox-door.mjs). By AI agents, Wed Nov 11 2026. No macro, syntax, notation, axiom, sorry.
-/
import Derived.Test.YthiikobbfpfbkaaDoorRows
import GoSem.ClaimSeven
namespace Go.Proofs.YthiikobbfpfbkaaDoor
namespace Rows

/-- THE TIED CARD OF 'glosswrightlaw6.PatternShapeMatchesSpec'. -/
def patternShapeMatchesSpecCard : Claim7 := { stood := { row := patternShapeMatchesSpecRow, standIns := [], harness := (true, "aa5265e4637e414d924b7571e6a3b1f490cf9a8acdc3cf8252995b8b607eab19"), looks := false }, kinds := [], alts := [], laidByText := true, laidKinds := [.data, .data, .data, .data, .pinned], laidTests := true, laidLooks := .later }
def PatternShapeMatchesSpecCardSaid : Prop := Claim7.holds Tryd.pinned (.plain (OpenSpec.ofChange patternShapeMatchesSpecSpec)) patternShapeMatchesSpecCard

/-- THE TIED CARD OF 'glosswrightlaw6.PatternParseMatchesSpec'. -/
def patternParseMatchesSpecCard : Claim7 := { stood := { row := patternParseMatchesSpecRow, standIns := [], harness := (true, "aa5265e4637e414d924b7571e6a3b1f490cf9a8acdc3cf8252995b8b607eab19"), looks := false }, kinds := [], alts := [], laidByText := true, laidKinds := [.data, .data, .data, .data, .pinned], laidTests := true, laidLooks := .later }
def PatternParseMatchesSpecCardSaid : Prop := Claim7.holds Tryd.pinned (.plain (OpenSpec.ofChange patternParseMatchesSpecSpec)) patternParseMatchesSpecCard

/-- THE TIED CARD OF 'glosswrightlaw6.PatternMatchingMatchesSpec'. -/
def patternMatchingMatchesSpecCard : Claim7 := { stood := { row := patternMatchingMatchesSpecRow, standIns := [], harness := (true, "aa5265e4637e414d924b7571e6a3b1f490cf9a8acdc3cf8252995b8b607eab19"), looks := false }, kinds := [], alts := [], laidByText := true, laidKinds := [.data, .data, .data, .data, .pinned], laidTests := true, laidLooks := .later }
def PatternMatchingMatchesSpecCardSaid : Prop := Claim7.holds Tryd.pinned (.plain (OpenSpec.ofChange patternMatchingMatchesSpecSpec)) patternMatchingMatchesSpecCard

/-- THE TIED CARD OF 'glosswrightlaw6.PatternTextsComeBack'. -/
def patternTextsComeBackCard : Claim7 := { stood := { row := patternTextsComeBackRow, standIns := [], harness := (true, "aa5265e4637e414d924b7571e6a3b1f490cf9a8acdc3cf8252995b8b607eab19"), looks := false }, kinds := [], alts := [], laidByText := true, laidKinds := [.data, .data, .data, .data, .pinned], laidTests := true, laidLooks := .later }
def PatternTextsComeBackCardSaid : Prop := Claim7.holds Tryd.pinned (.plain (OpenSpec.ofChange patternTextsComeBackSpec)) patternTextsComeBackCard

/-- THE TIED CARD OF 'glosswrightlaw6.PatternPartsDecide'. -/
def patternPartsDecideCard : Claim7 := { stood := { row := patternPartsDecideRow, standIns := [], harness := (true, "aa5265e4637e414d924b7571e6a3b1f490cf9a8acdc3cf8252995b8b607eab19"), looks := false }, kinds := [], alts := [], laidByText := true, laidKinds := [.data, .data, .data, .data, .pinned], laidTests := true, laidLooks := .later }
def PatternPartsDecideCardSaid : Prop := Claim7.holds Tryd.pinned (.plain (OpenSpec.ofChange patternPartsDecideSpec)) patternPartsDecideCard

/-- THE SECOND FORM's CARD OF 'glosswrightlaw6.PatternShapeMatchesSpec'. -/
def patternShapeMatchesSpecUptoCard : Claim7 := { stood := { row := patternShapeMatchesSpecUptoRow, standIns := [], harness := (true, "aa5265e4637e414d924b7571e6a3b1f490cf9a8acdc3cf8252995b8b607eab19"), looks := false }, kinds := [], alts := [], laidByText := true, laidKinds := [.data, .data, .data, .data, .pinned], laidTests := true, laidLooks := .later }
def PatternShapeMatchesSpecUptoCardSaid : Prop := Claim7.holds Tryd.pinned (.plain (OpenSpec.upto patternShapeMatchesSpecSpec)) patternShapeMatchesSpecUptoCard

/-- THE SECOND FORM's CARD OF 'glosswrightlaw6.PatternParseMatchesSpec'. -/
def patternParseMatchesSpecUptoCard : Claim7 := { stood := { row := patternParseMatchesSpecUptoRow, standIns := [], harness := (true, "aa5265e4637e414d924b7571e6a3b1f490cf9a8acdc3cf8252995b8b607eab19"), looks := false }, kinds := [], alts := [], laidByText := true, laidKinds := [.data, .data, .data, .data, .pinned], laidTests := true, laidLooks := .later }
def PatternParseMatchesSpecUptoCardSaid : Prop := Claim7.holds Tryd.pinned (.plain (OpenSpec.upto patternParseMatchesSpecSpec)) patternParseMatchesSpecUptoCard

/-- THE SECOND FORM's CARD OF 'glosswrightlaw6.PatternMatchingMatchesSpec'. -/
def patternMatchingMatchesSpecUptoCard : Claim7 := { stood := { row := patternMatchingMatchesSpecUptoRow, standIns := [], harness := (true, "aa5265e4637e414d924b7571e6a3b1f490cf9a8acdc3cf8252995b8b607eab19"), looks := false }, kinds := [], alts := [], laidByText := true, laidKinds := [.data, .data, .data, .data, .pinned], laidTests := true, laidLooks := .later }
def PatternMatchingMatchesSpecUptoCardSaid : Prop := Claim7.holds Tryd.pinned (.plain (OpenSpec.upto patternMatchingMatchesSpecSpec)) patternMatchingMatchesSpecUptoCard

/-- THE SECOND FORM's CARD OF 'glosswrightlaw6.PatternTextsComeBack'. -/
def patternTextsComeBackUptoCard : Claim7 := { stood := { row := patternTextsComeBackUptoRow, standIns := [], harness := (true, "aa5265e4637e414d924b7571e6a3b1f490cf9a8acdc3cf8252995b8b607eab19"), looks := false }, kinds := [], alts := [], laidByText := true, laidKinds := [.data, .data, .data, .data, .pinned], laidTests := true, laidLooks := .later }
def PatternTextsComeBackUptoCardSaid : Prop := Claim7.holds Tryd.pinned (.plain (OpenSpec.upto patternTextsComeBackSpec)) patternTextsComeBackUptoCard

/-- THE SECOND FORM's CARD OF 'glosswrightlaw6.PatternPartsDecide'. -/
def patternPartsDecideUptoCard : Claim7 := { stood := { row := patternPartsDecideUptoRow, standIns := [], harness := (true, "aa5265e4637e414d924b7571e6a3b1f490cf9a8acdc3cf8252995b8b607eab19"), looks := false }, kinds := [], alts := [], laidByText := true, laidKinds := [.data, .data, .data, .data, .pinned], laidTests := true, laidLooks := .later }
def PatternPartsDecideUptoCardSaid : Prop := Claim7.holds Tryd.pinned (.plain (OpenSpec.upto patternPartsDecideSpec)) patternPartsDecideUptoCard
end Rows
end Go.Proofs.YthiikobbfpfbkaaDoor
