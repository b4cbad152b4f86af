/-
  DERIVED. GIVEN WITH THE SEED: THE CARDS: each row of YtckocapmogfhkaaDoorRows.lean that lists a variable, with what it lists TIED to the program's text (the seventh form; the later family's looks); each row that meets fmt, with fmt's text TOLD by the authors' own Lean function (tested against real Go, not proved from fmt's source: count such statements apart). THE CARD IS WHAT COUNTS. Prove the row's statement (the work); the ties are given (YtckocapmogfhkaaDoorTie.lean); close each card by the builder's one call (the guide's Derived/Test/ToyasCard.lean, 'card_holds'). Laid BY PROGRAM, IN A SANDBOX (cutbox-door.mjs). By AI agents, Wed Nov 11 2026. No macro, syntax, notation, axiom, sorry.
-/
import Derived.Test.YtckocapmogfhkaaDoorRows
import GoSem.ClaimSeven
namespace Go.Proofs.YtckocapmogfhkaaDoor
namespace Rows

/-- THE TIED CARD OF 'glosswrightlaw6.LexiconCompileMatchesSpec'. -/
def lexiconCompileMatchesSpecCard : Claim7 := { stood := { row := lexiconCompileMatchesSpecRow, standIns := [], harness := (true, "0e53a0835d80ced8058157d6c284ebad14c09325b4531033750f7c301b0686bf"), looks := false }, kinds := [], alts := [], laidByText := true, laidKinds := [.data, .pinned], laidTests := true, laidLooks := .later }
def LexiconCompileMatchesSpecCardSaid : Prop := Claim7.holds Tryd.pinned (.plain (OpenSpec.ofChange lexiconCompileMatchesSpecSpec)) lexiconCompileMatchesSpecCard

/-- THE SECOND FORM's CARD OF 'glosswrightlaw6.LexiconCompileMatchesSpec'. -/
def lexiconCompileMatchesSpecUptoCard : Claim7 := { stood := { row := lexiconCompileMatchesSpecUptoRow, standIns := [], harness := (true, "0e53a0835d80ced8058157d6c284ebad14c09325b4531033750f7c301b0686bf"), looks := false }, kinds := [], alts := [], laidByText := true, laidKinds := [.data, .pinned], laidTests := true, laidLooks := .later }
def LexiconCompileMatchesSpecUptoCardSaid : Prop := Claim7.holds Tryd.pinned (.plain (OpenSpec.upto lexiconCompileMatchesSpecSpec)) lexiconCompileMatchesSpecUptoCard
end Rows
end Go.Proofs.YtckocapmogfhkaaDoor
