/-
  DERIVED. GIVEN WITH THE SEED: THE CARDS: each row of YtmoiipfomcgomaaGreatDoorRows.lean that lists a variable, with what it lists TIED to the program's text (the seventh form; the later family's looks); each row that meets fmt, with fmt's text TOLD by the authors' own Lean function (tested against real Go, not proved from fmt's source: count such statements apart). THE CARD IS WHAT COUNTS. Prove the row's statement (the work); the ties are given (YtmoiipfomcgomaaGreatDoorTie.lean); close each card by the builder's one call (the guide's Derived/Test/ToyasCard.lean, 'card_holds'). Laid BY PROGRAM, IN A SANDBOX (cutbox-door.mjs). By AI agents, Wed Nov 11 2026. No macro, syntax, notation, axiom, sorry.
-/
import Derived.Test.YtmoiipfomcgomaaGreatDoorRows
import GoSem.ClaimSeven
namespace Go.Proofs.YtmoiipfomcgomaaGreatDoor
namespace Rows

/-- THE TIED CARD OF 'glosswrightlaw6.LexiconMachineWritesForms'. -/
def lexiconMachineWritesFormsCard : Claim7 := { stood := { row := lexiconMachineWritesFormsRow, standIns := [], harness := (true, "3deedce3ab882773e85a9075e974f656cbbb1de097dcd87714e4b490e2a3b74f"), looks := false }, kinds := [], alts := [], laidByText := true, laidKinds := [.data, .pinned], laidTests := true, laidLooks := .later }
def LexiconMachineWritesFormsCardSaid : Prop := Claim7.holds Tryz.pinned (.plain (OpenSpec.ofChange lexiconMachineWritesFormsSpec)) lexiconMachineWritesFormsCard

/-- THE SECOND FORM's CARD OF 'glosswrightlaw6.LexiconMachineWritesForms'. -/
def lexiconMachineWritesFormsUptoCard : Claim7 := { stood := { row := lexiconMachineWritesFormsUptoRow, standIns := [], harness := (true, "3deedce3ab882773e85a9075e974f656cbbb1de097dcd87714e4b490e2a3b74f"), looks := false }, kinds := [], alts := [], laidByText := true, laidKinds := [.data, .pinned], laidTests := true, laidLooks := .later }
def LexiconMachineWritesFormsUptoCardSaid : Prop := Claim7.holds Tryz.pinned (.plain (OpenSpec.upto lexiconMachineWritesFormsSpec)) lexiconMachineWritesFormsUptoCard
end Rows
end Go.Proofs.YtmoiipfomcgomaaGreatDoor
