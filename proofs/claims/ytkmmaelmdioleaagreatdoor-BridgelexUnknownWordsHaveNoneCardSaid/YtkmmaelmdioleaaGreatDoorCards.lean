/-
  DERIVED. GIVEN WITH THE SEED: THE CARDS: each row of YtkmmaelmdioleaaGreatDoorRows.lean that lists a variable, with what it lists TIED to the program's text (the seventh form; the later family's looks); each row that meets fmt, with fmt's text TOLD by the authors' own Lean function (tested against real Go, not proved from fmt's source: count such statements apart). THE CARD IS WHAT COUNTS. Prove the row's statement (the work); the ties are given (YtkmmaelmdioleaaGreatDoorTie.lean); close each card by the builder's one call (the guide's Derived/Test/ToyasCard.lean, 'card_holds'). Laid BY PROGRAM, IN A SANDBOX (cutbox-door.mjs). By AI agents, Wed Nov 11 2026. No macro, syntax, notation, axiom, sorry.
-/
import Derived.Test.YtkmmaelmdioleaaGreatDoorRows
import GoSem.ClaimSeven
namespace Go.Proofs.YtkmmaelmdioleaaGreatDoor
namespace Rows

/-- THE TIED CARD OF 'glosswrightlaw6.BridgelexUnknownWordsHaveNone'. -/
def bridgelexUnknownWordsHaveNoneCard : Claim7 := { stood := { row := bridgelexUnknownWordsHaveNoneRow, standIns := [], harness := (true, "edcd0fff3b6f9687c0a246a928f609af29fd1abef6be991eaccfc32d0f991fde"), looks := true }, kinds := [], alts := [], laidByText := true, laidKinds := [.data, .pinned], laidTests := true, laidLooks := .later }
def BridgelexUnknownWordsHaveNoneCardSaid : Prop := Claim7.holds Tryz.pinned (.plain (OpenSpec.ofChange bridgelexUnknownWordsHaveNoneSpec)) bridgelexUnknownWordsHaveNoneCard

/-- THE SECOND FORM's CARD OF 'glosswrightlaw6.BridgelexUnknownWordsHaveNone'. -/
def bridgelexUnknownWordsHaveNoneUptoCard : Claim7 := { stood := { row := bridgelexUnknownWordsHaveNoneUptoRow, standIns := [], harness := (true, "edcd0fff3b6f9687c0a246a928f609af29fd1abef6be991eaccfc32d0f991fde"), looks := true }, kinds := [], alts := [], laidByText := true, laidKinds := [.data, .pinned], laidTests := true, laidLooks := .later }
def BridgelexUnknownWordsHaveNoneUptoCardSaid : Prop := Claim7.holds Tryz.pinned (.plain (OpenSpec.upto bridgelexUnknownWordsHaveNoneSpec)) bridgelexUnknownWordsHaveNoneUptoCard
end Rows
end Go.Proofs.YtkmmaelmdioleaaGreatDoor
