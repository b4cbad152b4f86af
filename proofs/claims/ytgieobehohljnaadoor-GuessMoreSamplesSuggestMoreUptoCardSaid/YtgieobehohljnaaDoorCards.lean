/-
  DERIVED. GIVEN WITH THE SEED: THE CARDS: each row of YtgieobehohljnaaDoorRows.lean that lists a variable, with what it lists TIED to the program's text (the seventh form; the later family's looks); each row that meets fmt, with fmt's text TOLD by the authors' own Lean function (tested against real Go, not proved from fmt's source: count such statements apart). THE CARD IS WHAT COUNTS. Prove the row's statement (the work); the ties are given (YtgieobehohljnaaDoorTie.lean); close each card by the builder's one call (the guide's Derived/Test/ToyasCard.lean, 'card_holds'). Laid BY PROGRAM, IN A SANDBOX (cutbox-door.mjs). By AI agents, Wed Nov 11 2026. No macro, syntax, notation, axiom, sorry.
-/
import Derived.Test.YtgieobehohljnaaDoorRows
import GoSem.ClaimSeven
namespace Go.Proofs.YtgieobehohljnaaDoor
namespace Rows

/-- THE TIED CARD OF 'glosswrightlaw6.GuessRankMatchesSpec'. -/
def guessRankMatchesSpecCard : Claim7 := { stood := { row := guessRankMatchesSpecRow, standIns := [], harness := (true, "2256214bf23d10a9386233484002f9e2df2953e5aa2de24a602e4fc322e70777"), looks := false }, kinds := [], alts := [], laidByText := true, laidKinds := [.data, .pinned], laidTests := true, laidLooks := .later }
def GuessRankMatchesSpecCardSaid : Prop := Claim7.holds Tryd.pinned (.plain (OpenSpec.ofChange guessRankMatchesSpecSpec)) guessRankMatchesSpecCard

/-- THE TIED CARD OF 'glosswrightlaw6.GuessKnownWordsComeFirst'. -/
def guessKnownWordsComeFirstCard : Claim7 := { stood := { row := guessKnownWordsComeFirstRow, standIns := [], harness := (true, "2256214bf23d10a9386233484002f9e2df2953e5aa2de24a602e4fc322e70777"), looks := false }, kinds := [], alts := [], laidByText := true, laidKinds := [.data, .pinned], laidTests := true, laidLooks := .later }
def GuessKnownWordsComeFirstCardSaid : Prop := Claim7.holds Tryd.pinned (.plain (OpenSpec.ofChange guessKnownWordsComeFirstSpec)) guessKnownWordsComeFirstCard

/-- THE TIED CARD OF 'glosswrightlaw6.GuessOrderOfSamplesIsFree'. -/
def guessOrderOfSamplesIsFreeCard : Claim7 := { stood := { row := guessOrderOfSamplesIsFreeRow, standIns := [], harness := (true, "2256214bf23d10a9386233484002f9e2df2953e5aa2de24a602e4fc322e70777"), looks := false }, kinds := [], alts := [], laidByText := true, laidKinds := [.data, .pinned], laidTests := true, laidLooks := .later }
def GuessOrderOfSamplesIsFreeCardSaid : Prop := Claim7.holds Tryd.pinned (.plain (OpenSpec.ofChange guessOrderOfSamplesIsFreeSpec)) guessOrderOfSamplesIsFreeCard

/-- THE TIED CARD OF 'glosswrightlaw6.GuessMoreSamplesSuggestMore'. -/
def guessMoreSamplesSuggestMoreCard : Claim7 := { stood := { row := guessMoreSamplesSuggestMoreRow, standIns := [], harness := (true, "2256214bf23d10a9386233484002f9e2df2953e5aa2de24a602e4fc322e70777"), looks := false }, kinds := [], alts := [], laidByText := true, laidKinds := [.data, .pinned], laidTests := true, laidLooks := .later }
def GuessMoreSamplesSuggestMoreCardSaid : Prop := Claim7.holds Tryd.pinned (.plain (OpenSpec.ofChange guessMoreSamplesSuggestMoreSpec)) guessMoreSamplesSuggestMoreCard

/-- THE TIED CARD OF 'glosswrightlaw6.GuessOnlyEndsCount'. -/
def guessOnlyEndsCountCard : Claim7 := { stood := { row := guessOnlyEndsCountRow, standIns := [], harness := (true, "2256214bf23d10a9386233484002f9e2df2953e5aa2de24a602e4fc322e70777"), looks := false }, kinds := [], alts := [], laidByText := true, laidKinds := [.data, .pinned], laidTests := true, laidLooks := .later }
def GuessOnlyEndsCountCardSaid : Prop := Claim7.holds Tryd.pinned (.plain (OpenSpec.ofChange guessOnlyEndsCountSpec)) guessOnlyEndsCountCard

/-- THE TIED CARD OF 'glosswrightlaw6.GuessCountsAreSamples'. -/
def guessCountsAreSamplesCard : Claim7 := { stood := { row := guessCountsAreSamplesRow, standIns := [], harness := (true, "2256214bf23d10a9386233484002f9e2df2953e5aa2de24a602e4fc322e70777"), looks := false }, kinds := [], alts := [], laidByText := true, laidKinds := [.data, .pinned], laidTests := true, laidLooks := .later }
def GuessCountsAreSamplesCardSaid : Prop := Claim7.holds Tryd.pinned (.plain (OpenSpec.ofChange guessCountsAreSamplesSpec)) guessCountsAreSamplesCard

/-- THE SECOND FORM's CARD OF 'glosswrightlaw6.GuessRankMatchesSpec'. -/
def guessRankMatchesSpecUptoCard : Claim7 := { stood := { row := guessRankMatchesSpecUptoRow, standIns := [], harness := (true, "2256214bf23d10a9386233484002f9e2df2953e5aa2de24a602e4fc322e70777"), looks := false }, kinds := [], alts := [], laidByText := true, laidKinds := [.data, .pinned], laidTests := true, laidLooks := .later }
def GuessRankMatchesSpecUptoCardSaid : Prop := Claim7.holds Tryd.pinned (.plain (OpenSpec.upto guessRankMatchesSpecSpec)) guessRankMatchesSpecUptoCard

/-- THE SECOND FORM's CARD OF 'glosswrightlaw6.GuessKnownWordsComeFirst'. -/
def guessKnownWordsComeFirstUptoCard : Claim7 := { stood := { row := guessKnownWordsComeFirstUptoRow, standIns := [], harness := (true, "2256214bf23d10a9386233484002f9e2df2953e5aa2de24a602e4fc322e70777"), looks := false }, kinds := [], alts := [], laidByText := true, laidKinds := [.data, .pinned], laidTests := true, laidLooks := .later }
def GuessKnownWordsComeFirstUptoCardSaid : Prop := Claim7.holds Tryd.pinned (.plain (OpenSpec.upto guessKnownWordsComeFirstSpec)) guessKnownWordsComeFirstUptoCard

/-- THE SECOND FORM's CARD OF 'glosswrightlaw6.GuessOrderOfSamplesIsFree'. -/
def guessOrderOfSamplesIsFreeUptoCard : Claim7 := { stood := { row := guessOrderOfSamplesIsFreeUptoRow, standIns := [], harness := (true, "2256214bf23d10a9386233484002f9e2df2953e5aa2de24a602e4fc322e70777"), looks := false }, kinds := [], alts := [], laidByText := true, laidKinds := [.data, .pinned], laidTests := true, laidLooks := .later }
def GuessOrderOfSamplesIsFreeUptoCardSaid : Prop := Claim7.holds Tryd.pinned (.plain (OpenSpec.upto guessOrderOfSamplesIsFreeSpec)) guessOrderOfSamplesIsFreeUptoCard

/-- THE SECOND FORM's CARD OF 'glosswrightlaw6.GuessMoreSamplesSuggestMore'. -/
def guessMoreSamplesSuggestMoreUptoCard : Claim7 := { stood := { row := guessMoreSamplesSuggestMoreUptoRow, standIns := [], harness := (true, "2256214bf23d10a9386233484002f9e2df2953e5aa2de24a602e4fc322e70777"), looks := false }, kinds := [], alts := [], laidByText := true, laidKinds := [.data, .pinned], laidTests := true, laidLooks := .later }
def GuessMoreSamplesSuggestMoreUptoCardSaid : Prop := Claim7.holds Tryd.pinned (.plain (OpenSpec.upto guessMoreSamplesSuggestMoreSpec)) guessMoreSamplesSuggestMoreUptoCard

/-- THE SECOND FORM's CARD OF 'glosswrightlaw6.GuessOnlyEndsCount'. -/
def guessOnlyEndsCountUptoCard : Claim7 := { stood := { row := guessOnlyEndsCountUptoRow, standIns := [], harness := (true, "2256214bf23d10a9386233484002f9e2df2953e5aa2de24a602e4fc322e70777"), looks := false }, kinds := [], alts := [], laidByText := true, laidKinds := [.data, .pinned], laidTests := true, laidLooks := .later }
def GuessOnlyEndsCountUptoCardSaid : Prop := Claim7.holds Tryd.pinned (.plain (OpenSpec.upto guessOnlyEndsCountSpec)) guessOnlyEndsCountUptoCard

/-- THE SECOND FORM's CARD OF 'glosswrightlaw6.GuessCountsAreSamples'. -/
def guessCountsAreSamplesUptoCard : Claim7 := { stood := { row := guessCountsAreSamplesUptoRow, standIns := [], harness := (true, "2256214bf23d10a9386233484002f9e2df2953e5aa2de24a602e4fc322e70777"), looks := false }, kinds := [], alts := [], laidByText := true, laidKinds := [.data, .pinned], laidTests := true, laidLooks := .later }
def GuessCountsAreSamplesUptoCardSaid : Prop := Claim7.holds Tryd.pinned (.plain (OpenSpec.upto guessCountsAreSamplesSpec)) guessCountsAreSamplesUptoCard
end Rows
end Go.Proofs.YtgieobehohljnaaDoor
