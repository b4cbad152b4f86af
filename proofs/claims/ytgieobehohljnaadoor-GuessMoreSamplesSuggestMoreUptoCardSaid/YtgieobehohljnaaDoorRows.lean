/-
  NARROWER THAN 'FOR EVERY INPUT', by the rows' own cells (each row's printed sentence says how): GuessRankMatchesSpec: laid · GuessKnownWordsComeFirst: laid · GuessOrderOfSamplesIsFree: laid · GuessMoreSamplesSuggestMore: laid · GuessOnlyEndsCount: laid · GuessCountsAreSamples: laid.
  DERIVED. THE GIVEN ROWS OF THIS SEAT. 6 by the template 'for every input the law returns true; each argument reads behind the call as it read before'; 0 by the template 'total and deterministic' (their statements: YtgieobehohljnaaDoorTotals.lean).
  GIVEN WITH THE SEED: the statements are not yours to turn. If you find one false, say at which input.
  Laid BY PROGRAM, IN A SANDBOX (cutbox-rows.mjs): the forced cells as the released guide's own fill.sh prints them over the translation ab20ea75a7058ac0… (all of the seat's roots in one cut). By AI agents, Wed Nov 11 2026. No macro, syntax, notation, axiom, sorry.
-/
import Derived.Test.YtgieobehohljnaaDoorChecked
import GoSem.PinnedTables
import GoSem.Claim
import GoSem.ClaimJoined
import GoSem.ClaimMapViews
import Derived.JoinedTies
import Derived.KernelRfl
namespace Go.Proofs.YtgieobehohljnaaDoor
/- THE CELL 'sum', in the pinned program and in every row, IS THE sha256 OF THE DUMP (.gsa) THAT YtgieobehohljnaaDoorProg.lean LOADS. Nothing in Lean hashes anything: it is a label: what it is worth is what the hold of that sum in a sandbox is worth. -/
noncomputable def Tryd.pinned : Pinned := { name := "ytgieobehohljnaadoor", sum := "ab20ea75a7058ac00cb34596b366438eacace7ebab49fd11d99fc55be3015212", checked := Tryd.checked }
namespace Rows
def none {H : Type} : Left H := { results := [], args := [] }

/- WHAT THE LISTED PACKAGE-LEVEL VARIABLES READ AS WHEN THE CALL BEGINS. Each datum BY PROGRAM (the guide's laid-datum.mjs) off the statement by which the dump's own 'gosem.cut.vars' lays the variable. In a bare row this is a premise. The card (YtgieobehohljnaaDoorCards.lean) ties it to the program's text. -/
def laid_unicode_utf8_acceptRanges {H : Type} : DataW H := .agg [.agg [.lit (.int .u8 128), .lit (.int .u8 191)], .agg [.lit (.int .u8 160), .lit (.int .u8 191)], .agg [.lit (.int .u8 128), .lit (.int .u8 159)], .agg [.lit (.int .u8 144), .lit (.int .u8 191)], .agg [.lit (.int .u8 128), .lit (.int .u8 143)], .agg [.lit (.int .u8 0), .lit (.int .u8 0)], .agg [.lit (.int .u8 0), .lit (.int .u8 0)], .agg [.lit (.int .u8 0), .lit (.int .u8 0)], .agg [.lit (.int .u8 0), .lit (.int .u8 0)], .agg [.lit (.int .u8 0), .lit (.int .u8 0)], .agg [.lit (.int .u8 0), .lit (.int .u8 0)], .agg [.lit (.int .u8 0), .lit (.int .u8 0)], .agg [.lit (.int .u8 0), .lit (.int .u8 0)], .agg [.lit (.int .u8 0), .lit (.int .u8 0)], .agg [.lit (.int .u8 0), .lit (.int .u8 0)], .agg [.lit (.int .u8 0), .lit (.int .u8 0)]]
/-- One of Go's own tables, pinned by name: the form's constant. -/
def laid_unicode_utf8_first : DataW Unit := Go.Pinned.utf8First

/-- 'glosswrightlaw6.GuessRankMatchesSpec': WHATEVER THE INPUT: true; the input reads as it did. -/
def guessRankMatchesSpecSpec : ChangeSpec := { name := "guessRankMatchesSpec", fn := fun _ => fun
  | [d1, d2] => { results := [.lit (.bool true)], args := [d1, d2] }
  | _ => none }
def guessRankMatchesSpecRow : OpenClaim := { program := "ytgieobehohljnaadoor", sum := "ab20ea75a7058ac00cb34596b366438eacace7ebab49fd11d99fc55be3015212", func := "glosswright/glosswrightlaw6.GuessRankMatchesSpec", spec := "guessRankMatchesSpec", inPlace := ["internal/bytealg.IndexByteString"], unfollowed := true, recurses := true, named := ["unicode/utf8.first", "unicode/utf8.acceptRanges"], apart := false, laid := [("unicode/utf8.acceptRanges", laid_unicode_utf8_acceptRanges), ("unicode/utf8.first", laid_unicode_utf8_first)] }
def GuessRankMatchesSpecSaid : Prop := guessRankMatchesSpecRow.holds Tryd.pinned (OpenSpec.ofChange guessRankMatchesSpecSpec)

/-- ITS FALSE NEIGHBOUR: 'it returns false'. Refute it at one input. -/
def guessRankMatchesSpecWrong : ChangeSpec := { name := "guessRankMatchesSpec", fn := fun _ => fun
  | [d1, d2] => { results := [.lit (.bool false)], args := [d1, d2] }
  | _ => none }
def GuessRankMatchesSpecWrongFalsely : Prop := guessRankMatchesSpecRow.holds Tryd.pinned (OpenSpec.ofChange guessRankMatchesSpecWrong)

/-- 'glosswrightlaw6.GuessKnownWordsComeFirst': WHATEVER THE INPUT: true; the input reads as it did. -/
def guessKnownWordsComeFirstSpec : ChangeSpec := { name := "guessKnownWordsComeFirst", fn := fun _ => fun
  | [d1, d2] => { results := [.lit (.bool true)], args := [d1, d2] }
  | _ => none }
def guessKnownWordsComeFirstRow : OpenClaim := { program := "ytgieobehohljnaadoor", sum := "ab20ea75a7058ac00cb34596b366438eacace7ebab49fd11d99fc55be3015212", func := "glosswright/glosswrightlaw6.GuessKnownWordsComeFirst", spec := "guessKnownWordsComeFirst", inPlace := ["internal/bytealg.IndexByteString"], unfollowed := true, recurses := true, named := ["unicode/utf8.first", "unicode/utf8.acceptRanges"], apart := false, laid := [("unicode/utf8.acceptRanges", laid_unicode_utf8_acceptRanges), ("unicode/utf8.first", laid_unicode_utf8_first)] }
def GuessKnownWordsComeFirstSaid : Prop := guessKnownWordsComeFirstRow.holds Tryd.pinned (OpenSpec.ofChange guessKnownWordsComeFirstSpec)

/-- ITS FALSE NEIGHBOUR: 'it returns false'. Refute it at one input. -/
def guessKnownWordsComeFirstWrong : ChangeSpec := { name := "guessKnownWordsComeFirst", fn := fun _ => fun
  | [d1, d2] => { results := [.lit (.bool false)], args := [d1, d2] }
  | _ => none }
def GuessKnownWordsComeFirstWrongFalsely : Prop := guessKnownWordsComeFirstRow.holds Tryd.pinned (OpenSpec.ofChange guessKnownWordsComeFirstWrong)

/-- 'glosswrightlaw6.GuessOrderOfSamplesIsFree': WHATEVER THE INPUT: true; the input reads as it did. -/
def guessOrderOfSamplesIsFreeSpec : ChangeSpec := { name := "guessOrderOfSamplesIsFree", fn := fun _ => fun
  | [d1, d2, d3] => { results := [.lit (.bool true)], args := [d1, d2, d3] }
  | _ => none }
def guessOrderOfSamplesIsFreeRow : OpenClaim := { program := "ytgieobehohljnaadoor", sum := "ab20ea75a7058ac00cb34596b366438eacace7ebab49fd11d99fc55be3015212", func := "glosswright/glosswrightlaw6.GuessOrderOfSamplesIsFree", spec := "guessOrderOfSamplesIsFree", inPlace := ["internal/bytealg.IndexByteString"], unfollowed := true, recurses := true, named := ["unicode/utf8.first", "unicode/utf8.acceptRanges"], apart := false, laid := [("unicode/utf8.acceptRanges", laid_unicode_utf8_acceptRanges), ("unicode/utf8.first", laid_unicode_utf8_first)] }
def GuessOrderOfSamplesIsFreeSaid : Prop := guessOrderOfSamplesIsFreeRow.holds Tryd.pinned (OpenSpec.ofChange guessOrderOfSamplesIsFreeSpec)

/-- ITS FALSE NEIGHBOUR: 'it returns false'. Refute it at one input. -/
def guessOrderOfSamplesIsFreeWrong : ChangeSpec := { name := "guessOrderOfSamplesIsFree", fn := fun _ => fun
  | [d1, d2, d3] => { results := [.lit (.bool false)], args := [d1, d2, d3] }
  | _ => none }
def GuessOrderOfSamplesIsFreeWrongFalsely : Prop := guessOrderOfSamplesIsFreeRow.holds Tryd.pinned (OpenSpec.ofChange guessOrderOfSamplesIsFreeWrong)

/-- 'glosswrightlaw6.GuessMoreSamplesSuggestMore': WHATEVER THE INPUT: true; the input reads as it did. -/
def guessMoreSamplesSuggestMoreSpec : ChangeSpec := { name := "guessMoreSamplesSuggestMore", fn := fun _ => fun
  | [d1, d2, d3] => { results := [.lit (.bool true)], args := [d1, d2, d3] }
  | _ => none }
def guessMoreSamplesSuggestMoreRow : OpenClaim := { program := "ytgieobehohljnaadoor", sum := "ab20ea75a7058ac00cb34596b366438eacace7ebab49fd11d99fc55be3015212", func := "glosswright/glosswrightlaw6.GuessMoreSamplesSuggestMore", spec := "guessMoreSamplesSuggestMore", inPlace := ["internal/bytealg.IndexByteString"], unfollowed := true, recurses := true, named := ["unicode/utf8.first", "unicode/utf8.acceptRanges"], apart := false, laid := [("unicode/utf8.acceptRanges", laid_unicode_utf8_acceptRanges), ("unicode/utf8.first", laid_unicode_utf8_first)] }
def GuessMoreSamplesSuggestMoreSaid : Prop := guessMoreSamplesSuggestMoreRow.holds Tryd.pinned (OpenSpec.ofChange guessMoreSamplesSuggestMoreSpec)

/-- ITS FALSE NEIGHBOUR: 'it returns false'. Refute it at one input. -/
def guessMoreSamplesSuggestMoreWrong : ChangeSpec := { name := "guessMoreSamplesSuggestMore", fn := fun _ => fun
  | [d1, d2, d3] => { results := [.lit (.bool false)], args := [d1, d2, d3] }
  | _ => none }
def GuessMoreSamplesSuggestMoreWrongFalsely : Prop := guessMoreSamplesSuggestMoreRow.holds Tryd.pinned (OpenSpec.ofChange guessMoreSamplesSuggestMoreWrong)

/-- 'glosswrightlaw6.GuessOnlyEndsCount': WHATEVER THE INPUT: true; the input reads as it did. -/
def guessOnlyEndsCountSpec : ChangeSpec := { name := "guessOnlyEndsCount", fn := fun _ => fun
  | [d1, d2, d3] => { results := [.lit (.bool true)], args := [d1, d2, d3] }
  | _ => none }
def guessOnlyEndsCountRow : OpenClaim := { program := "ytgieobehohljnaadoor", sum := "ab20ea75a7058ac00cb34596b366438eacace7ebab49fd11d99fc55be3015212", func := "glosswright/glosswrightlaw6.GuessOnlyEndsCount", spec := "guessOnlyEndsCount", inPlace := ["internal/bytealg.IndexByteString"], unfollowed := true, recurses := true, named := ["unicode/utf8.first", "unicode/utf8.acceptRanges"], apart := false, laid := [("unicode/utf8.acceptRanges", laid_unicode_utf8_acceptRanges), ("unicode/utf8.first", laid_unicode_utf8_first)] }
def GuessOnlyEndsCountSaid : Prop := guessOnlyEndsCountRow.holds Tryd.pinned (OpenSpec.ofChange guessOnlyEndsCountSpec)

/-- ITS FALSE NEIGHBOUR: 'it returns false'. Refute it at one input. -/
def guessOnlyEndsCountWrong : ChangeSpec := { name := "guessOnlyEndsCount", fn := fun _ => fun
  | [d1, d2, d3] => { results := [.lit (.bool false)], args := [d1, d2, d3] }
  | _ => none }
def GuessOnlyEndsCountWrongFalsely : Prop := guessOnlyEndsCountRow.holds Tryd.pinned (OpenSpec.ofChange guessOnlyEndsCountWrong)

/-- 'glosswrightlaw6.GuessCountsAreSamples': WHATEVER THE INPUT: true; the input reads as it did. -/
def guessCountsAreSamplesSpec : ChangeSpec := { name := "guessCountsAreSamples", fn := fun _ => fun
  | [d1, d2] => { results := [.lit (.bool true)], args := [d1, d2] }
  | _ => none }
def guessCountsAreSamplesRow : OpenClaim := { program := "ytgieobehohljnaadoor", sum := "ab20ea75a7058ac00cb34596b366438eacace7ebab49fd11d99fc55be3015212", func := "glosswright/glosswrightlaw6.GuessCountsAreSamples", spec := "guessCountsAreSamples", inPlace := ["internal/bytealg.IndexByteString"], unfollowed := true, recurses := true, named := ["unicode/utf8.first", "unicode/utf8.acceptRanges"], apart := false, laid := [("unicode/utf8.acceptRanges", laid_unicode_utf8_acceptRanges), ("unicode/utf8.first", laid_unicode_utf8_first)] }
def GuessCountsAreSamplesSaid : Prop := guessCountsAreSamplesRow.holds Tryd.pinned (OpenSpec.ofChange guessCountsAreSamplesSpec)

/-- ITS FALSE NEIGHBOUR: 'it returns false'. Refute it at one input. -/
def guessCountsAreSamplesWrong : ChangeSpec := { name := "guessCountsAreSamples", fn := fun _ => fun
  | [d1, d2] => { results := [.lit (.bool false)], args := [d1, d2] }
  | _ => none }
def GuessCountsAreSamplesWrongFalsely : Prop := guessCountsAreSamplesRow.holds Tryd.pinned (OpenSpec.ofChange guessCountsAreSamplesWrong)

/- THE SECOND FORM. 'bulk': how many values and letters a reading holds, each counted each time it is reached (what is shared counts as often as it is met; a slice's spare places count too). A statement '..UptoSaid' is the law's where the arguments, and the package variables that the reading takes, are together of bulk at most 1048576: NARROWER than '..Said'. Prove '..Said' where nothing that the law and all that it calls make is longer than what came in: it says more and counts as full. Else prove '..UptoSaid'. A law counts once. -/
mutual
def uptoBulk {H : Type} : DataW H → Nat
  | .lit (.string bytes) => bytes.length + 1
  | .lit _ => 1
  | .nil => 1
  | .ptr d => uptoBulk d + 1
  | .slice elems spare => uptoBulkAll elems + uptoBulkAll spare + 1
  | .agg parts => uptoBulkAll parts + 1
  | .iface _ d => uptoBulk d + 1
  | .map entries => uptoBulkEntries entries + 1
  | .held _ => 1
def uptoBulkAll {H : Type} : List (DataW H) → Nat
  | [] => 0
  | d :: r => uptoBulk d + uptoBulkAll r
def uptoBulkEntries {H : Type} : List (Lit × DataW H) → Nat
  | [] => 0
  | x :: r => uptoBulkEntry x + uptoBulkEntries r
def uptoBulkEntry {H : Type} : Lit × DataW H → Nat
  | (.string bytes, d) => bytes.length + uptoBulk d + 1
  | (_, d) => uptoBulk d + 1
 end
def uptoSmall : (H : Type) → List (DataW H) → Bool := fun _ ds => decide (uptoBulkAll ds ≤ 1048576)
def OpenSpec.upto (s : _root_.Go.ChangeSpec) : _root_.Go.OpenSpec := { _root_.Go.OpenSpec.ofChange s with cond := some uptoSmall }

/-- 'glosswrightlaw6.GuessRankMatchesSpec', WHERE WHAT IT READS IS OF BULK AT MOST 1048576: true; the input reads as it did. -/
def guessRankMatchesSpecUptoRow : OpenClaim := { program := "ytgieobehohljnaadoor", sum := "ab20ea75a7058ac00cb34596b366438eacace7ebab49fd11d99fc55be3015212", func := "glosswright/glosswrightlaw6.GuessRankMatchesSpec", spec := "guessRankMatchesSpec", inPlace := ["internal/bytealg.IndexByteString"], unfollowed := true, recurses := true, named := ["unicode/utf8.first", "unicode/utf8.acceptRanges"], apart := false, laid := [("unicode/utf8.acceptRanges", laid_unicode_utf8_acceptRanges), ("unicode/utf8.first", laid_unicode_utf8_first)], narrowed := true }
def GuessRankMatchesSpecUptoSaid : Prop := guessRankMatchesSpecUptoRow.holds Tryd.pinned (OpenSpec.upto guessRankMatchesSpecSpec)

/-- 'glosswrightlaw6.GuessKnownWordsComeFirst', WHERE WHAT IT READS IS OF BULK AT MOST 1048576: true; the input reads as it did. -/
def guessKnownWordsComeFirstUptoRow : OpenClaim := { program := "ytgieobehohljnaadoor", sum := "ab20ea75a7058ac00cb34596b366438eacace7ebab49fd11d99fc55be3015212", func := "glosswright/glosswrightlaw6.GuessKnownWordsComeFirst", spec := "guessKnownWordsComeFirst", inPlace := ["internal/bytealg.IndexByteString"], unfollowed := true, recurses := true, named := ["unicode/utf8.first", "unicode/utf8.acceptRanges"], apart := false, laid := [("unicode/utf8.acceptRanges", laid_unicode_utf8_acceptRanges), ("unicode/utf8.first", laid_unicode_utf8_first)], narrowed := true }
def GuessKnownWordsComeFirstUptoSaid : Prop := guessKnownWordsComeFirstUptoRow.holds Tryd.pinned (OpenSpec.upto guessKnownWordsComeFirstSpec)

/-- 'glosswrightlaw6.GuessOrderOfSamplesIsFree', WHERE WHAT IT READS IS OF BULK AT MOST 1048576: true; the input reads as it did. -/
def guessOrderOfSamplesIsFreeUptoRow : OpenClaim := { program := "ytgieobehohljnaadoor", sum := "ab20ea75a7058ac00cb34596b366438eacace7ebab49fd11d99fc55be3015212", func := "glosswright/glosswrightlaw6.GuessOrderOfSamplesIsFree", spec := "guessOrderOfSamplesIsFree", inPlace := ["internal/bytealg.IndexByteString"], unfollowed := true, recurses := true, named := ["unicode/utf8.first", "unicode/utf8.acceptRanges"], apart := false, laid := [("unicode/utf8.acceptRanges", laid_unicode_utf8_acceptRanges), ("unicode/utf8.first", laid_unicode_utf8_first)], narrowed := true }
def GuessOrderOfSamplesIsFreeUptoSaid : Prop := guessOrderOfSamplesIsFreeUptoRow.holds Tryd.pinned (OpenSpec.upto guessOrderOfSamplesIsFreeSpec)

/-- 'glosswrightlaw6.GuessMoreSamplesSuggestMore', WHERE WHAT IT READS IS OF BULK AT MOST 1048576: true; the input reads as it did. -/
def guessMoreSamplesSuggestMoreUptoRow : OpenClaim := { program := "ytgieobehohljnaadoor", sum := "ab20ea75a7058ac00cb34596b366438eacace7ebab49fd11d99fc55be3015212", func := "glosswright/glosswrightlaw6.GuessMoreSamplesSuggestMore", spec := "guessMoreSamplesSuggestMore", inPlace := ["internal/bytealg.IndexByteString"], unfollowed := true, recurses := true, named := ["unicode/utf8.first", "unicode/utf8.acceptRanges"], apart := false, laid := [("unicode/utf8.acceptRanges", laid_unicode_utf8_acceptRanges), ("unicode/utf8.first", laid_unicode_utf8_first)], narrowed := true }
def GuessMoreSamplesSuggestMoreUptoSaid : Prop := guessMoreSamplesSuggestMoreUptoRow.holds Tryd.pinned (OpenSpec.upto guessMoreSamplesSuggestMoreSpec)

/-- 'glosswrightlaw6.GuessOnlyEndsCount', WHERE WHAT IT READS IS OF BULK AT MOST 1048576: true; the input reads as it did. -/
def guessOnlyEndsCountUptoRow : OpenClaim := { program := "ytgieobehohljnaadoor", sum := "ab20ea75a7058ac00cb34596b366438eacace7ebab49fd11d99fc55be3015212", func := "glosswright/glosswrightlaw6.GuessOnlyEndsCount", spec := "guessOnlyEndsCount", inPlace := ["internal/bytealg.IndexByteString"], unfollowed := true, recurses := true, named := ["unicode/utf8.first", "unicode/utf8.acceptRanges"], apart := false, laid := [("unicode/utf8.acceptRanges", laid_unicode_utf8_acceptRanges), ("unicode/utf8.first", laid_unicode_utf8_first)], narrowed := true }
def GuessOnlyEndsCountUptoSaid : Prop := guessOnlyEndsCountUptoRow.holds Tryd.pinned (OpenSpec.upto guessOnlyEndsCountSpec)

/-- 'glosswrightlaw6.GuessCountsAreSamples', WHERE WHAT IT READS IS OF BULK AT MOST 1048576: true; the input reads as it did. -/
def guessCountsAreSamplesUptoRow : OpenClaim := { program := "ytgieobehohljnaadoor", sum := "ab20ea75a7058ac00cb34596b366438eacace7ebab49fd11d99fc55be3015212", func := "glosswright/glosswrightlaw6.GuessCountsAreSamples", spec := "guessCountsAreSamples", inPlace := ["internal/bytealg.IndexByteString"], unfollowed := true, recurses := true, named := ["unicode/utf8.first", "unicode/utf8.acceptRanges"], apart := false, laid := [("unicode/utf8.acceptRanges", laid_unicode_utf8_acceptRanges), ("unicode/utf8.first", laid_unicode_utf8_first)], narrowed := true }
def GuessCountsAreSamplesUptoSaid : Prop := guessCountsAreSamplesUptoRow.holds Tryd.pinned (OpenSpec.upto guessCountsAreSamplesSpec)

end Rows
end Go.Proofs.YtgieobehohljnaaDoor
