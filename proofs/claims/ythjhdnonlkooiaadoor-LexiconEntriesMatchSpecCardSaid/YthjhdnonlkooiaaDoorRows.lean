/-
  NARROWER THAN 'FOR EVERY INPUT', by the rows' own cells (each row's printed sentence says how): ParadigmTableMatchesSpec: laid · ParadigmBasesMatchSpec: laid · ParadigmTablesHaveBases: laid · ParadigmBasesHaveTables: laid · ParadigmClassMatchesSpec: laid · ParadigmClassShrinks: laid · LexiconEntriesMatchSpec: laid · LexiconEntriesGrow: laid · ParadigmClassOfTables: laid.
  DERIVED. THE GIVEN ROWS OF THIS SEAT. 9 by the template 'for every input the law returns true; each argument reads behind the call as it read before'; 0 by the template 'total and deterministic' (their statements: YthjhdnonlkooiaaDoorTotals.lean).
  GIVEN WITH THE SEED: the statements are not yours to turn. If you find one false, say at which input.
  Laid BY PROGRAM, IN A SANDBOX (cutbox-rows.mjs): the forced cells as the released guide's own fill.sh prints them over the translation 81bbed047f43ad5d… (all of the seat's roots in one cut). By AI agents, Wed Nov 11 2026. No macro, syntax, notation, axiom, sorry.
-/
import Derived.Test.YthjhdnonlkooiaaDoorChecked
import GoSem.PinnedTables
import GoSem.Claim
import GoSem.ClaimJoined
import GoSem.ClaimMapViews
import Derived.JoinedTies
import Derived.KernelRfl
namespace Go.Proofs.YthjhdnonlkooiaaDoor
/- THE CELL 'sum', in the pinned program and in every row, IS THE sha256 OF THE DUMP (.gsa) THAT YthjhdnonlkooiaaDoorProg.lean LOADS. Nothing in Lean hashes anything: it is a label: what it is worth is what the hold of that sum in a sandbox is worth. -/
noncomputable def Tryd.pinned : Pinned := { name := "ythjhdnonlkooiaadoor", sum := "81bbed047f43ad5d26ba85b2c2a2a65d7c791bfbe5725a3c0b39cae5b7b1a2ed", checked := Tryd.checked }
namespace Rows
def none {H : Type} : Left H := { results := [], args := [] }

/- WHAT THE LISTED PACKAGE-LEVEL VARIABLES READ AS WHEN THE CALL BEGINS. Each datum BY PROGRAM (the guide's laid-datum.mjs) off the statement by which the dump's own 'gosem.cut.vars' lays the variable. In a bare row this is a premise. The card (YthjhdnonlkooiaaDoorCards.lean) ties it to the program's text. -/
def laid_unicode_utf8_acceptRanges {H : Type} : DataW H := .agg [.agg [.lit (.int .u8 128), .lit (.int .u8 191)], .agg [.lit (.int .u8 160), .lit (.int .u8 191)], .agg [.lit (.int .u8 128), .lit (.int .u8 159)], .agg [.lit (.int .u8 144), .lit (.int .u8 191)], .agg [.lit (.int .u8 128), .lit (.int .u8 143)], .agg [.lit (.int .u8 0), .lit (.int .u8 0)], .agg [.lit (.int .u8 0), .lit (.int .u8 0)], .agg [.lit (.int .u8 0), .lit (.int .u8 0)], .agg [.lit (.int .u8 0), .lit (.int .u8 0)], .agg [.lit (.int .u8 0), .lit (.int .u8 0)], .agg [.lit (.int .u8 0), .lit (.int .u8 0)], .agg [.lit (.int .u8 0), .lit (.int .u8 0)], .agg [.lit (.int .u8 0), .lit (.int .u8 0)], .agg [.lit (.int .u8 0), .lit (.int .u8 0)], .agg [.lit (.int .u8 0), .lit (.int .u8 0)], .agg [.lit (.int .u8 0), .lit (.int .u8 0)]]
/-- One of Go's own tables, pinned by name: the form's constant. -/
def laid_unicode_utf8_first : DataW Unit := Go.Pinned.utf8First

/-- 'glosswrightlaw6.ParadigmTableMatchesSpec': WHATEVER THE INPUT: true; the input reads as it did. -/
def paradigmTableMatchesSpecSpec : ChangeSpec := { name := "paradigmTableMatchesSpec", fn := fun _ => fun
  | [d1, d2] => { results := [.lit (.bool true)], args := [d1, d2] }
  | _ => none }
def paradigmTableMatchesSpecRow : OpenClaim := { program := "ythjhdnonlkooiaadoor", sum := "81bbed047f43ad5d26ba85b2c2a2a65d7c791bfbe5725a3c0b39cae5b7b1a2ed", func := "glosswright/glosswrightlaw6.ParadigmTableMatchesSpec", spec := "paradigmTableMatchesSpec", inPlace := ["internal/bytealg.IndexByteString"], unfollowed := true, recurses := true, named := ["unicode/utf8.first", "unicode/utf8.acceptRanges"], apart := false, laid := [("unicode/utf8.acceptRanges", laid_unicode_utf8_acceptRanges), ("unicode/utf8.first", laid_unicode_utf8_first)] }
def ParadigmTableMatchesSpecSaid : Prop := paradigmTableMatchesSpecRow.holds Tryd.pinned (OpenSpec.ofChange paradigmTableMatchesSpecSpec)

/-- ITS FALSE NEIGHBOUR: 'it returns false'. Refute it at one input. -/
def paradigmTableMatchesSpecWrong : ChangeSpec := { name := "paradigmTableMatchesSpec", fn := fun _ => fun
  | [d1, d2] => { results := [.lit (.bool false)], args := [d1, d2] }
  | _ => none }
def ParadigmTableMatchesSpecWrongFalsely : Prop := paradigmTableMatchesSpecRow.holds Tryd.pinned (OpenSpec.ofChange paradigmTableMatchesSpecWrong)

/-- 'glosswrightlaw6.ParadigmBasesMatchSpec': WHATEVER THE INPUT: true; the input reads as it did. -/
def paradigmBasesMatchSpecSpec : ChangeSpec := { name := "paradigmBasesMatchSpec", fn := fun _ => fun
  | [d1, d2] => { results := [.lit (.bool true)], args := [d1, d2] }
  | _ => none }
def paradigmBasesMatchSpecRow : OpenClaim := { program := "ythjhdnonlkooiaadoor", sum := "81bbed047f43ad5d26ba85b2c2a2a65d7c791bfbe5725a3c0b39cae5b7b1a2ed", func := "glosswright/glosswrightlaw6.ParadigmBasesMatchSpec", spec := "paradigmBasesMatchSpec", inPlace := ["internal/bytealg.IndexByteString"], unfollowed := true, recurses := true, named := ["unicode/utf8.first", "unicode/utf8.acceptRanges"], apart := false, laid := [("unicode/utf8.acceptRanges", laid_unicode_utf8_acceptRanges), ("unicode/utf8.first", laid_unicode_utf8_first)] }
def ParadigmBasesMatchSpecSaid : Prop := paradigmBasesMatchSpecRow.holds Tryd.pinned (OpenSpec.ofChange paradigmBasesMatchSpecSpec)

/-- ITS FALSE NEIGHBOUR: 'it returns false'. Refute it at one input. -/
def paradigmBasesMatchSpecWrong : ChangeSpec := { name := "paradigmBasesMatchSpec", fn := fun _ => fun
  | [d1, d2] => { results := [.lit (.bool false)], args := [d1, d2] }
  | _ => none }
def ParadigmBasesMatchSpecWrongFalsely : Prop := paradigmBasesMatchSpecRow.holds Tryd.pinned (OpenSpec.ofChange paradigmBasesMatchSpecWrong)

/-- 'glosswrightlaw6.ParadigmTablesHaveBases': WHATEVER THE INPUT: true; the input reads as it did. -/
def paradigmTablesHaveBasesSpec : ChangeSpec := { name := "paradigmTablesHaveBases", fn := fun _ => fun
  | [d1, d2] => { results := [.lit (.bool true)], args := [d1, d2] }
  | _ => none }
def paradigmTablesHaveBasesRow : OpenClaim := { program := "ythjhdnonlkooiaadoor", sum := "81bbed047f43ad5d26ba85b2c2a2a65d7c791bfbe5725a3c0b39cae5b7b1a2ed", func := "glosswright/glosswrightlaw6.ParadigmTablesHaveBases", spec := "paradigmTablesHaveBases", inPlace := ["internal/bytealg.IndexByteString"], unfollowed := true, recurses := true, named := ["unicode/utf8.first", "unicode/utf8.acceptRanges"], apart := false, laid := [("unicode/utf8.acceptRanges", laid_unicode_utf8_acceptRanges), ("unicode/utf8.first", laid_unicode_utf8_first)] }
def ParadigmTablesHaveBasesSaid : Prop := paradigmTablesHaveBasesRow.holds Tryd.pinned (OpenSpec.ofChange paradigmTablesHaveBasesSpec)

/-- ITS FALSE NEIGHBOUR: 'it returns false'. Refute it at one input. -/
def paradigmTablesHaveBasesWrong : ChangeSpec := { name := "paradigmTablesHaveBases", fn := fun _ => fun
  | [d1, d2] => { results := [.lit (.bool false)], args := [d1, d2] }
  | _ => none }
def ParadigmTablesHaveBasesWrongFalsely : Prop := paradigmTablesHaveBasesRow.holds Tryd.pinned (OpenSpec.ofChange paradigmTablesHaveBasesWrong)

/-- 'glosswrightlaw6.ParadigmBasesHaveTables': WHATEVER THE INPUT: true; the input reads as it did. -/
def paradigmBasesHaveTablesSpec : ChangeSpec := { name := "paradigmBasesHaveTables", fn := fun _ => fun
  | [d1, d2] => { results := [.lit (.bool true)], args := [d1, d2] }
  | _ => none }
def paradigmBasesHaveTablesRow : OpenClaim := { program := "ythjhdnonlkooiaadoor", sum := "81bbed047f43ad5d26ba85b2c2a2a65d7c791bfbe5725a3c0b39cae5b7b1a2ed", func := "glosswright/glosswrightlaw6.ParadigmBasesHaveTables", spec := "paradigmBasesHaveTables", inPlace := ["internal/bytealg.IndexByteString"], unfollowed := true, recurses := true, named := ["unicode/utf8.first", "unicode/utf8.acceptRanges"], apart := false, laid := [("unicode/utf8.acceptRanges", laid_unicode_utf8_acceptRanges), ("unicode/utf8.first", laid_unicode_utf8_first)] }
def ParadigmBasesHaveTablesSaid : Prop := paradigmBasesHaveTablesRow.holds Tryd.pinned (OpenSpec.ofChange paradigmBasesHaveTablesSpec)

/-- ITS FALSE NEIGHBOUR: 'it returns false'. Refute it at one input. -/
def paradigmBasesHaveTablesWrong : ChangeSpec := { name := "paradigmBasesHaveTables", fn := fun _ => fun
  | [d1, d2] => { results := [.lit (.bool false)], args := [d1, d2] }
  | _ => none }
def ParadigmBasesHaveTablesWrongFalsely : Prop := paradigmBasesHaveTablesRow.holds Tryd.pinned (OpenSpec.ofChange paradigmBasesHaveTablesWrong)

/-- 'glosswrightlaw6.ParadigmClassMatchesSpec': WHATEVER THE INPUT: true; the input reads as it did. -/
def paradigmClassMatchesSpecSpec : ChangeSpec := { name := "paradigmClassMatchesSpec", fn := fun _ => fun
  | [d1, d2] => { results := [.lit (.bool true)], args := [d1, d2] }
  | _ => none }
def paradigmClassMatchesSpecRow : OpenClaim := { program := "ythjhdnonlkooiaadoor", sum := "81bbed047f43ad5d26ba85b2c2a2a65d7c791bfbe5725a3c0b39cae5b7b1a2ed", func := "glosswright/glosswrightlaw6.ParadigmClassMatchesSpec", spec := "paradigmClassMatchesSpec", inPlace := ["internal/bytealg.IndexByteString"], unfollowed := true, recurses := true, named := ["unicode/utf8.first", "unicode/utf8.acceptRanges"], apart := false, laid := [("unicode/utf8.acceptRanges", laid_unicode_utf8_acceptRanges), ("unicode/utf8.first", laid_unicode_utf8_first)] }
def ParadigmClassMatchesSpecSaid : Prop := paradigmClassMatchesSpecRow.holds Tryd.pinned (OpenSpec.ofChange paradigmClassMatchesSpecSpec)

/-- ITS FALSE NEIGHBOUR: 'it returns false'. Refute it at one input. -/
def paradigmClassMatchesSpecWrong : ChangeSpec := { name := "paradigmClassMatchesSpec", fn := fun _ => fun
  | [d1, d2] => { results := [.lit (.bool false)], args := [d1, d2] }
  | _ => none }
def ParadigmClassMatchesSpecWrongFalsely : Prop := paradigmClassMatchesSpecRow.holds Tryd.pinned (OpenSpec.ofChange paradigmClassMatchesSpecWrong)

/-- 'glosswrightlaw6.ParadigmClassShrinks': WHATEVER THE INPUT: true; the input reads as it did. -/
def paradigmClassShrinksSpec : ChangeSpec := { name := "paradigmClassShrinks", fn := fun _ => fun
  | [d1, d2, d3] => { results := [.lit (.bool true)], args := [d1, d2, d3] }
  | _ => none }
def paradigmClassShrinksRow : OpenClaim := { program := "ythjhdnonlkooiaadoor", sum := "81bbed047f43ad5d26ba85b2c2a2a65d7c791bfbe5725a3c0b39cae5b7b1a2ed", func := "glosswright/glosswrightlaw6.ParadigmClassShrinks", spec := "paradigmClassShrinks", inPlace := ["internal/bytealg.IndexByteString"], unfollowed := true, recurses := true, named := ["unicode/utf8.first", "unicode/utf8.acceptRanges"], apart := false, laid := [("unicode/utf8.acceptRanges", laid_unicode_utf8_acceptRanges), ("unicode/utf8.first", laid_unicode_utf8_first)] }
def ParadigmClassShrinksSaid : Prop := paradigmClassShrinksRow.holds Tryd.pinned (OpenSpec.ofChange paradigmClassShrinksSpec)

/-- ITS FALSE NEIGHBOUR: 'it returns false'. Refute it at one input. -/
def paradigmClassShrinksWrong : ChangeSpec := { name := "paradigmClassShrinks", fn := fun _ => fun
  | [d1, d2, d3] => { results := [.lit (.bool false)], args := [d1, d2, d3] }
  | _ => none }
def ParadigmClassShrinksWrongFalsely : Prop := paradigmClassShrinksRow.holds Tryd.pinned (OpenSpec.ofChange paradigmClassShrinksWrong)

/-- 'glosswrightlaw6.LexiconEntriesMatchSpec': WHATEVER THE INPUT: true; the input reads as it did. -/
def lexiconEntriesMatchSpecSpec : ChangeSpec := { name := "lexiconEntriesMatchSpec", fn := fun _ => fun
  | [d1, d2] => { results := [.lit (.bool true)], args := [d1, d2] }
  | _ => none }
def lexiconEntriesMatchSpecRow : OpenClaim := { program := "ythjhdnonlkooiaadoor", sum := "81bbed047f43ad5d26ba85b2c2a2a65d7c791bfbe5725a3c0b39cae5b7b1a2ed", func := "glosswright/glosswrightlaw6.LexiconEntriesMatchSpec", spec := "lexiconEntriesMatchSpec", inPlace := ["internal/bytealg.IndexByteString"], unfollowed := true, recurses := true, named := ["unicode/utf8.first", "unicode/utf8.acceptRanges"], apart := false, laid := [("unicode/utf8.acceptRanges", laid_unicode_utf8_acceptRanges), ("unicode/utf8.first", laid_unicode_utf8_first)] }
def LexiconEntriesMatchSpecSaid : Prop := lexiconEntriesMatchSpecRow.holds Tryd.pinned (OpenSpec.ofChange lexiconEntriesMatchSpecSpec)

/-- ITS FALSE NEIGHBOUR: 'it returns false'. Refute it at one input. -/
def lexiconEntriesMatchSpecWrong : ChangeSpec := { name := "lexiconEntriesMatchSpec", fn := fun _ => fun
  | [d1, d2] => { results := [.lit (.bool false)], args := [d1, d2] }
  | _ => none }
def LexiconEntriesMatchSpecWrongFalsely : Prop := lexiconEntriesMatchSpecRow.holds Tryd.pinned (OpenSpec.ofChange lexiconEntriesMatchSpecWrong)

/-- 'glosswrightlaw6.LexiconEntriesGrow': WHATEVER THE INPUT: true; the input reads as it did. -/
def lexiconEntriesGrowSpec : ChangeSpec := { name := "lexiconEntriesGrow", fn := fun _ => fun
  | [d1, d2, d3] => { results := [.lit (.bool true)], args := [d1, d2, d3] }
  | _ => none }
def lexiconEntriesGrowRow : OpenClaim := { program := "ythjhdnonlkooiaadoor", sum := "81bbed047f43ad5d26ba85b2c2a2a65d7c791bfbe5725a3c0b39cae5b7b1a2ed", func := "glosswright/glosswrightlaw6.LexiconEntriesGrow", spec := "lexiconEntriesGrow", inPlace := ["internal/bytealg.IndexByteString"], unfollowed := true, recurses := true, named := ["unicode/utf8.first", "unicode/utf8.acceptRanges"], apart := false, laid := [("unicode/utf8.acceptRanges", laid_unicode_utf8_acceptRanges), ("unicode/utf8.first", laid_unicode_utf8_first)] }
def LexiconEntriesGrowSaid : Prop := lexiconEntriesGrowRow.holds Tryd.pinned (OpenSpec.ofChange lexiconEntriesGrowSpec)

/-- ITS FALSE NEIGHBOUR: 'it returns false'. Refute it at one input. -/
def lexiconEntriesGrowWrong : ChangeSpec := { name := "lexiconEntriesGrow", fn := fun _ => fun
  | [d1, d2, d3] => { results := [.lit (.bool false)], args := [d1, d2, d3] }
  | _ => none }
def LexiconEntriesGrowWrongFalsely : Prop := lexiconEntriesGrowRow.holds Tryd.pinned (OpenSpec.ofChange lexiconEntriesGrowWrong)

/-- 'glosswrightlaw6.ParadigmClassOfTables': WHATEVER THE INPUT: true; the input reads as it did. -/
def paradigmClassOfTablesSpec : ChangeSpec := { name := "paradigmClassOfTables", fn := fun _ => fun
  | [d1, d2, d3] => { results := [.lit (.bool true)], args := [d1, d2, d3] }
  | _ => none }
def paradigmClassOfTablesRow : OpenClaim := { program := "ythjhdnonlkooiaadoor", sum := "81bbed047f43ad5d26ba85b2c2a2a65d7c791bfbe5725a3c0b39cae5b7b1a2ed", func := "glosswright/glosswrightlaw6.ParadigmClassOfTables", spec := "paradigmClassOfTables", inPlace := ["internal/bytealg.IndexByteString"], unfollowed := true, recurses := true, named := ["unicode/utf8.first", "unicode/utf8.acceptRanges"], apart := false, laid := [("unicode/utf8.acceptRanges", laid_unicode_utf8_acceptRanges), ("unicode/utf8.first", laid_unicode_utf8_first)] }
def ParadigmClassOfTablesSaid : Prop := paradigmClassOfTablesRow.holds Tryd.pinned (OpenSpec.ofChange paradigmClassOfTablesSpec)

/-- ITS FALSE NEIGHBOUR: 'it returns false'. Refute it at one input. -/
def paradigmClassOfTablesWrong : ChangeSpec := { name := "paradigmClassOfTables", fn := fun _ => fun
  | [d1, d2, d3] => { results := [.lit (.bool false)], args := [d1, d2, d3] }
  | _ => none }
def ParadigmClassOfTablesWrongFalsely : Prop := paradigmClassOfTablesRow.holds Tryd.pinned (OpenSpec.ofChange paradigmClassOfTablesWrong)

/- THE SECOND FORM. 'bulk': how many values and letters a reading holds, each counted each time it is reached (what is shared counts as often as it is met; a slice's spare places count too). A statement '..UptoSaid' is the law's where the arguments, and the package variables that the reading takes, are together of bulk at most 1048576: NARROWER than '..Said'. Prove '..Said' where nothing that the law and all that it calls make is longer than what came in: it says more and counts as full. Else prove '..UptoSaid'. A law counts once. -/
mutual
def uptoBulk {H : Type} : DataW H → Nat
  | .lit (.string bytes) => bytes.length + 1
  | .lit _ => 1
  | .nil => 1
  | .ptr d => uptoBulk d + 1
  | .slice elems spare => uptoBulkAll elems + uptoBulkAll spare + 1
  | .agg parts => uptoBulkAll parts + 1
  | .iface _ d => uptoBulk d + 1
  | .map entries => uptoBulkEntries entries + 1
  | .held _ => 1
def uptoBulkAll {H : Type} : List (DataW H) → Nat
  | [] => 0
  | d :: r => uptoBulk d + uptoBulkAll r
def uptoBulkEntries {H : Type} : List (Lit × DataW H) → Nat
  | [] => 0
  | x :: r => uptoBulkEntry x + uptoBulkEntries r
def uptoBulkEntry {H : Type} : Lit × DataW H → Nat
  | (.string bytes, d) => bytes.length + uptoBulk d + 1
  | (_, d) => uptoBulk d + 1
 end
def uptoSmall : (H : Type) → List (DataW H) → Bool := fun _ ds => decide (uptoBulkAll ds ≤ 1048576)
def OpenSpec.upto (s : _root_.Go.ChangeSpec) : _root_.Go.OpenSpec := { _root_.Go.OpenSpec.ofChange s with cond := some uptoSmall }

/-- 'glosswrightlaw6.ParadigmTableMatchesSpec', WHERE WHAT IT READS IS OF BULK AT MOST 1048576: true; the input reads as it did. -/
def paradigmTableMatchesSpecUptoRow : OpenClaim := { program := "ythjhdnonlkooiaadoor", sum := "81bbed047f43ad5d26ba85b2c2a2a65d7c791bfbe5725a3c0b39cae5b7b1a2ed", func := "glosswright/glosswrightlaw6.ParadigmTableMatchesSpec", spec := "paradigmTableMatchesSpec", inPlace := ["internal/bytealg.IndexByteString"], unfollowed := true, recurses := true, named := ["unicode/utf8.first", "unicode/utf8.acceptRanges"], apart := false, laid := [("unicode/utf8.acceptRanges", laid_unicode_utf8_acceptRanges), ("unicode/utf8.first", laid_unicode_utf8_first)], narrowed := true }
def ParadigmTableMatchesSpecUptoSaid : Prop := paradigmTableMatchesSpecUptoRow.holds Tryd.pinned (OpenSpec.upto paradigmTableMatchesSpecSpec)

/-- 'glosswrightlaw6.ParadigmBasesMatchSpec', WHERE WHAT IT READS IS OF BULK AT MOST 1048576: true; the input reads as it did. -/
def paradigmBasesMatchSpecUptoRow : OpenClaim := { program := "ythjhdnonlkooiaadoor", sum := "81bbed047f43ad5d26ba85b2c2a2a65d7c791bfbe5725a3c0b39cae5b7b1a2ed", func := "glosswright/glosswrightlaw6.ParadigmBasesMatchSpec", spec := "paradigmBasesMatchSpec", inPlace := ["internal/bytealg.IndexByteString"], unfollowed := true, recurses := true, named := ["unicode/utf8.first", "unicode/utf8.acceptRanges"], apart := false, laid := [("unicode/utf8.acceptRanges", laid_unicode_utf8_acceptRanges), ("unicode/utf8.first", laid_unicode_utf8_first)], narrowed := true }
def ParadigmBasesMatchSpecUptoSaid : Prop := paradigmBasesMatchSpecUptoRow.holds Tryd.pinned (OpenSpec.upto paradigmBasesMatchSpecSpec)

/-- 'glosswrightlaw6.ParadigmTablesHaveBases', WHERE WHAT IT READS IS OF BULK AT MOST 1048576: true; the input reads as it did. -/
def paradigmTablesHaveBasesUptoRow : OpenClaim := { program := "ythjhdnonlkooiaadoor", sum := "81bbed047f43ad5d26ba85b2c2a2a65d7c791bfbe5725a3c0b39cae5b7b1a2ed", func := "glosswright/glosswrightlaw6.ParadigmTablesHaveBases", spec := "paradigmTablesHaveBases", inPlace := ["internal/bytealg.IndexByteString"], unfollowed := true, recurses := true, named := ["unicode/utf8.first", "unicode/utf8.acceptRanges"], apart := false, laid := [("unicode/utf8.acceptRanges", laid_unicode_utf8_acceptRanges), ("unicode/utf8.first", laid_unicode_utf8_first)], narrowed := true }
def ParadigmTablesHaveBasesUptoSaid : Prop := paradigmTablesHaveBasesUptoRow.holds Tryd.pinned (OpenSpec.upto paradigmTablesHaveBasesSpec)

/-- 'glosswrightlaw6.ParadigmBasesHaveTables', WHERE WHAT IT READS IS OF BULK AT MOST 1048576: true; the input reads as it did. -/
def paradigmBasesHaveTablesUptoRow : OpenClaim := { program := "ythjhdnonlkooiaadoor", sum := "81bbed047f43ad5d26ba85b2c2a2a65d7c791bfbe5725a3c0b39cae5b7b1a2ed", func := "glosswright/glosswrightlaw6.ParadigmBasesHaveTables", spec := "paradigmBasesHaveTables", inPlace := ["internal/bytealg.IndexByteString"], unfollowed := true, recurses := true, named := ["unicode/utf8.first", "unicode/utf8.acceptRanges"], apart := false, laid := [("unicode/utf8.acceptRanges", laid_unicode_utf8_acceptRanges), ("unicode/utf8.first", laid_unicode_utf8_first)], narrowed := true }
def ParadigmBasesHaveTablesUptoSaid : Prop := paradigmBasesHaveTablesUptoRow.holds Tryd.pinned (OpenSpec.upto paradigmBasesHaveTablesSpec)

/-- 'glosswrightlaw6.ParadigmClassMatchesSpec', WHERE WHAT IT READS IS OF BULK AT MOST 1048576: true; the input reads as it did. -/
def paradigmClassMatchesSpecUptoRow : OpenClaim := { program := "ythjhdnonlkooiaadoor", sum := "81bbed047f43ad5d26ba85b2c2a2a65d7c791bfbe5725a3c0b39cae5b7b1a2ed", func := "glosswright/glosswrightlaw6.ParadigmClassMatchesSpec", spec := "paradigmClassMatchesSpec", inPlace := ["internal/bytealg.IndexByteString"], unfollowed := true, recurses := true, named := ["unicode/utf8.first", "unicode/utf8.acceptRanges"], apart := false, laid := [("unicode/utf8.acceptRanges", laid_unicode_utf8_acceptRanges), ("unicode/utf8.first", laid_unicode_utf8_first)], narrowed := true }
def ParadigmClassMatchesSpecUptoSaid : Prop := paradigmClassMatchesSpecUptoRow.holds Tryd.pinned (OpenSpec.upto paradigmClassMatchesSpecSpec)

/-- 'glosswrightlaw6.ParadigmClassShrinks', WHERE WHAT IT READS IS OF BULK AT MOST 1048576: true; the input reads as it did. -/
def paradigmClassShrinksUptoRow : OpenClaim := { program := "ythjhdnonlkooiaadoor", sum := "81bbed047f43ad5d26ba85b2c2a2a65d7c791bfbe5725a3c0b39cae5b7b1a2ed", func := "glosswright/glosswrightlaw6.ParadigmClassShrinks", spec := "paradigmClassShrinks", inPlace := ["internal/bytealg.IndexByteString"], unfollowed := true, recurses := true, named := ["unicode/utf8.first", "unicode/utf8.acceptRanges"], apart := false, laid := [("unicode/utf8.acceptRanges", laid_unicode_utf8_acceptRanges), ("unicode/utf8.first", laid_unicode_utf8_first)], narrowed := true }
def ParadigmClassShrinksUptoSaid : Prop := paradigmClassShrinksUptoRow.holds Tryd.pinned (OpenSpec.upto paradigmClassShrinksSpec)

/-- 'glosswrightlaw6.LexiconEntriesMatchSpec', WHERE WHAT IT READS IS OF BULK AT MOST 1048576: true; the input reads as it did. -/
def lexiconEntriesMatchSpecUptoRow : OpenClaim := { program := "ythjhdnonlkooiaadoor", sum := "81bbed047f43ad5d26ba85b2c2a2a65d7c791bfbe5725a3c0b39cae5b7b1a2ed", func := "glosswright/glosswrightlaw6.LexiconEntriesMatchSpec", spec := "lexiconEntriesMatchSpec", inPlace := ["internal/bytealg.IndexByteString"], unfollowed := true, recurses := true, named := ["unicode/utf8.first", "unicode/utf8.acceptRanges"], apart := false, laid := [("unicode/utf8.acceptRanges", laid_unicode_utf8_acceptRanges), ("unicode/utf8.first", laid_unicode_utf8_first)], narrowed := true }
def LexiconEntriesMatchSpecUptoSaid : Prop := lexiconEntriesMatchSpecUptoRow.holds Tryd.pinned (OpenSpec.upto lexiconEntriesMatchSpecSpec)

/-- 'glosswrightlaw6.LexiconEntriesGrow', WHERE WHAT IT READS IS OF BULK AT MOST 1048576: true; the input reads as it did. -/
def lexiconEntriesGrowUptoRow : OpenClaim := { program := "ythjhdnonlkooiaadoor", sum := "81bbed047f43ad5d26ba85b2c2a2a65d7c791bfbe5725a3c0b39cae5b7b1a2ed", func := "glosswright/glosswrightlaw6.LexiconEntriesGrow", spec := "lexiconEntriesGrow", inPlace := ["internal/bytealg.IndexByteString"], unfollowed := true, recurses := true, named := ["unicode/utf8.first", "unicode/utf8.acceptRanges"], apart := false, laid := [("unicode/utf8.acceptRanges", laid_unicode_utf8_acceptRanges), ("unicode/utf8.first", laid_unicode_utf8_first)], narrowed := true }
def LexiconEntriesGrowUptoSaid : Prop := lexiconEntriesGrowUptoRow.holds Tryd.pinned (OpenSpec.upto lexiconEntriesGrowSpec)

/-- 'glosswrightlaw6.ParadigmClassOfTables', WHERE WHAT IT READS IS OF BULK AT MOST 1048576: true; the input reads as it did. -/
def paradigmClassOfTablesUptoRow : OpenClaim := { program := "ythjhdnonlkooiaadoor", sum := "81bbed047f43ad5d26ba85b2c2a2a65d7c791bfbe5725a3c0b39cae5b7b1a2ed", func := "glosswright/glosswrightlaw6.ParadigmClassOfTables", spec := "paradigmClassOfTables", inPlace := ["internal/bytealg.IndexByteString"], unfollowed := true, recurses := true, named := ["unicode/utf8.first", "unicode/utf8.acceptRanges"], apart := false, laid := [("unicode/utf8.acceptRanges", laid_unicode_utf8_acceptRanges), ("unicode/utf8.first", laid_unicode_utf8_first)], narrowed := true }
def ParadigmClassOfTablesUptoSaid : Prop := paradigmClassOfTablesUptoRow.holds Tryd.pinned (OpenSpec.upto paradigmClassOfTablesSpec)

end Rows
end Go.Proofs.YthjhdnonlkooiaaDoor
