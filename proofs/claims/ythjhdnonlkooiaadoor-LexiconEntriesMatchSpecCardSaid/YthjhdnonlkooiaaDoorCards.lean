/-
  DERIVED. GIVEN WITH THE SEED: THE CARDS: each row of YthjhdnonlkooiaaDoorRows.lean that lists a variable, with what it lists TIED to the program's text (the seventh form; the later family's looks); each row that meets fmt, with fmt's text TOLD by the authors' own Lean function (tested against real Go, not proved from fmt's source: count such statements apart). THE CARD IS WHAT COUNTS. Prove the row's statement (the work); the ties are given (YthjhdnonlkooiaaDoorTie.lean); close each card by the builder's one call (the guide's Derived/Test/ToyasCard.lean, 'card_holds'). Laid BY PROGRAM, IN A SANDBOX (cutbox-door.mjs). By AI agents, Wed Nov 11 2026. No macro, syntax, notation, axiom, sorry.
-/
import Derived.Test.YthjhdnonlkooiaaDoorRows
import GoSem.ClaimSeven
namespace Go.Proofs.YthjhdnonlkooiaaDoor
namespace Rows

/-- THE TIED CARD OF 'glosswrightlaw6.ParadigmTableMatchesSpec'. -/
def paradigmTableMatchesSpecCard : Claim7 := { stood := { row := paradigmTableMatchesSpecRow, standIns := [], harness := (true, "69eee462263b0ed10579fd8979a5fa8cf28070383cc99d8238cb90ee04b509df"), looks := false }, kinds := [], alts := [], laidByText := true, laidKinds := [.data, .pinned], laidTests := true, laidLooks := .later }
def ParadigmTableMatchesSpecCardSaid : Prop := Claim7.holds Tryd.pinned (.plain (OpenSpec.ofChange paradigmTableMatchesSpecSpec)) paradigmTableMatchesSpecCard

/-- THE TIED CARD OF 'glosswrightlaw6.ParadigmBasesMatchSpec'. -/
def paradigmBasesMatchSpecCard : Claim7 := { stood := { row := paradigmBasesMatchSpecRow, standIns := [], harness := (true, "69eee462263b0ed10579fd8979a5fa8cf28070383cc99d8238cb90ee04b509df"), looks := false }, kinds := [], alts := [], laidByText := true, laidKinds := [.data, .pinned], laidTests := true, laidLooks := .later }
def ParadigmBasesMatchSpecCardSaid : Prop := Claim7.holds Tryd.pinned (.plain (OpenSpec.ofChange paradigmBasesMatchSpecSpec)) paradigmBasesMatchSpecCard

/-- THE TIED CARD OF 'glosswrightlaw6.ParadigmTablesHaveBases'. -/
def paradigmTablesHaveBasesCard : Claim7 := { stood := { row := paradigmTablesHaveBasesRow, standIns := [], harness := (true, "69eee462263b0ed10579fd8979a5fa8cf28070383cc99d8238cb90ee04b509df"), looks := false }, kinds := [], alts := [], laidByText := true, laidKinds := [.data, .pinned], laidTests := true, laidLooks := .later }
def ParadigmTablesHaveBasesCardSaid : Prop := Claim7.holds Tryd.pinned (.plain (OpenSpec.ofChange paradigmTablesHaveBasesSpec)) paradigmTablesHaveBasesCard

/-- THE TIED CARD OF 'glosswrightlaw6.ParadigmBasesHaveTables'. -/
def paradigmBasesHaveTablesCard : Claim7 := { stood := { row := paradigmBasesHaveTablesRow, standIns := [], harness := (true, "69eee462263b0ed10579fd8979a5fa8cf28070383cc99d8238cb90ee04b509df"), looks := false }, kinds := [], alts := [], laidByText := true, laidKinds := [.data, .pinned], laidTests := true, laidLooks := .later }
def ParadigmBasesHaveTablesCardSaid : Prop := Claim7.holds Tryd.pinned (.plain (OpenSpec.ofChange paradigmBasesHaveTablesSpec)) paradigmBasesHaveTablesCard

/-- THE TIED CARD OF 'glosswrightlaw6.ParadigmClassMatchesSpec'. -/
def paradigmClassMatchesSpecCard : Claim7 := { stood := { row := paradigmClassMatchesSpecRow, standIns := [], harness := (true, "69eee462263b0ed10579fd8979a5fa8cf28070383cc99d8238cb90ee04b509df"), looks := false }, kinds := [], alts := [], laidByText := true, laidKinds := [.data, .pinned], laidTests := true, laidLooks := .later }
def ParadigmClassMatchesSpecCardSaid : Prop := Claim7.holds Tryd.pinned (.plain (OpenSpec.ofChange paradigmClassMatchesSpecSpec)) paradigmClassMatchesSpecCard

/-- THE TIED CARD OF 'glosswrightlaw6.ParadigmClassShrinks'. -/
def paradigmClassShrinksCard : Claim7 := { stood := { row := paradigmClassShrinksRow, standIns := [], harness := (true, "69eee462263b0ed10579fd8979a5fa8cf28070383cc99d8238cb90ee04b509df"), looks := false }, kinds := [], alts := [], laidByText := true, laidKinds := [.data, .pinned], laidTests := true, laidLooks := .later }
def ParadigmClassShrinksCardSaid : Prop := Claim7.holds Tryd.pinned (.plain (OpenSpec.ofChange paradigmClassShrinksSpec)) paradigmClassShrinksCard

/-- THE TIED CARD OF 'glosswrightlaw6.LexiconEntriesMatchSpec'. -/
def lexiconEntriesMatchSpecCard : Claim7 := { stood := { row := lexiconEntriesMatchSpecRow, standIns := [], harness := (true, "69eee462263b0ed10579fd8979a5fa8cf28070383cc99d8238cb90ee04b509df"), looks := false }, kinds := [], alts := [], laidByText := true, laidKinds := [.data, .pinned], laidTests := true, laidLooks := .later }
def LexiconEntriesMatchSpecCardSaid : Prop := Claim7.holds Tryd.pinned (.plain (OpenSpec.ofChange lexiconEntriesMatchSpecSpec)) lexiconEntriesMatchSpecCard

/-- THE TIED CARD OF 'glosswrightlaw6.LexiconEntriesGrow'. -/
def lexiconEntriesGrowCard : Claim7 := { stood := { row := lexiconEntriesGrowRow, standIns := [], harness := (true, "69eee462263b0ed10579fd8979a5fa8cf28070383cc99d8238cb90ee04b509df"), looks := false }, kinds := [], alts := [], laidByText := true, laidKinds := [.data, .pinned], laidTests := true, laidLooks := .later }
def LexiconEntriesGrowCardSaid : Prop := Claim7.holds Tryd.pinned (.plain (OpenSpec.ofChange lexiconEntriesGrowSpec)) lexiconEntriesGrowCard

/-- THE TIED CARD OF 'glosswrightlaw6.ParadigmClassOfTables'. -/
def paradigmClassOfTablesCard : Claim7 := { stood := { row := paradigmClassOfTablesRow, standIns := [], harness := (true, "69eee462263b0ed10579fd8979a5fa8cf28070383cc99d8238cb90ee04b509df"), looks := false }, kinds := [], alts := [], laidByText := true, laidKinds := [.data, .pinned], laidTests := true, laidLooks := .later }
def ParadigmClassOfTablesCardSaid : Prop := Claim7.holds Tryd.pinned (.plain (OpenSpec.ofChange paradigmClassOfTablesSpec)) paradigmClassOfTablesCard

/-- THE SECOND FORM's CARD OF 'glosswrightlaw6.ParadigmTableMatchesSpec'. -/
def paradigmTableMatchesSpecUptoCard : Claim7 := { stood := { row := paradigmTableMatchesSpecUptoRow, standIns := [], harness := (true, "69eee462263b0ed10579fd8979a5fa8cf28070383cc99d8238cb90ee04b509df"), looks := false }, kinds := [], alts := [], laidByText := true, laidKinds := [.data, .pinned], laidTests := true, laidLooks := .later }
def ParadigmTableMatchesSpecUptoCardSaid : Prop := Claim7.holds Tryd.pinned (.plain (OpenSpec.upto paradigmTableMatchesSpecSpec)) paradigmTableMatchesSpecUptoCard

/-- THE SECOND FORM's CARD OF 'glosswrightlaw6.ParadigmBasesMatchSpec'. -/
def paradigmBasesMatchSpecUptoCard : Claim7 := { stood := { row := paradigmBasesMatchSpecUptoRow, standIns := [], harness := (true, "69eee462263b0ed10579fd8979a5fa8cf28070383cc99d8238cb90ee04b509df"), looks := false }, kinds := [], alts := [], laidByText := true, laidKinds := [.data, .pinned], laidTests := true, laidLooks := .later }
def ParadigmBasesMatchSpecUptoCardSaid : Prop := Claim7.holds Tryd.pinned (.plain (OpenSpec.upto paradigmBasesMatchSpecSpec)) paradigmBasesMatchSpecUptoCard

/-- THE SECOND FORM's CARD OF 'glosswrightlaw6.ParadigmTablesHaveBases'. -/
def paradigmTablesHaveBasesUptoCard : Claim7 := { stood := { row := paradigmTablesHaveBasesUptoRow, standIns := [], harness := (true, "69eee462263b0ed10579fd8979a5fa8cf28070383cc99d8238cb90ee04b509df"), looks := false }, kinds := [], alts := [], laidByText := true, laidKinds := [.data, .pinned], laidTests := true, laidLooks := .later }
def ParadigmTablesHaveBasesUptoCardSaid : Prop := Claim7.holds Tryd.pinned (.plain (OpenSpec.upto paradigmTablesHaveBasesSpec)) paradigmTablesHaveBasesUptoCard

/-- THE SECOND FORM's CARD OF 'glosswrightlaw6.ParadigmBasesHaveTables'. -/
def paradigmBasesHaveTablesUptoCard : Claim7 := { stood := { row := paradigmBasesHaveTablesUptoRow, standIns := [], harness := (true, "69eee462263b0ed10579fd8979a5fa8cf28070383cc99d8238cb90ee04b509df"), looks := false }, kinds := [], alts := [], laidByText := true, laidKinds := [.data, .pinned], laidTests := true, laidLooks := .later }
def ParadigmBasesHaveTablesUptoCardSaid : Prop := Claim7.holds Tryd.pinned (.plain (OpenSpec.upto paradigmBasesHaveTablesSpec)) paradigmBasesHaveTablesUptoCard

/-- THE SECOND FORM's CARD OF 'glosswrightlaw6.ParadigmClassMatchesSpec'. -/
def paradigmClassMatchesSpecUptoCard : Claim7 := { stood := { row := paradigmClassMatchesSpecUptoRow, standIns := [], harness := (true, "69eee462263b0ed10579fd8979a5fa8cf28070383cc99d8238cb90ee04b509df"), looks := false }, kinds := [], alts := [], laidByText := true, laidKinds := [.data, .pinned], laidTests := true, laidLooks := .later }
def ParadigmClassMatchesSpecUptoCardSaid : Prop := Claim7.holds Tryd.pinned (.plain (OpenSpec.upto paradigmClassMatchesSpecSpec)) paradigmClassMatchesSpecUptoCard

/-- THE SECOND FORM's CARD OF 'glosswrightlaw6.ParadigmClassShrinks'. -/
def paradigmClassShrinksUptoCard : Claim7 := { stood := { row := paradigmClassShrinksUptoRow, standIns := [], harness := (true, "69eee462263b0ed10579fd8979a5fa8cf28070383cc99d8238cb90ee04b509df"), looks := false }, kinds := [], alts := [], laidByText := true, laidKinds := [.data, .pinned], laidTests := true, laidLooks := .later }
def ParadigmClassShrinksUptoCardSaid : Prop := Claim7.holds Tryd.pinned (.plain (OpenSpec.upto paradigmClassShrinksSpec)) paradigmClassShrinksUptoCard

/-- THE SECOND FORM's CARD OF 'glosswrightlaw6.LexiconEntriesMatchSpec'. -/
def lexiconEntriesMatchSpecUptoCard : Claim7 := { stood := { row := lexiconEntriesMatchSpecUptoRow, standIns := [], harness := (true, "69eee462263b0ed10579fd8979a5fa8cf28070383cc99d8238cb90ee04b509df"), looks := false }, kinds := [], alts := [], laidByText := true, laidKinds := [.data, .pinned], laidTests := true, laidLooks := .later }
def LexiconEntriesMatchSpecUptoCardSaid : Prop := Claim7.holds Tryd.pinned (.plain (OpenSpec.upto lexiconEntriesMatchSpecSpec)) lexiconEntriesMatchSpecUptoCard

/-- THE SECOND FORM's CARD OF 'glosswrightlaw6.LexiconEntriesGrow'. -/
def lexiconEntriesGrowUptoCard : Claim7 := { stood := { row := lexiconEntriesGrowUptoRow, standIns := [], harness := (true, "69eee462263b0ed10579fd8979a5fa8cf28070383cc99d8238cb90ee04b509df"), looks := false }, kinds := [], alts := [], laidByText := true, laidKinds := [.data, .pinned], laidTests := true, laidLooks := .later }
def LexiconEntriesGrowUptoCardSaid : Prop := Claim7.holds Tryd.pinned (.plain (OpenSpec.upto lexiconEntriesGrowSpec)) lexiconEntriesGrowUptoCard

/-- THE SECOND FORM's CARD OF 'glosswrightlaw6.ParadigmClassOfTables'. -/
def paradigmClassOfTablesUptoCard : Claim7 := { stood := { row := paradigmClassOfTablesUptoRow, standIns := [], harness := (true, "69eee462263b0ed10579fd8979a5fa8cf28070383cc99d8238cb90ee04b509df"), looks := false }, kinds := [], alts := [], laidByText := true, laidKinds := [.data, .pinned], laidTests := true, laidLooks := .later }
def ParadigmClassOfTablesUptoCardSaid : Prop := Claim7.holds Tryd.pinned (.plain (OpenSpec.upto paradigmClassOfTablesSpec)) paradigmClassOfTablesUptoCard
end Rows
end Go.Proofs.YthjhdnonlkooiaaDoor
