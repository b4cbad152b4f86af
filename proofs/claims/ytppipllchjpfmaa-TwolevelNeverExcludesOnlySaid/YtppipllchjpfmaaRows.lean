/-
  No cell of these rows narrows 'for every input' (looked for: loops, veiled, ifaces, maps, wideKeys, modest, calm, conditions, laid).
  DERIVED. THE GIVEN ROWS OF THIS SEAT. 7 by the template 'for every input the law returns true; each argument reads behind the call as it read before'; 0 by the template 'total and deterministic' (their statements: YtppipllchjpfmaaTotals.lean).
  GIVEN WITH THE SEED: the statements are not yours to turn. If you find one false, say at which input.
  Laid BY PROGRAM, IN A SANDBOX (cutbox-rows.mjs): the forced cells as the released guide's own fill.sh prints them over the translation 267cf21e0bc422da… (all of the seat's roots in one cut). By AI agents, Wed Nov 11 2026. No macro, syntax, notation, axiom, sorry.
-/
import Derived.Test.YtppipllchjpfmaaChecked
import GoSem.Claim
import GoSem.ClaimJoined
import GoSem.ClaimMapViews
import Derived.JoinedTies
import Derived.KernelRfl
namespace Go.Proofs.Ytppipllchjpfmaa
/- THE CELL 'sum', in the pinned program and in every row, IS THE sha256 OF THE DUMP (.gsa) THAT YtppipllchjpfmaaProg.lean LOADS. Nothing in Lean hashes anything: it is a label: what it is worth is what the hold of that sum in a sandbox is worth. -/
noncomputable def Try.pinned : Pinned := { name := "ytppipllchjpfmaa", sum := "267cf21e0bc422da013f806a6a69235a81e5f070a60a2e34a146a36f935e2fce", checked := Try.checked }
namespace Rows
def none {H : Type} : Left H := { results := [], args := [] }

/-- 'glosswrightlaw6.RewriteApplyMatchesSpec': WHATEVER THE INPUT: true; the input reads as it did. -/
def rewriteApplyMatchesSpecSpec : ChangeSpec := { name := "rewriteApplyMatchesSpec", fn := fun _ => fun
  | [d1, d2] => { results := [.lit (.bool true)], args := [d1, d2] }
  | _ => none }
def rewriteApplyMatchesSpecRow : OpenClaim := { program := "ytppipllchjpfmaa", sum := "267cf21e0bc422da013f806a6a69235a81e5f070a60a2e34a146a36f935e2fce", func := "glosswright/glosswrightlaw6.RewriteApplyMatchesSpec", spec := "rewriteApplyMatchesSpec", apart := false }
def RewriteApplyMatchesSpecSaid : Prop := rewriteApplyMatchesSpecRow.holds Try.pinned (OpenSpec.ofChange rewriteApplyMatchesSpecSpec)

/-- ITS FALSE NEIGHBOUR: 'it returns false'. Refute it at one input. -/
def rewriteApplyMatchesSpecWrong : ChangeSpec := { name := "rewriteApplyMatchesSpec", fn := fun _ => fun
  | [d1, d2] => { results := [.lit (.bool false)], args := [d1, d2] }
  | _ => none }
def RewriteApplyMatchesSpecWrongFalsely : Prop := rewriteApplyMatchesSpecRow.holds Try.pinned (OpenSpec.ofChange rewriteApplyMatchesSpecWrong)

/-- 'glosswrightlaw6.RewriteRulesFollow': WHATEVER THE INPUT: true; the input reads as it did. -/
def rewriteRulesFollowSpec : ChangeSpec := { name := "rewriteRulesFollow", fn := fun _ => fun
  | [d1, d2, d3] => { results := [.lit (.bool true)], args := [d1, d2, d3] }
  | _ => none }
def rewriteRulesFollowRow : OpenClaim := { program := "ytppipllchjpfmaa", sum := "267cf21e0bc422da013f806a6a69235a81e5f070a60a2e34a146a36f935e2fce", func := "glosswright/glosswrightlaw6.RewriteRulesFollow", spec := "rewriteRulesFollow", apart := false }
def RewriteRulesFollowSaid : Prop := rewriteRulesFollowRow.holds Try.pinned (OpenSpec.ofChange rewriteRulesFollowSpec)

/-- ITS FALSE NEIGHBOUR: 'it returns false'. Refute it at one input. -/
def rewriteRulesFollowWrong : ChangeSpec := { name := "rewriteRulesFollow", fn := fun _ => fun
  | [d1, d2, d3] => { results := [.lit (.bool false)], args := [d1, d2, d3] }
  | _ => none }
def RewriteRulesFollowWrongFalsely : Prop := rewriteRulesFollowRow.holds Try.pinned (OpenSpec.ofChange rewriteRulesFollowWrong)

/-- 'glosswrightlaw6.RewriteLeavesOthers': WHATEVER THE INPUT: true; the input reads as it did. -/
def rewriteLeavesOthersSpec : ChangeSpec := { name := "rewriteLeavesOthers", fn := fun _ => fun
  | [d1, d2] => { results := [.lit (.bool true)], args := [d1, d2] }
  | _ => none }
def rewriteLeavesOthersRow : OpenClaim := { program := "ytppipllchjpfmaa", sum := "267cf21e0bc422da013f806a6a69235a81e5f070a60a2e34a146a36f935e2fce", func := "glosswright/glosswrightlaw6.RewriteLeavesOthers", spec := "rewriteLeavesOthers", apart := false }
def RewriteLeavesOthersSaid : Prop := rewriteLeavesOthersRow.holds Try.pinned (OpenSpec.ofChange rewriteLeavesOthersSpec)

/-- ITS FALSE NEIGHBOUR: 'it returns false'. Refute it at one input. -/
def rewriteLeavesOthersWrong : ChangeSpec := { name := "rewriteLeavesOthers", fn := fun _ => fun
  | [d1, d2] => { results := [.lit (.bool false)], args := [d1, d2] }
  | _ => none }
def RewriteLeavesOthersWrongFalsely : Prop := rewriteLeavesOthersRow.holds Try.pinned (OpenSpec.ofChange rewriteLeavesOthersWrong)

/-- 'glosswrightlaw6.TwolevelAllowedMatchesSpec': WHATEVER THE INPUT: true; the input reads as it did. -/
def twolevelAllowedMatchesSpecSpec : ChangeSpec := { name := "twolevelAllowedMatchesSpec", fn := fun _ => fun
  | [d1, d2] => { results := [.lit (.bool true)], args := [d1, d2] }
  | _ => none }
def twolevelAllowedMatchesSpecRow : OpenClaim := { program := "ytppipllchjpfmaa", sum := "267cf21e0bc422da013f806a6a69235a81e5f070a60a2e34a146a36f935e2fce", func := "glosswright/glosswrightlaw6.TwolevelAllowedMatchesSpec", spec := "twolevelAllowedMatchesSpec", apart := false }
def TwolevelAllowedMatchesSpecSaid : Prop := twolevelAllowedMatchesSpecRow.holds Try.pinned (OpenSpec.ofChange twolevelAllowedMatchesSpecSpec)

/-- ITS FALSE NEIGHBOUR: 'it returns false'. Refute it at one input. -/
def twolevelAllowedMatchesSpecWrong : ChangeSpec := { name := "twolevelAllowedMatchesSpec", fn := fun _ => fun
  | [d1, d2] => { results := [.lit (.bool false)], args := [d1, d2] }
  | _ => none }
def TwolevelAllowedMatchesSpecWrongFalsely : Prop := twolevelAllowedMatchesSpecRow.holds Try.pinned (OpenSpec.ofChange twolevelAllowedMatchesSpecWrong)

/-- 'glosswrightlaw6.TwolevelBothIsTwoRules': WHATEVER THE INPUT: true; the input reads as it did. -/
def twolevelBothIsTwoRulesSpec : ChangeSpec := { name := "twolevelBothIsTwoRules", fn := fun _ => fun
  | [d1, d2] => { results := [.lit (.bool true)], args := [d1, d2] }
  | _ => none }
def twolevelBothIsTwoRulesRow : OpenClaim := { program := "ytppipllchjpfmaa", sum := "267cf21e0bc422da013f806a6a69235a81e5f070a60a2e34a146a36f935e2fce", func := "glosswright/glosswrightlaw6.TwolevelBothIsTwoRules", spec := "twolevelBothIsTwoRules", apart := false }
def TwolevelBothIsTwoRulesSaid : Prop := twolevelBothIsTwoRulesRow.holds Try.pinned (OpenSpec.ofChange twolevelBothIsTwoRulesSpec)

/-- ITS FALSE NEIGHBOUR: 'it returns false'. Refute it at one input. -/
def twolevelBothIsTwoRulesWrong : ChangeSpec := { name := "twolevelBothIsTwoRules", fn := fun _ => fun
  | [d1, d2] => { results := [.lit (.bool false)], args := [d1, d2] }
  | _ => none }
def TwolevelBothIsTwoRulesWrongFalsely : Prop := twolevelBothIsTwoRulesRow.holds Try.pinned (OpenSpec.ofChange twolevelBothIsTwoRulesWrong)

/-- 'glosswrightlaw6.TwolevelRulesAddUp': WHATEVER THE INPUT: true; the input reads as it did. -/
def twolevelRulesAddUpSpec : ChangeSpec := { name := "twolevelRulesAddUp", fn := fun _ => fun
  | [d1, d2, d3] => { results := [.lit (.bool true)], args := [d1, d2, d3] }
  | _ => none }
def twolevelRulesAddUpRow : OpenClaim := { program := "ytppipllchjpfmaa", sum := "267cf21e0bc422da013f806a6a69235a81e5f070a60a2e34a146a36f935e2fce", func := "glosswright/glosswrightlaw6.TwolevelRulesAddUp", spec := "twolevelRulesAddUp", apart := false }
def TwolevelRulesAddUpSaid : Prop := twolevelRulesAddUpRow.holds Try.pinned (OpenSpec.ofChange twolevelRulesAddUpSpec)

/-- ITS FALSE NEIGHBOUR: 'it returns false'. Refute it at one input. -/
def twolevelRulesAddUpWrong : ChangeSpec := { name := "twolevelRulesAddUp", fn := fun _ => fun
  | [d1, d2, d3] => { results := [.lit (.bool false)], args := [d1, d2, d3] }
  | _ => none }
def TwolevelRulesAddUpWrongFalsely : Prop := twolevelRulesAddUpRow.holds Try.pinned (OpenSpec.ofChange twolevelRulesAddUpWrong)

/-- 'glosswrightlaw6.TwolevelNeverExcludesOnly': WHATEVER THE INPUT: true; the input reads as it did. -/
def twolevelNeverExcludesOnlySpec : ChangeSpec := { name := "twolevelNeverExcludesOnly", fn := fun _ => fun
  | [d1, d2] => { results := [.lit (.bool true)], args := [d1, d2] }
  | _ => none }
def twolevelNeverExcludesOnlyRow : OpenClaim := { program := "ytppipllchjpfmaa", sum := "267cf21e0bc422da013f806a6a69235a81e5f070a60a2e34a146a36f935e2fce", func := "glosswright/glosswrightlaw6.TwolevelNeverExcludesOnly", spec := "twolevelNeverExcludesOnly", apart := false }
def TwolevelNeverExcludesOnlySaid : Prop := twolevelNeverExcludesOnlyRow.holds Try.pinned (OpenSpec.ofChange twolevelNeverExcludesOnlySpec)

/-- ITS FALSE NEIGHBOUR: 'it returns false'. Refute it at one input. -/
def twolevelNeverExcludesOnlyWrong : ChangeSpec := { name := "twolevelNeverExcludesOnly", fn := fun _ => fun
  | [d1, d2] => { results := [.lit (.bool false)], args := [d1, d2] }
  | _ => none }
def TwolevelNeverExcludesOnlyWrongFalsely : Prop := twolevelNeverExcludesOnlyRow.holds Try.pinned (OpenSpec.ofChange twolevelNeverExcludesOnlyWrong)

/- THE SECOND FORM. 'bulk': how many values and letters a reading holds, each counted each time it is reached (what is shared counts as often as it is met; a slice's spare places count too). A statement '..UptoSaid' is the law's where the arguments, and the package variables that the reading takes, are together of bulk at most 1048576: NARROWER than '..Said'. Prove '..Said' where nothing that the law and all that it calls make is longer than what came in: it says more and counts as full. Else prove '..UptoSaid'. A law counts once. -/
mutual
def uptoBulk {H : Type} : DataW H → Nat
  | .lit (.string bytes) => bytes.length + 1
  | .lit _ => 1
  | .nil => 1
  | .ptr d => uptoBulk d + 1
  | .slice elems spare => uptoBulkAll elems + uptoBulkAll spare + 1
  | .agg parts => uptoBulkAll parts + 1
  | .iface _ d => uptoBulk d + 1
  | .map entries => uptoBulkEntries entries + 1
  | .held _ => 1
def uptoBulkAll {H : Type} : List (DataW H) → Nat
  | [] => 0
  | d :: r => uptoBulk d + uptoBulkAll r
def uptoBulkEntries {H : Type} : List (Lit × DataW H) → Nat
  | [] => 0
  | x :: r => uptoBulkEntry x + uptoBulkEntries r
def uptoBulkEntry {H : Type} : Lit × DataW H → Nat
  | (.string bytes, d) => bytes.length + uptoBulk d + 1
  | (_, d) => uptoBulk d + 1
 end
def uptoSmall : (H : Type) → List (DataW H) → Bool := fun _ ds => decide (uptoBulkAll ds ≤ 1048576)
def OpenSpec.upto (s : _root_.Go.ChangeSpec) : _root_.Go.OpenSpec := { _root_.Go.OpenSpec.ofChange s with cond := some uptoSmall }

/-- 'glosswrightlaw6.RewriteApplyMatchesSpec', WHERE WHAT IT READS IS OF BULK AT MOST 1048576: true; the input reads as it did. -/
def rewriteApplyMatchesSpecUptoRow : OpenClaim := { program := "ytppipllchjpfmaa", sum := "267cf21e0bc422da013f806a6a69235a81e5f070a60a2e34a146a36f935e2fce", func := "glosswright/glosswrightlaw6.RewriteApplyMatchesSpec", spec := "rewriteApplyMatchesSpec", apart := false, narrowed := true }
def RewriteApplyMatchesSpecUptoSaid : Prop := rewriteApplyMatchesSpecUptoRow.holds Try.pinned (OpenSpec.upto rewriteApplyMatchesSpecSpec)

/-- 'glosswrightlaw6.RewriteRulesFollow', WHERE WHAT IT READS IS OF BULK AT MOST 1048576: true; the input reads as it did. -/
def rewriteRulesFollowUptoRow : OpenClaim := { program := "ytppipllchjpfmaa", sum := "267cf21e0bc422da013f806a6a69235a81e5f070a60a2e34a146a36f935e2fce", func := "glosswright/glosswrightlaw6.RewriteRulesFollow", spec := "rewriteRulesFollow", apart := false, narrowed := true }
def RewriteRulesFollowUptoSaid : Prop := rewriteRulesFollowUptoRow.holds Try.pinned (OpenSpec.upto rewriteRulesFollowSpec)

/-- 'glosswrightlaw6.RewriteLeavesOthers', WHERE WHAT IT READS IS OF BULK AT MOST 1048576: true; the input reads as it did. -/
def rewriteLeavesOthersUptoRow : OpenClaim := { program := "ytppipllchjpfmaa", sum := "267cf21e0bc422da013f806a6a69235a81e5f070a60a2e34a146a36f935e2fce", func := "glosswright/glosswrightlaw6.RewriteLeavesOthers", spec := "rewriteLeavesOthers", apart := false, narrowed := true }
def RewriteLeavesOthersUptoSaid : Prop := rewriteLeavesOthersUptoRow.holds Try.pinned (OpenSpec.upto rewriteLeavesOthersSpec)

/-- 'glosswrightlaw6.TwolevelAllowedMatchesSpec', WHERE WHAT IT READS IS OF BULK AT MOST 1048576: true; the input reads as it did. -/
def twolevelAllowedMatchesSpecUptoRow : OpenClaim := { program := "ytppipllchjpfmaa", sum := "267cf21e0bc422da013f806a6a69235a81e5f070a60a2e34a146a36f935e2fce", func := "glosswright/glosswrightlaw6.TwolevelAllowedMatchesSpec", spec := "twolevelAllowedMatchesSpec", apart := false, narrowed := true }
def TwolevelAllowedMatchesSpecUptoSaid : Prop := twolevelAllowedMatchesSpecUptoRow.holds Try.pinned (OpenSpec.upto twolevelAllowedMatchesSpecSpec)

/-- 'glosswrightlaw6.TwolevelBothIsTwoRules', WHERE WHAT IT READS IS OF BULK AT MOST 1048576: true; the input reads as it did. -/
def twolevelBothIsTwoRulesUptoRow : OpenClaim := { program := "ytppipllchjpfmaa", sum := "267cf21e0bc422da013f806a6a69235a81e5f070a60a2e34a146a36f935e2fce", func := "glosswright/glosswrightlaw6.TwolevelBothIsTwoRules", spec := "twolevelBothIsTwoRules", apart := false, narrowed := true }
def TwolevelBothIsTwoRulesUptoSaid : Prop := twolevelBothIsTwoRulesUptoRow.holds Try.pinned (OpenSpec.upto twolevelBothIsTwoRulesSpec)

/-- 'glosswrightlaw6.TwolevelRulesAddUp', WHERE WHAT IT READS IS OF BULK AT MOST 1048576: true; the input reads as it did. -/
def twolevelRulesAddUpUptoRow : OpenClaim := { program := "ytppipllchjpfmaa", sum := "267cf21e0bc422da013f806a6a69235a81e5f070a60a2e34a146a36f935e2fce", func := "glosswright/glosswrightlaw6.TwolevelRulesAddUp", spec := "twolevelRulesAddUp", apart := false, narrowed := true }
def TwolevelRulesAddUpUptoSaid : Prop := twolevelRulesAddUpUptoRow.holds Try.pinned (OpenSpec.upto twolevelRulesAddUpSpec)

/-- 'glosswrightlaw6.TwolevelNeverExcludesOnly', WHERE WHAT IT READS IS OF BULK AT MOST 1048576: true; the input reads as it did. -/
def twolevelNeverExcludesOnlyUptoRow : OpenClaim := { program := "ytppipllchjpfmaa", sum := "267cf21e0bc422da013f806a6a69235a81e5f070a60a2e34a146a36f935e2fce", func := "glosswright/glosswrightlaw6.TwolevelNeverExcludesOnly", spec := "twolevelNeverExcludesOnly", apart := false, narrowed := true }
def TwolevelNeverExcludesOnlyUptoSaid : Prop := twolevelNeverExcludesOnlyUptoRow.holds Try.pinned (OpenSpec.upto twolevelNeverExcludesOnlySpec)

end Rows
end Go.Proofs.Ytppipllchjpfmaa
