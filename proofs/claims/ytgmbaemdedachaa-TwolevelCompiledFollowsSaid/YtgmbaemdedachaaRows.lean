/-
  No cell of these rows narrows 'for every input' (looked for: loops, veiled, ifaces, maps, wideKeys, modest, calm, conditions, laid).
  DERIVED. THE GIVEN ROWS OF THIS SEAT. 3 by the template 'for every input the law returns true; each argument reads behind the call as it read before'; 0 by the template 'total and deterministic' (their statements: YtgmbaemdedachaaTotals.lean).
  GIVEN WITH THE SEED: the statements are not yours to turn. If you find one false, say at which input.
  Laid BY PROGRAM, IN A SANDBOX (cutbox-rows.mjs): the forced cells as the released guide's own fill.sh prints them over the translation 8f1844d0f82b959b… (all of the seat's roots in one cut). By AI agents, Wed Nov 11 2026. No macro, syntax, notation, axiom, sorry.
-/
import Derived.Test.YtgmbaemdedachaaChecked
import GoSem.Claim
import GoSem.ClaimJoined
import GoSem.ClaimMapViews
import Derived.JoinedTies
import Derived.KernelRfl
namespace Go.Proofs.Ytgmbaemdedachaa
/- THE CELL 'sum', in the pinned program and in every row, IS THE sha256 OF THE DUMP (.gsa) THAT YtgmbaemdedachaaProg.lean LOADS. Nothing in Lean hashes anything: it is a label: what it is worth is what the hold of that sum in a sandbox is worth. -/
noncomputable def Try.pinned : Pinned := { name := "ytgmbaemdedachaa", sum := "8f1844d0f82b959b213213bef490c0bdb62277fe1869566e75a8df946581d306", checked := Try.checked }
namespace Rows
def none {H : Type} : Left H := { results := [], args := [] }

/-- 'glosswrightlaw6.TwolevelCompileMatchesSpec': WHATEVER THE INPUT: true; the input reads as it did. -/
def twolevelCompileMatchesSpecSpec : ChangeSpec := { name := "twolevelCompileMatchesSpec", fn := fun _ => fun
  | [d1, d2] => { results := [.lit (.bool true)], args := [d1, d2] }
  | _ => none }
def twolevelCompileMatchesSpecRow : OpenClaim := { program := "ytgmbaemdedachaa", sum := "8f1844d0f82b959b213213bef490c0bdb62277fe1869566e75a8df946581d306", func := "glosswright/glosswrightlaw6.TwolevelCompileMatchesSpec", spec := "twolevelCompileMatchesSpec", unfollowed := true, recurses := true, plainKeys := false, apart := false }
def TwolevelCompileMatchesSpecSaid : Prop := twolevelCompileMatchesSpecRow.holds Try.pinned (OpenSpec.ofChange twolevelCompileMatchesSpecSpec)

/-- ITS FALSE NEIGHBOUR: 'it returns false'. Refute it at one input. -/
def twolevelCompileMatchesSpecWrong : ChangeSpec := { name := "twolevelCompileMatchesSpec", fn := fun _ => fun
  | [d1, d2] => { results := [.lit (.bool false)], args := [d1, d2] }
  | _ => none }
def TwolevelCompileMatchesSpecWrongFalsely : Prop := twolevelCompileMatchesSpecRow.holds Try.pinned (OpenSpec.ofChange twolevelCompileMatchesSpecWrong)

/-- 'glosswrightlaw6.TwolevelCompiledFollows': WHATEVER THE INPUT: true; the input reads as it did. -/
def twolevelCompiledFollowsSpec : ChangeSpec := { name := "twolevelCompiledFollows", fn := fun _ => fun
  | [d1, d2, d3] => { results := [.lit (.bool true)], args := [d1, d2, d3] }
  | _ => none }
def twolevelCompiledFollowsRow : OpenClaim := { program := "ytgmbaemdedachaa", sum := "8f1844d0f82b959b213213bef490c0bdb62277fe1869566e75a8df946581d306", func := "glosswright/glosswrightlaw6.TwolevelCompiledFollows", spec := "twolevelCompiledFollows", unfollowed := true, recurses := true, plainKeys := false, apart := false }
def TwolevelCompiledFollowsSaid : Prop := twolevelCompiledFollowsRow.holds Try.pinned (OpenSpec.ofChange twolevelCompiledFollowsSpec)

/-- ITS FALSE NEIGHBOUR: 'it returns false'. Refute it at one input. -/
def twolevelCompiledFollowsWrong : ChangeSpec := { name := "twolevelCompiledFollows", fn := fun _ => fun
  | [d1, d2, d3] => { results := [.lit (.bool false)], args := [d1, d2, d3] }
  | _ => none }
def TwolevelCompiledFollowsWrongFalsely : Prop := twolevelCompiledFollowsRow.holds Try.pinned (OpenSpec.ofChange twolevelCompiledFollowsWrong)

/-- 'glosswrightlaw6.TwolevelMachinesArePlain': WHATEVER THE INPUT: true; the input reads as it did. -/
def twolevelMachinesArePlainSpec : ChangeSpec := { name := "twolevelMachinesArePlain", fn := fun _ => fun
  | [d1, d2] => { results := [.lit (.bool true)], args := [d1, d2] }
  | _ => none }
def twolevelMachinesArePlainRow : OpenClaim := { program := "ytgmbaemdedachaa", sum := "8f1844d0f82b959b213213bef490c0bdb62277fe1869566e75a8df946581d306", func := "glosswright/glosswrightlaw6.TwolevelMachinesArePlain", spec := "twolevelMachinesArePlain", unfollowed := true, recurses := true, plainKeys := false, apart := false }
def TwolevelMachinesArePlainSaid : Prop := twolevelMachinesArePlainRow.holds Try.pinned (OpenSpec.ofChange twolevelMachinesArePlainSpec)

/-- ITS FALSE NEIGHBOUR: 'it returns false'. Refute it at one input. -/
def twolevelMachinesArePlainWrong : ChangeSpec := { name := "twolevelMachinesArePlain", fn := fun _ => fun
  | [d1, d2] => { results := [.lit (.bool false)], args := [d1, d2] }
  | _ => none }
def TwolevelMachinesArePlainWrongFalsely : Prop := twolevelMachinesArePlainRow.holds Try.pinned (OpenSpec.ofChange twolevelMachinesArePlainWrong)

/- THE SECOND FORM. 'bulk': how many values and letters a reading holds, each counted each time it is reached (what is shared counts as often as it is met; a slice's spare places count too). A statement '..UptoSaid' is the law's where the arguments, and the package variables that the reading takes, are together of bulk at most 1048576: NARROWER than '..Said'. Prove '..Said' where nothing that the law and all that it calls make is longer than what came in: it says more and counts as full. Else prove '..UptoSaid'. A law counts once. -/
mutual
def uptoBulk {H : Type} : DataW H → Nat
  | .lit (.string bytes) => bytes.length + 1
  | .lit _ => 1
  | .nil => 1
  | .ptr d => uptoBulk d + 1
  | .slice elems spare => uptoBulkAll elems + uptoBulkAll spare + 1
  | .agg parts => uptoBulkAll parts + 1
  | .iface _ d => uptoBulk d + 1
  | .map entries => uptoBulkEntries entries + 1
  | .held _ => 1
def uptoBulkAll {H : Type} : List (DataW H) → Nat
  | [] => 0
  | d :: r => uptoBulk d + uptoBulkAll r
def uptoBulkEntries {H : Type} : List (Lit × DataW H) → Nat
  | [] => 0
  | x :: r => uptoBulkEntry x + uptoBulkEntries r
def uptoBulkEntry {H : Type} : Lit × DataW H → Nat
  | (.string bytes, d) => bytes.length + uptoBulk d + 1
  | (_, d) => uptoBulk d + 1
 end
def uptoSmall : (H : Type) → List (DataW H) → Bool := fun _ ds => decide (uptoBulkAll ds ≤ 1048576)
def OpenSpec.upto (s : _root_.Go.ChangeSpec) : _root_.Go.OpenSpec := { _root_.Go.OpenSpec.ofChange s with cond := some uptoSmall }

/-- 'glosswrightlaw6.TwolevelCompileMatchesSpec', WHERE WHAT IT READS IS OF BULK AT MOST 1048576: true; the input reads as it did. -/
def twolevelCompileMatchesSpecUptoRow : OpenClaim := { program := "ytgmbaemdedachaa", sum := "8f1844d0f82b959b213213bef490c0bdb62277fe1869566e75a8df946581d306", func := "glosswright/glosswrightlaw6.TwolevelCompileMatchesSpec", spec := "twolevelCompileMatchesSpec", unfollowed := true, recurses := true, plainKeys := false, apart := false, narrowed := true }
def TwolevelCompileMatchesSpecUptoSaid : Prop := twolevelCompileMatchesSpecUptoRow.holds Try.pinned (OpenSpec.upto twolevelCompileMatchesSpecSpec)

/-- 'glosswrightlaw6.TwolevelCompiledFollows', WHERE WHAT IT READS IS OF BULK AT MOST 1048576: true; the input reads as it did. -/
def twolevelCompiledFollowsUptoRow : OpenClaim := { program := "ytgmbaemdedachaa", sum := "8f1844d0f82b959b213213bef490c0bdb62277fe1869566e75a8df946581d306", func := "glosswright/glosswrightlaw6.TwolevelCompiledFollows", spec := "twolevelCompiledFollows", unfollowed := true, recurses := true, plainKeys := false, apart := false, narrowed := true }
def TwolevelCompiledFollowsUptoSaid : Prop := twolevelCompiledFollowsUptoRow.holds Try.pinned (OpenSpec.upto twolevelCompiledFollowsSpec)

/-- 'glosswrightlaw6.TwolevelMachinesArePlain', WHERE WHAT IT READS IS OF BULK AT MOST 1048576: true; the input reads as it did. -/
def twolevelMachinesArePlainUptoRow : OpenClaim := { program := "ytgmbaemdedachaa", sum := "8f1844d0f82b959b213213bef490c0bdb62277fe1869566e75a8df946581d306", func := "glosswright/glosswrightlaw6.TwolevelMachinesArePlain", spec := "twolevelMachinesArePlain", unfollowed := true, recurses := true, plainKeys := false, apart := false, narrowed := true }
def TwolevelMachinesArePlainUptoSaid : Prop := twolevelMachinesArePlainUptoRow.holds Try.pinned (OpenSpec.upto twolevelMachinesArePlainSpec)

end Rows
end Go.Proofs.Ytgmbaemdedachaa
