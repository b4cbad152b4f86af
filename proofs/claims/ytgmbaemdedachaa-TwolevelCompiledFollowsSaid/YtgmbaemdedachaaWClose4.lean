/-
  PROVED: a string of pairs of the alphabet is on a path of the machine of rules just if they allow it. No condition.
-/
import Derived.Test.YtgmbaemdedachaaPN
import Derived.Test.YtgmbaemdedachaaRows
import Derived.WalkKit
import Derived.ProofKit
import Derived.OpenShut
import Derived.ShutString
import Derived.ChangeOld
import Derived.Below
namespace Go.Proofs.Ytgmbaemdedachaa
open Go.ChangeShapes Go.WideShapes Go.ChangeAt Go.RowKit
open Go.ChangeMaps (open_string shut_string)
open Go.Abs
set_option linter.unusedVariables false
set_option linter.unusedSimpArgs false
set_option linter.unnecessarySimpa false
theorem own : ownKnob Try.prog.godebug = none := by kernel_rfl
theorem laidOut : laidOutB Try.prog = true := by kernel_rfl
theorem hin4 : ∀ t ∈ Try.f4.params.toList, t ∈ Go.Abs.LT ∧ Try.prog.readableRec t = true ∧ t < Try.prog.types.size := by
 have h : (Try.f4.params.toList.all fun t => Go.Abs.LT.contains t && Try.prog.readableRec t && decide (t < Try.prog.types.size)) = true := by kernel_rfl
 intro t ht
 have := zZ.1 h t ht
 simp only [Bool.and_eq_true, decide_eq_true_eq] at this
 exact ⟨by simpa using this.1.1, this.1.2, this.2⟩
theorem hrun4 : ∀ xs, TypedL Go.Abs.E.T Try.f4.params.toList xs → ∃ n, runV Try.prog Go.Abs.EG n 4 xs = some (.bool true) :=
 law4 fun a0 a1 a2 _ _ _ => ⟨5000, Pl.plain4 a0 a1 a2⟩
set_option maxRecDepth 100000 in
theorem lifted4 (os : Os) (started : os.Started) (H : Type) (enc : TypeId × Value → H) :
  ReturnsInHanded {} Try.checked os 4 .any (Rows.twolevelCompiledFollowsSpec.pre6 enc Try.prog Try.f4 Rows.twolevelCompiledFollowsRow.domain false) (Rows.twolevelCompiledFollowsSpec.post enc Try.prog Try.f4 false true false false) := by
 refine returnsInHanded_of_change (C := Try.checked) own started (by kernel_rfl) Try.func4
  (ChangeSpec.witness6 (enc := enc) (C := Try.checked) false ⟨#[], #[.slice none 0 0, .slice none 0 0, .slice none 0 0], []⟩ 8 (by kernel_rfl) (by kernel_rfl) (by kernel_rfl) (by kernel_rfl)) ?_
 intro W base args ds gs before hval hW hcnd _
 exact law_contract Go.Abs.goodG Go.Abs.LT_ok laidOut ⟨4, by kernel_rfl, Try.underlying4⟩ hin4 rfl (fun H ds h => by
  match ds, h with
  | [d0, d1, d2], _ => rfl) hrun4 ⟨fun _ _ hg => (by cases hg), fun _ _ _ hg => (by cases hg)⟩ hval hW
theorem twolevelCompiledFollows : Rows.TwolevelCompiledFollowsSaid :=
 OpenClaim.holds_of_wide 4 Try.f4 rfl rfl rfl rfl rfl rfl rfl ⟨rfl, rfl, rfl, rfl, rfl⟩ rfl rfl rfl rfl rfl (by kernel_rfl) Try.func4 (by kernel_rfl)
  (yC (by kernel_rfl)) (by unfold Func.isWrapper; first | (rw [if_pos (by decide +kernel)]; kernel_rfl) | (rw [if_neg (by decide +kernel)]; exact ⟨rfl, rfl⟩))
  (fun os started H enc _ => lifted4 os started H enc)
#print axioms twolevelCompiledFollows
end Go.Proofs.Ytgmbaemdedachaa
