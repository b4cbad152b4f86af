/-
  PROVED: a string that obeys a rule in the direction of its pair, and the opposite rule with the same contexts, does not have the pair. No condition.
-/
import Derived.Test.YtppipllchjpfmaaTPlain9
import Derived.Test.YtppipllchjpfmaaRows
import Derived.WalkKit
import Derived.ProofKit
import Derived.OpenShut
import Derived.ShutString
import Derived.ChangeOld
import Derived.Below
namespace Go.Proofs.Ytppipllchjpfmaa
open Go.ChangeShapes Go.WideShapes Go.ChangeAt Go.RowKit
open Go.ChangeMaps (open_string shut_string)
open Go.Abs
set_option linter.unusedVariables false
theorem own : ownKnob Try.prog.godebug = none := by kernel_rfl
theorem laidOut : laidOutB Try.prog = true := by kernel_rfl
theorem hin9 : ∀ t ∈ Try.f9.params.toList, t ∈ Go.Abs.LT ∧ Try.prog.readableRec t = true ∧ t < Try.prog.types.size := by
  have h : (Try.f9.params.toList.all fun t => Go.Abs.LT.contains t && Try.prog.readableRec t && decide (t < Try.prog.types.size)) = true := by kernel_rfl
  intro t ht
  have := List.all_eq_true.1 h t ht
  simp only [Bool.and_eq_true, decide_eq_true_eq] at this
  exact ⟨by simpa using this.1.1, this.1.2, this.2⟩
theorem hrun9 : ∀ xs, TypedL Go.Abs.E.T Try.f9.params.toList xs → ∃ n, runV Try.prog Go.Abs.E n 9 xs = some (.bool true) :=
  Go.Abs.law9 fun a0 a1 _ _ => ⟨_, plain9 a0 a1⟩
set_option maxRecDepth 100000 in
theorem lifted9 (os : Os) (started : os.Started) (H : Type) (enc : TypeId × Value → H) :
    ReturnsInHanded {} Try.checked os 9 .any (Rows.twolevelNeverExcludesOnlySpec.pre6 enc Try.prog Try.f9 Rows.twolevelNeverExcludesOnlyRow.domain false) (Rows.twolevelNeverExcludesOnlySpec.post enc Try.prog Try.f9 false true false false) := by
  refine returnsInHanded_of_change (C := Try.checked) own started (by kernel_rfl) Try.func9
    (ChangeSpec.witness6 (enc := enc) (C := Try.checked) false ⟨#[], #[.agg #[.int .i64 0, .int .i64 0, .int .i64 0, .slice none 0 0], .slice none 0 0], []⟩ 8 (by kernel_rfl) (by kernel_rfl) (by kernel_rfl) (by kernel_rfl)) ?_
  intro W base args ds gs before hval hW hcnd _
  exact law_contract Go.Abs.good Go.Abs.LT_ok laidOut ⟨4, by kernel_rfl, Try.underlying4⟩ hin9 rfl (fun H ds h => by
    match ds, h with
    | [d0, d1], _ => rfl) hrun9 hval hW
theorem twolevelNeverExcludesOnly : Rows.TwolevelNeverExcludesOnlySaid :=
  OpenClaim.holds_of_wide 9 Try.f9 rfl rfl rfl rfl rfl rfl rfl ⟨rfl, rfl, rfl, rfl, rfl⟩ rfl rfl rfl rfl rfl (by kernel_rfl) Try.func9 (by kernel_rfl)
    (of_decide_eq_true (by kernel_rfl)) (by unfold Func.isWrapper; first | (rw [if_pos (by decide +kernel)]; kernel_rfl) | (rw [if_neg (by decide +kernel)]; exact ⟨rfl, rfl⟩))
    (fun os started H enc _ => lifted9 os started H enc)
#print axioms twolevelNeverExcludesOnly
end Go.Proofs.Ytppipllchjpfmaa
