import Derived.Test.YtkmmaelmdioleaaGreatDoorUX0
import Derived.Test.YtkmmaelmdioleaaGreatDoorUX1
import Derived.Test.YtkmmaelmdioleaaGreatDoorUX2
namespace Go.Abs.Uv
open Go.Sort Go.Proofs
set_option linter.unusedVariables false
set_option linter.unusedSimpArgs false
set_option linter.unnecessarySimpa false
set_option maxRecDepth 100000
def t62 : List ((List D × List AObj) × (D × List AObj)) := [((cA0, cB0), (cC0, cE0)), ((cA1, cB1), (cC1, cE1)), ((cA2, cB2), (cC2, cE2))]
theorem o62 : DOk False Tryz.prog 62 (tabD t62) := tabD_ok (useB_is 62 (by kernel_rfl)) fun p hp => by
 simp only [t62, List.mem_cons, List.not_mem_nil, or_false] at hp
 rcases hp with rfl | rfl | rfl
 ·exact r62_0
 ·exact r62_1
 ·exact r62_2
def EX : Env := { EF with oraD := fun f => if f = 62 then some (tabD t62) else EF.oraD f }
theorem goodX : Good False Tryz.prog EX := ⟨by kernel_rfl, TW_ok, Us.names_ok, fun f F h => goodF.ora f F h, (fun f F h => by
 have h : (if f = 62 then some (tabD t62) else EF.oraD f) = some F := h
 split at h
 ·rename_i e; subst e; cases h; exact o62
 ·exact goodF.oraD f F h)⟩
noncomputable def useX (f : Nat) : Bool := f != 62 && useB f
theorem useX_is : ∀ f, useX f = true → Is Tryz.prog f := fun f h => useB_is f (by unfold useX at h; rw [Bool.and_eq_true] at h; exact h.2)
noncomputable def RX (n : Nat) : Calling := run2 Tryz.prog EV EX useX n
end Go.Abs.Uv
