import Derived.Test.YtkmmaelmdioleaaGreatDoorUQh
import Derived.Test.YtkmmaelmdioleaaGreatDoorUQi
namespace Go.Abs.Uv
open Go.Sort Go.Proofs
set_option linter.unusedVariables false
set_option linter.unusedSimpArgs false
set_option linter.unnecessarySimpa false
set_option maxRecDepth 100000
def t111 : List (List V × V) := [([cM1], .tuple [cM1, cF0]), ([cM2], .tuple [cM2, cF0])]
theorem o111 : OraOk False Tryz.prog 111 (tabF t111) := tab_ok (useB_is 111 (by kernel_rfl)) _ fun p hp S w us hrel hs hg => by
 simp only [t111, List.mem_cons, List.not_mem_nil, or_false] at hp
 rcases hp with rfl | rfl
 ·exact ora_of r111h hrel hs hg
 ·exact ora_of r111i hrel hs hg
def oraD (f : Nat) : Option (List V → Option V) := match f with
 | 111 => some (tabF t111)
 | 32 => some ixbyteF
 | _ => none
def ED : Env := { EF with ora := oraD }
theorem goodD : Good False Tryz.prog ED := ⟨by kernel_rfl, TW_ok, Us.names_ok, (fun f F h => by
 have h : oraD f = some F := h
 unfold oraD at h
 split at h
 ·cases h; exact o111
 ·cases h; exact ora32
 ·cases h), fun f F h => goodF.oraD f F h⟩
noncomputable def useD (f : Nat) : Bool := !([111].contains f) && useB f
theorem useD_is : ∀ f, useD f = true → Is Tryz.prog f := fun f h => useB_is f (by unfold useD at h; rw [Bool.and_eq_true] at h; exact h.2)
noncomputable def RD (n : Nat) : Calling := run2 Tryz.prog EV ED useD n
end Go.Abs.Uv
