import Derived.Test.YtkmmaelmdioleaaGreatDoorUQa
import Derived.Test.YtkmmaelmdioleaaGreatDoorUQb
import Derived.Test.YtkmmaelmdioleaaGreatDoorUQc
import Derived.Test.YtkmmaelmdioleaaGreatDoorUQd
import Derived.Test.YtkmmaelmdioleaaGreatDoorUQe
import Derived.Test.YtkmmaelmdioleaaGreatDoorUQh
import Derived.Test.YtkmmaelmdioleaaGreatDoorUQi
import Derived.Test.YtkmmaelmdioleaaGreatDoorUQf
import Derived.Test.YtkmmaelmdioleaaGreatDoorUQg
namespace Go.Abs.Uv
open Go.Sort Go.Proofs
set_option linter.unusedVariables false
set_option linter.unusedSimpArgs false
set_option linter.unnecessarySimpa false
set_option maxRecDepth 100000
def t24 : List (List V × V) := [([cDogs], .tuple [cTags, cF0])]
theorem o24 : OraOk False Tryz.prog 24 (tabF t24) := tab_ok (useB_is 24 (by kernel_rfl)) _ fun p hp S w us hrel hs hg => by
 simp only [t24, List.mem_cons, List.not_mem_nil, or_false] at hp
 subst hp
 exact ora_of r24a hrel hs hg
def t26 : List (List V × V) := [([.sl .plain [], cCop], .tuple [cSur, cF0])]
theorem o26 : OraOk False Tryz.prog 26 (tabF t26) := tab_ok (useB_is 26 (by kernel_rfl)) _ fun p hp S w us hrel hs hg => by
 simp only [t26, List.mem_cons, List.not_mem_nil, or_false] at hp
 subst hp
 exact ora_of r26a hrel hs hg
def t27 : List (List V × V) := [([cDogs], .tuple [cLex, cF0])]
theorem o27 : OraOk False Tryz.prog 27 (tabF t27) := tab_ok (useB_is 27 (by kernel_rfl)) _ fun p hp S w us hrel hs hg => by
 simp only [t27, List.mem_cons, List.not_mem_nil, or_false] at hp
 subst hp
 exact ora_of r27b hrel hs hg
def t28 : List (List V × V) := [([cLex, cSur], .tuple [cAna, cF0]), ([cAna, cAcc1], .tuple [cM1, cF0]), ([cAna, cAcc2], .tuple [cM2, cF0])]
theorem o28 : OraOk False Tryz.prog 28 (tabF t28) := tab_ok (useB_is 28 (by kernel_rfl)) _ fun p hp S w us hrel hs hg => by
 simp only [t28, List.mem_cons, List.not_mem_nil, or_false] at hp
 rcases hp with rfl | rfl | rfl
 ·exact ora_ofG goodX useX_is r28c hrel hs hg
 ·exact ora_ofG goodX useX_is r28d hrel hs hg
 ·exact ora_ofG goodX useX_is r28e hrel hs hg
def t35 : List (List V × V) := [([cM1], .tuple [cAll1, cF0]), ([cM2], .tuple [cAll2, cF0])]
theorem o35 : OraOk False Tryz.prog 35 (tabF t35) := tab_ok (useB_is 35 (by kernel_rfl)) _ fun p hp S w us hrel hs hg => by
 simp only [t35, List.mem_cons, List.not_mem_nil, or_false] at hp
 rcases hp with rfl | rfl
 ·exact ora_ofG goodD useD_is r35f hrel hs hg
 ·exact ora_ofG goodD useD_is r35g hrel hs hg
def oraC (f : Nat) : Option (List V → Option V) := match f with
 | 24 => some (tabF t24)
 | 26 => some (tabF t26)
 | 27 => some (tabF t27)
 | 28 => some (tabF t28)
 | 35 => some (tabF t35)
 | 32 => some ixbyteF
 | _ => none
def EC : Env := { EF with ora := oraC }
theorem goodC : Good False Tryz.prog EC := ⟨by kernel_rfl, TW_ok, Us.names_ok, (fun f F h => by
 have h : oraC f = some F := h
 unfold oraC at h
 split at h
 ·cases h; exact o24
 ·cases h; exact o26
 ·cases h; exact o27
 ·cases h; exact o28
 ·cases h; exact o35
 ·cases h; exact ora32
 ·cases h), fun f F h => goodF.oraD f F h⟩
noncomputable def useC (f : Nat) : Bool := !([24, 26, 27, 28, 35].contains f) && useB f
theorem useC_is : ∀ f, useC f = true → Is Tryz.prog f := fun f h => useB_is f (by unfold useC at h; rw [Bool.and_eq_true] at h; exact h.2)
noncomputable def RC (n : Nat) : Calling := run2 Tryz.prog EV EC useC n
theorem run4 : (RC 60 4 ([].map .v) []).bind (fun p => frz p.2 15 p.1) = some (.bool true) := by kernel_rfl
theorem ora4 : OraOk False Tryz.prog 4 trueF := by
 refine ⟨useB_is 4 (by kernel_rfl), fun vs r hF S w us hrel hs hg => ?_⟩
 unfold trueF at hF
 split at hF
 case h_2 => cases hF
 cases hF
 exact ora_ofG goodC useC_is run4 hrel hs hg
end Go.Abs.Uv
