import Derived.Test.YtckocapmogfhkaaDoorCP6
namespace Go.Abs
open Go.Sort Go.Proofs
set_option linter.unusedVariables false
set_option maxRecDepth 100000
def exL : List S37 := [⟨⟨#[97]⟩, [⟨⟨#[120]⟩, ⟨#[121, 122]⟩, [], (-1), 3⟩]⟩]
def exA : List S40 := [⟨0, 2, 120, 121, 3⟩, ⟨2, 1, 0, 122, 0⟩]
theorem exL_fault : lexF exL = ⟨0, 0⟩ := by kernel_rfl
theorem exL_tags : tagsL exL = [] := by
 rw [tagsL_R]
 kernel_rfl
theorem exL_arcs : arcsL exL = (3, exA) := by
 unfold arcsL
 rw [exL_tags]
 kernel_rfl
theorem exL_mach : machL exL = (⟨3, exA, [⟨1, 0⟩]⟩, ⟨0, 0⟩) := by
 have hs : srtC cmpA exA = exA := by
  refine (srtA_of (List.Perm.refl _) ?_).symm
  refine List.pairwise_cons.2 ⟨fun b hb => ?_, List.pairwise_singleton _ _⟩
  simp only [List.mem_singleton] at hb
  subst hb
  unfold LeA
  decide
 unfold machL
 rw [exL_fault, exL_arcs, if_neg (by decide), if_neg (by decide)]
 show (if 2000 < (compactL (srtC cmpA exA)).length then limS else ((⟨3, compactL (srtC cmpA exA), [⟨(exL.length : Int), 0⟩]⟩ : S27), (⟨0, 0⟩ : S29))) = _
 rw [hs]
 kernel_rfl
theorem plain3 (a0 : S23) : f3 200000 a0 = some true := by
 have h4 : f4 200000 (⟨exL⟩ : S23) = some (⟨3, exA, [⟨1, 0⟩]⟩, ⟨0, 0⟩) := by rw [f4_eq 200000 _ (Nat.le_refl _)]; exact congrArg some exL_mach
 have h4 : f4 200000 ((⟨[(⟨(⟨#[97]⟩ : ByteArray), [(⟨(⟨#[120]⟩ : ByteArray), (⟨#[121, 122]⟩ : ByteArray), [], (-1), 3⟩ : S34)]⟩ : S37)]⟩ : S23)) = some (⟨3, exA, [⟨1, 0⟩]⟩, ⟨0, 0⟩) := h4
 have h5 := f5_refl 200000 (⟨3, exA, [⟨1, 0⟩]⟩ : S27) (by decide) (by decide) (Nat.le_refl _)
 have h5 : f5 200000 (⟨3, exA, [⟨1, 0⟩]⟩ : S27) ((⟨3, [(⟨0, 2, 120, 121, 3⟩ : S40), (⟨2, 1, 0, 122, 0⟩ : S40)], [(⟨1, 0⟩ : S42)]⟩ : S27)) = some true := h5
 obtain ⟨s1, s2⟩ := machL_small a0.fClasses
 have h6 := f5_refl 200000 (machL a0.fClasses).1 s1 s2 (Nat.le_refl _)
 unfold f3
 rw [h4, bnd_some']
 simp only [h5, bnd_some']
 show f3_r2 200000 a0 false = some true
 unfold f3_r2 f3_r1
 rw [cnd_false, f4_eq 200000 _ (Nat.le_refl _), bnd_some', f6_eq 200000 _ (Nat.le_refl _), bnd_some']
 have e : (((machL a0.fClasses).2.fCode == (machL a0.fClasses).2.fCode) && (((machL a0.fClasses).2.fIndex == (machL a0.fClasses).2.fIndex) && true)) = true := by simp
 rw [e, cnd_true, h6]
 rfl
end Go.Abs
