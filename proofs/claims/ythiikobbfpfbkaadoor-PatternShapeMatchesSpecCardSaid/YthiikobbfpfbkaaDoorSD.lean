/-
  PATTERNS, the plain laws: PatternShapeMatchesSpec.
-/
import Derived.Test.YthiikobbfpfbkaaDoorSB
import Derived.Test.YthiikobbfpfbkaaDoorSC
namespace Go.Abs
open Go.Sort Go.Proofs
set_option linter.unusedVariables false
set_option maxRecDepth 100000

theorem nofault (f : S27) (h : f = (⟨0, 0⟩ : S27)) : (!((f.fCode == 0) && ((f.fIndex == 0) && true))) = false := by subst h; rfl
theorem afault (f : S27) (h : f.fCode ≠ 0) : (!((f.fCode == 0) && ((f.fIndex == 0) && true))) = true := by
  have : (f.fCode == 0) = false := by simpa using h
  rw [this]; rfl
theorem samef (f : S27) : ((f.fCode == f.fCode) && ((f.fIndex == f.fIndex) && true)) = true := by simp
theorem print_same (m : Nat) (hm : 50000 ≤ m) (p : S24) : f10 m p = f11 m p := by
  obtain ⟨f, h1, h2⟩ := f9_eq m (by omega) p
  have h3 : f12 m p = some f := by rw [← faults_same m (by omega), h1]
  unfold f10 f11
  rw [h1, bnd_some', h3, bnd_some']
  rcases h2 with ⟨hf, n, hn, hg⟩ | h2
  · have hput : f22 m [] p 1 = some ([] ++ ce (tight 40 p 1)) := put_txt m hm 40 m p n [] 1 (by omega) hg (by simp; omega)
    have hwr := f24_eq m hm p n hg (by omega)
    rw [nofault f hf, cnd_false, cnd_false, hput, bnd_some', hwr, bnd_some', List.nil_append, strI_size]
    rfl
  · rw [afault f h2, cnd_true, cnd_true]
theorem f11_some (m : Nat) (hm : 50000 ≤ m) (p : S24) : ∃ x, f11 m p = some x := by
  obtain ⟨s, f, h, _⟩ := f10_eq m hm p
  exact ⟨_, (print_same m hm p).symm.trans h⟩
theorem zero9 (m : Nat) (hm : 1000 ≤ m) : f9 m (⟨0, [], [], 0, 0⟩ : S24) = some (⟨4, 0⟩ : S27) := by
  rw [f9_val m hm]
  have h : nodeE (⟨0, [], [], 0, 0⟩ : S24) = 4 := by unfold nodeE; rw [if_pos (.inl (by decide))]
  unfold valS
  rw [if_neg (by omega), h, if_pos (by decide)]
  rfl
theorem plain3 (a0 : S24) : f3 100000 a0 = some true := by
  obtain ⟨x, hx⟩ := f11_some 100000 (by omega) a0
  unfold f3
  rw [show f8 100000 = some true from rfl, bnd_some', Bool.not_true, cnd_false, zero9 100000 (by omega), bnd_some']
  show f3_r3 100000 a0 false = _
  unfold f3_r3
  rw [cnd_false, print_same 100000 (by omega), hx, bnd_some', bnd_some']
  unfold f3_r2
  have e : ((x.1.toList == x.1.toList) && ((x.2.fCode == x.2.fCode) && ((x.2.fIndex == x.2.fIndex) && true))) = true := by simp
  rw [e, cnd_true, f9_val 100000 (by omega), bnd_some', f12_val 100000 (by omega), bnd_some']
  unfold f3_r1
  rw [samef]
  rfl
end Go.Abs
