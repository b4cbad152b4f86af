/-
  GUESS, the plain law: it makes no difference in which order words are known.
-/
import Derived.Test.YtgieobehohljnaaDoorQB
import Derived.Test.YtgieobehohljnaaDoorWLaw
namespace Go.Abs
open Go.Sort Go.Proofs
set_option linter.unusedVariables false

theorem f5_j4_eq (m : Nat) (hm : 4001 < m) (a0 : List S39) (a2 : ByteArray) (hf : flt a0 = none) (k : Nat) (hk : k ≤ a0.length) : f5_j4 m a0 a2 (k : Int) = some true := by
  obtain ⟨hl, hall⟩ := flt_none hf
  have h1 : sub a0 (k : Int) (a0.length : Int) = some (a0.drop k) := by
    unfold sub
    rw [if_pos ⟨by omega, by omega, by omega⟩, Int.toNat_natCast, Int.toNat_natCast]
    rw [List.take_of_length_le (by simp)]
  have h2 : sub a0 0 (k : Int) = some (a0.take k) := by
    unfold sub
    rw [if_pos ⟨by omega, by omega, by omega⟩, Int.toNat_natCast]
    simp
  have hp : (a0.drop k ++ a0.take k).Perm a0 := by
    have := List.perm_append_comm (l₁ := a0.drop k) (l₂ := a0.take k)
    rwa [List.take_append_drop] at this
  have hlen : (a0.drop k ++ a0.take k).length = a0.length := hp.length_eq
  have hf2 : flt (a0.drop k ++ a0.take k) = none := flt_of (by omega) fun s hs => hall s (hp.mem_iff.1 hs)
  have h3 : app 32 [] (a0.drop k) = some (a0.drop k) := by
    rw [app_some 32 [] (a0.drop k) (by simp; omega) (by simp; omega)]; rfl
  have h4 : app 32 (a0.drop k) (a0.take k) = some (a0.drop k ++ a0.take k) := app_some 32 _ _ (by simp; omega) (by simp; omega)
  unfold f5_j4
  rw [h1, bnd_some', h3, bnd_some', h2, bnd_some', h4, bnd_some', f10_good m hf, bnd_some', f10_good m hf2, bnd_some']
  cases hw : wordS a2 with
  | false =>
    simp only [f12_word m _ hw, bnd_some', f5_r3, f5_r2, f5_r1]
    simp [f14_refl m [] (by simp) hm, bnd, cnd]
  | true =>
    obtain ⟨r, e1, r1⟩ := f12_good m (by rw [ysOf_len]; exact hl) hw (ys := ysOf a0)
    obtain ⟨r', e2, r2⟩ := f12_good m (by rw [ysOf_len]; omega) hw (ys := ysOf (a0.drop k ++ a0.take k))
    have : r = r' := Rk.uniq r1 (r2.perm (hp.map _))
    subst this
    have hrl := r1.len
    rw [ysOf_len] at hrl
    rw [e1, bnd_some', e2, bnd_some']
    simp only [f5_r3, f5_r2, f5_r1]
    simp [f14_refl m r (by omega) hm, bnd, cnd]
theorem plain5 (a0 : List S39) (a1 : Int) (a2 : ByteArray) (h0 : (WL W40) a0) (h1 : WI a1) (h2 : WStr a2) : ∃ m, f5 m a0 a1 a2 = some true := by
  refine ⟨5000, ?_⟩
  have hm : 4001 < 5000 := by omega
  unfold f5
  rw [f9_true 5000 hm, bnd_some', f11_eq 5000 hm]
  simp only [Bool.not_true, cnd_false, bnd_some', f5_r5]
  cases hf : flt a0 with
  | some f =>
    simp only [Option.getD_some, isz_no (flt_code hf), Bool.not_false, Bool.true_or, cnd_true]
  | none =>
    obtain ⟨hl, hall⟩ := flt_none hf
    by_cases hz : a0.length = 0
    · simp [hz, cnd]
    · have hb : (!((((Option.none : Option S27).getD ⟨0, 0⟩).fCode == 0) && ((((Option.none : Option S27).getD ⟨0, 0⟩).fIndex == 0) && true)) || ((a0.length : Int) == 0)) = false := by
        have : ((a0.length : Int) == 0) = false := by simp only [beq_eq_false_iff_ne, ne_eq]; omega
        rw [this]; rfl
      rw [hb, cnd_false]
      have hr : irem a1 (a0.length : Int) = some (Int.tmod a1 (a0.length : Int)) := by unfold irem; rw [if_neg (by omega : ¬ (a0.length : Int) = 0)]
      rw [hr, bnd_some']
      have hb1 : Int.tmod a1 (a0.length : Int) < (a0.length : Int) := Int.tmod_lt_of_pos _ (by omega)
      have hb2 : -(a0.length : Int) < Int.tmod a1 (a0.length : Int) := by
        exact Int.lt_tmod_of_pos a1 (by omega)
      generalize Int.tmod a1 (a0.length : Int) = v at hb1 hb2
      by_cases hv : v < 0
      · rw [decide_eq_true hv, cnd_true, w64_id ⟨by omega, by omega⟩]
        obtain ⟨k, hk⟩ : ∃ k : Nat, v + (a0.length : Int) = (k : Int) := ⟨(v + (a0.length : Int)).toNat, by omega⟩
        rw [hk]
        exact f5_j4_eq 5000 hm a0 a2 hf k (by omega)
      · rw [decide_eq_false hv, cnd_false]
        obtain ⟨k, hk⟩ : ∃ k : Nat, v = (k : Int) := ⟨v.toNat, by omega⟩
        rw [hk]
        exact f5_j4_eq 5000 hm a0 a2 hf k (by omega)
end Go.Abs
