import Derived.Test.YtgbhimkbfaebeaaGreatDoorAbsV
import Derived.Test.YtgbhimkbfaebeaaGreatDoorAbsH
import Derived.Test.YtgbhimkbfaebeaaGreatDoorAbsSF
import Derived.MapKept
namespace Go.Abs
open Go.Sort Go.Proofs
set_option linter.unusedVariables false
set_option linter.unusedSimpArgs false
set_option linter.unnecessarySimpa false
set_option maxRecDepth 100000
structure TO {α : Type} (c : α → α → Int) : Prop where
 eq : ∀ x y, c x y = 0 ↔ x = y
 sw : ∀ x y, c x y < 0 ↔ 0 < c y x
 tr : ∀ x y z, c x y < 0 → c y z < 0 → c x z < 0
section
variable {α : Type} {c : α → α → Int}
theorem TO.refl (h : TO c) (x : α) : c x x = 0 := (h.eq x x).2 rfl
end
abbrev bls (a b : List UInt8) : Bool := Op.bytesLess a b
theorem u8_lt {a b : UInt8} : (decide (a < b) = true) ↔ a.toNat < b.toNat := by simp [UInt8.lt_iff_toNat_lt]
theorem bls_irrefl : ∀ l, bls l l = false
 | [] => rfl
 | a :: l => by
  have := bls_irrefl l
  simp only [bls, Op.bytesLess] at this ⊢
  simp [this]
theorem bls_trans : ∀ {a b c : List UInt8}, bls a b = true → bls b c = true → bls a c = true
 | _, _, [], _, h => by simp [bls, Op.bytesLess] at h
 | [], _, _ :: _, _, _ => by simp [bls, Op.bytesLess]
 | x :: a, [], z :: c, h, _ => by simp [bls, Op.bytesLess] at h
 | x :: a, y :: b, z :: c, h, g => by
  simp only [bls, Op.bytesLess, Bool.or_eq_true, Bool.and_eq_true, beq_iff_eq, u8_lt] at h g ⊢
  rcases h with h | ⟨rfl, h⟩
  ·rcases g with g | ⟨rfl, g⟩
   ·exact .inl (by omega)
   ·exact .inl h
  ·rcases g with g | ⟨rfl, g⟩
   ·exact .inl g
   ·exact .inr ⟨rfl, bls_trans h g⟩
theorem bls_tri : ∀ (a b : List UInt8), bls a b = true ∨ a = b ∨ bls b a = true
 | [], [] => .inr (.inl rfl)
 | [], _ :: _ => .inl rfl
 | _ :: _, [] => .inr (.inr rfl)
 | x :: a, y :: b => by
  simp only [bls, Op.bytesLess, Bool.or_eq_true, Bool.and_eq_true, beq_iff_eq, u8_lt]
  rcases Nat.lt_trichotomy x.toNat y.toNat with h | h | h
  ·exact .inl (.inl h)
  ·have hxy : x = y := UInt8.toNat_inj.1 h
   subst hxy
   rcases bls_tri a b with h | h | h
   ·exact .inl (.inr ⟨rfl, h⟩)
   ·exact .inr (.inl (by rw [h]))
   ·exact .inr (.inr (.inr ⟨rfl, h⟩))
  ·exact .inr (.inr (.inl h))
theorem bls_asymm {a b : List UInt8} (h : bls a b = true) : bls b a = false := by
 cases hq : bls b a with
 | false => rfl
 | true => have := bls_trans h hq; rw [bls_irrefl] at this; cases this
def orr : List Int → Int
 | [] => 0
 | x :: r => if x ≠ 0 then x else orr r
end Go.Abs
