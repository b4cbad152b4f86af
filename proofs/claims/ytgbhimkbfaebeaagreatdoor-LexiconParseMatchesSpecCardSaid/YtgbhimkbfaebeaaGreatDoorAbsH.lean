import Derived.Test.YtgbhimkbfaebeaaGreatDoorAbsV
import Derived.Test.YtgbhimkbfaebeaaGreatDoorAbsU
namespace Go.Abs
set_option linter.unusedVariables false
set_option linter.unusedSimpArgs false
set_option linter.unnecessarySimpa false
def allP {α : Type} (P : Int → α → Bool) : Int → List α → Bool
 | _, [] => true
 | i, x :: r => P i x && allP P (i + 1) r
theorem scan_allP {α R : Type} (P : Int → α → Bool) (c : R) : ∀ (xs : List α) (i : Int), scan (fun i (_ : Unit) x => if P i x then some (.inr ()) else some (.inl c)) i () xs = if allP P i xs then some (.inr ()) else some (.inl c)
 | [], i => rfl
 | x :: r, i => by
  by_cases h : P i x = true
  ·simp only [scan, h, if_true, allP, Bool.true_and]
   exact scan_allP P c r (i + 1)
  ·simp [scan, allP, h]
theorem allP_all {α : Type} (p : α → Bool) : ∀ (l : List α) (i : Int), allP (fun _ x => p x) i l = l.all p
 | [], i => rfl
 | x :: r, i => by simp only [allP, List.all_cons, allP_all p r]
theorem scan_all {α R : Type} (p : α → Bool) (c : R) (xs : List α) (i : Int) : scan (fun _ (_ : Unit) x => if p x then some (.inr ()) else some (.inl c)) i () xs = if xs.all p then some (.inr ()) else some (.inl c) := by
 rw [scan_allP (fun _ x => p x), allP_all]
theorem idx_get {α : Type} (l : List α) (i : Nat) : idx l (i : Int) = l[i]? := by
 unfold idx
 rw [if_pos (by omega), Int.toNat_natCast]
theorem body_turn' {α R S A : Type} {xs : List α} {mk : S → Int → A} {g : Int → S → α → Option (R ⊕ S)} {s : S} {i : Nat} {K : Option (Stp R A)} {z : A} (hz : z = mk s i)
  (hK : ∀ x, xs[i]? = some x → K = match g i s x with
   | some (.inl r) => some (.ret r)
   | some (.inr s') => some (.nxt (mk s' ((i : Int) + 1)))
   | none => none) : cnd (decide ((i : Int) < (xs.length : Int))) K (some (.brk z)) = turn xs mk g s i := by
 unfold turn
 rcases Nat.lt_or_ge i xs.length with hlt | hge
 ·have h1 : decide ((i : Int) < (xs.length : Int)) = true := by simpa using hlt
  have h3 := List.getElem?_eq_getElem hlt
  rw [h1, h3]
  exact hK _ h3
 ·have h1 : decide ((i : Int) < (xs.length : Int)) = false := by simpa using hge
  rw [h1, List.getElem?_eq_none hge, hz]
  rfl
theorem app_some {α : Type} (b : Nat) (xs ys : List α) (h : (xs.length + ys.length) * b ≤ 140737488355328) (h2 : xs.length + ys.length ≤ 1000000000) : app b xs ys = some (xs ++ ys) := by
 unfold app
 rw [if_pos ⟨h, by unfold maxLen; omega⟩]
def byt (s : ByteArray) : List Int := s.data.toList.map fun b => (b.toNat : Int)
theorem byt_len (s : ByteArray) : (byt s).length = s.size := by unfold byt; rw [List.length_map, Array.length_toList]; rfl
theorem sidx_get (s : ByteArray) (i : Nat) : sidx s (i : Int) = (byt s)[i]? := by
 unfold sidx byt
 rw [if_pos (by omega), Int.toNat_natCast, List.getElem?_map, Array.getElem?_toList]
 rfl
end Go.Abs
