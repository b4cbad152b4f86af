import Derived.Test.YtbeegandhppniaaAbsW
namespace Go.Abs
set_option linter.unusedVariables false
set_option linter.unusedSimpArgs false
set_option linter.unnecessarySimpa false
@[simp] theorem cnd_true {α : Type} (x y : Option α) : cnd true x y = x := rfl
@[simp] theorem cnd_false {α : Type} (x y : Option α) : cnd false x y = y := rfl
@[simp] theorem bnd_some' {α β : Type} (a : α) (f : α → Option β) : bnd (some a) f = f a := rfl
@[simp] theorem bnd_none {α β : Type} (f : α → Option β) : bnd none f = none := rfl
@[simp] theorem brk_inl {R A B : Type} (r : R) (f : R → Option B) (g : A → Option B) : brk (some (.inl r)) f g = f r := rfl
@[simp] theorem brk_inr {R A B : Type} (a : A) (f : R → Option B) (g : A → Option B) : brk (some (.inr a)) f g = g a := rfl
theorem w64_id {n : Int} (h : -9223372036854775808 ≤ n ∧ n ≤ 9223372036854775807) : w64 n = n := by
 unfold w64 IntKind.wrap
 simp [IntKind.bits, IntKind.signed]
 omega
def scan {α R S : Type} (g : Int → S → α → Option (R ⊕ S)) : Int → S → List α → Option (R ⊕ S)
 | _, s, [] => some (.inr s)
 | i, s, x :: r => match g i s x with
  | some (.inl r) => some (.inl r)
  | some (.inr s') => scan g (i + 1) s' r
  | none => none
def turn {α R S A : Type} (xs : List α) (mk : S → Int → A) (g : Int → S → α → Option (R ⊕ S)) (s : S) (i : Nat) : Option (Stp R A) := match xs[i]? with
 | some x => match g i s x with
  | some (.inl r) => some (.ret r)
  | some (.inr s') => some (.nxt (mk s' ((i : Int) + 1)))
  | none => none
 | none => some (.brk (mk s i))
def landed {R S A : Type} (mk : S → Int → A) (n : Nat) : Option (R ⊕ S) → Option (R ⊕ A)
 | some (.inl r) => some (.inl r)
 | some (.inr s) => some (.inr (mk s n))
 | none => none
theorem iter_scan {α R S A : Type} (xs : List α) (B : A → Option (Stp R A)) (mk : S → Int → A) (g : Int → S → α → Option (R ⊕ S)) (hB : ∀ (s : S) (i : Nat), i ≤ xs.length → B (mk s i) = turn xs mk g s i) :
  ∀ (m i : Nat) (s : S), i ≤ xs.length → xs.length < m + i → iter B m (mk s i) = landed mk xs.length (scan g i s (xs.drop i))
 | 0, i, s, h1, h2 => by omega
 | m + 1, i, s, h1, h2 => by
  unfold iter
  rw [hB s i h1]
  unfold turn
  rcases Nat.lt_or_ge i xs.length with hlt | hge
  ·rw [List.getElem?_eq_getElem hlt, List.drop_eq_getElem_cons hlt]
   simp only [scan]
   cases hg : g i s xs[i] with
   | none => rfl
   | some o =>
    cases o with
    | inl r => rfl
    | inr s' =>
     have := iter_scan xs B mk g hB m (i + 1) s' hlt (by omega)
     exact this
  ·have : i = xs.length := by omega
   subst this
   simp [scan, landed]
theorem body_turn {α R S A : Type} {xs : List α} {mk : S → Int → A} {g : Int → S → α → Option (R ⊕ S)} {s : S} {i : Nat} {K : α → Option (Stp R A)} {z : A} (hz : z = mk s i)
  (hK : ∀ x, xs[i]? = some x → K x = match g i s x with
   | some (.inl r) => some (.ret r)
   | some (.inr s') => some (.nxt (mk s' ((i : Int) + 1)))
   | none => none) : cnd (decide ((i : Int) < (xs.length : Int))) (bnd (idx xs (i : Int)) K) (some (.brk z)) = turn xs mk g s i := by
 unfold turn
 rcases Nat.lt_or_ge i xs.length with hlt | hge
 ·have h1 : decide ((i : Int) < (xs.length : Int)) = true := by simpa using hlt
  have h2 : idx xs (i : Int) = some xs[i] := by simp [idx, List.getElem?_eq_getElem hlt]
  have h3 := List.getElem?_eq_getElem hlt
  rw [h1, h2, h3]
  exact hK _ h3
 ·have h1 : decide ((i : Int) < (xs.length : Int)) = false := by simpa using hge
  rw [h1, List.getElem?_eq_none hge, hz]
  rfl
end Go.Abs
