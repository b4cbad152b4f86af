import Derived.Test.YtbeegandhppniaaAbsV
import Derived.Test.YtbeegandhppniaaAbsH
import Derived.Test.YtbeegandhppniaaAbsSF
import Derived.MapKept
namespace Go.Abs
open Go.Sort Go.Proofs
set_option linter.unusedVariables false
set_option linter.unusedSimpArgs false
set_option linter.unnecessarySimpa false
set_option maxRecDepth 100000
structure TO {α : Type} (c : α → α → Int) : Prop where
 eq : ∀ x y, c x y = 0 ↔ x = y
 sw : ∀ x y, c x y < 0 ↔ 0 < c y x
 tr : ∀ x y z, c x y < 0 → c y z < 0 → c x z < 0
section
variable {α : Type} {c : α → α → Int}
theorem TO.refl (h : TO c) (x : α) : c x x = 0 := (h.eq x x).2 rfl
theorem TO.lt_iff (x y : α) : ltOf c x y = true ↔ c x y < 0 := by simp [ltOf]
theorem TO.lt_false (x y : α) : ltOf c x y = false ↔ 0 ≤ c x y := by
 rw [← Bool.not_eq_true, TO.lt_iff]; omega
theorem TO.swo (h : TO c) : SWO (ltOf c) := by
 refine ⟨fun x => ?_, fun x y z h1 h2 => ?_, fun x y z h1 h2 => ?_⟩
 ·rw [TO.lt_false, h.refl]; exact Int.le_refl _
 ·rw [TO.lt_iff] at *
  exact h.tr x y z h1 h2
 ·rw [TO.lt_false] at *
  rcases Int.lt_or_eq_of_le h1 with h1 | h1
  ·rcases Int.lt_or_eq_of_le h2 with h2 | h2
   ·have a := (h.sw y x).2 h1
    have b := (h.sw z y).2 h2
    have := (h.sw z x).1 (h.tr z y x b a)
    omega
   ·obtain rfl := (h.eq y z).1 h2.symm
    omega
  ·obtain rfl := (h.eq x y).1 h1.symm
   exact h2
theorem TO.tot (h : TO c) (x y : α) (h1 : ltOf c x y = false) (h2 : ltOf c y x = false) : x = y := by
 rw [TO.lt_false] at *
 by_cases h3 : c x y = 0
 ·exact (h.eq x y).1 h3
 ·have := (h.sw y x).2 (by omega)
  omega
def leC (c : α → α → Int) (a b : α) : Bool := !(ltOf c b a)
def srtC (c : α → α → Int) (l : List α) : List α := l.mergeSort (leC c)
theorem srtC_perm (l : List α) : (srtC c l).Perm l := List.mergeSort_perm l (leC c)
theorem srtC_sorted (h : TO c) (l : List α) : (srtC c l).Pairwise fun a b => ltOf c b a = false := by
 have h := List.pairwise_mergeSort (le := leC c) (fun x y z h1 h2 => ?_) (fun a b => ?_) l
 ·exact h.imp fun {a b} h => by simpa [leC] using h
 ·simp only [leC, Bool.not_eq_true'] at *
  exact h.swo.ntrans z y x h2 h1
 ·simp only [leC, Bool.or_eq_true, Bool.not_eq_true']
  cases hq : ltOf c b a with
  | false => exact .inl rfl
  | true =>
   right
   cases hr : ltOf c a b with
   | false => rfl
   | true => have := h.swo.trans a b a hr hq; rw [h.swo.irrefl] at this; cases this
theorem srtC_uniq (h : TO c) : ∀ {l l' : List α}, l.Perm l' → l.Pairwise (fun a b => ltOf c b a = false) → l'.Pairwise (fun a b => ltOf c b a = false) → l = l'
 | [], l', hp, _, _ => (List.nil_perm.1 hp).symm
 | x :: r, [], hp, _, _ => absurd hp.length_eq (by simp)
 | x :: r, y :: s, hp, h1, h2 => by
  have a1 := List.pairwise_cons.1 h1
  have a2 := List.pairwise_cons.1 h2
  have hxy : x = y := by
   rcases List.mem_cons.1 (hp.mem_iff.1 (List.mem_cons_self (a := x) (l := r))) with e | hx
   ·exact e
   ·rcases List.mem_cons.1 (hp.mem_iff.2 (List.mem_cons_self (a := y) (l := s))) with e | hy
    ·exact e.symm
    ·exact h.tot x y (a2.1 x hx) (a1.1 y hy)
  subst hxy
  rw [srtC_uniq h (List.Perm.cons_inv hp) a1.2 a2.2]
theorem srtC_is (h : TO c) (l l' : List α) (hp : l'.Perm l) (hs : l'.Pairwise fun a b => ltOf c b a = false) : l' = srtC c l :=
 srtC_uniq h (hp.trans (srtC_perm l).symm) hs (srtC_sorted h l)
end
def lexC {α β γ : Type} (f : α → β) (g : α → γ) (c : β → β → Int) (d : γ → γ → Int) (x y : α) : Int := if c (f x) (f y) ≠ 0 then c (f x) (f y) else d (g x) (g y)
theorem TO.lex {α β γ : Type} {f : α → β} {g : α → γ} {c : β → β → Int} {d : γ → γ → Int} (hc : TO c) (hd : TO d) (hi : ∀ x y, f x = f y → g x = g y → x = y) : TO (lexC f g c d) := by
 have key : ∀ x y, (lexC f g c d x y = c (f x) (f y) ∧ c (f x) (f y) ≠ 0) ∨ (f x = f y ∧ lexC f g c d x y = d (g x) (g y)) := by
  intro x y
  unfold lexC
  by_cases h : c (f x) (f y) = 0
  ·rw [if_neg (by simp [h])]
   exact .inr ⟨(hc.eq _ _).1 h, rfl⟩
  ·rw [if_pos h]
   exact .inl ⟨rfl, h⟩
 have lt : ∀ x y, lexC f g c d x y < 0 ↔ c (f x) (f y) < 0 ∨ (f x = f y ∧ d (g x) (g y) < 0) := by
  intro x y
  rcases key x y with ⟨h1, h2⟩ | ⟨h1, h2⟩
  ·rw [h1]
   constructor
   ·exact .inl
   ·rintro (h | ⟨h, _⟩)
    ·exact h
    ·exact absurd ((hc.eq _ _).2 h) h2
  ·rw [h2, h1, hc.refl]
   simp
 have gt : ∀ x y, 0 < lexC f g c d y x ↔ 0 < c (f y) (f x) ∨ (f x = f y ∧ 0 < d (g y) (g x)) := by
  intro x y
  rcases key y x with ⟨h1, h2⟩ | ⟨h1, h2⟩
  ·rw [h1]
   constructor
   ·exact .inl
   ·rintro (h | ⟨h, _⟩)
    ·exact h
    ·exact absurd ((hc.eq _ _).2 h.symm) h2
  ·rw [h2, h1, hc.refl]
   simp
 refine ⟨fun x y => ?_, fun x y => ?_, fun x y z h1 h2 => ?_⟩
 ·constructor
  ·intro h
   rcases key x y with ⟨h1, h2⟩ | ⟨h1, h2⟩
   ·exact absurd (h1 ▸ h) h2
   ·exact hi x y h1 ((hd.eq _ _).1 (h2 ▸ h))
  ·rintro rfl
   unfold lexC
   rw [hc.refl, if_neg (by simp), hd.refl]
 ·rw [lt, gt, hc.sw, hd.sw]
 ·rw [lt] at *
  rcases h1 with h1 | ⟨h1, h1'⟩
  ·rcases h2 with h2 | ⟨h2, h2'⟩
   ·exact .inl (hc.tr _ _ _ h1 h2)
   ·rw [← h2]; exact .inl h1
  ·rw [h1]
   rcases h2 with h2 | ⟨h2, h2'⟩
   ·exact .inl h2
   ·exact .inr ⟨h2, hd.tr _ _ _ h1' h2'⟩
def cmpI (x y : Int) : Int := if x < y then -1 else if x > y then 1 else 0
theorem toI : TO cmpI := by
 refine ⟨fun x y => ?_, fun x y => ?_, fun x y z => ?_⟩ <;> unfold cmpI
 ·repeat' split
  all_goals omega
 ·repeat' split
  all_goals omega
 ·repeat' split
  all_goals omega
theorem TO.comap {α β : Type} {c : β → β → Int} (h : TO c) (f : α → β) (hi : ∀ x y, f x = f y → x = y) : TO fun x y => c (f x) (f y) :=
 ⟨fun x y => ⟨fun e => hi x y ((h.eq _ _).1 e), fun e => by subst e; exact h.refl _⟩, fun x y => h.sw _ _, fun x y z => h.tr _ _ _⟩
def prodC {β γ : Type} (c : β → β → Int) (d : γ → γ → Int) : β × γ → β × γ → Int := lexC Prod.fst Prod.snd c d
theorem TO.prod {β γ : Type} {c : β → β → Int} {d : γ → γ → Int} (hc : TO c) (hd : TO d) : TO (prodC c d) := TO.lex hc hd fun x y h1 h2 => Prod.ext h1 h2
def orr : List Int → Int
 | [] => 0
 | x :: r => if x ≠ 0 then x else orr r
theorem scan_orr : ∀ (l : List Int) (i : Int), scan (fun _ (_ : Unit) (x : Int) => if x ≠ 0 then some (.inl x) else some (.inr ())) i () l = if orr l ≠ 0 then some (.inl (orr l)) else some (.inr ())
 | [], i => by simp [scan, orr]
 | x :: r, i => by
  by_cases h : x = 0
  ·simp only [scan, orr, h, ne_eq, not_true, if_false]
   exact scan_orr r (i + 1)
  ·simp only [scan, orr, ne_eq, h, not_false_eq_true, if_true]
theorem allM_map {α β γ : Type} {f : β → Option γ} {k : α → β} {r : α → γ} : ∀ (l : List α), (∀ x ∈ l, f (k x) = some (r x)) → allM f (l.map k) = some (l.map r)
 | [], _ => rfl
 | x :: l, h => by
  simp only [List.map_cons, allM, h x List.mem_cons_self, allM_map l fun y hy => h y (List.mem_cons_of_mem _ hy)]
end Go.Abs
