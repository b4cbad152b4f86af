import Derived.Test.YtmoiipfomcgomaaGreatDoorWF1c
import Derived.Test.YtmoiipfomcgomaaGreatDoorAbsV
import Derived.Test.YtmoiipfomcgomaaGreatDoorAbsH
import Derived.Test.YtmoiipfomcgomaaGreatDoorAbsHC
import Derived.Test.YtmoiipfomcgomaaGreatDoorAbsSF
import Derived.Test.YtmoiipfomcgomaaGreatDoorShelf
import Derived.Shelf.SlSortCmp.NoneTotal
import Derived.Test.YtmoiipfomcgomaaGreatDoorSL
namespace Go.Abs.En
open Go.Sort Go.Proofs
set_option linter.unusedVariables false
set_option maxRecDepth 100000
structure TO {α : Type} (c : α → α → Int) : Prop where
 eq : ∀ x y, c x y = 0 ↔ x = y
 sw : ∀ x y, c x y < 0 ↔ 0 < c y x
 tr : ∀ x y z, c x y < 0 → c y z < 0 → c x z < 0
section
variable {α : Type} {c : α → α → Int}
theorem TO.refl (h : TO c) (x : α) : c x x = 0 := (h.eq x x).2 rfl
theorem TO.lt_iff (x y : α) : ltOf c x y = true ↔ c x y < 0 := by simp [ltOf]
theorem TO.lt_false (x y : α) : ltOf c x y = false ↔ 0 ≤ c x y := by
 rw [← Bool.not_eq_true, TO.lt_iff]; omega
theorem TO.swo (h : TO c) : SWO (ltOf c) := by
 refine ⟨fun x => ?_, fun x y z h1 h2 => ?_, fun x y z h1 h2 => ?_⟩
 ·rw [TO.lt_false, h.refl]; exact Int.le_refl _
 ·rw [TO.lt_iff] at *
  exact h.tr x y z h1 h2
 ·rw [TO.lt_false] at *
  rcases Int.lt_or_eq_of_le h1 with h1 | h1
  ·rcases Int.lt_or_eq_of_le h2 with h2 | h2
   ·have a := (h.sw y x).2 h1
    have b := (h.sw z y).2 h2
    have := (h.sw z x).1 (h.tr z y x b a)
    omega
   ·obtain rfl := (h.eq y z).1 h2.symm
    omega
  ·obtain rfl := (h.eq x y).1 h1.symm
   exact h2
theorem TO.tot (h : TO c) (x y : α) (h1 : ltOf c x y = false) (h2 : ltOf c y x = false) : x = y := by
 rw [TO.lt_false] at *
 by_cases h3 : c x y = 0
 ·exact (h.eq x y).1 h3
 ·have := (h.sw y x).2 (by omega)
  omega
def leC (c : α → α → Int) (a b : α) : Bool := !(ltOf c b a)
def srtC (c : α → α → Int) (l : List α) : List α := l.mergeSort (leC c)
theorem srtC_perm (l : List α) : (srtC c l).Perm l := List.mergeSort_perm l (leC c)
theorem srtC_sorted (h : TO c) (l : List α) : (srtC c l).Pairwise fun a b => ltOf c b a = false := by
 have h := List.pairwise_mergeSort (le := leC c) (fun x y z h1 h2 => ?_) (fun a b => ?_) l
 ·exact h.imp fun {a b} h => by simpa [leC] using h
 ·simp only [leC, Bool.not_eq_true'] at *
  exact h.swo.ntrans z y x h2 h1
 ·simp only [leC, Bool.or_eq_true, Bool.not_eq_true']
  cases hq : ltOf c b a with
  | false => exact .inl rfl
  | true =>
   right
   cases hr : ltOf c a b with
   | false => rfl
   | true => have := h.swo.trans a b a hr hq; rw [h.swo.irrefl] at this; cases this
theorem srtC_uniq (h : TO c) : ∀ {l l' : List α}, l.Perm l' → l.Pairwise (fun a b => ltOf c b a = false) → l'.Pairwise (fun a b => ltOf c b a = false) → l = l'
 | [], l', hp, _, _ => (List.nil_perm.1 hp).symm
 | x :: r, [], hp, _, _ => absurd hp.length_eq (by simp)
 | x :: r, y :: s, hp, h1, h2 => by
  have a1 := List.pairwise_cons.1 h1
  have a2 := List.pairwise_cons.1 h2
  have hxy : x = y := by
   rcases List.mem_cons.1 (hp.mem_iff.1 (List.mem_cons_self (a := x) (l := r))) with e | hx
   ·exact e
   ·rcases List.mem_cons.1 (hp.mem_iff.2 (List.mem_cons_self (a := y) (l := s))) with e | hy
    ·exact e.symm
    ·exact h.tot x y (a2.1 x hx) (a1.1 y hy)
  subst hxy
  rw [srtC_uniq h (List.Perm.cons_inv hp) a1.2 a2.2]
theorem srtC_is (h : TO c) (l l' : List α) (hp : l'.Perm l) (hs : l'.Pairwise fun a b => ltOf c b a = false) : l' = srtC c l :=
 srtC_uniq h (hp.trans (srtC_perm l).symm) hs (srtC_sorted h l)
end
def lexC {α β γ : Type} (f : α → β) (g : α → γ) (c : β → β → Int) (d : γ → γ → Int) (x y : α) : Int := if c (f x) (f y) ≠ 0 then c (f x) (f y) else d (g x) (g y)
theorem TO.lex {α β γ : Type} {f : α → β} {g : α → γ} {c : β → β → Int} {d : γ → γ → Int} (hc : TO c) (hd : TO d) (hi : ∀ x y, f x = f y → g x = g y → x = y) : TO (lexC f g c d) := by
 have key : ∀ x y, (lexC f g c d x y = c (f x) (f y) ∧ c (f x) (f y) ≠ 0) ∨ (f x = f y ∧ lexC f g c d x y = d (g x) (g y)) := by
  intro x y
  unfold lexC
  by_cases h : c (f x) (f y) = 0
  ·rw [if_neg (by simp [h])]
   exact .inr ⟨(hc.eq _ _).1 h, rfl⟩
  ·rw [if_pos h]
   exact .inl ⟨rfl, h⟩
 have lt : ∀ x y, lexC f g c d x y < 0 ↔ c (f x) (f y) < 0 ∨ (f x = f y ∧ d (g x) (g y) < 0) := by
  intro x y
  rcases key x y with ⟨h1, h2⟩ | ⟨h1, h2⟩
  ·rw [h1]
   constructor
   ·exact .inl
   ·rintro (h | ⟨h, _⟩)
    ·exact h
    ·exact absurd ((hc.eq _ _).2 h) h2
  ·rw [h2, h1, hc.refl]
   simp
 have gt : ∀ x y, 0 < lexC f g c d y x ↔ 0 < c (f y) (f x) ∨ (f x = f y ∧ 0 < d (g y) (g x)) := by
  intro x y
  rcases key y x with ⟨h1, h2⟩ | ⟨h1, h2⟩
  ·rw [h1]
   constructor
   ·exact .inl
   ·rintro (h | ⟨h, _⟩)
    ·exact h
    ·exact absurd ((hc.eq _ _).2 h.symm) h2
  ·rw [h2, h1, hc.refl]
   simp
 refine ⟨fun x y => ?_, fun x y => ?_, fun x y z h1 h2 => ?_⟩
 ·constructor
  ·intro h
   rcases key x y with ⟨h1, h2⟩ | ⟨h1, h2⟩
   ·exact absurd (h1 ▸ h) h2
   ·exact hi x y h1 ((hd.eq _ _).1 (h2 ▸ h))
  ·rintro rfl
   unfold lexC
   rw [hc.refl, if_neg (by simp), hd.refl]
 ·rw [lt, gt, hc.sw, hd.sw]
 ·rw [lt] at *
  rcases h1 with h1 | ⟨h1, h1'⟩
  ·rcases h2 with h2 | ⟨h2, h2'⟩
   ·exact .inl (hc.tr _ _ _ h1 h2)
   ·rw [← h2]; exact .inl h1
  ·rw [h1]
   rcases h2 with h2 | ⟨h2, h2'⟩
   ·exact .inl h2
   ·exact .inr ⟨h2, hd.tr _ _ _ h1' h2'⟩
def cmpI (x y : Int) : Int := if x < y then -1 else if x > y then 1 else 0
def cmpB (x y : ByteArray) : Int := if Op.bytesLess x.toList y.toList then -1 else if !(Op.bytesLess x.toList y.toList || x.toList == y.toList) then 1 else 0
theorem toI : TO cmpI := by
 refine ⟨fun x y => ?_, fun x y => ?_, fun x y z => ?_⟩ <;> unfold cmpI
 ·repeat' split
  all_goals omega
 ·repeat' split
  all_goals omega
 ·repeat' split
  all_goals omega
abbrev bls (a b : List UInt8) : Bool := Op.bytesLess a b
theorem u8_lt {a b : UInt8} : (decide (a < b) = true) ↔ a.toNat < b.toNat := by simp [UInt8.lt_iff_toNat_lt]
theorem bls_irrefl : ∀ l, bls l l = false
 | [] => rfl
 | a :: l => by
  have := bls_irrefl l
  simp only [bls, Op.bytesLess] at this ⊢
  simp [this]
theorem bls_trans : ∀ {a b c : List UInt8}, bls a b = true → bls b c = true → bls a c = true
 | _, _, [], _, h => by simp [bls, Op.bytesLess] at h
 | [], _, _ :: _, _, _ => by simp [bls, Op.bytesLess]
 | x :: a, [], z :: c, h, _ => by simp [bls, Op.bytesLess] at h
 | x :: a, y :: b, z :: c, h, g => by
  simp only [bls, Op.bytesLess, Bool.or_eq_true, Bool.and_eq_true, beq_iff_eq, u8_lt] at h g ⊢
  rcases h with h | ⟨rfl, h⟩
  ·rcases g with g | ⟨rfl, g⟩
   ·exact .inl (by omega)
   ·exact .inl h
  ·rcases g with g | ⟨rfl, g⟩
   ·exact .inl g
   ·exact .inr ⟨rfl, bls_trans h g⟩
theorem bls_tri : ∀ (a b : List UInt8), bls a b = true ∨ a = b ∨ bls b a = true
 | [], [] => .inr (.inl rfl)
 | [], _ :: _ => .inl rfl
 | _ :: _, [] => .inr (.inr rfl)
 | x :: a, y :: b => by
  simp only [bls, Op.bytesLess, Bool.or_eq_true, Bool.and_eq_true, beq_iff_eq, u8_lt]
  rcases Nat.lt_trichotomy x.toNat y.toNat with h | h | h
  ·exact .inl (.inl h)
  ·have hxy : x = y := UInt8.toNat_inj.1 h
   subst hxy
   rcases bls_tri a b with h | h | h
   ·exact .inl (.inr ⟨rfl, h⟩)
   ·exact .inr (.inl (by rw [h]))
   ·exact .inr (.inr (.inr ⟨rfl, h⟩))
  ·exact .inr (.inr (.inl h))
theorem bls_asymm {a b : List UInt8} (h : bls a b = true) : bls b a = false := by
 cases hq : bls b a with
 | false => rfl
 | true => have := bls_trans h hq; rw [bls_irrefl] at this; cases this
theorem beqB {a b : ByteArray} : (a.toList == b.toList) = true ↔ a = b := by
 rw [← beq_toListBytes]; exact MapKept.bytes_beq a b
theorem ba_eq {x y : ByteArray} (h : x.toList = y.toList) : x = y := beqB.1 (by simp [h])
theorem cmpB_lt (x y : ByteArray) : cmpB x y < 0 ↔ bls x.toList y.toList = true := by
 unfold cmpB
 by_cases h : Op.bytesLess x.toList y.toList = true
 ·rw [if_pos h]; exact ⟨fun _ => h, fun _ => by omega⟩
 ·rw [if_neg h]
  constructor
  ·intro g; split at g <;> omega
  ·intro g; exact absurd g h
theorem cmpB_gt (x y : ByteArray) : 0 < cmpB x y ↔ bls y.toList x.toList = true := by
 unfold cmpB
 by_cases h : Op.bytesLess x.toList y.toList = true
 ·rw [if_pos h]
  exact ⟨fun g => by omega, fun g => by have := bls_asymm h; rw [g] at this; cases this⟩
 ·rw [if_neg h]
  have h' : Op.bytesLess x.toList y.toList = false := by simpa using h
  by_cases h2 : x.toList = y.toList
  ·have : (x.toList == y.toList) = true := by simpa using h2
   rw [this, Bool.or_true, h2, bls_irrefl]
   simp
  ·have : (x.toList == y.toList) = false := by simpa using h2
   rw [this, h']
   simp only [Bool.or_self, Bool.not_false, if_true]
   rcases bls_tri x.toList y.toList with g | g | g
   ·exact absurd g h
   ·exact absurd g h2
   ·exact ⟨fun _ => g, fun _ => by omega⟩
theorem toB : TO cmpB := by
 refine ⟨fun x y => ?_, fun x y => ?_, fun x y z h1 h2 => ?_⟩
 ·constructor
  ·intro h
   rcases bls_tri x.toList y.toList with g | g | g
   ·have := (cmpB_lt x y).2 g; omega
   ·exact ba_eq g
   ·have := (cmpB_gt x y).2 g; omega
  ·rintro rfl
   have h1 := mt (cmpB_lt x x).1 (by rw [bls_irrefl]; simp)
   have h2 := mt (cmpB_gt x x).1 (by rw [bls_irrefl]; simp)
   omega
 ·rw [cmpB_lt, cmpB_gt]
 ·rw [cmpB_lt] at *
  exact bls_trans h1 h2
def cmpT : List ByteArray → List ByteArray → Int
 | [], [] => 0
 | [], _ :: _ => -1
 | _ :: _, [] => 1
 | x :: a, y :: b => if cmpB x y ≠ 0 then cmpB x y else cmpT a b
theorem cmpT_sw : ∀ a b, cmpT a b < 0 ↔ 0 < cmpT b a
 | [], [] => by simp [cmpT]
 | [], _ :: _ => by simp [cmpT]
 | _ :: _, [] => by simp [cmpT]
 | x :: a, y :: b => by
  have ih := cmpT_sw a b
  have hs := toB.sw x y
  have hs2 := toB.sw y x
  simp only [cmpT]
  by_cases h : cmpB x y = 0
  ·have h' : cmpB y x = 0 := by obtain rfl := (toB.eq x y).1 h; exact h
   rw [if_neg (by simp [h]), if_neg (by simp [h'])]
   exact ih
  ·have h' : cmpB y x ≠ 0 := fun e => by obtain rfl := (toB.eq y x).1 e; exact h e
   rw [if_pos h, if_pos h']
   exact hs
theorem cmpT_eq : ∀ a b, cmpT a b = 0 ↔ a = b
 | [], [] => by simp [cmpT]
 | [], _ :: _ => by simp [cmpT]
 | _ :: _, [] => by simp [cmpT]
 | x :: a, y :: b => by
  have ih := cmpT_eq a b
  simp only [cmpT]
  by_cases h : cmpB x y = 0
  ·rw [if_neg (by simp [h]), ih]
   obtain rfl := (toB.eq x y).1 h
   simp
  ·rw [if_pos h]
   constructor
   ·intro g; exact absurd g h
   ·intro g
    obtain ⟨rfl, _⟩ := List.cons.inj g
    exact absurd (toB.refl x) h
theorem cmpT_tr : ∀ a b c, cmpT a b < 0 → cmpT b c < 0 → cmpT a c < 0
 | [], [], c, h, g => by simp [cmpT] at h
 | [], _ :: _, [], h, g => by simp [cmpT] at g
 | [], _ :: _, _ :: _, h, g => by simp [cmpT]
 | _ :: _, [], c, h, g => by simp [cmpT] at h
 | _ :: _, _ :: _, [], h, g => by simp [cmpT] at g
 | x :: a, y :: b, z :: c, h, g => by
  have ih := cmpT_tr a b c
  simp only [cmpT] at h g ⊢
  by_cases h1 : cmpB x y = 0
  ·obtain rfl := (toB.eq x y).1 h1
   rw [if_neg (by simp [h1])] at h
   by_cases h2 : cmpB x z = 0
   ·rw [if_neg (by simp [h2])] at g ⊢
    exact ih h g
   ·rw [if_pos h2] at g ⊢
    exact g
  ·rw [if_pos h1] at h
   by_cases h2 : cmpB y z = 0
   ·obtain rfl := (toB.eq y z).1 h2
    rw [if_pos h1]
    exact h
   ·rw [if_pos h2] at g
    have := toB.tr x y z h g
    rw [if_pos (by omega)]
    exact this
theorem toT : TO cmpT := ⟨cmpT_eq, cmpT_sw, cmpT_tr⟩
theorem TO.comap {α β : Type} {c : β → β → Int} (h : TO c) (f : α → β) (hi : ∀ x y, f x = f y → x = y) : TO fun x y => c (f x) (f y) :=
 ⟨fun x y => ⟨fun e => hi x y ((h.eq _ _).1 e), fun e => by subst e; exact h.refl _⟩, fun x y => h.sw _ _, fun x y z => h.tr _ _ _⟩
def prodC {β γ : Type} (c : β → β → Int) (d : γ → γ → Int) : β × γ → β × γ → Int := lexC Prod.fst Prod.snd c d
theorem TO.prod {β γ : Type} {c : β → β → Int} {d : γ → γ → Int} (hc : TO c) (hd : TO d) : TO (prodC c d) := TO.lex hc hd fun x y h1 h2 => Prod.ext h1 h2
def keyE (x : S40) : ByteArray × ByteArray × List ByteArray × Int := (x.fForm, x.fBase, x.fTags, x.fWeight)
def cmpE (x y : S40) : Int := prodC cmpB (prodC cmpB (prodC cmpT cmpI)) (keyE x) (keyE y)
theorem toE : TO cmpE := (toB.prod (toB.prod (toT.prod toI))).comap keyE fun x y h => by
 cases x; cases y
 simp only [keyE, Prod.mk.injEq] at h
 obtain ⟨rfl, rfl, rfl, rfl⟩ := h
 rfl
def orr : List Int → Int
 | [] => 0
 | x :: r => if x ≠ 0 then x else orr r
theorem cmpE_orr (x y : S40) : cmpE x y = orr [cmpB x.fForm y.fForm, cmpB x.fBase y.fBase, cmpT x.fTags y.fTags, cmpI x.fWeight y.fWeight] := by
 simp only [cmpE, keyE, prodC, lexC, orr]
 repeat' split
 all_goals first | rfl | omega | (simp_all; done)
theorem f50_eq (m : Nat) (x y : ByteArray) : f50 m x y = some (cmpB x y) := by
 have h : ∀ z : ByteArray, f57 m z = some false := fun z => by unfold f57; simp
 unfold f50 cmpB
 simp only [h, bnd, cnd]
 by_cases h1 : Op.bytesLess x.toList y.toList = true
 ·simp [h1]
 ·have h1 : Op.bytesLess x.toList y.toList = false := by simpa using h1
  by_cases h2 : (x.toList == y.toList) = true <;> simp [h1, h2]
theorem f44_eq (m : Nat) (x y : Int) : f44 m x y = some (cmpI x y) := by
 have h : ∀ z : Int, f68 m z = some false := fun z => by unfold f68; simp
 unfold f44 cmpI
 simp only [h, bnd, cnd]
 by_cases h1 : x < y
 ·simp [h1]
 ·by_cases h2 : x > y <;> simp [h1, h2]
theorem scan_orr : ∀ (l : List Int) (i : Int), scan (fun _ (_ : Unit) (x : Int) => if x ≠ 0 then some (.inl x) else some (.inr ())) i () l = if orr l ≠ 0 then some (.inl (orr l)) else some (.inr ())
 | [], i => by simp [scan, orr]
 | x :: r, i => by
  by_cases h : x = 0
  ·simp only [scan, orr, h, ne_eq, not_true, if_false]
   exact scan_orr r (i + 1)
  ·simp only [scan, orr, ne_eq, h, not_false_eq_true, if_true]
theorem f43_eq (m : Nat) (l : List Int) (hl : l.length < m) (hb : l.length ≤ 9223372036854775807) : f43 m l = some (orr l) := by
 have e : iter (fun (y : Int) => f43_B1 m l y) m 0 = landed (fun (_ : Unit) (i : Int) => i) l.length (scan (fun _ (_ : Unit) (x : Int) => if x ≠ 0 then some (.inl x) else some (.inr ())) 0 () l) := by
  refine iter_scan l (fun (y : Int) => f43_B1 m l y) (fun (_ : Unit) (i : Int) => i) _ (fun u i hi => ?_) m 0 () (by omega) (by omega)
  unfold f43_B1
  refine body_turn rfl fun x hx => ?_
  have hil := lt_of_getElem? hx
  have hw : w64 ((i : Int) + 1) = (i : Int) + 1 := w64_id ⟨by omega, by omega⟩
  by_cases h : x = 0
  ·simp [h, hw]
  ·have : (x != 0) = true := by simpa using h
   simp [h, this]
 unfold f43
 rw [e, scan_orr]
 by_cases h : orr l = 0
 ·simp [h, landed]
 ·simp [h, landed]
def fdT : List ByteArray → List ByteArray → Option Int
 | [], _ => none
 | _ :: _, [] => some 1
 | x :: a, y :: b => if cmpB x y ≠ 0 then some (cmpB x y) else fdT a b
theorem cmpT_fd : ∀ a b, cmpT a b = match fdT a b with
  | some r => r
  | none => if a.length < b.length then -1 else 0
 | [], [] => by simp [cmpT, fdT]
 | [], _ :: _ => by simp [cmpT, fdT]
 | _ :: _, [] => by simp [cmpT, fdT]
 | x :: a, y :: b => by
  simp only [cmpT, fdT]
  split
  ·rfl
  ·rw [cmpT_fd a b]; simp
theorem f51_loop (m : Nat) (a b : List ByteArray) (ha : a.length ≤ 9223372036854775807) : ∀ (K i : Nat), i ≤ a.length → a.length - i < K → iter (fun (y : Int) => f51_B1 m a b y) K (i : Int) = match fdT (a.drop i) (b.drop i) with
  | some r => some (.inl r)
  | none => some (.inr (a.length : Int))
 | 0, i, h1, h2 => by omega
 | K + 1, i, h1, h2 => by
  unfold iter
  rcases Nat.lt_or_ge i a.length with hi | hi
  ·have hw : w64 ((i : Int) + 1) = ((i + 1 : Nat) : Int) := by rw [w64_id ⟨by omega, by omega⟩]; omega
   have hda : a.drop i = a[i] :: a.drop (i + 1) := List.drop_eq_getElem_cons hi
   rcases Nat.lt_or_ge i b.length with hj | hj
   ·have hdb : b.drop i = b[i] :: b.drop (i + 1) := List.drop_eq_getElem_cons hj
    have e : f51_B1 m a b (i : Int) = cnd (cmpB a[i] b[i] != 0) (some (.ret (cmpB a[i] b[i]))) (some (.nxt ((i + 1 : Nat) : Int))) := by
     unfold f51_B1
     rw [decide_eq_true (by omega), cnd_true, idx_get, List.getElem?_eq_getElem hi, bnd_some', decide_eq_false (by omega), cnd_false, idx_get, List.getElem?_eq_getElem hj, bnd_some', f50_eq, bnd_some', hw]
    rw [hda, hdb]
    simp only [e, fdT]
    by_cases h : cmpB a[i] b[i] = 0
    ·have hb : (cmpB a[i] b[i] != 0) = false := by simp [h]
     simp only [hb, cnd_false, h, ne_eq, not_true, if_false]
     exact f51_loop m a b ha K (i + 1) hi (by omega)
    ·have hb : (cmpB a[i] b[i] != 0) = true := by simpa using h
     simp only [hb, cnd_true, ne_eq, h, not_false_eq_true, if_true]
   ·have hdb : b.drop i = [] := List.drop_eq_nil_of_le hj
    have e : f51_B1 m a b (i : Int) = some (.ret 1) := by
     unfold f51_B1
     rw [decide_eq_true (by omega), cnd_true, idx_get, List.getElem?_eq_getElem hi, bnd_some', decide_eq_true (by omega), cnd_true]
    rw [hda, hdb]
    simp only [e, fdT]
  ·obtain rfl : i = a.length := by omega
   have hda : a.drop a.length = [] := List.drop_eq_nil_of_le hi
   have e : f51_B1 m a b (a.length : Int) = some (.brk (a.length : Int)) := by
    unfold f51_B1
    rw [decide_eq_false (by omega), cnd_false]
   rw [hda]
   simp only [e, fdT]
theorem f51_eq (m : Nat) (a b : List ByteArray) (ha : a.length < m) (hb : a.length ≤ 9223372036854775807) : f51 m a b = some (cmpT a b) := by
 have h := f51_loop m a b hb m 0 (Nat.zero_le _) (by omega)
 have h : iter (fun (y : Int) => f51_B1 m a b y) m 0 = match fdT a b with
  | some r => some (.inl r)
  | none => some (.inr (a.length : Int)) := h
 unfold f51
 rw [h, cmpT_fd]
 cases fdT a b with
 | some r => rfl
 | none =>
  simp only [brk_inr]
  by_cases hl : a.length < b.length
  ·rw [decide_eq_true (by omega), cnd_true, if_pos hl]
  ·rw [decide_eq_false (by omega), cnd_false, if_neg hl]
theorem f26_eq (m : Nat) (x y : S40) (hm : 5 ≤ m) (hx : x.fTags.length < m) (hb : x.fTags.length ≤ 9223372036854775807) : f26 m x y = some (cmpE x y) := by
 unfold f26
 rw [f50_eq, bnd_some', f50_eq, bnd_some', f51_eq m _ _ hx hb, bnd_some', f44_eq, bnd_some', f43_eq m _ (by simp; omega) (by simp), bnd_some', cmpE_orr]
theorem f28_eq (m : Nat) (x y : S40) (hm : 5 ≤ m) (hx : x.fTags.length < m) (hb : x.fTags.length ≤ 9223372036854775807) : f28 m x y = some (cmpE x y == 0) := by
 unfold f28
 rw [f26_eq m x y hm hx hb, bnd_some']
theorem tags_len {S : Nat → Nat → Prop} {w : World} {v : Value} {x : S40} (h : RelV S w v (e40 x)) : x.fTags.length ≤ 9223372036854775807 := by
 have hm : maxLen = 9223372036854775807 := by decide
 cases h with
 | agg vs _ hl hr =>
  have hsz : 2 < vs.size := by rw [hl]; simp
  have h2 : RelV S w vs[2] (.sl .plain (x.fTags.map eS)) := hr 2 vs[2] (vP eS x.fTags) (Array.getElem?_eq_getElem hsz) rfl
  generalize vs[2] = u at h2
  have hlen : (List.map eS x.fTags).length = x.fTags.length := List.length_map _
  generalize List.map eS x.fTags = l at h2 hlen
  cases h2 with
  | slnil _ _ => simp at hlen; omega
  | slemp _ a cap h hf hm' => simp at hlen; omega
  | sl _ b off cap k n es vals hn h hf hc hm' hk hs hr' => omega
theorem cmp56 : CmpOk Proofs.Tryz.prog 26 e40 cmpE := by
 intro x y S w us hrel hs hg
 have hx := tags_len (hrel.2 0 us[0]! (.v (e40 x)) (by
  have h2 : us.size = 2 := hrel.1
  rw [getElem!_pos us 0 (by omega)]; exact Array.getElem?_eq_getElem (by omega)) rfl).of_v
 obtain ⟨d, h', h1, h2⟩ := ok26c (x.fTags.length + 5) x y (cmpE x y) (f26_eq _ x y (by omega) (by omega) hx) (x.fTags.length + 9) (by omega)
 refine ((pureCalls (good0 (DR := True)) (xs := [e40 x, e40 y]) h1 h2).2 S w us hrel hs hg).mono ?_
 rintro e w' ⟨v, S', rfl, hE, _, hR⟩
 cases hR
 exact ⟨rfl, S', hE⟩
def strsV : List V → Option (List ByteArray)
 | [] => some []
 | .str b :: r => (strsV r).map (b :: ·)
 | _ => none
theorem strsV_spec : ∀ {l : List V} {r : List ByteArray}, strsV l = some r → l = r.map eS
 | [], r, h => by cases h; rfl
 | x :: l, r, h => by
  unfold strsV at h
  split at h
  ·rename_i e; cases e
  ·rename_i b l' e
   cases e
   obtain ⟨r', hr, rfl⟩ := Option.map_eq_some_iff.1 h
   rw [List.map_cons, ← strsV_spec hr]; rfl
  ·cases h
theorem strsV_e : ∀ l : List ByteArray, strsV (l.map eS) = some l
 | [] => rfl
 | x :: l => by
  show (strsV (l.map eS)).map (x :: ·) = _
  rw [strsV_e l]; rfl
def decE : V → Option S40
 | .agg [.str b, .str f, .sl .plain ts, .int .i64 w] => (strsV ts).map fun ts => ⟨b, f, ts, w⟩
 | _ => none
theorem decE_spec {v : V} {a : S40} (h : decE v = some a) : v = e40 a := by
 unfold decE at h
 split at h
 ·obtain ⟨ts, h1, rfl⟩ := Option.map_eq_some_iff.1 h
  rw [strsV_spec h1]; rfl
 ·cases h
theorem decE_e (a : S40) : decE (e40 a) = some a := by
 show (strsV (a.fTags.map eS)).map (fun ts => (⟨a.fBase, a.fForm, ts, a.fWeight⟩ : S40)) = some a
 rw [strsV_e]; rfl
theorem allM_map {α β γ : Type} {f : β → Option γ} {k : α → β} {r : α → γ} : ∀ (l : List α), (∀ x ∈ l, f (k x) = some (r x)) → allM f (l.map k) = some (l.map r)
 | [], _ => rfl
 | x :: l, h => by
  simp only [List.map_cons, allM, h x List.mem_cons_self, allM_map l fun y hy => h y (List.mem_cons_of_mem _ hy)]
theorem allM_decE (l : List S40) : allM decE (l.map e40) = some l := by
 have := allM_map (f := decE) (k := e40) (r := fun s => s) l fun s _ => decE_e s
 rw [List.map_id'] at this
 exact this
theorem is25 : Is Proofs.Tryz.prog 25 := ⟨Proofs.Tryz.f25, Proofs.Tryz.func25, by kernel_rfl, by kernel_rfl⟩
theorem sort25 : DOk False Proofs.Tryz.prog 25 (sortFnF 4 26 decE e40 (srtC cmpE)) :=
 sortFn_sound is25 cmpE cmp56 toE.swo (fun _ _ h => decE_spec h) (by decide) (fun a => ⟨_, rfl, rfl, rfl⟩)
  (fun enc' cf' blk off cap d w hk h1 hO hc hH hb hs => AnyQ.slices_SortFunc Tryz.laysSE 4 (fun w => by kernel_rfl) (fun w => by kernel_rfl) enc' hk h1 cf' hO 26 #[] blk off cap d w (enters_of Proofs.Tryz.func26 (by kernel_rfl) rfl) hc hH hb hs)
  (fun p cap fv w => AnyF.slices_SortFunc_none Tryz.laysSE p cap fv w) (srtC_is toE)
noncomputable def GC (n : Nat) : Calling := fun f ds h => if f = 25 then sortFnF 4 26 decE e40 (srtC cmpE) ds h else if f = 28 then run Proofs.Tryz.prog E0 n f ds h else run Proofs.Tryz.prog E n f ds h
noncomputable def XC (n : Nat) : Cx := ⟨{ E with rowM := true, pureF := fun f => E.pureF f && !(f == 24 || f == 25 || f == 27) }, GC n, ⟨fun _ => [], fun _ => [], fun _ => []⟩, [], n⟩
theorem hxC (n : Nat) : Hx False Proofs.Tryz.prog (XC n) := by
 refine ⟨good.mixed, good.types, fun f ds h d h' hd => ?_⟩
 have hd : (if f = 25 then sortFnF 4 26 decE e40 (srtC cmpE) ds h else if f = 28 then run Proofs.Tryz.prog E0 n f ds h else run Proofs.Tryz.prog E n f ds h) = some (d, h') := hd
 split at hd
 ·rename_i e
  subst e
  exact ⟨sort25.1, sort25.2 ds h d h' hd⟩
 ·split at hd
  ·exact run_sound (good0 (DR := False)) n f ds h d h' hd
  ·exact run_sound good n f ds h d h' hd
theorem callC {n f : Nat} {h : List AObj} {ds xs : List D} {r : V} (hne : f ≠ 25 ∧ f ≠ 28) (hp : (XC n).E.pureF f = true) (ha : Args h ds xs) (hF : Fn Proofs.Tryz.prog E n f xs r) : callD (XC n).E (GC n) f ds h = some (.v r, h) := by
 obtain ⟨d, h', h1, h2⟩ := hF
 obtain ⟨a1, a2⟩ := ha.spec
 have hg : GC n f xs [] = some (d, h') := by unfold GC; rw [if_neg hne.1, if_neg hne.2]; exact h1
 simp only [callD, hp, if_true, a1, hg, h2, a2, Bool.true_or]
theorem call28 {n : Nat} {h : List AObj} (x y : S40) (hx : x.fTags.length + 12 ≤ n) (hb : n ≤ 1000000) : callD (XC n).E (GC n) 28 [.v (e40 x), .v (e40 y)] h = some (.v (eB (cmpE x y == 0)), h) := by
 obtain ⟨d, h', h1, h2⟩ := ok28c (x.fTags.length + 5) x y (cmpE x y == 0) (f28_eq _ x y (by omega) (by omega) (by omega)) n (by omega)
 have ha : Args h [.v (e40 x), .v (e40 y)] [.v (e40 x), .v (e40 y)] := Args.v _ _ rfl (Args.v _ _ rfl Args.nil)
 obtain ⟨a1, a2⟩ := ha.spec
 have hp : (XC n).E.pureF 28 = true := by kernel_rfl
 have hg : GC n 28 [.v (e40 x), .v (e40 y)] [] = some (d, h') := by unfold GC; rw [if_neg (by decide), if_pos rfl]; exact h1
 simp only [callD, hp, if_true, a1, hg, h2, a2, Bool.true_or]
def Sm (n : Nat) (l : List (Nat × D)) (h : List AObj) : St := ⟨(List.range n).map fun i => (l.lookup i).getD .undef, h⟩
theorem seqH.x {DR : Prop} {P : Program} {b : Code} {Q : Post} {id : Nat} {σ : St} (h : Q (.exit id) σ) : seqH DR P b Q (.exit id) σ := h
theorem seqH.r {DR : Prop} {P : Program} {b : Code} {Q : Post} {σ : St} (h : Q .ret σ) : seqH DR P b Q .ret σ := h
theorem blkH.r {id : Nat} {Q : Post} {σ : St} (h : Q .ret σ) : blkH id Q .ret σ := h
theorem blkH.n {id : Nat} {Q : Post} {σ : St} (h : Q .normal σ) : blkH id Q .normal σ := h
theorem Ht.st {DR : Prop} {P : Program} {c : Code} {σ σ' : St} {Q : Post} (e : σ = σ') (h : Ht DR P c σ' Q) : Ht DR P c σ Q := by rw [e]; exact h
theorem ldc {i : TI} {h : List AObj} {r off : Nat} {cs : List D} {d : D} (hr : h[r]? = some (.cells cs)) (hd : (cut cs off i.size).bind (mkOf i.kind.isAgg) = some d) : (loadD i h (.ptr r off)).map (·, h) = some (d, h) := by
 simp only [loadD, hr, hd, Option.map_some]
theorem stc {i : TI} {h : List AObj} {r off : Nat} {cs cs' : List D} {x : D} (hr : h[r]? = some (.cells cs)) (hs : (x.solid && x.cells.length == i.size) = true) (hc : splice cs off x.cells = some cs') : (storeD i h (.ptr r off) x).map (U, ·) = some (U, h.set r (.cells cs')) := by
 simp only [storeD, hs, if_true, hr, hc, Option.map_some]
theorem ixo {h : List AObj} {q off N j : Nat} {es : List V} {i : Int} (hq : h[q]? = some (.row 4 es)) (hi : i = (j : Int)) (hj : j < N) : (indexAddrH T h 36 (D.unt (.osl q off N false)) (dI i)).map (·, h) = some (.eptr q (off + j) 0, h) := by
 subst hi
 have hn : natOf (dI (j : Int)) = some j := by simp [natOf]
 have hT : T 36 = some ti36 := rfl
 have hk : ti36.kind = .slice 41 := rfl
 simp only [D.unt, indexAddrH, hT, hk, hn, if_pos hj, show sizeT T 41 = some 4 from rfl, hq, if_true, Option.map_some]
theorem lde {h : List AObj} {q j : Nat} {R : List S40} {a : S40} (hq : h[q]? = some (.row 4 (R.map e40))) (ha : R[j]? = some a) : (loadD ti41 h (.eptr q j 0)).map (·, h) = some (.v (e40 a), h) := by
 have hx : (R.map e40)[j]? = some (e40 a) := by rw [List.getElem?_map, ha]; rfl
 simp only [loadD, hq, hx]
 rfl
theorem ste {h : List AObj} {q j : Nat} {R : List S40} {a b : S40} (hq : h[q]? = some (.row 4 (R.map e40))) (hb : R[j]? = some b) : (storeD ti41 h (.eptr q j 0) (.v (e40 a))).map (U, ·) = some (U, h.set q (.row 4 ((R.set j a).map e40))) := by
 have hx : (R.map e40)[j]? = some (e40 b) := by rw [List.getElem?_map, hb]; rfl
 have h1 : ((D.v (e40 a)).solid && (D.v (e40 a)).cells.length == ti41.size) = true := rfl
 have h2 : storeV (e40 b) (e40 a) 0 = some (e40 a) := rfl
 have h3 : ((e40 a).cells.length == 4 && (e40 a).solid) = true := rfl
 simp only [storeD, h1, if_true, hq, hx, h2, h3, Option.map_some, List.map_set]
theorem slo {h : List AObj} {q N k : Nat} {es : List V} (hq : h[q]? = some (.row 4 es)) (hk : k < N) : (sliceD T h 36 (D.unt (.osl q 0 N false)) (some (dI (k : Int))) none none).map (·, h) = some (.osl q k (N - k) false, h) := by
 have hn : natOr 0 (some (dI (k : Int))) = some k := by simp [natOr, natOf]
 have hs : shapeOk h q 4 = true := by simp [shapeOk, hq]
 have hT : T 36 = some ti36 := rfl
 have hkd : ti36.kind = .slice 41 := rfl
 have hne : (k == N) = false := by simp; omega
 simp only [D.unt, sliceD, hT, hkd, boundsD, hn, show natOr N none = some N from rfl]
 rw [if_pos ⟨by omega, Nat.le_refl _⟩]
 simp only [show sizeT T 41 = some 4 from rfl, hs, if_true, hne, Bool.false_eq_true, if_false, Option.isNone_none, Bool.not_false, Bool.and_self, Bool.true_or, Nat.zero_add, Option.map_some, fullTo, Bool.false_and]
theorem slh {h : List AObj} {q N k : Nat} {es : List V} (hq : h[q]? = some (.row 4 es)) (h0 : 0 < k) (hk : k ≤ N) : (sliceD T h 36 (D.unt (.osl q 0 N false)) none (some (dI (k : Int))) none).map (·, h) = some (.osl q 0 k false, h) := by
 have hn : natOr N (some (dI (k : Int))) = some k := by simp [natOr, natOf]
 have hs : shapeOk h q 4 = true := by simp [shapeOk, hq]
 have hT : T 36 = some ti36 := rfl
 have hkd : ti36.kind = .slice 41 := rfl
 have hne : (0 == k) = false := by simp; omega
 simp only [D.unt, sliceD, hT, hkd, boundsD, hn, show natOr 0 none = some 0 from rfl]
 rw [if_pos ⟨by omega, hk⟩]
 simp only [show sizeT T 41 = some 4 from rfl, hs, if_true, hne, Bool.false_eq_true, if_false, Option.isNone_none, Bool.not_false, Bool.and_self, Bool.true_or, Nat.add_zero, Nat.sub_zero, Option.map_some, fullTo, Bool.false_and]
theorem clr {h : List AObj} {q k m : Nat} {R : List S40} (hq : h[q]? = some (.row 4 (R.map e40))) (h0 : 0 < m) (hl : k + m = R.length) : (clearD T 36 h (.osl q k m false)).map (U, ·) = some (U, h.set q (.row 4 ((R.take k).map e40))) := by
 have hT : T 36 = some ti36 := rfl
 have hT2 : T 41 = some ti41 := rfl
 have hkd : ti36.kind = .slice 41 := rfl
 simp only [clearD, hT, hkd, hq, hT2]
 rw [if_pos ⟨rfl, rfl, h0, by rw [List.length_map]; exact hl⟩, Option.map_some, List.map_take]
def goC : S40 → List S40 → List S40
 | _, [] => []
 | p, y :: r => if cmpE y p = 0 then goC y r else y :: goC y r
def compactL : List S40 → List S40
 | [] => []
 | x :: r => x :: goC x r
theorem compactL_short {l : List S40} (h : l.length < 2) : compactL l = l := by
 match l, h with
 | [], _ => rfl
 | [x], _ => rfl
theorem goC_eq {p y : S40} {r : List S40} (h : cmpE y p = 0) : goC p (y :: r) = goC y r := by simp [goC, h]
theorem goC_ne {p y : S40} {r : List S40} (h : cmpE y p ≠ 0) : goC p (y :: r) = y :: goC y r := by simp [goC, h]
noncomputable def C27 : Code := bodyOf Proofs.Tryz.prog 27
abbrev sD (q N : Nat) : D := .osl q 0 N false
abbrev hR (H : List AObj) (q : Nat) (R : List S40) : List AObj := H.set q (.row 4 (R.map e40))
theorem hR_get {H : List AObj} {q : Nat} (hq : q < H.length) (R : List S40) : (hR H q R)[q]? = some (.row 4 (R.map e40)) := List.getElem?_set_self hq
theorem hR_set {H : List AObj} {q : Nat} (R R' : List S40) : (hR H q R).set q (.row 4 (R'.map e40)) = hR H q R' := by simp only [hR, List.set_set]
def CQ (H : List AObj) (q : Nat) (l : List S40) : Post := fun e σ => (e = .normal ∨ e = .ret) ∧ ∃ d, resultsD T σ (resOf Proofs.Tryz.prog 27) = some d ∧ d = .osl q 0 (compactL l).length false ∧ σ.heap = hR H q (compactL l)
theorem CQ.of {H : List AObj} {q : Nat} {l R : List S40} {σ : St} {m : Nat} (h4 : σ.tmps.getD 4 .undef = .osl q 0 m false) (hm : R.length = m) (hh : σ.heap = hR H q R) (hR : R = compactL l) : CQ H q l .ret σ := by
 have hr : resOf Proofs.Tryz.prog 27 = [.tmp 4] := by kernel_rfl
 subst hR
 refine ⟨.inr rfl, .osl q 0 m false, ?_, by rw [hm], hh⟩
 rw [hr]
 simp only [resultsD, allM, resultD, h4]
noncomputable abbrev M27 : Code := cL (cR (cL (cR (cL (cR (cL (cL (cR (cL (cL (cR (cL (cR (cR C27))))))))))))))
abbrev S1 (q N : Nat) (k : Int) (h : List AObj) : St := Sm 66 [(0, sD q N), (1, .v (.fn 28)), (5, dI k)] h
abbrev S2 (q N k0 : Nat) (k k2 : Int) (h : List AObj) : St := Sm 66 [(0, sD q N), (1, .v (.fn 28)), (5, dI k), (6, .osl q k0 (N - k0) false), (7, dI k2)] h
theorem compact2 (n : Nat) (H : List AObj) (q : Nat) (hq : q < H.length) (l : List S40) (hl : l.length ≤ 1000000) (ht : ∀ x ∈ l, x.fTags.length + 12 ≤ n) (hn : n ≤ 1000000) (k0 : Nat) (h0 : 0 < k0) (hk : k0 < l.length) {Q : Post}
  (hQ : ∀ (k : Nat) R σ, 0 < k → k < l.length → R.length = l.length → R.take k = compactL l → Abs.forget [0, 5] σ = Sm 66 [(0, sD q l.length), (5, dI (k : Int))] (hR H q R) → Q (.exit 2) σ)
  (x0 : S40) (hx0 : l[k0]? = some x0) (h1 : l.take k0 ++ goC x0 (l.drop (k0 + 1)) = compactL l) :
  Ht False Proofs.Tryz.prog M27 (S2 q l.length k0 k0 1 (hR H q l)) Q := by
 refine Ht.loop (fun m σ => ∃ (k k2 : Nat) (R : List S40) (x : S40), m = l.length - k2 ∧ 1 ≤ k2 ∧ k0 + k2 ≤ l.length ∧ k0 ≤ k ∧ k + 1 ≤ k0 + k2 ∧ R.length = l.length ∧ R.drop (k0 + k2 - 1) = l.drop (k0 + k2 - 1) ∧ l[k0 + k2 - 1]? = some x ∧ R.take k ++ goC x (l.drop (k0 + k2)) = compactL l ∧
   Abs.forget [0, 1, 5, 6, 7] σ = S2 q l.length k0 k k2 (hR H q R)) (l.length - 1) (by kernel_rfl) ⟨k0, 1, l, x0, rfl, Nat.le_refl _, by omega, Nat.le_refl _, by omega, rfl, rfl, hx0, h1, by kernel_rfl⟩ ?_
 rintro m σ ⟨k, k2, R, x, rfl, a1, a2, a3, a4, a5, a6, a7, a8, hσ⟩
 refine Ht.forget [0, 1, 5, 6, 7] (Ht.st hσ ?_)
 clear hσ
 refine Ht.sq (Ht.sq (Ht.rg (hxC n) (Ops.sg 4 4 (Ops.dn (seqH.n ?_)))))
 refine Ht.cond (decide ((k2 : Int) < ((l.length - k0 : Nat) : Int))) (by kernel_rfl) (by kernel_rfl) (fun hc => ?_) (fun hc => ?_)
 case refine_2 =>
  have hc := of_decide_eq_false hc
  refine Ht.exit (id := 2) (by kernel_rfl) ?_
  show Q (.exit 2) _
  have hd : l.drop (k0 + k2) = [] := List.drop_eq_nil_of_le (by omega)
  rw [hd] at a8
  refine hQ k R _ (by omega) (by omega) a5 (by simpa [goC] using a8) (by kernel_rfl)
 have hc := of_decide_eq_true hc
 have hlt : k0 + k2 < l.length := by omega
 obtain ⟨y, hy⟩ : ∃ y, l[k0 + k2]? = some y := ⟨_, List.getElem?_eq_getElem hlt⟩
 have hget : ∀ j, k0 + k2 - 1 ≤ j → R[j]? = l[j]? := by
  intro j hj
  have := congrArg (fun z => z[j - (k0 + k2 - 1)]?) a6
  simp only [List.getElem?_drop] at this
  rw [show k0 + k2 - 1 + (j - (k0 + k2 - 1)) = j by omega] at this
  exact this
 have hRy : R[k0 + k2]? = some y := by rw [hget _ (by omega)]; exact hy
 have hRx : R[k0 + (k2 - 1)]? = some x := by rw [show k0 + (k2 - 1) = k0 + k2 - 1 by omega, hget _ (Nat.le_refl _)]; exact a7
 have hdrop : l.drop (k0 + k2) = y :: l.drop (k0 + k2 + 1) := by
  rw [List.drop_eq_getElem_cons hlt]
  rw [List.getElem?_eq_getElem hlt] at hy
  rw [Option.some.inj hy]
 have hw : w64 ((k2 : Int) - 1) = ((k2 - 1 : Nat) : Int) := by rw [w64_id ⟨by omega, by omega⟩]; omega
 have hw2 : w64 ((k2 : Int) + 1) = ((k2 + 1 : Nat) : Int) := by rw [w64_id ⟨by omega, by omega⟩]; omega
 have hw3 : w64 ((k : Int) + 1) = ((k + 1 : Nat) : Int) := by rw [w64_id ⟨by omega, by omega⟩]; omega
 refine Ht.sk (seqH.n (Ht.sq (Ht.bk 3 (Ht.sq (Ht.rg (hxC n) (Ops.sg 3 3 ?_))))))
 refine Ops.on 4 (fun h0 e0 => (ixo (h := h0) (q := q) (off := k0) (N := l.length - k0) (j := k2) (i := (k2 : Int)) (hq_of (g := hR H q R) (e0.trans (by kernel_rfl)) (hR_get hq R)) rfl (by omega))) ?_
 refine Ops.on 5 (fun h0 e0 => (lde (h := h0) (q := q) (j := k0 + k2) (hq_of (g := hR H q R) (e0.trans (by kernel_rfl)) (hR_get hq R)) hRy)) ?_
 refine Ops.sg 3 8 ?_
 refine Ops.on 9 (fun h0 e0 => (ixo (h := h0) (q := q) (off := k0) (N := l.length - k0) (j := k2 - 1) (i := w64 ((k2 : Int) - 1)) (hq_of (g := hR H q R) (e0.trans (by kernel_rfl)) (hR_get hq R)) hw (by omega))) ?_
 refine Ops.on 10 (fun h0 e0 => (lde (h := h0) (q := q) (j := k0 + (k2 - 1)) (hq_of (g := hR H q R) (e0.trans (by kernel_rfl)) (hR_get hq R)) hRx)) ?_
 refine Ops.on 11 (fun h0 e0 => (call28 (n := n) (h := h0) y x (ht y (List.mem_of_getElem? hy)) hn)) ?_
 refine Ops.sg 1 12 (Ops.dn (seqH.n ?_))
 refine Ht.cond (!(cmpE y x == 0)) (by kernel_rfl) (by kernel_rfl) (fun hc1 => ?_) (fun hc1 => ?_)
 ·have hne : cmpE y x ≠ 0 := by simpa using hc1
  rw [hdrop, goC_ne hne] at a8
  obtain ⟨b, hb⟩ : ∃ b, R[k]? = some b := ⟨_, List.getElem?_eq_getElem (by omega)⟩
  refine Ht.sq (Ht.rg (hxC n) (Ops.sg 4 4 ?_))
  refine Ops.on 5 (fun h0 e0 => (ixo (h := h0) (q := q) (off := k0) (N := l.length - k0) (j := k2) (i := (k2 : Int)) (hq_of (g := hR H q R) (e0.trans (by kernel_rfl)) (hR_get hq R)) rfl (by omega))) ?_
  refine Ops.on 6 (fun h0 e0 => (lde (h := h0) (q := q) (j := k0 + k2) (hq_of (g := hR H q R) (e0.trans (by kernel_rfl)) (hR_get hq R)) hRy)) ?_
  refine Ops.on 7 (fun h0 e0 => (ixo (h := h0) (q := q) (off := 0) (N := l.length) (j := k) (i := (k : Int)) (hq_of (g := hR H q R) (e0.trans (by kernel_rfl)) (hR_get hq R)) rfl (by omega))) ?_
  refine Ops.on 8 (fun h0 e0 => (ste (h := h0) (q := q) (j := 0 + k) (R := R) (a := y) (b := b) (hq_of (g := hR H q R) (e0.trans (by kernel_rfl)) (hR_get hq R)) (by rw [Nat.zero_add]; exact hb))) ?_
  refine Ops.dn (seqH.n (Ht.rg (hxC n) (Ops.sg 3 3 (Ops.dn (blkH.n (seqH.n (Ht.rg (hxC n) (Ops.sg 3 3 (Ops.dn ?_)))))))))
  refine ⟨l.length - (k2 + 1), by omega, k + 1, k2 + 1, R.set k y, y, rfl, by omega, by omega, by omega, by omega, by rw [List.length_set]; exact a5, ?_, by rw [show k0 + (k2 + 1) - 1 = k0 + k2 by omega]; exact hy, ?_, ?_⟩
  ·rw [List.drop_set_of_lt (by omega)]
   have := congrArg (List.drop 1) a6
   rw [List.drop_drop, List.drop_drop] at this
   rw [show k0 + (k2 + 1) - 1 = k0 + k2 - 1 + 1 by omega]
   exact this
  ·have ht1 : (R.set k y).take (k + 1) = R.take k ++ [y] := by
    rw [List.take_add_one, List.take_set_of_le (Nat.le_refl _), List.getElem?_set_self (by omega)]; rfl
   rw [ht1, ← a8, show k0 + (k2 + 1) = k0 + k2 + 1 by omega]
   simp
  ·have e : ∀ (a b : Int) (h : List AObj), a = ((k + 1 : Nat) : Int) → b = ((k2 + 1 : Nat) : Int) → h = hR H q (R.set k y) → S2 q l.length k0 a b h = S2 q l.length k0 ((k + 1 : Nat) : Int) ((k2 + 1 : Nat) : Int) (hR H q (R.set k y)) := fun a b h ha hb hh => by rw [ha, hb, hh]
   refine Eq.trans ?_ (e (w64 ((k : Int) + 1)) (w64 ((k2 : Int) + 1)) ((hR H q R).set q (.row 4 ((R.set (0 + k) y).map e40))) hw3 hw2 (by rw [Nat.zero_add]; exact hR_set R _))
   kernel_rfl
 ·have heq : cmpE y x = 0 := by simpa using hc1
  rw [hdrop, goC_eq heq] at a8
  refine Ht.sk (blkH.n (seqH.n (Ht.rg (hxC n) (Ops.sg 3 3 (Ops.dn ?_)))))
  refine ⟨l.length - (k2 + 1), by omega, k, k2 + 1, R, y, rfl, by omega, by omega, a3, by omega, a5, ?_, by rw [show k0 + (k2 + 1) - 1 = k0 + k2 by omega]; exact hy, by rw [show k0 + (k2 + 1) = k0 + k2 + 1 by omega]; exact a8, ?_⟩
  ·have := congrArg (List.drop 1) a6
   rw [List.drop_drop, List.drop_drop] at this
   rw [show k0 + (k2 + 1) - 1 = k0 + k2 - 1 + 1 by omega]
   exact this
  ·have e : ∀ (b : Int), b = ((k2 + 1 : Nat) : Int) → S2 q l.length k0 k b (hR H q R) = S2 q l.length k0 k ((k2 + 1 : Nat) : Int) (hR H q R) := fun b hb => by rw [hb]
   refine Eq.trans ?_ (e (w64 ((k2 : Int) + 1)) hw2)
   kernel_rfl
theorem compact1 (n : Nat) (H : List AObj) (q : Nat) (hq : q < H.length) (l : List S40) (hl : l.length ≤ 1000000) (h2 : 2 ≤ l.length) (ht : ∀ x ∈ l, x.fTags.length + 12 ≤ n) (hn : n ≤ 1000000) :
  Ht False Proofs.Tryz.prog (cR (cL (cR (cR C27)))) (S1 q l.length 1 (hR H q l)) (seqH False Proofs.Tryz.prog (cR (cR (cR C27))) (CQ H q l)) := by
 refine Ht.bk 0 ?_
 obtain ⟨x0, hx0⟩ : ∃ x, l[0]? = some x := ⟨_, List.getElem?_eq_getElem (by omega)⟩
 refine Ht.loop (fun m σ => ∃ (k : Nat) (x : S40), m = l.length - k ∧ 1 ≤ k ∧ k ≤ l.length ∧ l[k - 1]? = some x ∧ l.take k ++ goC x (l.drop k) = compactL l ∧ Abs.forget [0, 1, 5] σ = S1 q l.length k (hR H q l)) (l.length - 1) (by kernel_rfl) ⟨1, x0, rfl, Nat.le_refl _, by omega, hx0, ?_, by kernel_rfl⟩ ?_
 ·cases l with
  | nil => simp at hx0
  | cons a r => simp at hx0; subst hx0; simp [compactL]
 rintro m σ ⟨k, x, rfl, a1, a2, a3, a4, hσ⟩
 refine Ht.forget [0, 1, 5] (Ht.st hσ ?_)
 clear hσ
 refine Ht.sq (Ht.sq (Ht.rg (hxC n) (Ops.sg 4 4 (Ops.dn (seqH.n ?_)))))
 refine Ht.cond (decide ((k : Int) < (l.length : Int))) (by kernel_rfl) (by kernel_rfl) (fun hc => ?_) (fun hc => ?_)
 case refine_2 =>
  have hc := of_decide_eq_false hc
  have hk : k = l.length := by omega
  refine Ht.exit (id := 0) (by kernel_rfl) (seqH.x ?_)
  show Ht False Proofs.Tryz.prog (cR (cR (cR C27))) _ (CQ H q l)
  have hd : l.drop k = [] := List.drop_eq_nil_of_le (by omega)
  rw [hd, hk, List.take_length] at a4
  have hc4 : l = compactL l := by simpa [goC] using a4
  refine Ht.sq (Ht.rg (hxC n) (Ops.sg 2 2 (Ops.dn (seqH.n (Ht.rt ?_)))))
  exact CQ.of (R := l) (m := l.length) (by kernel_rfl) rfl (by kernel_rfl) hc4
 have hc := of_decide_eq_true hc
 have hlt : k < l.length := by omega
 obtain ⟨y, hy⟩ : ∃ y, l[k]? = some y := ⟨_, List.getElem?_eq_getElem hlt⟩
 have hdrop : l.drop k = y :: l.drop (k + 1) := by
  rw [List.drop_eq_getElem_cons hlt]
  rw [List.getElem?_eq_getElem hlt] at hy
  rw [Option.some.inj hy]
 have htake : l.take (k + 1) = l.take k ++ [y] := by
  rw [List.take_add_one, hy]; rfl
 have hw : w64 ((k : Int) - 1) = ((k - 1 : Nat) : Int) := by rw [w64_id ⟨by omega, by omega⟩]; omega
 have hw3 : w64 ((k : Int) + 1) = ((k + 1 : Nat) : Int) := by rw [w64_id ⟨by omega, by omega⟩]; omega
 refine Ht.sk (seqH.n (Ht.sq (Ht.bk 1 (Ht.sq (Ht.rg (hxC n) (Ops.sg 3 3 ?_))))))
 refine Ops.on 4 (fun h0 e0 => (ixo (h := h0) (q := q) (off := 0) (N := l.length) (j := k) (i := (k : Int)) (hq_of (g := hR H q l) (e0.trans (by kernel_rfl)) (hR_get hq l)) rfl (by omega))) ?_
 refine Ops.on 5 (fun h0 e0 => (lde (h := h0) (q := q) (j := 0 + k) (hq_of (g := hR H q l) (e0.trans (by kernel_rfl)) (hR_get hq l)) (by rw [Nat.zero_add]; exact hy))) ?_
 refine Ops.sg 3 8 ?_
 refine Ops.on 9 (fun h0 e0 => (ixo (h := h0) (q := q) (off := 0) (N := l.length) (j := k - 1) (i := w64 ((k : Int) - 1)) (hq_of (g := hR H q l) (e0.trans (by kernel_rfl)) (hR_get hq l)) hw (by omega))) ?_
 refine Ops.on 10 (fun h0 e0 => (lde (h := h0) (q := q) (j := 0 + (k - 1)) (hq_of (g := hR H q l) (e0.trans (by kernel_rfl)) (hR_get hq l)) (by rw [Nat.zero_add]; exact a3))) ?_
 refine Ops.on 11 (fun h0 e0 => (call28 (n := n) (h := h0) y x (ht y (List.mem_of_getElem? hy)) hn)) ?_
 refine Ops.dn (seqH.n ?_)
 refine Ht.cond (cmpE y x == 0) (by kernel_rfl) (by kernel_rfl) (fun hc1 => ?_) (fun hc1 => ?_)
 case refine_2 =>
  have hne : cmpE y x ≠ 0 := by simpa using hc1
  rw [hdrop, goC_ne hne] at a4
  refine Ht.sk (blkH.n (seqH.n (Ht.rg (hxC n) (Ops.sg 3 3 (Ops.dn ?_)))))
  refine ⟨l.length - (k + 1), by omega, k + 1, y, rfl, by omega, by omega, by rw [Nat.add_sub_cancel]; exact hy, by rw [htake, ← a4]; simp, ?_⟩
  have e : ∀ (b : Int), b = ((k + 1 : Nat) : Int) → S1 q l.length b (hR H q l) = S1 q l.length ((k + 1 : Nat) : Int) (hR H q l) := fun b hb => by rw [hb]
  refine Eq.trans ?_ (e (w64 ((k : Int) + 1)) hw3)
  kernel_rfl
 have heq : cmpE y x = 0 := by simpa using hc1
 rw [hdrop, goC_eq heq] at a4
 refine Ht.sq (Ht.rg (hxC n) (Ops.sg 2 2 ?_))
 refine Ops.on 3 (fun h0 e0 => (slo (h := h0) (q := q) (N := l.length) (k := k) (hq_of (g := hR H q l) (e0.trans (by kernel_rfl)) (hR_get hq l)) hlt)) ?_
 refine Ops.sg 1 4 (Ops.dn (seqH.n (Ht.sq (Ht.sq (Ht.rg (hxC n) (Ops.sg 1 1 (Ops.dn (seqH.n (Ht.bk 2 ?_)))))))))
 refine Ht.forget [0, 1, 5, 6, 7] (Ht.st (σ' := S2 q l.length k k 1 (hR H q l)) (by kernel_rfl) ?_)
 refine compact2 n H q hq l hl ht hn k (by omega) hlt (fun k' R σ b1 b2 b3 b4 hσ => ?_) y hy a4
 refine blkH.x (seqH.n ?_)
 refine Ht.forget [0, 5] (Ht.st hσ ?_)
 clear hσ
 refine Ht.sq (Ht.rg (hxC n) (Ops.sg 2 2 ?_))
 refine Ops.on 3 (fun h0 e0 => (slo (h := h0) (q := q) (N := l.length) (k := k') (hq_of (g := hR H q R) (e0.trans (by kernel_rfl)) (hR_get hq R)) b2)) ?_
 refine Ops.on 4 (fun h0 e0 => (clr (h := h0) (q := q) (k := k') (m := l.length - k') (R := R) (hq_of (g := hR H q R) (e0.trans (by kernel_rfl)) (hR_get hq R)) (by omega) (by omega))) ?_
 refine Ops.dn (seqH.n ?_)
 refine Ht.forget [0, 5] (Ht.st (σ' := Sm 66 [(0, sD q l.length), (5, dI (k' : Int))] ((hR H q R).set q (.row 4 ((R.take k').map e40)))) (by kernel_rfl) ?_)
 rw [hR_set]
 refine Ht.sq (Ht.rg (hxC n) (Ops.sg 2 2 ?_))
 refine Ops.on 3 (fun h0 e0 => (slh (h := h0) (q := q) (N := l.length) (k := k') (hq_of (g := hR H q (R.take k')) (e0.trans (by kernel_rfl)) (hR_get hq (R.take k'))) b1 (by omega))) ?_
 refine Ops.sg 1 4 (Ops.dn (seqH.n (Ht.rt (blkH.r ?_))))
 show CQ H q l .ret _
 exact CQ.of (R := R.take k') (m := k') (by kernel_rfl) (by rw [List.length_take]; omega) (by kernel_rfl) b4
theorem call27 (n : Nat) (H : List AObj) (q : Nat) (l : List S40) (hl : l.length ≤ 1000000) (ht : ∀ x ∈ l, x.fTags.length + 12 ≤ n) (hn : n ≤ 1000000) (hH : H[q]? = some (.row 4 (l.map e40))) :
  CallT False Proofs.Tryz.prog 27 [sD q l.length, .v (.fn 28)] H fun d h' => d = sD q (compactL l).length ∧ h' = hR H q (compactL l) := by
 have hq := lt_of_getElem? hH
 have hHl : hR H q l = H := by
  show H.set q _ = H
  exact set_same hH
 refine callT_of_ht (c := C27) (T := T) Proofs.Tryz.func27 (by kernel_rfl) T_ok ?_
 refine Ht.mono (Q := CQ H q l) ?_ fun e σ ⟨h1, d, h2, h3, h4⟩ => ⟨h1, d, h2, h3, h4⟩
 show Ht False Proofs.Tryz.prog C27 _ _
 refine Ht.sq (Ht.rg (hxC n) (Ops.sg 1 1 (Ops.dn (seqH.n (Ht.sq (Ht.sq (Ht.rg (hxC n) (Ops.sg 3 3 (Ops.dn (seqH.n ?_))))))))))
 refine Ht.cond (decide ((l.length : Int) < 2)) (by kernel_rfl) (by kernel_rfl) (fun hc => ?_) (fun hc => ?_)
 ·have hc := of_decide_eq_true hc
  refine Ht.sq (Ht.rg (hxC n) (Ops.sg 2 2 (Ops.dn (seqH.n (Ht.rt (seqH.r ?_))))))
  refine CQ.of (R := l) (m := l.length) (by kernel_rfl) rfl ?_ (compactL_short (by omega)).symm
  rw [hHl]; kernel_rfl
 have hc := of_decide_eq_false hc
 refine Ht.sk (seqH.n (Ht.sq (Ht.sq (Ht.rg (hxC n) (Ops.sg 1 1 (Ops.dn (seqH.n ?_)))))))
 refine Ht.forget [0, 1, 5] (Ht.st (σ' := S1 q l.length 1 H) (by kernel_rfl) ?_)
 rw [← hHl]
 have := compact1 n H q hq l hl (by omega) ht hn
 rw [hHl] at this ⊢
 exact this
def nextE (m : Nat) (e : S40) (x : S57) : Option S40 := bnd (scat e.fBase x.fBase) fun b => bnd (scat e.fForm x.fForm) fun f => bnd (f48 m [e.fTags, x.fTags]) fun t => some ⟨b, f, t, w64 (e.fWeight + x.fWeight)⟩
abbrev Fst : Type := List S40 × Int
def itemsL (m : Nat) (rec : Int → S40 → Fst → Option (Bool × Fst)) (e : S40) : List S57 → Fst → Option (Bool × Fst)
 | [], s => some (true, s)
 | x :: r, s => cnd (decide (w64 (s.2 + 1) > 20000)) (some (false, s.1, w64 (s.2 + 1))) (bnd (nextE m e x) fun n =>
   cnd (decide (x.fNext < 0)) (bnd (app 64 s.1 [n]) fun z => itemsL m rec e r (z, w64 (s.2 + 1)))
    (bnd (rec x.fNext n (s.1, w64 (s.2 + 1))) fun o => cnd (!o.1) (some (false, o.2)) (itemsL m rec e r o.2)))
def followL (m : Nat) (l : S23) : Nat → Int → S40 → Fst → Option (Bool × Fst)
 | 0, _, _, s => some (true, s)
 | k + 1, cls, e, s => bnd (idx l.fClasses cls) fun c => itemsL m (followL m l k) e c.fItems s
theorem gA {l x : List AObj} {i : Nat} {v : AObj} (h : l[i]? = some v) : (l ++ x)[i]? = some v := by
 rw [List.getElem?_append_left (lt_of_getElem? h)]; exact h
theorem gS {l : List AObj} {i j : Nat} {v w : AObj} (h : l[i]? = some v) (hne : j ≠ i) : (l.set j w)[i]? = some v := by
 rw [List.getElem?_set_ne hne]; exact h
theorem gE (l : List AObj) (x : AObj) : (l ++ [x])[l.length]? = some x := by simp
theorem set_end (l : List AObj) (x y : AObj) : (l ++ [x]).set l.length y = l ++ [y] := by simp
theorem Sm_heap {n : Nat} {l : List (Nat × D)} {h h' : List AObj} (e : h = h') : Sm n l h = Sm n l h' := by rw [e]
def fdD (q : Nat) (found : List S40) : D := rowF .nil q (found.map e40)
def wkC (l : S23) (q : Nat) (found : List S40) (steps : Int) : AObj := .cells [dP e55 l.fClasses, fdD q found, dI steps]
structure Wk (H : List AObj) (r q : Nat) (l : S23) (found : List S40) (steps : Int) : Prop where
 cell : H[r]? = some (wkC l q found steps)
 row : found ≠ [] → H[q]? = some (rowO 4 (found.map e40))
 ne : found ≠ [] → q ≠ r
theorem Wk.app {H X : List AObj} {r q : Nat} {l : S23} {found : List S40} {steps : Int} (h : Wk H r q l found steps) : Wk (H ++ X) r q l found steps := ⟨gA h.cell, fun hf => gA (h.row hf), h.ne⟩
theorem Wk.step {H : List AObj} {r q : Nat} {l : S23} {found : List S40} {steps : Int} (h : Wk H r q l found steps) (s' : Int) : Wk (H.set r (wkC l q found s')) r q l found s' :=
 ⟨List.getElem?_set_self (lt_of_getElem? h.cell), fun hf => gS (h.row hf) (Ne.symm (h.ne hf)), h.ne⟩
def boxE (e : S40) : AObj := .cells [.v (.str e.fBase), .v (.str e.fForm), .v (vP eS e.fTags), dI e.fWeight]
def boxX (x : S57) : AObj := .cells [.v (.str x.fBase), .v (.str x.fForm), .v (vP eS x.fTags), dI x.fNext, dI x.fWeight]
def pushH (H : List AObj) (q : Nat) (found : List S40) (x : S40) : List AObj := (if found = [] then H else H.set q .dead) ++ [.row 4 ((found ++ [x]).map e40)]
theorem push_len (H : List AObj) (q : Nat) (found : List S40) (x : S40) : (pushH H q found x).length = H.length + 1 := by
 unfold pushH; split <;> simp
theorem push_get {H : List AObj} {q : Nat} {found : List S40} {x : S40} {i : Nat} {v : AObj} (h : H[i]? = some v) (hq : found = [] ∨ q ≠ i) : (pushH H q found x)[i]? = some v := by
 unfold pushH
 split
 ·exact gA h
 ·rename_i hf
  exact gA (gS h (hq.resolve_left hf))
theorem push_new (H : List AObj) (q : Nat) (found : List S40) (x : S40) : (pushH H q found x)[H.length]? = some (.row 4 ((found ++ [x]).map e40)) := by
 unfold pushH
 split
 ·exact gE _ _
 ·have := gE (H.set q .dead) (.row 4 ((found ++ [x]).map e40))
  rwa [List.length_set] at this
theorem rowO_cons {k : Nat} {xs : List V} (h : xs ≠ []) : rowO k xs = .row k xs := by
 cases xs with
 | nil => exact absurd rfl h
 | cons x r => rfl
theorem rowD_cons {q : Nat} {xs : List V} (h : xs ≠ []) : rowF .nil q xs = .osl q 0 xs.length false := by
 cases xs with
 | nil => exact absurd rfl h
 | cons x r => rfl
theorem appE {h : List AObj} {q : Nat} {found zs : List S40} {x : S40} (ha : app 64 found [x] = some zs) (hq : found ≠ [] → h[q]? = some (rowO 4 (found.map e40))) :
  appendD T true 36 h (fdD q found) (.v (.sl .nonfull [e40 x])) = some (.osl h.length 0 (found.length + 1) false, pushH h q found x) := by
 have hz : zs = found ++ [x] := by
  unfold app at ha
  split at ha
  ·cases ha; rfl
  ·cases ha
 have hne : zs.map e40 ≠ [] := by subst hz; simp
 by_cases hf : found = []
 ·subst hf
  have := row_n (T := T) (g := .nil) h 36 41 ti41 .nonfull e40 [x] zs ha (by kernel_rfl) (by kernel_rfl) (by kernel_rfl) (by kernel_rfl) (fun _ => rfl)
  rw [rowD_cons hne, rowO_cons hne] at this
  subst hz
  exact this
 ·have := row_app (T := T) (g := .nil) h 36 41 q ti41 .nonfull e40 found [x] zs ha (by kernel_rfl) (by kernel_rfl) (by kernel_rfl) (by kernel_rfl) (fun _ => rfl) (hq hf)
  rw [rowD_cons hne, rowO_cons hne] at this
  subst hz
  unfold pushH
  rw [if_neg hf]
  simpa [fdD, show ti41.size = 4 from rfl] using this
def FPost (l : S23) (H : List AObj) (r q : Nat) (found : List S40) (h' : List AObj) (s : Fst) : Prop := ∃ q', Wk h' r q' l s.1 s.2 ∧ H.length ≤ h'.length ∧ (∀ i, i < H.length → i ≠ r → (found = [] ∨ i ≠ q) → h'[i]? = H[i]?) ∧ (s.1 = [] ∨ (q' = q ∧ found ≠ []) ∨ H.length ≤ q')
noncomputable def C24 : Code := bodyOf Proofs.Tryz.prog 24
def FQ (l : S23) (H : List AObj) (r q : Nat) (found : List S40) (o : Bool × Fst) : Post := fun e σ => (e = .normal ∨ e = .ret) ∧ ∃ d, resultsD T σ (resOf Proofs.Tryz.prog 24) = some d ∧ (d = dB o.1 ∧ FPost l H r q found σ.heap o.2)
theorem FQ.of {l : S23} {H : List AObj} {r q : Nat} {found : List S40} {o : Bool × Fst} {σ : St} (b : Bool) (h8 : σ.tmps.getD 8 .undef = dB b) (hb : b = o.1) (h : FPost l H r q found σ.heap o.2) : FQ l H r q found o .ret σ := by
 have hr : resOf Proofs.Tryz.prog 24 = [.tmp 8] := by kernel_rfl
 subst hb
 refine ⟨.inr rfl, dB o.1, ?_, rfl, h⟩
 rw [hr]
 simp only [resultsD, allM, resultD, h8]
structure LI (l : S23) (H : List AObj) (r q0 : Nat) (found0 : List S40) (e : S40) (G : List AObj) (q : Nat) (s : Fst) : Prop where
 wk : Wk G r q l s.1 s.2
 len : H.length + 1 ≤ G.length
 box : G[H.length]? = some (boxE e)
 fr : ∀ i, i < H.length → i ≠ r → (found0 = [] ∨ i ≠ q0) → G[i]? = H[i]?
 qc : s.1 = [] ∨ (q = q0 ∧ found0 ≠ []) ∨ H.length < q
theorem LI.post {l : S23} {H : List AObj} {r q0 : Nat} {found0 : List S40} {e : S40} {G : List AObj} {q : Nat} {s : Fst} (h : LI l H r q0 found0 e G q s) : FPost l H r q0 found0 G s :=
 ⟨q, h.wk, by have := h.len; omega, h.fr, h.qc.imp_right fun h => h.imp_right fun h => by omega⟩
theorem LI.item {l : S23} {H : List AObj} {r q0 : Nat} {found0 : List S40} {e : S40} {G : List AObj} {q : Nat} {s : Fst} (h : LI l H r q0 found0 e G q s) (hr : r < H.length) (X : List AObj) (s' : Int) :
  LI l H r q0 found0 e ((G ++ X).set r (wkC l q s.1 s')) q (s.1, s') := by
 refine ⟨h.wk.app.step s', by have := h.len; simp; omega, gS (gA h.box) (by omega), fun i hi hir hiq => ?_, h.qc⟩
 rw [List.getElem?_set_ne (Ne.symm hir), List.getElem?_append_left (by have := h.len; omega)]
 exact h.fr i hi hir hiq
theorem LI.app {l : S23} {H : List AObj} {r q0 : Nat} {found0 : List S40} {e : S40} {G : List AObj} {q : Nat} {s : Fst} (h : LI l H r q0 found0 e G q s) (X : List AObj) : LI l H r q0 found0 e (G ++ X) q s :=
 ⟨h.wk.app, by have := h.len; simp; omega, gA h.box, fun i hi hir hiq => by
  rw [List.getElem?_append_left (by have := h.len; omega)]; exact h.fr i hi hir hiq, h.qc⟩
theorem LI.push {l : S23} {H : List AObj} {r q0 : Nat} {found0 : List S40} {e : S40} {G : List AObj} {q : Nat} {s : Fst} (h : LI l H r q0 found0 e G q s) (hr : r < H.length) (x : S40) :
  LI l H r q0 found0 e ((pushH G q s.1 x).set r (wkC l G.length (s.1 ++ [x]) s.2)) G.length (s.1 ++ [x], s.2) := by
 have hq : s.1 = [] ∨ q ≠ H.length := by
  rcases h.qc with h1 | ⟨h1, h2⟩ | h1
  ·exact .inl h1
  ·by_cases hs : s.1 = []
   ·exact .inl hs
   ·refine .inr fun e => ?_
    have hb := h.box
    have hrow := h.wk.row hs
    rw [e, hb] at hrow
    rw [rowO_cons (by simpa using hs)] at hrow
    cases hrow
  ·exact .inr (by omega)
 have hpr : r < (pushH G q s.1 x).length := by rw [push_len]; have := h.len; omega
 refine ⟨⟨List.getElem?_set_self hpr, fun _ => ?_, fun _ => by have := h.len; omega⟩, by rw [List.length_set, push_len]; have := h.len; omega, gS (push_get h.box hq) (by omega), fun i hi hir hiq => ?_, .inr (.inr (by have := h.len; omega))⟩
 ·rw [rowO_cons (by simp)]
  exact gS (push_new G q s.1 x) (by have := h.len; omega)
 ·rw [List.getElem?_set_ne (Ne.symm hir)]
  have hg := h.fr i hi hir hiq
  have hiG : i < G.length := by have := h.len; omega
  rw [← hg, List.getElem?_eq_getElem hiG]
  refine push_get (List.getElem?_eq_getElem hiG) ?_
  rcases h.qc with h1 | ⟨h1, h2⟩ | h1
  ·exact .inl h1
  ·rcases hiq with h3 | h3
   ·exact absurd h3 h2
   ·exact .inr (by rw [h1]; exact Ne.symm h3)
  ·exact .inr (by omega)
theorem LI.call {l : S23} {H : List AObj} {r q0 : Nat} {found0 : List S40} {e : S40} {G : List AObj} {q : Nat} {s s' : Fst} {h' : List AObj} (h : LI l H r q0 found0 e G q s) (hr : r < H.length) (hp : FPost l G r q s.1 h' s') : ∃ q', LI l H r q0 found0 e h' q' s' := by
 obtain ⟨q', p1, p2, p3, p4⟩ := hp
 have hlen := h.len
 have hqb : s.1 = [] ∨ H.length ≠ q := by
  rcases h.qc with h1 | ⟨h1, h2⟩ | h1
  ·exact .inl h1
  ·by_cases hs : s.1 = []
   ·exact .inl hs
   ·refine .inr fun e => ?_
    have hb := h.box
    have hrow := h.wk.row hs
    rw [← e, hb] at hrow
    rw [rowO_cons (by simpa using hs)] at hrow
    cases hrow
  ·exact .inr (by omega)
 refine ⟨q', p1, by omega, by rw [p3 _ (by omega) (by omega) hqb]; exact h.box, fun i hi hir hiq => ?_, ?_⟩
 ·rw [p3 i (by omega) hir ?_]
  ·exact h.fr i hi hir hiq
  ·rcases h.qc with h1 | ⟨h1, h2⟩ | h1
   ·exact .inl h1
   ·rcases hiq with h3 | h3
    ·exact absurd h3 h2
    ·exact .inr (by rw [h1]; exact h3)
   ·exact .inr (by omega)
 ·rcases p4 with h1 | ⟨h1, h2⟩ | h1
  ·exact .inl h1
  ·rcases h.qc with h3 | h3 | h3
   ·exact absurd h3 h2
   ·exact .inr (.inl (by rw [h1]; exact h3))
   ·exact .inr (.inr (by omega))
  ·exact .inr (.inr (by omega))
noncomputable abbrev L24 : Code := cL (cR (cL (cR (cR C24))))
noncomputable abbrev B24 : Code := cL (cL (cR (cR (cL L24))))
abbrev SF (r : Nat) (k : Int) (b : Nat) (items : List S57) (i : Int) (G : List AObj) : St := Sm 84 [(0, .ptr r 0), (2, dI k), (7, .ptr b 0), (22, dP e57 items), (23, dI (items.length : Int)), (24, dI i)] G
abbrev SG (r : Nat) (k : Int) (b a : Nat) (items : List S57) (i : Int) (G : List AObj) : St := Sm 84 [(0, .ptr r 0), (2, dI k), (7, .ptr b 0), (10, .ptr a 0), (22, dP e57 items), (23, dI (items.length : Int)), (24, dI i)] G
abbrev SH (r : Nat) (k : Int) (b a c : Nat) (items : List S57) (i : Int) (G : List AObj) : St := Sm 84 [(0, .ptr r 0), (2, dI k), (7, .ptr b 0), (10, .ptr a 0), (11, .ptr c 0), (22, dP e57 items), (23, dI (items.length : Int)), (24, dI i)] G
theorem region9 (m n : Nat) (hn : m + 10 ≤ n) (r : Nat) (k : Int) (b a : Nat) (items : List S57) (i : Int) (G : List AObj) (e : S40) (x : S57) (z : S40) (hz : nextE m e x = some z) (hb : G[b]? = some (boxE e)) (ha : G[a]? = some (boxX x)) {Q : Post}
  (hQ : ∀ σ, Abs.forget [0, 2, 7, 10, 11, 22, 23, 24] σ = SH r k b a G.length items i (G ++ [boxE z]) → Q .normal σ) :
  Ht False Proofs.Tryz.prog (cL (cR (cR B24))) (SG r k b a items i G) Q := by
 unfold nextE at hz
 obtain ⟨zb, eb, hz⟩ := bnd_some hz
 obtain ⟨zf, ef, hz⟩ := bnd_some hz
 obtain ⟨zt, et, hz⟩ := bnd_some hz
 cases hz
 refine Ht.rg (hxC n) (Ops.sg 1 1 ?_)
 refine Ops.on 2 (fun h0 e0 => (ldc (i := ti9) (h := h0) (r := b) (off := 0) (cs := [.v (.str e.fBase), .v (.str e.fForm), .v (vP eS e.fTags), dI e.fWeight]) (d := .v (.str e.fBase)) (hq_of (g := G) (e0.trans (by kernel_rfl)) hb) (by rfl))) ?_
 refine Ops.sg 1 3 ?_
 refine Ops.on 4 (fun h0 e0 => (ldc (i := ti9) (h := h0) (r := a) (off := 0) (cs := [.v (.str x.fBase), .v (.str x.fForm), .v (vP eS x.fTags), dI x.fNext, dI x.fWeight]) (d := .v (.str x.fBase)) (hq_of (g := G) (e0.trans (by kernel_rfl)) ha) (by rfl))) ?_
 refine Ops.on 5 (fun h0 e0 => (str_cat (T := T) h0 9 e.fBase x.fBase zb eb)) ?_
 refine Ops.sg 1 6 ?_
 refine Ops.on 7 (fun h0 e0 => (ldc (i := ti9) (h := h0) (r := b) (off := 1) (cs := [.v (.str e.fBase), .v (.str e.fForm), .v (vP eS e.fTags), dI e.fWeight]) (d := .v (.str e.fForm)) (hq_of (g := G) (e0.trans (by kernel_rfl)) hb) (by rfl))) ?_
 refine Ops.sg 1 8 ?_
 refine Ops.on 9 (fun h0 e0 => (ldc (i := ti9) (h := h0) (r := a) (off := 1) (cs := [.v (.str x.fBase), .v (.str x.fForm), .v (vP eS x.fTags), dI x.fNext, dI x.fWeight]) (d := .v (.str x.fForm)) (hq_of (g := G) (e0.trans (by kernel_rfl)) ha) (by rfl))) ?_
 refine Ops.on 10 (fun h0 e0 => (str_cat (T := T) h0 9 e.fForm x.fForm zf ef)) ?_
 refine Ops.sg 1 11 ?_
 refine Ops.on 12 (fun h0 e0 => (ldc (i := ti39) (h := h0) (r := b) (off := 2) (cs := [.v (.str e.fBase), .v (.str e.fForm), .v (vP eS e.fTags), dI e.fWeight]) (d := .v (vP eS e.fTags)) (hq_of (g := G) (e0.trans (by kernel_rfl)) hb) (by rfl))) ?_
 refine Ops.sg 1 13 ?_
 refine Ops.on 14 (fun h0 e0 => (ldc (i := ti39) (h := h0) (r := a) (off := 2) (cs := [.v (.str x.fBase), .v (.str x.fForm), .v (vP eS x.fTags), dI x.fNext, dI x.fWeight]) (d := .v (vP eS x.fTags)) (hq_of (g := G) (e0.trans (by kernel_rfl)) ha) (by rfl))) ?_
 refine Ops.sg 1 15 ?_
 refine Ops.on 16 (fun h0 e0 => callC (n := n) (h := h0) (f := 48) (by decide) (by kernel_rfl) (Args.v (.sl .nonfull [vP eS e.fTags, vP eS x.fTags]) ((eL (eL eS)) [e.fTags, x.fTags]) (by kernel_rfl) Args.nil) (ok48 m [e.fTags, x.fTags] zt et n (by omega))) ?_
 refine Ops.sg 1 17 ?_
 refine Ops.on 18 (fun h0 e0 => (ldc (i := ti3) (h := h0) (r := b) (off := 3) (cs := [.v (.str e.fBase), .v (.str e.fForm), .v (vP eS e.fTags), dI e.fWeight]) (d := dI e.fWeight) (hq_of (g := G) (e0.trans (by kernel_rfl)) hb) (by rfl))) ?_
 refine Ops.sg 1 19 ?_
 refine Ops.on 20 (fun h0 e0 => (ldc (i := ti3) (h := h0) (r := a) (off := 4) (cs := [.v (.str x.fBase), .v (.str x.fForm), .v (vP eS x.fTags), dI x.fNext, dI x.fWeight]) (d := dI x.fWeight) (hq_of (g := G) (e0.trans (by kernel_rfl)) ha) (by rfl))) ?_
 refine Ops.sg 3 23 ?_
 refine Ops.on 24 (fun h0 e0 => (stc (i := ti41) (h := h0) (r := G.length) (off := 0) (cs := [.v (.str ByteArray.empty), .v (.str ByteArray.empty), .v (.sl .nil []), dI 0]) (cs' := [.v (.str zb), .v (.str zf), .v (vP eS zt), dI (w64 (e.fWeight + x.fWeight))]) (x := .v (.agg [.str zb, .str zf, vP eS zt, vI (w64 (e.fWeight + x.fWeight))])) (hq_of (g := G ++ [.cells [.v (.str ByteArray.empty), .v (.str ByteArray.empty), .v (.sl .nil []), dI 0]]) (e0.trans (by kernel_rfl)) (gE _ _)) (by rfl) (by rfl))) ?_
 refine Ops.dn (hQ _ ?_)
 refine Eq.trans (b := SH r k b a G.length items i ((G ++ [AObj.cells [.v (.str ByteArray.empty), .v (.str ByteArray.empty), .v (.sl .nil []), dI 0]]).set G.length (boxE ⟨zb, zf, zt, w64 (e.fWeight + x.fWeight)⟩))) (by kernel_rfl) (Sm_heap (set_end _ _ _))
theorem CallT.of_eq {DR : Prop} {P : Program} {f : FuncId} {ds ds' : List D} {h h' : List AObj} {Q : D → List AObj → Prop} (e1 : ds = ds') (e2 : h = h') (hc : CallT DR P f ds' h' Q) : CallT DR P f ds h Q := by rw [e1, e2]; exact hc
theorem is24 : Is Proofs.Tryz.prog 24 := ⟨Proofs.Tryz.f24, Proofs.Tryz.func24, by kernel_rfl, by kernel_rfl⟩
theorem item54_rec (m n : Nat) (hn : m + 10 ≤ n) (l : S23) (k : Nat) (hk : k ≤ 1000)
  (ih : ∀ cls e s o, followL m l k cls e s = some o → ∀ H r q, r < H.length → Wk H r q l s.1 s.2 → CallT False Proofs.Tryz.prog 24 [.ptr r 0, dI cls, dI (k : Int), .v (e40 e)] H fun d h' => d = dB o.1 ∧ FPost l H r q s.1 h' o.2)
  (H : List AObj) (r q0 : Nat) (hr : r < H.length) (found0 : List S40) (e : S40) (items : List S57) (o : Bool × Fst) (i : Nat) (q : Nat) (s : Fst) (x : S57) (z : S40) (a c : Nat) (G3 : List AObj)
  (h3 : LI l H r q0 found0 e G3 q s) (hxa3 : G3[a]? = some (boxX x)) (hza3 : G3[c]? = some (boxE z))
  (ho : (bnd (followL m l k x.fNext z s) fun o => cnd (!o.1) (some (false, o.2)) (itemsL m (followL m l k) e (items.drop (i + 1)) o.2)) = some o) {Q : Post}
  (hend : ∀ σ, FQ l H r q0 found0 o .ret σ → Q .ret σ)
  (hnext : ∀ G' q' s', LI l H r q0 found0 e G' q' s' → itemsL m (followL m l k) e (items.drop (i + 1)) s' = some o → ∀ σ, Abs.forget [0, 2, 7, 22, 23, 24] σ = SF r ((k + 1 : Nat) : Int) H.length items i G' → Q .normal σ) :
  Ht False Proofs.Tryz.prog (cR (cR (cR (cR (cR B24))))) (SH r ((k + 1 : Nat) : Int) H.length a c items i G3) (blkH 1 Q) := by
 obtain ⟨p, hp, ho⟩ := bnd_some ho
 have hw : w64 (((k + 1 : Nat) : Int) - 1) = (k : Int) := by rw [w64_id ⟨by omega, by omega⟩]; omega
 have hcall := ih x.fNext z s p hp G3 r q (by have := h3.len; omega) h3.wk
 have hcall' : CallT False Proofs.Tryz.prog 24 [.ptr r 0, dI x.fNext, dI (w64 (((k + 1 : Nat) : Int) - 1)), .v (e40 z)] G3 fun d h' => d = dB p.1 ∧ FPost l G3 r q s.1 h' p.2 := by rw [hw]; exact hcall
 refine Ht.sq ?_
 refine Ht.regionCall' (hxC n) 6 (t := 81) (args := [.tmp 75, .tmp 77, .tmp 79, .tmp 80]) (Qc := fun d h' => d = dB p.1 ∧ FPost l G3 r q s.1 h' p.2) (by kernel_rfl) is24 ?_
 refine OpsU.seg' 2 2 (by kernel_rfl) ?_
 refine OpsU.one' 3 (fun h0 e0 => (ldc (i := ti3) (h := h0) (r := a) (off := 3) (cs := [.v (.str x.fBase), .v (.str x.fForm), .v (vP eS x.fTags), dI x.fNext, dI x.fWeight]) (d := dI x.fNext) (hq_of (g := G3) (e0.trans (by kernel_rfl)) hxa3) (by rfl))) (by kernel_rfl) (by kernel_rfl) ?_
 refine OpsU.seg' 2 5 (by kernel_rfl) ?_
 refine OpsU.one' 6 (fun h0 e0 => (ldc (i := ti41) (h := h0) (r := c) (off := 0) (cs := [.v (.str z.fBase), .v (.str z.fForm), .v (vP eS z.fTags), dI z.fWeight]) (d := .v (e40 z)) (hq_of (g := G3) (e0.trans (by kernel_rfl)) hza3) (by rfl))) (by kernel_rfl) (by kernel_rfl) ?_
 refine OpsU.done ⟨CallT.of_eq (by kernel_rfl) (by kernel_rfl) hcall', fun d h' hd => ?_⟩
 obtain ⟨rfl, hpost⟩ := hd
 obtain ⟨q', h5⟩ := h3.call hr hpost
 refine Ops.sg 1 8 (Ops.dn (seqH.n ?_))
 refine Ht.cond (!p.1) (by kernel_rfl) (by kernel_rfl) (fun hc2 => ?_) (fun hc2 => ?_)
 ·rw [hc2] at ho
  cases (cnd_t ho)
  refine Ht.sq (Ht.rg (hxC n) (Ops.sg 1 1 (Ops.dn (seqH.n (Ht.rt (blkH.r ?_))))))
  refine hend _ (FQ.of false (by kernel_rfl) rfl ?_)
  show FPost l H r q0 found0 h' _
  exact h5.post
 ·rw [hc2] at ho
  have ho := cnd_f ho
  refine Ht.sk (blkH.n ?_)
  exact hnext _ _ _ h5 ho _ (by kernel_rfl)
theorem item54 (m n : Nat) (hn : m + 10 ≤ n) (l : S23) (k : Nat) (hk : k ≤ 1000)
  (ih : ∀ cls e s o, followL m l k cls e s = some o → ∀ H r q, r < H.length → Wk H r q l s.1 s.2 → CallT False Proofs.Tryz.prog 24 [.ptr r 0, dI cls, dI (k : Int), .v (e40 e)] H fun d h' => d = dB o.1 ∧ FPost l H r q s.1 h' o.2)
  (H : List AObj) (r q0 : Nat) (hr : r < H.length) (found0 : List S40) (e : S40) (items : List S57) (hil : items.length ≤ 1000000) (o : Bool × Fst) (i : Nat) (hi : i < items.length) (G : List AObj) (q : Nat) (s : Fst) (h : LI l H r q0 found0 e G q s)
  (ho : itemsL m (followL m l k) e (items.drop i) s = some o) {Q : Post}
  (hend : ∀ σ, FQ l H r q0 found0 o .ret σ → Q .ret σ)
  (hnext : ∀ G' q' s', LI l H r q0 found0 e G' q' s' → itemsL m (followL m l k) e (items.drop (i + 1)) s' = some o → ∀ σ, Abs.forget [0, 2, 7, 22, 23, 24] σ = SF r ((k + 1 : Nat) : Int) H.length items i G' → Q .normal σ) :
  Ht False Proofs.Tryz.prog (cL (cR (cR (cL L24)))) (SF r ((k + 1 : Nat) : Int) H.length items i G) Q := by
 obtain ⟨x, hx⟩ : ∃ x, items[i]? = some x := ⟨_, List.getElem?_eq_getElem hi⟩
 have hd : items.drop i = x :: items.drop (i + 1) := by
  rw [List.drop_eq_getElem_cons hi]
  rw [List.getElem?_eq_getElem hi] at hx
  rw [Option.some.inj hx]
 have hix : idx items (i : Int) = some x := by rw [idx_get]; exact hx
 rw [hd] at ho
 simp only [itemsL] at ho
 have hGr : G[r]? = some (wkC l q s.1 s.2) := h.wk.cell
 have hGl := h.len
 refine Ht.bk 1 ?_
 show Ht False Proofs.Tryz.prog B24 _ _
 refine Ht.sq (Ht.rg (hxC n) ?_)
 refine Ops.on 1 (fun h0 e0 => (ix_r (T := T) h0 54 58 5 .plain e57 items i x hix (by kernel_rfl) (by kernel_rfl) (fun _ => rfl))) ?_
 refine Ops.sg 2 3 ?_
 refine Ops.on 4 (fun h0 e0 => (stc (i := ti58) (h := h0) (r := G.length) (off := 0) (cs := [.v (.str ByteArray.empty), .v (.str ByteArray.empty), .v (.sl .nil []), dI 0, dI 0]) (cs' := [.v (.str x.fBase), .v (.str x.fForm), .v (vP eS x.fTags), dI x.fNext, dI x.fWeight]) (x := .v (.agg [.str x.fBase, .str x.fForm, vP eS x.fTags, vI x.fNext, vI x.fWeight])) (hq_of (g := G ++ [.cells [.v (.str ByteArray.empty), .v (.str ByteArray.empty), .v (.sl .nil []), dI 0, dI 0]]) (e0.trans (by kernel_rfl)) (gE _ _)) (by rfl) (by rfl))) ?_
 refine Ops.dn (seqH.n ?_)
 refine Ht.forget [0, 2, 7, 10, 22, 23, 24] (Ht.st (σ' := SG r ((k + 1 : Nat) : Int) H.length G.length items i (G ++ [boxX x])) (Eq.trans (b := SG r ((k + 1 : Nat) : Int) H.length G.length items i ((G ++ [AObj.cells [.v (.str ByteArray.empty), .v (.str ByteArray.empty), .v (.sl .nil []), dI 0, dI 0]]).set G.length (boxX x))) (by kernel_rfl) (Sm_heap (set_end _ _ _))) ?_)
 -- one more step
 have hG1r : (G ++ [boxX x])[r]? = some (wkC l q s.1 s.2) := gA hGr
 refine Ht.sq (Ht.sq (Ht.rg (hxC n) (Ops.sg 3 3 ?_)))
 refine Ops.on 4 (fun h0 e0 => (ldc (i := ti3) (h := h0) (r := r) (off := 2) (cs := [dP e55 l.fClasses, fdD q s.1, dI s.2]) (d := dI s.2) (hq_of (g := G ++ [boxX x]) (e0.trans (by kernel_rfl)) hG1r) (by rfl))) ?_
 refine Ops.sg 3 7 ?_
 refine Ops.on 8 (fun h0 e0 => (stc (i := ti3) (h := h0) (r := r) (off := 2) (cs := [dP e55 l.fClasses, fdD q s.1, dI s.2]) (cs' := [dP e55 l.fClasses, fdD q s.1, dI (w64 (s.2 + 1))]) (x := dI (w64 (s.2 + 1))) (hq_of (g := G ++ [boxX x]) (e0.trans (by kernel_rfl)) hG1r) (by rfl) (by rfl))) ?_
 refine Ops.dn (seqH.n ?_)
 have h2 := h.item hr [boxX x] (w64 (s.2 + 1))
 have hxa : ((G ++ [boxX x]).set r (wkC l q s.1 (w64 (s.2 + 1))))[G.length]? = some (boxX x) := gS (gE G (boxX x)) (by omega)
 have hlen2 : ((G ++ [boxX x]).set r (wkC l q s.1 (w64 (s.2 + 1)))).length = G.length + 1 := by simp
 refine Ht.forget [0, 2, 7, 10, 22, 23, 24] (Ht.st (σ' := SG r ((k + 1 : Nat) : Int) H.length G.length items i ((G ++ [boxX x]).set r (wkC l q s.1 (w64 (s.2 + 1))))) (by kernel_rfl) ?_)
 generalize (G ++ [boxX x]).set r (wkC l q s.1 (w64 (s.2 + 1))) = G2 at *
 refine Ht.sq (Ht.rg (hxC n) (Ops.sg 3 3 ?_))
 refine Ops.on 4 (fun h0 e0 => (ldc (i := ti3) (h := h0) (r := r) (off := 2) (cs := [dP e55 l.fClasses, fdD q s.1, dI (w64 (s.2 + 1))]) (d := dI (w64 (s.2 + 1))) (hq_of (g := G2) (e0.trans (by kernel_rfl)) h2.wk.cell) (by rfl))) ?_
 refine Ops.sg 1 5 (Ops.dn (seqH.n ?_))
 refine Ht.cond (decide (w64 (s.2 + 1) > 20000)) (by kernel_rfl) (by kernel_rfl) (fun hc => ?_) (fun hc => ?_)
 ·rw [hc] at ho
  cases (cnd_t ho)
  refine Ht.sq (Ht.rg (hxC n) (Ops.sg 1 1 (Ops.dn (seqH.n (Ht.rt (seqH.r (blkH.r ?_)))))))
  refine hend _ (FQ.of false (by kernel_rfl) rfl ?_)
  show FPost l H r q0 found0 G2 _
  exact h2.post
 rw [hc] at ho
 have ho := cnd_f ho
 obtain ⟨z, hz, ho⟩ := bnd_some ho
 refine Ht.sk (seqH.n ?_)
 refine Ht.forget [0, 2, 7, 10, 22, 23, 24] (Ht.st (σ' := SG r ((k + 1 : Nat) : Int) H.length G.length items i G2) (by kernel_rfl) ?_)
 -- the new entry
 refine Ht.sq ?_
 refine region9 m n hn r _ H.length G.length items i G2 e x z hz h2.box hxa fun σ hσ => ?_
 refine seqH.n ?_
 refine Ht.forget [0, 2, 7, 10, 11, 22, 23, 24] (Ht.st hσ ?_)
 clear hσ σ
 have h3 := h2.app [boxE z]
 have hxa3 : (G2 ++ [boxE z])[G.length]? = some (boxX x) := gA hxa
 have hza3 : (G2 ++ [boxE z])[G2.length]? = some (boxE z) := gE _ _
 generalize G2 ++ [boxE z] = G3 at *
 refine Ht.sq (Ht.rg (hxC n) (Ops.sg 1 1 ?_))
 refine Ops.on 2 (fun h0 e0 => (ldc (i := ti3) (h := h0) (r := G.length) (off := 3) (cs := [.v (.str x.fBase), .v (.str x.fForm), .v (vP eS x.fTags), dI x.fNext, dI x.fWeight]) (d := dI x.fNext) (hq_of (g := G3) (e0.trans (by kernel_rfl)) hxa3) (by rfl))) ?_
 refine Ops.sg 1 3 (Ops.dn (seqH.n ?_))
 refine Ht.cond (decide (x.fNext < 0)) (by kernel_rfl) (by kernel_rfl) (fun hc1 => ?_) (fun hc1 => ?_)
 ·rw [hc1] at ho
  have ho := cnd_t ho
  obtain ⟨zs, hzs, ho⟩ := bnd_some ho
  have hzz : zs = s.1 ++ [z] := by
   unfold Abs.app at hzs
   split at hzs
   ·cases hzs; rfl
   ·cases hzs
  have h4 := h3.push hr z
  refine Ht.rg (hxC n) (Ops.sg 4 4 ?_)
  refine Ops.on 5 (fun h0 e0 => (ldc (i := ti36) (h := h0) (r := r) (off := 1) (cs := [dP e55 l.fClasses, fdD q s.1, dI (w64 (s.2 + 1))]) (d := fdD q s.1) (hq_of (g := G3) (e0.trans (by kernel_rfl)) h3.wk.cell) (by rfl))) ?_
  refine Ops.on 6 (fun h0 e0 => (ldc (i := ti41) (h := h0) (r := G2.length) (off := 0) (cs := [.v (.str z.fBase), .v (.str z.fForm), .v (vP eS z.fTags), dI z.fWeight]) (d := .v (e40 z)) (hq_of (g := G3) (e0.trans (by kernel_rfl)) hza3) (by rfl))) ?_
  refine Ops.sg 1 7 ?_
  refine Ops.on 8 (fun h0 e0 => (appE (h := h0) (q := q) (found := s.1) (zs := zs) (x := z) hzs (fun hf => hq_of (g := G3) (e0.trans (by kernel_rfl)) (h3.wk.row hf)))) ?_
  refine Ops.sg 2 10 ?_
  refine Ops.on 11 (fun h0 e0 => (stc (i := ti36) (h := h0) (r := r) (off := 1) (cs := [dP e55 l.fClasses, fdD q s.1, dI (w64 (s.2 + 1))]) (cs' := [dP e55 l.fClasses, .osl G3.length 0 (s.1.length + 1) false, dI (w64 (s.2 + 1))]) (x := .osl G3.length 0 (s.1.length + 1) false) (hq_of (g := pushH G3 q s.1 z) (e0.trans (by kernel_rfl)) (push_get h3.wk.cell (by by_cases hs : s.1 = []; exact .inl hs; exact .inr (h3.wk.ne hs)))) (by rfl) (by rfl))) ?_
  refine Ops.dn (blkH.n ?_)
  have hne : (s.1 ++ [z]).map e40 ≠ [] := by simp
  have hfd : fdD G3.length (s.1 ++ [z]) = .osl G3.length 0 (s.1.length + 1) false := by
   unfold fdD
   rw [rowD_cons hne]; simp
  have hwk : wkC l G3.length (s.1 ++ [z]) (w64 (s.2 + 1)) = .cells [dP e55 l.fClasses, .osl G3.length 0 (s.1.length + 1) false, dI (w64 (s.2 + 1))] := by
   unfold wkC; rw [hfd]
  rw [hwk] at h4
  refine hnext _ _ _ h4 (by rw [← hzz]; exact ho) _ (by kernel_rfl)
 ·rw [hc1] at ho
  have ho := cnd_f ho
  refine Ht.forget [0, 2, 7, 10, 11, 22, 23, 24] (Ht.st (σ' := SH r ((k + 1 : Nat) : Int) H.length G.length G2.length items i G3) (by kernel_rfl) ?_)
  exact item54_rec m n hn l k hk ih H r q0 hr found0 e items o i q (s.1, w64 (s.2 + 1)) x z G.length G2.length G3 h3 hxa3 hza3 ho hend hnext
theorem follow24 (m n : Nat) (hn : m + 10 ≤ n) (l : S23) (hl : ∀ c ∈ l.fClasses, c.fItems.length ≤ 1000000) : ∀ (k : Nat), k ≤ 1000 → ∀ cls e s o, followL m l k cls e s = some o → ∀ H r q, r < H.length → Wk H r q l s.1 s.2 →
  CallT False Proofs.Tryz.prog 24 [.ptr r 0, dI cls, dI (k : Int), .v (e40 e)] H fun d h' => d = dB o.1 ∧ FPost l H r q s.1 h' o.2 := by
 intro k
 induction k with
 | zero =>
  intro _ cls e s o ho H r q hr hw
  cases ho
  refine callT_of_ht (c := C24) (T := T) Proofs.Tryz.func24 (by kernel_rfl) T_ok ?_
  refine Ht.mono (Q := FQ l H r q s.1 (true, s)) ?_ fun e σ ⟨h1, d, h2, h3⟩ => ⟨h1, d, h2, h3⟩
  show Ht False Proofs.Tryz.prog C24 _ _
  refine Ht.sq (Ht.rg (hxC n) (Ops.sg 2 2 (Ops.dn (seqH.n (Ht.sq (Ht.sq (Ht.rg (hxC n) (Ops.sg 2 2 (Ops.dn (seqH.n ?_))))))))))
  refine Ht.cond true (by kernel_rfl) (by kernel_rfl) (fun _ => ?_) (fun hc => nomatch hc)
  refine Ht.sq (Ht.rg (hxC n) (Ops.sg 1 1 (Ops.dn (seqH.n (Ht.rt (seqH.r (FQ.of true (by kernel_rfl) rfl ?_)))))))
  show FPost l H r q s.1 (H ++ [boxE e]) s
  exact ⟨q, hw.app, by simp, fun i hi _ _ => List.getElem?_append_left hi, (Decidable.em (s.1 = [])).imp_right fun h => .inl ⟨rfl, h⟩⟩
 | succ k ihk =>
  intro hk cls e s o ho H r q hr hw
  simp only [followL] at ho
  obtain ⟨c, hc, ho⟩ := bnd_some ho
  have hcm : c ∈ l.fClasses := by
   unfold idx at hc
   split at hc
   ·exact List.mem_of_getElem? hc
   ·cases hc
  have hil := hl c hcm
  refine callT_of_ht (c := C24) (T := T) Proofs.Tryz.func24 (by kernel_rfl) T_ok ?_
  refine Ht.mono (Q := FQ l H r q s.1 o) ?_ fun e σ ⟨h1, d, h2, h3⟩ => ⟨h1, d, h2, h3⟩
  show Ht False Proofs.Tryz.prog C24 _ _
  refine Ht.sq (Ht.rg (hxC n) (Ops.sg 2 2 (Ops.dn (seqH.n (Ht.sq (Ht.sq (Ht.rg (hxC n) (Ops.sg 2 2 (Ops.dn (seqH.n ?_))))))))))
  refine Ht.cond (((k + 1 : Nat) : Int) == 0) (by kernel_rfl) (by kernel_rfl) (fun h0 => ?_) (fun _ => ?_)
  ·have : ((k + 1 : Nat) : Int) = 0 := by simpa using h0
   omega
  refine Ht.sk (seqH.n ?_)
  refine Ht.forget [0, 1, 2, 7] (Ht.st (σ' := Sm 84 [(0, .ptr r 0), (1, dI cls), (2, dI ((k + 1 : Nat) : Int)), (7, .ptr H.length 0)] (H ++ [boxE e])) (by kernel_rfl) ?_)
  have hcell : (H ++ [boxE e])[r]? = some (wkC l q s.1 s.2) := gA hw.cell
  refine Ht.sq (Ht.sq (Ht.rg (hxC n) (Ops.sg 4 4 ?_)))
  refine Ops.on 5 (fun h0 e0 => (ldc (i := ti22) (h := h0) (r := r) (off := 0) (cs := [dP e55 l.fClasses, fdD q s.1, dI s.2]) (d := dP e55 l.fClasses) (hq_of (g := H ++ [boxE e]) (e0.trans (by kernel_rfl)) hcell) (by rfl))) ?_
  refine Ops.sg 1 6 ?_
  refine Ops.on 7 (fun h0 e0 => (ix_r (T := T) h0 22 56 2 .plain e55 l.fClasses cls c hc (by kernel_rfl) (by kernel_rfl) (fun _ => rfl))) ?_
  refine Ops.sg 2 9 ?_
  refine Ops.on 10 (fun h0 e0 => (len_r (T := T) h0 54 58 .plain e57 c.fItems (by kernel_rfl))) ?_
  refine Ops.sg 1 11 (Ops.dn (seqH.n (Ht.bk 0 ?_)))
  have hli : LI l H r q s.1 e (H ++ [boxE e]) q s := ⟨hw.app, by simp, gE _ _, fun i hi _ _ => List.getElem?_append_left hi, (Decidable.em (s.1 = [])).imp_right fun h => .inl ⟨rfl, h⟩⟩
  refine Ht.loop (fun mm σ => ∃ (i : Nat) (G : List AObj) (q' : Nat) (s' : Fst), mm = c.fItems.length - i ∧ i ≤ c.fItems.length ∧ LI l H r q s.1 e G q' s' ∧ itemsL m (followL m l k) e (c.fItems.drop i) s' = some o ∧ Abs.forget [0, 2, 7, 22, 23, 24] σ = SF r ((k + 1 : Nat) : Int) H.length c.fItems i G) c.fItems.length (by kernel_rfl)
   ⟨0, _, q, s, rfl, Nat.zero_le _, hli, ho, by kernel_rfl⟩ ?_
  clear ho hli
  rintro mm σ ⟨i, G, q', s', rfl, hi, hli, ho, hσ⟩
  refine Ht.forget [0, 2, 7, 22, 23, 24] (Ht.st hσ ?_)
  clear hσ
  refine Ht.sq (Ht.rg (hxC n) (Ops.sg 1 1 (Ops.dn (seqH.n (Ht.sq ?_)))))
  refine Ht.cond (decide ((i : Int) < (c.fItems.length : Int))) (by kernel_rfl) (by kernel_rfl) (fun hc1 => ?_) (fun hc1 => ?_)
  case refine_2 =>
   have hc1 := of_decide_eq_false hc1
   have hdr : c.fItems.drop i = [] := List.drop_eq_nil_of_le (by omega)
   rw [hdr] at ho
   cases ho
   refine Ht.exit (id := 0) (by kernel_rfl) (seqH.x ?_)
   show Ht False Proofs.Tryz.prog (cR (cR (cR C24))) _ _
   refine Ht.sq (Ht.rg (hxC n) (Ops.sg 1 1 (Ops.dn (seqH.n (Ht.rt (FQ.of true (by kernel_rfl) rfl ?_))))))
   show FPost l H r q s.1 G s'
   exact hli.post
  have hc1 := of_decide_eq_true hc1
  refine Ht.sk (seqH.n (Ht.sq ?_))
  refine Ht.forget [0, 2, 7, 22, 23, 24] (Ht.st (σ' := SF r ((k + 1 : Nat) : Int) H.length c.fItems i G) (by kernel_rfl) ?_)
  refine item54 m n hn l k (by omega) (ihk (by omega)) H r q hr s.1 e c.fItems hil o i (by omega) G q' s' hli ho (fun σ hσ => ?_) fun G' q2 s2 hli2 ho2 σ hσ => ?_
  ·exact hσ
  refine seqH.n ?_
  refine Ht.forget [0, 2, 7, 22, 23, 24] (Ht.st hσ ?_)
  clear hσ
  refine Ht.rg (hxC n) (Ops.sg 2 2 (Ops.dn ?_))
  have hw3 : w64 ((i : Int) + 1) = ((i + 1 : Nat) : Int) := by rw [w64_id ⟨by omega, by omega⟩]; omega
  refine ⟨c.fItems.length - (i + 1), by omega, i + 1, G', q2, s2, rfl, by omega, hli2, ho2, ?_⟩
  have e1 : ∀ (b : Int), b = ((i + 1 : Nat) : Int) → SF r ((k + 1 : Nat) : Int) H.length c.fItems b G' = SF r ((k + 1 : Nat) : Int) H.length c.fItems ((i + 1 : Nat) : Int) G' := fun b hb => by rw [hb]
  refine Eq.trans ?_ (e1 (w64 ((i : Int) + 1)) hw3)
  kernel_rfl
theorem calls_of_ht {DR : Prop} {P : Program} {f : Nat} {fn : Func} {c : Code} {T : Nat → Option TI} (hfn : P.funcs[f]? = some fn) (hc : fn.body = some c) (hT : ∀ t i, T t = some i → tiOf P t = some i) {xs : List V} {r : V} {N : Nat}
  (ht : Ht DR P (bodyOf P f) (startIn P f (xs.map .v) []) (fun e σ => (e = .normal ∨ e = .ret) ∧ ∃ d, resultsD T σ (resOf P f) = some d ∧ frz σ.heap N d = some r)) {S : Nat → Nat → Prop} {w : World} {us : Array Value} (hrel : RelL S [] w us (xs.map .v)) (hS : ∀ b i, S b i → b < w.heap.size) (hG : Glob S w) :
  Calls P f us w fun e w' => ∃ v S', e = .returned v ∧ Ext DR S [] w S' [] w' ∧ HInv S' [] w' [] ∧ RelV S' w' v r := by
 have hi := hinv_nil hS hG
 refine (callT_of_ht (Qc := fun d h' => frz h' N d = some r) hfn hc hT ht S [] w us hrel hi).mono ?_
 rintro e w' ⟨d, h', v, S1, β1, hz, rfl, hE1, hI1, hR1⟩
 have hin : ∀ b i, withOwn S1 β1 h' b i → S b i ∨ w.heap.size ≤ b := by
  intro b i hs
  rcases hs with hs | ⟨q, o, c, k, g1, g2, g3⟩
  ·rcases hE1.stay b i hs with g | g | ⟨q, c, k, g⟩
   ·exact .inl g
   ·exact .inr g
   ·simp at g
  ·obtain ⟨k', rfl⟩ := hI1.kpos g1 g2 g3
   rcases hE1.fresh q b c k' g3 with g | ⟨q', c', k'', g⟩
   ·exact .inr g
   ·simp at g
 obtain ⟨b1, b2⟩ := back_from (S' := withOwn S1 β1 h') (h1 := h') hi hE1 (fun _ _ h => h) (fun b i hs => .inl (hE1.keeps b i hs).1) hin (own_sb hI1)
 exact ⟨v, _, rfl, b1, b2, frz_sound hI1 N _ _ _ hz hR1⟩
def MM : Nat := 60000
def zE : S40 := ⟨ByteArray.empty, ByteArray.empty, [], 0⟩
def isz (f : S31) : Bool := (f.fCode == 0) && ((f.fIndex == 0) && true)
def smallL (l : List S40) : Bool := decide (l.length ≤ 1000000) && l.all fun x => decide (x.fTags.length ≤ 50000)
def finE (found : List S40) : Option (List S40 × S31) := cnd (smallL found) (cnd (decide (((compactL (srtC cmpE found)).length : Int) > 300)) (some ([], ⟨17, -1⟩)) (some (compactL (srtC cmpE found), ⟨0, 0⟩))) none
def entriesL (l : S23) (most : Int) : Option (List S40 × S31) :=
 bnd (f14 MM l) fun f => cnd (!isz f) (some ([], f)) (cnd (decide (most < 1) || decide (most > 30)) (some ([], ⟨3, -2⟩)) (cnd (l.fClasses.all fun c => decide (c.fItems.length ≤ 1000000))
  (bnd (followL MM l most.toNat 0 zE ([], 0)) fun o => cnd (!o.1) (some ([], ⟨17, -1⟩)) (finE o.2.1)) none))
noncomputable def C7 : Code := bodyOf Proofs.Tryz.prog 7
def EQ (o : List S40 × S31) : Post := fun e σ => (e = .normal ∨ e = .ret) ∧ ∃ d, resultsD T σ (resOf Proofs.Tryz.prog 7) = some d ∧ frz σ.heap 15 d = some (.tuple [eL e40 o.1, e31 o.2])
theorem EQ.nil {f : S31} {σ : St} (h4 : σ.tmps.getD 4 .undef = .v (.sl .nil [])) (h5 : σ.tmps.getD 5 .undef = .ptr 1 0) (hh : σ.heap[1]? = some (.cells [dI f.fCode, dI f.fIndex])) : EQ ([], f) .ret σ := by
 have hr : resOf Proofs.Tryz.prog 7 = [.tmp 4, .cell 5 32] := by kernel_rfl
 refine ⟨.inr rfl, .v (.tuple [.sl .nil [], e31 f]), ?_, rfl⟩
 rw [hr]
 simp only [resultsD, allM, resultD, T, h4, h5, loadD, hh]
 rfl
theorem EQ.row {f : S31} {l : List S40} {q : Nat} {σ : St} (hl : l ≠ []) (h4 : σ.tmps.getD 4 .undef = .osl q 0 l.length false) (h5 : σ.tmps.getD 5 .undef = .ptr 1 0) (hh : σ.heap[1]? = some (.cells [dI f.fCode, dI f.fIndex])) (hq : σ.heap[q]? = some (.row 4 (l.map e40))) : EQ (l, f) .ret σ := by
 have hr : resOf Proofs.Tryz.prog 7 = [.tmp 4, .cell 5 32] := by kernel_rfl
 refine ⟨.inr rfl, .tuple [.osl q 0 l.length false, .v (e31 f)], ?_, ?_⟩
 ·rw [hr]
  simp only [resultsD, allM, resultD, T, h4, h5, loadD, hh]
  rfl
 ·have e1 : frz σ.heap 14 (.osl q 0 l.length false) = some (.sl .plain (l.map e40)) := by
   simp only [frz, hq]
   rw [if_pos (by rw [List.length_map]; omega), List.drop_zero, List.take_of_length_le (by rw [List.length_map]; exact Nat.le_refl _)]
  have e2 : frz σ.heap 14 (.v (e31 f)) = some (e31 f) := rfl
  show ((allM (frz σ.heap 14) [.osl q 0 l.length false, .v (e31 f)]).map V.tuple) = _
  simp only [allM, e1, e2, Option.map_some]
  rfl
theorem sortE {n : Nat} {h : List AObj} {q : Nat} {l : List S40} (hne : l ≠ []) (hl : l.length ≤ 1000000) (ho : h[q]? = some (.row 4 (l.map e40))) :
  callD (XC n).E (GC n) 25 [.osl q 0 l.length false, .v (.fn 26)] h = some (U, h.set q (.row 4 ((srtC cmpE l).map e40))) := by
 have hp : (XC n).E.pureF 25 = false := by kernel_rfl
 have hpos : 0 < l.length := List.length_pos_iff.2 hne
 have hOw : (XC n).E.ownR 25 = none := rfl
 simp only [callD, hp, hOw, Bool.false_eq_true, if_false, GC, if_true, sortFnF, ho]
 rw [if_pos ⟨trivial, trivial, by rw [List.length_map], hpos, by omega⟩, allM_decE]
 rfl
theorem sortN {n : Nat} {h : List AObj} : callD (XC n).E (GC n) 25 [.v (.sl .nil []), .v (.fn 26)] h = some (U, h) := by
 have hp : (XC n).E.pureF 25 = false := by kernel_rfl
 have hOw : (XC n).E.ownR 25 = none := rfl
 simp only [callD, hp, hOw, Bool.false_eq_true, if_false, GC, if_true, sortFnF]
theorem is27 : Is Proofs.Tryz.prog 27 := ⟨Proofs.Tryz.f27, Proofs.Tryz.func27, by kernel_rfl, by kernel_rfl⟩
theorem call27n (n : Nat) (H : List AObj) : CallT False Proofs.Tryz.prog 27 [.v (.sl .nil []), .v (.fn 28)] H fun d h' => d = .v (.sl .nil []) ∧ h' = H := by
 have hr : resOf Proofs.Tryz.prog 27 = [.tmp 4] := by kernel_rfl
 refine callT_of_ht (c := C27) (T := T) Proofs.Tryz.func27 (by kernel_rfl) T_ok ?_
 show Ht False Proofs.Tryz.prog C27 _ _
 refine Ht.sq (Ht.rg (hxC n) (Ops.sg 1 1 (Ops.dn (seqH.n (Ht.sq (Ht.sq (Ht.rg (hxC n) (Ops.sg 3 3 (Ops.dn (seqH.n ?_))))))))))
 refine Ht.cond true (by kernel_rfl) (by kernel_rfl) (fun _ => ?_) (fun hc => nomatch hc)
 refine Ht.sq (Ht.rg (hxC n) (Ops.sg 2 2 (Ops.dn (seqH.n (Ht.rt (seqH.r ?_))))))
 refine ⟨.inr rfl, .v (.sl .nil []), ?_, rfl, by kernel_rfl⟩
 have fin : ∀ σ : St, σ.tmps.getD 4 .undef = .v (.sl .nil []) → resultsD T σ (resOf Proofs.Tryz.prog 27) = some (.v (.sl .nil [])) := fun σ h4 => by
  rw [hr]; simp only [resultsD, allM, resultD, h4]
 exact fin _ (by kernel_rfl)
abbrev SE (H : List AObj) : St := Sm 47 [(4, .v (.sl .nil [])), (5, .ptr 1 0), (7, .ptr 3 0)] H
abbrev fZ : AObj := .cells [dI 0, dI 0]
theorem end7 (n : Nat) (hn : n = MM + 30) (l : S23) (found : List S40) (steps : Int) (q : Nat) (H : List AObj) (hw : Wk H 3 q l found steps) (h1 : H[1]? = some fZ) (hq1 : found = [] ∨ q ≠ 1) (o : List S40 × S31) (ho : finE found = some o) :
  Ht False Proofs.Tryz.prog (cR (cR (cR (cR (cR C7))))) (SE H) (EQ o) := by
 unfold finE at ho
 rcases cnd_some ho with ⟨hs, ho⟩ | ⟨_, ho⟩
 case inr => cases ho
 unfold smallL at hs
 rw [Bool.and_eq_true, decide_eq_true_eq, List.all_eq_true] at hs
 obtain ⟨hlen, htag⟩ := hs
 by_cases hf : found = []
 ·subst hf
  have e0 : compactL (srtC cmpE []) = [] := by simp [srtC, compactL]
  rw [e0] at ho
  have ho : o = ([], ⟨0, 0⟩) := (Option.some.inj ho).symm
  subst ho
  have hcell : H[3]? = some (.cells [dP e55 l.fClasses, .v (.sl .nil []), dI steps]) := hw.cell
  refine Ht.sq (Ht.rg (hxC n) (Ops.sg 3 3 ?_))
  refine Ops.on 4 (fun h0 e0 => (ldc (i := ti36) (h := h0) (r := 3) (off := 1) (cs := [dP e55 l.fClasses, .v (.sl .nil []), dI steps]) (d := .v (.sl .nil [])) (hq_of (g := H) (e0.trans (by kernel_rfl)) hcell) (by rfl))) ?_
  refine Ops.on 5 (fun h0 e0 => sortN (n := n) (h := h0)) ?_
  refine Ops.dn (seqH.n (Ht.sq ?_))
  refine Ht.forget [4, 5, 7] (Ht.st (σ' := SE H) (by kernel_rfl) ?_)
  refine Ht.regionCall' (hxC n) 4 (t := 40) (args := [.tmp 39, .func 28]) (Qc := fun d h' => d = .v (.sl .nil []) ∧ h' = H) (by kernel_rfl) is27 ?_
  refine OpsU.seg' 3 3 (by kernel_rfl) ?_
  refine OpsU.one' 4 (fun h0 e0 => (ldc (i := ti36) (h := h0) (r := 3) (off := 1) (cs := [dP e55 l.fClasses, .v (.sl .nil []), dI steps]) (d := .v (.sl .nil [])) (hq_of (g := H) (e0.trans (by kernel_rfl)) hcell) (by rfl))) (by kernel_rfl) (by kernel_rfl) ?_
  refine OpsU.done ⟨CallT.of_eq (by kernel_rfl) (by kernel_rfl) (call27n n H), fun d h' hd => ?_⟩
  obtain ⟨rfl, rfl⟩ := hd
  refine Ops.sg 1 6 (Ops.dn (seqH.n (Ht.sq (Ht.sq (Ht.rg (hxC n) (Ops.sg 3 3 (Ops.dn (seqH.n ?_))))))))
  refine Ht.cond false (by kernel_rfl) (by kernel_rfl) (fun hc => nomatch hc) (fun _ => ?_)
  refine Ht.sk (seqH.n (Ht.sq (Ht.rg (hxC n) (Ops.sg 3 3 ?_))))
  refine Ops.on 4 (fun h0 e0 => (stc (i := ti32) (h := h0) (r := 1) (off := 0) (cs := [dI 0, dI 0]) (cs' := [dI 0, dI 0]) (x := .v (.agg [vI 0, vI 0])) (hq_of (g := h') (e0.trans (by kernel_rfl)) h1) (by rfl) (by rfl))) ?_
  refine Ops.dn (seqH.n (Ht.rt ?_))
  have hh : ∀ σ : St, σ.heap = h'.set 1 fZ → σ.heap[1]? = some fZ := fun σ e => by rw [e]; exact List.getElem?_set_self (lt_of_getElem? h1)
  exact EQ.nil (f := ⟨0, 0⟩) (by kernel_rfl) (by kernel_rfl) (hh _ (by kernel_rfl))
 ·have hne : found.map e40 ≠ [] := by simpa using hf
  have hrow : H[q]? = some (.row 4 (found.map e40)) := by rw [← rowO_cons hne]; exact hw.row hf
  have hq3 := hw.ne hf
  have hq1 := hq1.resolve_left hf
  have hfd : fdD q found = .osl q 0 found.length false := by unfold fdD; rw [rowD_cons hne, List.length_map]
  have hcell : H[3]? = some (.cells [dP e55 l.fClasses, .osl q 0 found.length false, dI steps]) := by rw [← hfd]; exact hw.cell
  have hsl : (srtC cmpE found).length = found.length := (srtC_perm found).length_eq
  have hs1 : (hR H q (srtC cmpE found))[3]? = some (.cells [dP e55 l.fClasses, .osl q 0 found.length false, dI steps]) := gS hcell hq3
  have hql := lt_of_getElem? hrow
  have hs2 := hR_get hql (srtC cmpE found)
  have h11 : ∀ R, (hR H q R)[1]? = some fZ := fun R => gS h1 hq1
  refine Ht.sq (Ht.rg (hxC n) (Ops.sg 3 3 ?_))
  refine Ops.on 4 (fun h0 e0 => (ldc (i := ti36) (h := h0) (r := 3) (off := 1) (cs := [dP e55 l.fClasses, .osl q 0 found.length false, dI steps]) (d := .osl q 0 found.length false) (hq_of (g := H) (e0.trans (by kernel_rfl)) hcell) (by rfl))) ?_
  refine Ops.on 5 (fun h0 e0 => sortE (n := n) (h := h0) hf hlen (hq_of (g := H) (e0.trans (by kernel_rfl)) hrow)) ?_
  refine Ops.dn (seqH.n (Ht.sq ?_))
  refine Ht.forget [4, 5, 7] (Ht.st (σ' := SE (hR H q (srtC cmpE found))) (by kernel_rfl) ?_)
  have hc57 : CallT False Proofs.Tryz.prog 27 [sD q found.length, .v (.fn 28)] (hR H q (srtC cmpE found)) fun d h' => d = sD q (compactL (srtC cmpE found)).length ∧ h' = hR (hR H q (srtC cmpE found)) q (compactL (srtC cmpE found)) := by
   rw [← hsl]
   exact call27 n _ q (srtC cmpE found) (by omega) (fun x hx => by
    have := of_decide_eq_true (htag x ((srtC_perm found).mem_iff.1 hx))
    subst hn; unfold MM; omega) (by subst hn; unfold MM; omega) hs2
  have hrr : ∀ a b, hR (hR H q a) q b = hR H q b := fun a b => by simp only [hR, List.set_set]
  simp only [hrr] at hc57
  refine Ht.regionCall' (hxC n) 4 (t := 40) (args := [.tmp 39, .func 28]) (Qc := fun d h' => d = sD q (compactL (srtC cmpE found)).length ∧ h' = hR H q (compactL (srtC cmpE found))) (by kernel_rfl) is27 ?_
  refine OpsU.seg' 3 3 (by kernel_rfl) ?_
  refine OpsU.one' 4 (fun h0 e0 => (ldc (i := ti36) (h := h0) (r := 3) (off := 1) (cs := [dP e55 l.fClasses, .osl q 0 found.length false, dI steps]) (d := .osl q 0 found.length false) (hq_of (g := hR H q (srtC cmpE found)) (e0.trans (by kernel_rfl)) hs1) (by rfl))) (by kernel_rfl) (by kernel_rfl) ?_
  refine OpsU.done ⟨CallT.of_eq (by kernel_rfl) (by kernel_rfl) hc57, fun d h' hd => ?_⟩
  obtain ⟨rfl, rfl⟩ := hd
  generalize hC : compactL (srtC cmpE found) = C at *
  have hCne : C ≠ [] := by
   subst hC
   intro h
   cases hx : srtC cmpE found with
   | nil => rw [hx] at hsl; exact hf (List.length_eq_zero_iff.1 hsl.symm)
   | cons a r => rw [hx] at h; cases h
  have hg1 := h11 C
  have hg2 := hR_get hql C
  generalize hR H q C = H5 at *
  refine Ops.sg 1 6 (Ops.dn (seqH.n (Ht.sq (Ht.sq (Ht.rg (hxC n) (Ops.sg 3 3 (Ops.dn (seqH.n ?_))))))))
  refine Ht.cond (decide ((C.length : Int) > 300)) (by kernel_rfl) (by kernel_rfl) (fun hc => ?_) (fun hc => ?_)
  ·rw [hc] at ho
   cases (cnd_t ho)
   refine Ht.sq (Ht.rg (hxC n) ?_)
   refine Ops.on 1 (fun h0 e0 => callC (n := n) (h := h0) (f := 18) (by decide) (by kernel_rfl) (Args.v (vI 17) (eI 17) (by kernel_rfl) (Args.v (vI (-1)) (eI (-1)) (by kernel_rfl) Args.nil)) (ok18 MM 17 (-1) ⟨17, -1⟩ rfl n (by omega))) ?_
   refine Ops.sg 1 2 ?_
   refine Ops.on 3 (fun h0 e0 => (stc (i := ti32) (h := h0) (r := 1) (off := 0) (cs := [dI 0, dI 0]) (cs' := [dI 17, dI (-1)]) (x := .v (.agg [vI 17, vI (-1)])) (hq_of (g := H5) (e0.trans (by kernel_rfl)) hg1) (by rfl) (by rfl))) ?_
   refine Ops.dn (seqH.n (Ht.rt (seqH.r ?_)))
   have hh : ∀ σ : St, σ.heap = H5.set 1 (.cells [dI 17, dI (-1)]) → σ.heap[1]? = some (.cells [dI 17, dI (-1)]) := fun σ e => by rw [e]; exact List.getElem?_set_self (lt_of_getElem? hg1)
   exact EQ.nil (f := ⟨17, -1⟩) (by kernel_rfl) (by kernel_rfl) (hh _ (by kernel_rfl))
  ·rw [hc] at ho
   cases (cnd_f ho)
   refine Ht.sk (seqH.n (Ht.sq (Ht.rg (hxC n) (Ops.sg 3 3 ?_))))
   refine Ops.on 4 (fun h0 e0 => (stc (i := ti32) (h := h0) (r := 1) (off := 0) (cs := [dI 0, dI 0]) (cs' := [dI 0, dI 0]) (x := .v (.agg [vI 0, vI 0])) (hq_of (g := H5) (e0.trans (by kernel_rfl)) hg1) (by rfl) (by rfl))) ?_
   refine Ops.dn (seqH.n (Ht.rt ?_))
   have hh : ∀ σ : St, σ.heap = H5.set 1 fZ → σ.heap[1]? = some fZ := fun σ e => by rw [e]; exact List.getElem?_set_self (lt_of_getElem? hg1)
   have hh2 : ∀ σ : St, σ.heap = H5.set 1 fZ → σ.heap[q]? = some (.row 4 (C.map e40)) := fun σ e => by rw [e]; exact gS hg2 (Ne.symm hq1)
   exact EQ.row (f := ⟨0, 0⟩) (q := q) hCne (by kernel_rfl) (by kernel_rfl) (hh _ (by kernel_rfl)) (hh2 _ (by kernel_rfl))
abbrev h27 (l : S23) (f : S31) : List AObj := [.cells [dP e55 l.fClasses], fZ, .cells [dI f.fCode, dI f.fIndex]]
abbrev SA (l : S23) (most : Int) (H : List AObj) : St := Sm 47 [(1, dI most), (2, .ptr 0 0), (4, .v (.sl .nil [])), (5, .ptr 1 0)] H
theorem bad7 (n : Nat) (hn : n = MM + 30) (l : S23) (most : Int) (f : S31) {Q : Post} (hQ : ∀ σ, EQ ([], ⟨3, -2⟩) .ret σ → Q .ret σ) : Ht False Proofs.Tryz.prog (cL (cR (cL (cR (cR C7))))) (SA l most (h27 l f)) Q := by
 refine Ht.sq (Ht.rg (hxC n) ?_)
 refine Ops.on 1 (fun h0 e0 => callC (n := n) (h := h0) (f := 18) (by decide) (by kernel_rfl) (Args.v (vI 3) (eI 3) (by kernel_rfl) (Args.v (vI (-2)) (eI (-2)) (by kernel_rfl) Args.nil)) (ok18 MM 3 (-2) ⟨3, -2⟩ rfl n (by omega))) ?_
 refine Ops.sg 2 3 (Ops.dn (seqH.n (Ht.rt ?_)))
 exact hQ _ (EQ.nil (f := ⟨3, -2⟩) (by kernel_rfl) (by kernel_rfl) (by kernel_rfl))
theorem CallT.plain4 {DR : Prop} {P : Program} {f : FuncId} {a b c : D} {x : V} {h : List AObj} {Q : D → List AObj → Prop} (hc : CallT DR P f [a, b, c, .v (plainV x)] h Q) : CallT DR P f [a, b, c, .v x] h Q := by
 intro S β w vs hr hi
 refine hc S β w vs ⟨hr.1, fun i v d h1 h2 => ?_⟩ hi
 match i, h2 with
 | 0, h2 => exact hr.2 0 v d h1 h2
 | 1, h2 => exact hr.2 1 v d h1 h2
 | 2, h2 => exact hr.2 2 v d h1 h2
 | 3, h2 =>
  simp at h2
  subst h2
  exact .v _ _ (hr.2 3 v (.v x) h1 rfl).of_v.plainV
 | i + 4, h2 => simp at h2
theorem good7 (n : Nat) (hn : n = MM + 30) (l : S23) (most : Int) (f : S31) (o : List S40 × S31) (h1 : 1 ≤ most) (h30 : most ≤ 30)
  (ho : cnd (l.fClasses.all fun c => decide (c.fItems.length ≤ 1000000)) (bnd (followL MM l most.toNat 0 zE ([], 0)) fun o => cnd (!o.1) (some ([], (⟨17, -1⟩ : S31))) (finE o.2.1)) none = some o) :
  Ht False Proofs.Tryz.prog (cR (cR (cR C7))) (SA l most (h27 l f)) (EQ o) := by
 rcases cnd_some ho with ⟨hil, ho⟩ | ⟨_, ho⟩
 case inr => cases ho
 obtain ⟨p, hp, ho⟩ := bnd_some ho
 have hil' : ∀ c ∈ l.fClasses, c.fItems.length ≤ 1000000 := fun c hc => of_decide_eq_true (List.all_eq_true.1 hil c hc)
 have hmost : ((most.toNat : Nat) : Int) = most := by omega
 refine Ht.sq (Ht.rg (hxC n) (Ops.sg 4 4 (Ops.dn (seqH.n ?_))))
 let H : List AObj := [.cells [dP e55 l.fClasses], fZ, .cells [dI f.fCode, dI f.fIndex], .cells [dP e55 l.fClasses, .v (.sl .nil []), dI 0]]
 have hw : Wk H 3 0 l [] 0 := ⟨rfl, fun h => absurd rfl h, fun h => absurd rfl h⟩
 have hcall := follow24 MM n (by omega) l hil' most.toNat (by omega) 0 zE ([], 0) p hp H 3 0 (by show 3 < 4; omega) hw
 rw [hmost] at hcall
 have hcall := CallT.plain4 (x := .agg [.str ByteArray.empty, .str ByteArray.empty, .sl .nil [], .int .i64 0]) hcall
 refine Ht.forget [1, 2, 4, 5, 7] (Ht.st (σ' := Sm 47 [(1, dI most), (2, .ptr 0 0), (4, .v (.sl .nil [])), (5, .ptr 1 0), (7, .ptr 3 0)] H) (by kernel_rfl) (Ht.sq (Ht.sq ?_)))
 refine Ht.regionCall' (hxC n) 3 (t := 28) (args := [.tmp 25, .const (.int .i64 0), .tmp 26, .tmp 27]) (Qc := fun d h' => d = dB p.1 ∧ FPost l H 3 0 [] h' p.2) (by kernel_rfl) is24 ?_
 refine OpsU.seg' 3 3 (by kernel_rfl) ?_
 refine OpsU.done ⟨CallT.of_eq (by kernel_rfl) (by kernel_rfl) hcall, fun d h' hd => ?_⟩
 obtain ⟨rfl, q, w1, w2, w3, w4⟩ := hd
 have hg1 : h'[1]? = some fZ := by rw [w3 1 (by show 1 < 4; omega) (by decide) (.inl rfl)]; rfl
 refine Ops.sg 1 5 (Ops.dn (seqH.n ?_))
 refine Ht.cond (!p.1) (by kernel_rfl) (by kernel_rfl) (fun hc => ?_) (fun hc => ?_)
 ·rw [hc] at ho
  cases (cnd_t ho)
  refine Ht.sq (Ht.rg (hxC n) ?_)
  refine Ops.on 1 (fun h0 e0 => callC (n := n) (h := h0) (f := 18) (by decide) (by kernel_rfl) (Args.v (vI 17) (eI 17) (by kernel_rfl) (Args.v (vI (-1)) (eI (-1)) (by kernel_rfl) Args.nil)) (ok18 MM 17 (-1) ⟨17, -1⟩ rfl n (by omega))) ?_
  refine Ops.sg 1 2 ?_
  refine Ops.on 3 (fun h0 e0 => (stc (i := ti32) (h := h0) (r := 1) (off := 0) (cs := [dI 0, dI 0]) (cs' := [dI 17, dI (-1)]) (x := .v (.agg [vI 17, vI (-1)])) (hq_of (g := h') (e0.trans (by kernel_rfl)) hg1) (by rfl) (by rfl))) ?_
  refine Ops.dn (seqH.n (Ht.rt (seqH.r ?_)))
  have hh : ∀ σ : St, σ.heap = h'.set 1 (.cells [dI 17, dI (-1)]) → σ.heap[1]? = some (.cells [dI 17, dI (-1)]) := fun σ e => by rw [e]; exact List.getElem?_set_self (lt_of_getElem? hg1)
  exact EQ.nil (f := ⟨17, -1⟩) (by kernel_rfl) (by kernel_rfl) (hh _ (by kernel_rfl))
 ·rw [hc] at ho
  have ho := cnd_f ho
  refine Ht.sk (seqH.n ?_)
  refine Ht.forget [4, 5, 7] (Ht.st (σ' := SE h') (by kernel_rfl) ?_)
  refine end7 n hn l p.2.1 p.2.2 q h' w1 hg1 ?_ o ho
  rcases w4 with h | ⟨_, h⟩ | h
  ·exact .inl h
  ·exact absurd rfl h
  ·have : H.length = 4 := rfl
   exact .inr (by omega)
theorem range7 (n : Nat) (hn : n = MM + 30) (l : S23) (most : Int) (f : S31) (o : List S40 × S31)
  (ho : cnd (decide (most < 1) || decide (most > 30)) (some ([], (⟨3, -2⟩ : S31))) (cnd (l.fClasses.all fun c => decide (c.fItems.length ≤ 1000000))
   (bnd (followL MM l most.toNat 0 zE ([], 0)) fun o => cnd (!o.1) (some ([], ⟨17, -1⟩)) (finE o.2.1)) none) = some o) :
  Ht False Proofs.Tryz.prog (cR (cR C7)) (SA l most (h27 l f)) (EQ o) := by
 refine Ht.sq (Ht.sq (Ht.rg (hxC n) (Ops.sg 2 2 (Ops.st (Sm 47 [(1, dI most), (2, .ptr 0 0), (4, .v (.sl .nil [])), (5, .ptr 1 0), (15, dI most), (16, dB (decide (most < 1)))] (h27 l f)) (by kernel_rfl) ?_))))
 by_cases h1 : most < 1
 ·rw [decide_eq_true h1] at ho ⊢
  rw [Bool.true_or] at ho
  cases (cnd_t ho)
  refine Ops.sg 4 6 (Ops.dn (seqH.n ?_))
  refine Ht.cond true (by kernel_rfl) (by kernel_rfl) (fun _ => ?_) (fun hc => nomatch hc)
  refine Ht.forget [1, 2, 4, 5] (Ht.st (σ' := SA l most (h27 l f)) (by kernel_rfl) ?_)
  exact bad7 n hn l most f fun σ h => seqH.r h
 ·rw [decide_eq_false h1] at ho ⊢
  rw [Bool.false_or] at ho
  refine Ops.sg 4 6 (Ops.dn (seqH.n ?_))
  refine Ht.cond (decide (most > 30)) (by kernel_rfl) (by kernel_rfl) (fun hc => ?_) (fun hc => ?_)
  ·rw [hc] at ho
   cases (cnd_t ho)
   refine Ht.forget [1, 2, 4, 5] (Ht.st (σ' := SA l most (h27 l f)) (by kernel_rfl) ?_)
   exact bad7 n hn l most f fun σ h => seqH.r h
  ·rw [hc] at ho
   have ho := cnd_f ho
   have h2 := of_decide_eq_false hc
   refine Ht.sk (seqH.n ?_)
   refine Ht.forget [1, 2, 4, 5] (Ht.st (σ' := SA l most (h27 l f)) (by kernel_rfl) ?_)
   exact good7 n hn l most f o (by omega) (by omega) ho
theorem entries7 (n : Nat) (hn : n = MM + 30) (l : S23) (most : Int) (o : List S40 × S31) (ho : entriesL l most = some o) :
  Ht False Proofs.Tryz.prog C7 (startIn Proofs.Tryz.prog 7 [.v (e23 l), dI most] []) (EQ o) := by
 unfold entriesL at ho
 obtain ⟨f, hf, ho⟩ := bnd_some ho
 refine Ht.sq (Ht.rg (hxC n) (Ops.sg 3 3 (Ops.dn (seqH.n (Ht.sq (Ht.sq (Ht.rg (hxC n) (Ops.sg 1 1 ?_))))))))
 refine Ops.on 2 (fun h0 e0 => callC (n := n) (h := h0) (f := 14) (by decide) (by kernel_rfl) (Args.v (e23 l) (e23 l) (by kernel_rfl) Args.nil) (ok14 MM l f hf n (by omega))) ?_
 refine Ops.sg 2 4 (Ops.dn (seqH.n ?_))
 refine Ht.forget [1, 2, 4, 5, 6] (Ht.st (σ' := Sm 47 [(1, dI most), (2, .ptr 0 0), (4, .v (.sl .nil [])), (5, .ptr 1 0), (6, .ptr 2 0)] (h27 l f)) (by kernel_rfl) (Ht.sq (Ht.rg (hxC n) (Ops.sg 3 3 (Ops.dn (seqH.n ?_))))))
 refine Ht.cond (!isz f) (by kernel_rfl) (by kernel_rfl) (fun hc => ?_) (fun hc => ?_)
 ·rw [hc] at ho
  cases (cnd_t ho)
  refine Ht.sq (Ht.rg (hxC n) (Ops.sg 3 3 (Ops.dn (seqH.n (Ht.rt (seqH.r ?_))))))
  exact EQ.nil (f := f) (by kernel_rfl) (by kernel_rfl) (by kernel_rfl)
 ·rw [hc] at ho
  have ho := cnd_f ho
  refine Ht.sk (seqH.n ?_)
  refine Ht.forget [1, 2, 4, 5] (Ht.st (σ' := SA l most (h27 l f)) (by kernel_rfl) ?_)
  exact range7 n hn l most f o ho
def decX : V → Option S57
 | .agg [.str b, .str f, .sl .plain ts, .int .i64 x, .int .i64 w] => (strsV ts).map fun ts => ⟨b, f, ts, x, w⟩
 | _ => none
theorem decX_spec {v : V} {a : S57} (h : decX v = some a) : v = e57 a := by
 unfold decX at h
 split at h
 ·obtain ⟨ts, h1, rfl⟩ := Option.map_eq_some_iff.1 h
  rw [strsV_spec h1]; rfl
 ·cases h
theorem decX_e (a : S57) : decX (e57 a) = some a := by
 show (strsV (a.fTags.map eS)).map (fun ts => (⟨a.fBase, a.fForm, ts, a.fNext, a.fWeight⟩ : S57)) = some a
 rw [strsV_e]; rfl
theorem allM_self {α : Type} {f : V → Option α} {k : α → V} (h : ∀ x, f (k x) = some x) (l : List α) : allM f (l.map k) = some l := by
 have := allM_map (f := f) (k := k) (r := fun s => s) l fun s _ => h s
 rw [List.map_id'] at this
 exact this
def decC : V → Option S55
 | .agg [.str b, .sl .plain xs] => (allM decX xs).map fun xs => ⟨b, xs⟩
 | _ => none
theorem decC_spec {v : V} {a : S55} (h : decC v = some a) : v = e55 a := by
 unfold decC at h
 split at h
 ·obtain ⟨ts, h1, rfl⟩ := Option.map_eq_some_iff.1 h
  rw [allM_dec (fun _ _ h => decX_spec h) h1]; rfl
 ·cases h
theorem decC_e (a : S55) : decC (e55 a) = some a := by
 show (allM decX (a.fItems.map e57)).map (fun xs => (⟨a.fName, xs⟩ : S55)) = some a
 rw [allM_self decX_e]; rfl
def F7 : List V → Option V
 | [.agg [.sl .plain cs], .int .i64 most] => match allM decC cs with
  | some l => (entriesL ⟨l⟩ most).map fun o => .tuple [eL e40 o.1, e31 o.2]
  | none => none
 | _ => none
theorem is7 : Is Proofs.Tryz.prog 7 := ⟨Proofs.Tryz.f7, Proofs.Tryz.func7, by kernel_rfl, by kernel_rfl⟩
theorem ora7 : OraOk False Proofs.Tryz.prog 7 F7 := by
 refine ⟨is7, fun vs r hF S w us hrel hs hg => ?_⟩
 unfold F7 at hF
 split at hF
 case h_2 => cases hF
 rename_i cs most
 split at hF
 case h_2 => cases hF
 rename_i l hl
 have hes := allM_dec (fun _ _ h => decC_spec h) hl
 subst hes
 obtain ⟨o, ho, rfl⟩ := Option.map_eq_some_iff.1 hF
 exact calls_of_ht (c := C7) (T := T) (N := 15) (xs := [e23 ⟨l⟩, .int .i64 most]) (r := .tuple [eL e40 o.1, e31 o.2]) Proofs.Tryz.func7 (by kernel_rfl) T_ok (entries7 (MM + 30) rfl ⟨l⟩ most o ho) hrel hs hg
end Go.Abs.En
