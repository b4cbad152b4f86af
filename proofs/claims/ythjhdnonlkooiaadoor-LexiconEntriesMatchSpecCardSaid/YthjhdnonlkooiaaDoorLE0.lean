/-
  LEXICON ENTRIES: orders told by a comparison; the order of entries; its sort as an oracle.
-/
import Derived.Test.YthjhdnonlkooiaaDoorWF1
import Derived.Test.YthjhdnonlkooiaaDoorAbsV
import Derived.Test.YthjhdnonlkooiaaDoorAbsH
import Derived.Test.YthjhdnonlkooiaaDoorAbsHC
import Derived.Test.YthjhdnonlkooiaaDoorAbsSF
import Derived.Test.YthjhdnonlkooiaaDoorShelf
import Derived.Shelf.SlSortCmp.NoneTotal
import Derived.Test.YthjhdnonlkooiaaDoorSL
namespace Go.Abs
open Go.Sort Go.Proofs
set_option linter.unusedVariables false
set_option maxRecDepth 100000

/-- a comparison of three outcomes that orders whatever is unlike -/
structure TO {α : Type} (c : α → α → Int) : Prop where
  eq : ∀ x y, c x y = 0 ↔ x = y
  sw : ∀ x y, c x y < 0 ↔ 0 < c y x
  tr : ∀ x y z, c x y < 0 → c y z < 0 → c x z < 0
section
variable {α : Type} {c : α → α → Int}
theorem TO.refl (h : TO c) (x : α) : c x x = 0 := (h.eq x x).2 rfl
theorem TO.lt_iff (x y : α) : ltOf c x y = true ↔ c x y < 0 := by simp [ltOf]
theorem TO.lt_false (x y : α) : ltOf c x y = false ↔ 0 ≤ c x y := by
  rw [← Bool.not_eq_true, TO.lt_iff]; omega
theorem TO.swo (h : TO c) : SWO (ltOf c) := by
  refine ⟨fun x => ?_, fun x y z h1 h2 => ?_, fun x y z h1 h2 => ?_⟩
  · rw [TO.lt_false, h.refl]; exact Int.le_refl _
  · rw [TO.lt_iff] at *
    exact h.tr x y z h1 h2
  · rw [TO.lt_false] at *
    rcases Int.lt_or_eq_of_le h1 with h1 | h1
    · rcases Int.lt_or_eq_of_le h2 with h2 | h2
      · have a := (h.sw y x).2 h1
        have b := (h.sw z y).2 h2
        have := (h.sw z x).1 (h.tr z y x b a)
        omega
      · obtain rfl := (h.eq y z).1 h2.symm
        omega
    · obtain rfl := (h.eq x y).1 h1.symm
      exact h2
theorem TO.tot (h : TO c) (x y : α) (h1 : ltOf c x y = false) (h2 : ltOf c y x = false) : x = y := by
  rw [TO.lt_false] at *
  by_cases h3 : c x y = 0
  · exact (h.eq x y).1 h3
  · have := (h.sw y x).2 (by omega)
    omega
def leC (c : α → α → Int) (a b : α) : Bool := !(ltOf c b a)
def srtC (c : α → α → Int) (l : List α) : List α := l.mergeSort (leC c)
theorem srtC_perm (l : List α) : (srtC c l).Perm l := List.mergeSort_perm l (leC c)
theorem srtC_sorted (h : TO c) (l : List α) : (srtC c l).Pairwise fun a b => ltOf c b a = false := by
  have h := List.pairwise_mergeSort (le := leC c) (fun x y z h1 h2 => ?_) (fun a b => ?_) l
  · exact h.imp fun {a b} h => by simpa [leC] using h
  · simp only [leC, Bool.not_eq_true'] at *
    exact h.swo.ntrans z y x h2 h1
  · simp only [leC, Bool.or_eq_true, Bool.not_eq_true']
    cases hq : ltOf c b a with
    | false => exact .inl rfl
    | true =>
      right
      cases hr : ltOf c a b with
      | false => rfl
      | true => have := h.swo.trans a b a hr hq; rw [h.swo.irrefl] at this; cases this
theorem srtC_uniq (h : TO c) : ∀ {l l' : List α}, l.Perm l' → l.Pairwise (fun a b => ltOf c b a = false) → l'.Pairwise (fun a b => ltOf c b a = false) → l = l'
  | [], l', hp, _, _ => (List.nil_perm.1 hp).symm
  | x :: r, [], hp, _, _ => absurd hp.length_eq (by simp)
  | x :: r, y :: s, hp, h1, h2 => by
    have a1 := List.pairwise_cons.1 h1
    have a2 := List.pairwise_cons.1 h2
    have hxy : x = y := by
      rcases List.mem_cons.1 (hp.mem_iff.1 (List.mem_cons_self (a := x) (l := r))) with e | hx
      · exact e
      · rcases List.mem_cons.1 (hp.mem_iff.2 (List.mem_cons_self (a := y) (l := s))) with e | hy
        · exact e.symm
        · exact h.tot x y (a2.1 x hx) (a1.1 y hy)
    subst hxy
    rw [srtC_uniq h (List.Perm.cons_inv hp) a1.2 a2.2]
theorem srtC_is (h : TO c) (l l' : List α) (hp : l'.Perm l) (hs : l'.Pairwise fun a b => ltOf c b a = false) : l' = srtC c l :=
  srtC_uniq h (hp.trans (srtC_perm l).symm) hs (srtC_sorted h l)
end

/-- one after the other -/
def lexC {α β γ : Type} (f : α → β) (g : α → γ) (c : β → β → Int) (d : γ → γ → Int) (x y : α) : Int := if c (f x) (f y) ≠ 0 then c (f x) (f y) else d (g x) (g y)
theorem TO.lex {α β γ : Type} {f : α → β} {g : α → γ} {c : β → β → Int} {d : γ → γ → Int} (hc : TO c) (hd : TO d) (hi : ∀ x y, f x = f y → g x = g y → x = y) : TO (lexC f g c d) := by
  have key : ∀ x y, (lexC f g c d x y = c (f x) (f y) ∧ c (f x) (f y) ≠ 0) ∨ (f x = f y ∧ lexC f g c d x y = d (g x) (g y)) := by
    intro x y
    unfold lexC
    by_cases h : c (f x) (f y) = 0
    · rw [if_neg (by simp [h])]
      exact .inr ⟨(hc.eq _ _).1 h, rfl⟩
    · rw [if_pos h]
      exact .inl ⟨rfl, h⟩
  have lt : ∀ x y, lexC f g c d x y < 0 ↔ c (f x) (f y) < 0 ∨ (f x = f y ∧ d (g x) (g y) < 0) := by
    intro x y
    rcases key x y with ⟨h1, h2⟩ | ⟨h1, h2⟩
    · rw [h1]
      constructor
      · exact .inl
      · rintro (h | ⟨h, _⟩)
        · exact h
        · exact absurd ((hc.eq _ _).2 h) h2
    · rw [h2, h1, hc.refl]
      simp
  have gt : ∀ x y, 0 < lexC f g c d y x ↔ 0 < c (f y) (f x) ∨ (f x = f y ∧ 0 < d (g y) (g x)) := by
    intro x y
    rcases key y x with ⟨h1, h2⟩ | ⟨h1, h2⟩
    · rw [h1]
      constructor
      · exact .inl
      · rintro (h | ⟨h, _⟩)
        · exact h
        · exact absurd ((hc.eq _ _).2 h.symm) h2
    · rw [h2, h1, hc.refl]
      simp
  refine ⟨fun x y => ?_, fun x y => ?_, fun x y z h1 h2 => ?_⟩
  · constructor
    · intro h
      rcases key x y with ⟨h1, h2⟩ | ⟨h1, h2⟩
      · exact absurd (h1 ▸ h) h2
      · exact hi x y h1 ((hd.eq _ _).1 (h2 ▸ h))
    · rintro rfl
      unfold lexC
      rw [hc.refl, if_neg (by simp), hd.refl]
  · rw [lt, gt, hc.sw, hd.sw]
  · rw [lt] at *
    rcases h1 with h1 | ⟨h1, h1'⟩
    · rcases h2 with h2 | ⟨h2, h2'⟩
      · exact .inl (hc.tr _ _ _ h1 h2)
      · rw [← h2]; exact .inl h1
    · rw [h1]
      rcases h2 with h2 | ⟨h2, h2'⟩
      · exact .inl h2
      · exact .inr ⟨h2, hd.tr _ _ _ h1' h2'⟩

/-! ### numbers, texts, lists of texts -/
def cmpI (x y : Int) : Int := if x < y then -1 else if x > y then 1 else 0
def cmpB (x y : ByteArray) : Int := if Op.bytesLess x.toList y.toList then -1 else if !(Op.bytesLess x.toList y.toList || x.toList == y.toList) then 1 else 0
theorem toI : TO cmpI := by
  refine ⟨fun x y => ?_, fun x y => ?_, fun x y z => ?_⟩ <;> unfold cmpI
  · repeat' split
    all_goals omega
  · repeat' split
    all_goals omega
  · repeat' split
    all_goals omega
abbrev bls (a b : List UInt8) : Bool := Op.bytesLess a b
theorem u8_lt {a b : UInt8} : (decide (a < b) = true) ↔ a.toNat < b.toNat := by simp [UInt8.lt_iff_toNat_lt]
theorem bls_irrefl : ∀ l, bls l l = false
  | [] => rfl
  | a :: l => by
    have := bls_irrefl l
    simp only [bls, Op.bytesLess] at this ⊢
    simp [this]
theorem bls_trans : ∀ {a b c : List UInt8}, bls a b = true → bls b c = true → bls a c = true
  | _, _, [], _, h => by simp [bls, Op.bytesLess] at h
  | [], _, _ :: _, _, _ => by simp [bls, Op.bytesLess]
  | x :: a, [], z :: c, h, _ => by simp [bls, Op.bytesLess] at h
  | x :: a, y :: b, z :: c, h, g => by
    simp only [bls, Op.bytesLess, Bool.or_eq_true, Bool.and_eq_true, beq_iff_eq, u8_lt] at h g ⊢
    rcases h with h | ⟨rfl, h⟩
    · rcases g with g | ⟨rfl, g⟩
      · exact .inl (by omega)
      · exact .inl h
    · rcases g with g | ⟨rfl, g⟩
      · exact .inl g
      · exact .inr ⟨rfl, bls_trans h g⟩
theorem bls_tri : ∀ (a b : List UInt8), bls a b = true ∨ a = b ∨ bls b a = true
  | [], [] => .inr (.inl rfl)
  | [], _ :: _ => .inl rfl
  | _ :: _, [] => .inr (.inr rfl)
  | x :: a, y :: b => by
    simp only [bls, Op.bytesLess, Bool.or_eq_true, Bool.and_eq_true, beq_iff_eq, u8_lt]
    rcases Nat.lt_trichotomy x.toNat y.toNat with h | h | h
    · exact .inl (.inl h)
    · have hxy : x = y := UInt8.toNat_inj.1 h
      subst hxy
      rcases bls_tri a b with h | h | h
      · exact .inl (.inr ⟨rfl, h⟩)
      · exact .inr (.inl (by rw [h]))
      · exact .inr (.inr (.inr ⟨rfl, h⟩))
    · exact .inr (.inr (.inl h))
theorem bls_asymm {a b : List UInt8} (h : bls a b = true) : bls b a = false := by
  cases hq : bls b a with
  | false => rfl
  | true => have := bls_trans h hq; rw [bls_irrefl] at this; cases this
theorem beqB {a b : ByteArray} : (a.toList == b.toList) = true ↔ a = b := by
  rw [← beq_toListBytes]; exact MapKept.bytes_beq a b
theorem ba_eq {x y : ByteArray} (h : x.toList = y.toList) : x = y := beqB.1 (by simp [h])
theorem cmpB_lt (x y : ByteArray) : cmpB x y < 0 ↔ bls x.toList y.toList = true := by
  unfold cmpB
  by_cases h : Op.bytesLess x.toList y.toList = true
  · rw [if_pos h]; exact ⟨fun _ => h, fun _ => by omega⟩
  · rw [if_neg h]
    constructor
    · intro g; split at g <;> omega
    · intro g; exact absurd g h
theorem cmpB_gt (x y : ByteArray) : 0 < cmpB x y ↔ bls y.toList x.toList = true := by
  unfold cmpB
  by_cases h : Op.bytesLess x.toList y.toList = true
  · rw [if_pos h]
    exact ⟨fun g => by omega, fun g => by have := bls_asymm h; rw [g] at this; cases this⟩
  · rw [if_neg h]
    have h' : Op.bytesLess x.toList y.toList = false := by simpa using h
    by_cases h2 : x.toList = y.toList
    · have : (x.toList == y.toList) = true := by simpa using h2
      rw [this, Bool.or_true, h2, bls_irrefl]
      simp
    · have : (x.toList == y.toList) = false := by simpa using h2
      rw [this, h']
      simp only [Bool.or_self, Bool.not_false, if_true]
      rcases bls_tri x.toList y.toList with g | g | g
      · exact absurd g h
      · exact absurd g h2
      · exact ⟨fun _ => g, fun _ => by omega⟩
theorem toB : TO cmpB := by
  refine ⟨fun x y => ?_, fun x y => ?_, fun x y z h1 h2 => ?_⟩
  · constructor
    · intro h
      rcases bls_tri x.toList y.toList with g | g | g
      · have := (cmpB_lt x y).2 g; omega
      · exact ba_eq g
      · have := (cmpB_gt x y).2 g; omega
    · rintro rfl
      have h1 := mt (cmpB_lt x x).1 (by rw [bls_irrefl]; simp)
      have h2 := mt (cmpB_gt x x).1 (by rw [bls_irrefl]; simp)
      omega
  · rw [cmpB_lt, cmpB_gt]
  · rw [cmpB_lt] at *
    exact bls_trans h1 h2
def cmpT : List ByteArray → List ByteArray → Int
  | [], [] => 0
  | [], _ :: _ => -1
  | _ :: _, [] => 1
  | x :: a, y :: b => if cmpB x y ≠ 0 then cmpB x y else cmpT a b
theorem cmpT_sw : ∀ a b, cmpT a b < 0 ↔ 0 < cmpT b a
  | [], [] => by simp [cmpT]
  | [], _ :: _ => by simp [cmpT]
  | _ :: _, [] => by simp [cmpT]
  | x :: a, y :: b => by
    have ih := cmpT_sw a b
    have hs := toB.sw x y
    have hs2 := toB.sw y x
    simp only [cmpT]
    by_cases h : cmpB x y = 0
    · have h' : cmpB y x = 0 := by obtain rfl := (toB.eq x y).1 h; exact h
      rw [if_neg (by simp [h]), if_neg (by simp [h'])]
      exact ih
    · have h' : cmpB y x ≠ 0 := fun e => by obtain rfl := (toB.eq y x).1 e; exact h e
      rw [if_pos h, if_pos h']
      exact hs
theorem cmpT_eq : ∀ a b, cmpT a b = 0 ↔ a = b
  | [], [] => by simp [cmpT]
  | [], _ :: _ => by simp [cmpT]
  | _ :: _, [] => by simp [cmpT]
  | x :: a, y :: b => by
    have ih := cmpT_eq a b
    simp only [cmpT]
    by_cases h : cmpB x y = 0
    · rw [if_neg (by simp [h]), ih]
      obtain rfl := (toB.eq x y).1 h
      simp
    · rw [if_pos h]
      constructor
      · intro g; exact absurd g h
      · intro g
        obtain ⟨rfl, _⟩ := List.cons.inj g
        exact absurd (toB.refl x) h
theorem cmpT_tr : ∀ a b c, cmpT a b < 0 → cmpT b c < 0 → cmpT a c < 0
  | [], [], c, h, g => by simp [cmpT] at h
  | [], _ :: _, [], h, g => by simp [cmpT] at g
  | [], _ :: _, _ :: _, h, g => by simp [cmpT]
  | _ :: _, [], c, h, g => by simp [cmpT] at h
  | _ :: _, _ :: _, [], h, g => by simp [cmpT] at g
  | x :: a, y :: b, z :: c, h, g => by
    have ih := cmpT_tr a b c
    simp only [cmpT] at h g ⊢
    by_cases h1 : cmpB x y = 0
    · obtain rfl := (toB.eq x y).1 h1
      rw [if_neg (by simp [h1])] at h
      by_cases h2 : cmpB x z = 0
      · rw [if_neg (by simp [h2])] at g ⊢
        exact ih h g
      · rw [if_pos h2] at g ⊢
        exact g
    · rw [if_pos h1] at h
      by_cases h2 : cmpB y z = 0
      · obtain rfl := (toB.eq y z).1 h2
        rw [if_pos h1]
        exact h
      · rw [if_pos h2] at g
        have := toB.tr x y z h g
        rw [if_pos (by omega)]
        exact this
theorem toT : TO cmpT := ⟨cmpT_eq, cmpT_sw, cmpT_tr⟩

/-! ### entries -/
theorem TO.comap {α β : Type} {c : β → β → Int} (h : TO c) (f : α → β) (hi : ∀ x y, f x = f y → x = y) : TO fun x y => c (f x) (f y) :=
  ⟨fun x y => ⟨fun e => hi x y ((h.eq _ _).1 e), fun e => by subst e; exact h.refl _⟩, fun x y => h.sw _ _, fun x y z => h.tr _ _ _⟩
def prodC {β γ : Type} (c : β → β → Int) (d : γ → γ → Int) : β × γ → β × γ → Int := lexC Prod.fst Prod.snd c d
theorem TO.prod {β γ : Type} {c : β → β → Int} {d : γ → γ → Int} (hc : TO c) (hd : TO d) : TO (prodC c d) := TO.lex hc hd fun x y h1 h2 => Prod.ext h1 h2
def keyE (x : S61) : ByteArray × ByteArray × List ByteArray × Int := (x.fForm, x.fBase, x.fTags, x.fWeight)
def cmpE (x y : S61) : Int := prodC cmpB (prodC cmpB (prodC cmpT cmpI)) (keyE x) (keyE y)
theorem toE : TO cmpE := (toB.prod (toB.prod (toT.prod toI))).comap keyE fun x y h => by
  cases x; cases y
  simp only [keyE, Prod.mk.injEq] at h
  obtain ⟨rfl, rfl, rfl, rfl⟩ := h
  rfl
def orr : List Int → Int
  | [] => 0
  | x :: r => if x ≠ 0 then x else orr r
theorem cmpE_orr (x y : S61) : cmpE x y = orr [cmpB x.fForm y.fForm, cmpB x.fBase y.fBase, cmpT x.fTags y.fTags, cmpI x.fWeight y.fWeight] := by
  simp only [cmpE, keyE, prodC, lexC, orr]
  repeat' split
  all_goals first | rfl | omega | (simp_all; done)
theorem f77_eq (m : Nat) (x y : ByteArray) : f77 m x y = some (cmpB x y) := by
  have h : ∀ z : ByteArray, f98 m z = some false := fun z => by unfold f98; simp
  unfold f77 cmpB
  simp only [h, bnd, cnd]
  by_cases h1 : Op.bytesLess x.toList y.toList = true
  · simp [h1]
  · have h1 : Op.bytesLess x.toList y.toList = false := by simpa using h1
    by_cases h2 : (x.toList == y.toList) = true <;> simp [h1, h2]
theorem f79_eq (m : Nat) (x y : Int) : f79 m x y = some (cmpI x y) := by
  have h : ∀ z : Int, f99 m z = some false := fun z => by unfold f99; simp
  unfold f79 cmpI
  simp only [h, bnd, cnd]
  by_cases h1 : x < y
  · simp [h1]
  · by_cases h2 : x > y <;> simp [h1, h2]
theorem scan_orr : ∀ (l : List Int) (i : Int), scan (fun _ (_ : Unit) (x : Int) => if x ≠ 0 then some (.inl x) else some (.inr ())) i () l = if orr l ≠ 0 then some (.inl (orr l)) else some (.inr ())
  | [], i => by simp [scan, orr]
  | x :: r, i => by
    by_cases h : x = 0
    · simp only [scan, orr, h, ne_eq, not_true, if_false]
      exact scan_orr r (i + 1)
    · simp only [scan, orr, ne_eq, h, not_false_eq_true, if_true]
theorem f76_eq (m : Nat) (l : List Int) (hl : l.length < m) (hb : l.length ≤ 9223372036854775807) : f76 m l = some (orr l) := by
  have e : iter (fun (y : Int) => f76_B1 m l y) m 0 = landed (fun (_ : Unit) (i : Int) => i) l.length (scan (fun _ (_ : Unit) (x : Int) => if x ≠ 0 then some (.inl x) else some (.inr ())) 0 () l) := by
    refine iter_scan l (fun (y : Int) => f76_B1 m l y) (fun (_ : Unit) (i : Int) => i) _ (fun u i hi => ?_) m 0 () (by omega) (by omega)
    unfold f76_B1
    refine body_turn rfl fun x hx => ?_
    have hil := lt_of_getElem? hx
    have hw : w64 ((i : Int) + 1) = (i : Int) + 1 := w64_id ⟨by omega, by omega⟩
    by_cases h : x = 0
    · simp [h, hw]
    · have : (x != 0) = true := by simpa using h
      simp [h, this]
  unfold f76
  rw [e, scan_orr]
  by_cases h : orr l = 0
  · simp [h, landed]
  · simp [h, landed]
def fdT : List ByteArray → List ByteArray → Option Int
  | [], _ => none
  | _ :: _, [] => some 1
  | x :: a, y :: b => if cmpB x y ≠ 0 then some (cmpB x y) else fdT a b
theorem cmpT_fd : ∀ a b, cmpT a b = match fdT a b with
    | some r => r
    | none => if a.length < b.length then -1 else 0
  | [], [] => by simp [cmpT, fdT]
  | [], _ :: _ => by simp [cmpT, fdT]
  | _ :: _, [] => by simp [cmpT, fdT]
  | x :: a, y :: b => by
    simp only [cmpT, fdT]
    split
    · rfl
    · rw [cmpT_fd a b]; simp
theorem f78_loop (m : Nat) (a b : List ByteArray) (ha : a.length ≤ 9223372036854775807) : ∀ (K i : Nat), i ≤ a.length → a.length - i < K → iter (fun (y : Int) => f78_B1 m a b y) K (i : Int) = match fdT (a.drop i) (b.drop i) with
    | some r => some (.inl r)
    | none => some (.inr (a.length : Int))
  | 0, i, h1, h2 => by omega
  | K + 1, i, h1, h2 => by
    unfold iter
    rcases Nat.lt_or_ge i a.length with hi | hi
    · have hw : w64 ((i : Int) + 1) = ((i + 1 : Nat) : Int) := by rw [w64_id ⟨by omega, by omega⟩]; omega
      have hda : a.drop i = a[i] :: a.drop (i + 1) := List.drop_eq_getElem_cons hi
      rcases Nat.lt_or_ge i b.length with hj | hj
      · have hdb : b.drop i = b[i] :: b.drop (i + 1) := List.drop_eq_getElem_cons hj
        have e : f78_B1 m a b (i : Int) = cnd (cmpB a[i] b[i] != 0) (some (.ret (cmpB a[i] b[i]))) (some (.nxt ((i + 1 : Nat) : Int))) := by
          unfold f78_B1
          rw [decide_eq_true (by omega), cnd_true, idx_get, List.getElem?_eq_getElem hi, bnd_some', decide_eq_false (by omega), cnd_false, idx_get, List.getElem?_eq_getElem hj, bnd_some', f77_eq, bnd_some', hw]
        rw [hda, hdb]
        simp only [e, fdT]
        by_cases h : cmpB a[i] b[i] = 0
        · have hb : (cmpB a[i] b[i] != 0) = false := by simp [h]
          simp only [hb, cnd_false, h, ne_eq, not_true, if_false]
          exact f78_loop m a b ha K (i + 1) hi (by omega)
        · have hb : (cmpB a[i] b[i] != 0) = true := by simpa using h
          simp only [hb, cnd_true, ne_eq, h, not_false_eq_true, if_true]
      · have hdb : b.drop i = [] := List.drop_eq_nil_of_le hj
        have e : f78_B1 m a b (i : Int) = some (.ret 1) := by
          unfold f78_B1
          rw [decide_eq_true (by omega), cnd_true, idx_get, List.getElem?_eq_getElem hi, bnd_some', decide_eq_true (by omega), cnd_true]
        rw [hda, hdb]
        simp only [e, fdT]
    · obtain rfl : i = a.length := by omega
      have hda : a.drop a.length = [] := List.drop_eq_nil_of_le hi
      have e : f78_B1 m a b (a.length : Int) = some (.brk (a.length : Int)) := by
        unfold f78_B1
        rw [decide_eq_false (by omega), cnd_false]
      rw [hda]
      simp only [e, fdT]
theorem f78_eq (m : Nat) (a b : List ByteArray) (ha : a.length < m) (hb : a.length ≤ 9223372036854775807) : f78 m a b = some (cmpT a b) := by
  have h := f78_loop m a b hb m 0 (Nat.zero_le _) (by omega)
  have h : iter (fun (y : Int) => f78_B1 m a b y) m 0 = match fdT a b with
    | some r => some (.inl r)
    | none => some (.inr (a.length : Int)) := h
  unfold f78
  rw [h, cmpT_fd]
  cases fdT a b with
  | some r => rfl
  | none =>
    simp only [brk_inr]
    by_cases hl : a.length < b.length
    · rw [decide_eq_true (by omega), cnd_true, if_pos hl]
    · rw [decide_eq_false (by omega), cnd_false, if_neg hl]
theorem f56_eq (m : Nat) (x y : S61) (hm : 5 ≤ m) (hx : x.fTags.length < m) (hb : x.fTags.length ≤ 9223372036854775807) : f56 m x y = some (cmpE x y) := by
  unfold f56
  rw [f77_eq, bnd_some', f77_eq, bnd_some', f78_eq m _ _ hx hb, bnd_some', f79_eq, bnd_some', f76_eq m _ (by simp; omega) (by simp), bnd_some', cmpE_orr]
theorem f58_eq (m : Nat) (x y : S61) (hm : 5 ≤ m) (hx : x.fTags.length < m) (hb : x.fTags.length ≤ 9223372036854775807) : f58 m x y = some (cmpE x y == 0) := by
  unfold f58
  rw [f56_eq m x y hm hx hb, bnd_some']
/-! ### the sort, as an oracle on own rows -/
theorem tags_len {S : Nat → Nat → Prop} {w : World} {v : Value} {x : S61} (h : RelV S w v (e61 x)) : x.fTags.length ≤ 9223372036854775807 := by
  have hm : maxLen = 9223372036854775807 := by decide
  cases h with
  | agg vs _ hl hr =>
    have hsz : 2 < vs.size := by rw [hl]; simp
    have h2 : RelV S w vs[2] (.sl .plain (x.fTags.map eS)) := hr 2 vs[2] (vP eS x.fTags) (Array.getElem?_eq_getElem hsz) rfl
    generalize vs[2] = u at h2
    have hlen : (List.map eS x.fTags).length = x.fTags.length := List.length_map _
    generalize List.map eS x.fTags = l at h2 hlen
    cases h2 with
    | slnil _ _ => simp at hlen; omega
    | slemp _ a cap h hf hm' => simp at hlen; omega
    | sl _ b off cap k n es vals hn h hf hc hm' hk hs hr' => omega
theorem cmp56 : CmpOk Proofs.Tryd.prog 56 e61 cmpE := by
  intro x y S w us hrel hs hg
  have hx := tags_len (hrel.2 0 us[0]! (.v (e61 x)) (by
    have h2 : us.size = 2 := hrel.1
    rw [getElem!_pos us 0 (by omega)]; exact Array.getElem?_eq_getElem (by omega)) rfl).of_v
  obtain ⟨d, h', h1, h2⟩ := ok56 (x.fTags.length + 5) x y (cmpE x y) (f56_eq _ x y (by omega) (by omega) hx) (x.fTags.length + 9) (by omega)
  refine ((pureCalls (good0 (DR := True)) (xs := [e61 x, e61 y]) h1 h2).2 S w us hrel hs hg).mono ?_
  rintro e w' ⟨v, S', rfl, hE, _, hR⟩
  cases hR
  exact ⟨rfl, S', hE⟩
def strsV : List V → Option (List ByteArray)
  | [] => some []
  | .str b :: r => (strsV r).map (b :: ·)
  | _ => none
theorem strsV_spec : ∀ {l : List V} {r : List ByteArray}, strsV l = some r → l = r.map eS
  | [], r, h => by cases h; rfl
  | x :: l, r, h => by
    unfold strsV at h
    split at h
    · rename_i e; cases e
    · rename_i b l' e
      cases e
      obtain ⟨r', hr, rfl⟩ := Option.map_eq_some_iff.1 h
      rw [List.map_cons, ← strsV_spec hr]; rfl
    · cases h
theorem strsV_e : ∀ l : List ByteArray, strsV (l.map eS) = some l
  | [] => rfl
  | x :: l => by
    show (strsV (l.map eS)).map (x :: ·) = _
    rw [strsV_e l]; rfl
def decE : V → Option S61
  | .agg [.str b, .str f, .sl .plain ts, .int .i64 w] => (strsV ts).map fun ts => ⟨b, f, ts, w⟩
  | _ => none
theorem decE_spec {v : V} {a : S61} (h : decE v = some a) : v = e61 a := by
  unfold decE at h
  split at h
  · obtain ⟨ts, h1, rfl⟩ := Option.map_eq_some_iff.1 h
    rw [strsV_spec h1]; rfl
  · cases h
theorem decE_e (a : S61) : decE (e61 a) = some a := by
  show (strsV (a.fTags.map eS)).map (fun ts => (⟨a.fBase, a.fForm, ts, a.fWeight⟩ : S61)) = some a
  rw [strsV_e]; rfl
theorem allM_map {α β γ : Type} {f : β → Option γ} {k : α → β} {r : α → γ} : ∀ (l : List α), (∀ x ∈ l, f (k x) = some (r x)) → allM f (l.map k) = some (l.map r)
  | [], _ => rfl
  | x :: l, h => by
    simp only [List.map_cons, allM, h x List.mem_cons_self, allM_map l fun y hy => h y (List.mem_cons_of_mem _ hy)]
theorem allM_decE (l : List S61) : allM decE (l.map e61) = some l := by
  have := allM_map (f := decE) (k := e61) (r := fun s => s) l fun s _ => decE_e s
  rw [List.map_id'] at this
  exact this
theorem is55 : Is Proofs.Tryd.prog 55 := ⟨Proofs.Tryd.f55, Proofs.Tryd.func55, by kernel_rfl, by kernel_rfl⟩
theorem sort55 : DOk False Proofs.Tryd.prog 55 (sortFnF 4 56 decE e61 (srtC cmpE)) :=
  sortFn_sound is55 cmpE cmp56 toE.swo (fun _ _ h => decE_spec h) (by decide) (fun a => ⟨_, rfl, rfl, rfl⟩)
    (fun enc' cf' blk off cap d w hk h1 hO hc hH hb hs => AnyQ.slices_SortFunc Tryd.laysSF 4 (fun w => by kernel_rfl) (fun w => by kernel_rfl) enc' hk h1 cf' hO 56 #[] blk off cap d w (enters_of Proofs.Tryd.func56 (by kernel_rfl) rfl) hc hH hb hs)
    (fun p cap fv w => AnyF.slices_SortFunc_none Tryd.laysSF p cap fv w) (srtC_is toE)

/-! ### what the walks by hand lean on -/
noncomputable def GC (n : Nat) : Calling := fun f ds h => if f = 55 then sortFnF 4 56 decE e61 (srtC cmpE) ds h else if f = 58 then run Proofs.Tryd.prog E0 n f ds h else run Proofs.Tryd.prog E n f ds h
noncomputable def XC (n : Nat) : Cx := ⟨{ E with rowM := true, pureF := fun f => E.pureF f && !(f == 54 || f == 55 || f == 57) }, GC n, ⟨fun _ => [], fun _ => [], fun _ => []⟩, [], n⟩
theorem hxC (n : Nat) : Hx False Proofs.Tryd.prog (XC n) := by
  refine ⟨good.mixed, good.types, fun f ds h d h' hd => ?_⟩
  have hd : (if f = 55 then sortFnF 4 56 decE e61 (srtC cmpE) ds h else if f = 58 then run Proofs.Tryd.prog E0 n f ds h else run Proofs.Tryd.prog E n f ds h) = some (d, h') := hd
  split at hd
  · rename_i e
    subst e
    exact ⟨sort55.1, sort55.2 ds h d h' hd⟩
  · split at hd
    · exact run_sound (good0 (DR := False)) n f ds h d h' hd
    · exact run_sound good n f ds h d h' hd
theorem callC {n f : Nat} {h : List AObj} {ds xs : List D} {r : V} (hne : f ≠ 55 ∧ f ≠ 58) (hp : (XC n).E.pureF f = true) (ha : Args h ds xs) (hF : Fn Proofs.Tryd.prog E n f xs r) : callD (XC n).E (GC n) f ds h = some (.v r, h) := by
  obtain ⟨d, h', h1, h2⟩ := hF
  obtain ⟨a1, a2⟩ := ha.spec
  have hg : GC n f xs [] = some (d, h') := by unfold GC; rw [if_neg hne.1, if_neg hne.2]; exact h1
  simp only [callD, hp, if_true, a1, hg, h2, a2, Bool.true_or]
/-- the comparison that is handed to CompactFunc -/
theorem call58 {n : Nat} {h : List AObj} (x y : S61) (hx : x.fTags.length + 12 ≤ n) (hb : n ≤ 1000000) : callD (XC n).E (GC n) 58 [.v (e61 x), .v (e61 y)] h = some (.v (eB (cmpE x y == 0)), h) := by
  obtain ⟨d, h', h1, h2⟩ := ok58 (x.fTags.length + 5) x y (cmpE x y == 0) (f58_eq _ x y (by omega) (by omega) (by omega)) n (by omega)
  have ha : Args h [.v (e61 x), .v (e61 y)] [.v (e61 x), .v (e61 y)] := Args.v _ _ rfl (Args.v _ _ rfl Args.nil)
  obtain ⟨a1, a2⟩ := ha.spec
  have hp : (XC n).E.pureF 58 = true := by kernel_rfl
  have hg : GC n 58 [.v (e61 x), .v (e61 y)] [] = some (d, h') := by unfold GC; rw [if_neg (by decide), if_pos rfl]; exact h1
  simp only [callD, hp, if_true, a1, hg, h2, a2, Bool.true_or]
end Go.Abs
