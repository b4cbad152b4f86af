import Derived.Test.YtgbhimkbfaebeaaGreatDoorP2
import Derived.Test.YtgbhimkbfaebeaaGreatDoorWF3
namespace Go.Abs
open Go.Sort Go.Proofs
set_option linter.unusedVariables false
set_option linter.unusedSimpArgs false
set_option linter.unnecessarySimpa false
set_option maxRecDepth 100000
abbrev SSl (l : List (List UInt8)) : Prop := l.Pairwise fun a b => bls a b = true
theorem ssl_ext : ∀ {l1 l2 : List (List UInt8)}, SSl l1 → SSl l2 → (∀ x, x ∈ l1 ↔ x ∈ l2) → l1 = l2
 | [], [], _, _, _ => rfl
 | [], y :: s, _, _, h => by have := (h y).2 List.mem_cons_self; cases this
 | x :: r, [], _, _, h => by have := (h x).1 List.mem_cons_self; cases this
 | x :: r, y :: s, h1, h2, h => by
  have a1 := List.pairwise_cons.1 h1
  have a2 := List.pairwise_cons.1 h2
  have hxy : x = y := by
   rcases List.mem_cons.1 ((h x).1 List.mem_cons_self) with e | hx
   ·exact e
   ·rcases List.mem_cons.1 ((h y).2 List.mem_cons_self) with e | hy
    ·exact e.symm
    ·have := bls_trans (a1.1 y hy) (a2.1 x hx)
     rw [bls_irrefl] at this; cases this
  subst hxy
  have hr : ∀ z, z ∈ r ↔ z ∈ s := by
   intro z
   constructor
   ·intro hz
    rcases List.mem_cons.1 ((h z).1 (List.mem_cons_of_mem _ hz)) with e | hz'
    ·subst e; have := a1.1 z hz; rw [bls_irrefl] at this; cases this
    ·exact hz'
   ·intro hz
    rcases List.mem_cons.1 ((h z).2 (List.mem_cons_of_mem _ hz)) with e | hz'
    ·subst e; have := a2.1 z hz; rw [bls_irrefl] at this; cases this
    ·exact hz'
  rw [ssl_ext a1.2 a2.2 hr]
theorem upTo_spec (d : Array (List UInt8)) (hs : ∀ i, i + 1 < d.size → bls d[i + 1]! d[i]! = false) : ∀ m, m ≤ d.size →
  SSl (Lib.compactUpTo d m) ∧ (∀ x, x ∈ Lib.compactUpTo d m ↔ ∃ i, i < m ∧ d[i]! = x) ∧ ∀ x ∈ Lib.compactUpTo d m, bls d[m - 1]! x = false
 | 0, _ => ⟨.nil, fun x => ⟨fun h => (by cases h), fun ⟨i, h, _⟩ => absurd h (Nat.not_lt_zero _)⟩, fun x h => (by cases h)⟩
 | m + 1, hm => by
  obtain ⟨i1, i2, i3⟩ := upTo_spec d hs m (by omega)
  have hprev : 0 < m → bls d[m]! d[m - 1]! = false := by
   intro h0
   have := hs (m - 1) (by omega)
   rwa [show m - 1 + 1 = m by omega] at this
  rw [Lib.compactUpTo_succ]
  cases hk : Lib.keeps d m with
  | true =>
   simp only [if_true]
   have hlast : ∀ x ∈ Lib.compactUpTo d m, bls x d[m]! = true := by
    intro x hx
    obtain ⟨j, hj, _⟩ := (i2 x).1 hx
    have h0 : 0 < m := by omega
    have hne : d[m]! ≠ d[m - 1]! := by
     intro e
     rw [Lib.keeps_neg h0 e] at hk
     cases hk
    have h1 := hprev h0
    have h2 := i3 x hx
    have h3 : bls d[m - 1]! d[m]! = true := by
     rcases bls_tri d[m - 1]! d[m]! with h | h | h
     ·exact h
     ·exact absurd h.symm hne
     ·rw [h1] at h; cases h
    rcases bls_tri x d[m - 1]! with h | h | h
    ·exact bls_trans h h3
    ·rw [h]; exact h3
    ·rw [h2] at h; cases h
   refine ⟨List.pairwise_append.2 ⟨i1, List.pairwise_singleton _ _, fun a ha b hb => by rw [List.mem_singleton.1 hb]; exact hlast a ha⟩, fun x => ?_, fun x hx => ?_⟩
   ·rw [List.mem_append, List.mem_singleton, i2]
    constructor
    ·rintro (⟨i, h1, h2⟩ | h)
     ·exact ⟨i, by omega, h2⟩
     ·exact ⟨m, by omega, h.symm⟩
    ·rintro ⟨i, h1, h2⟩
     rcases Nat.lt_or_ge i m with h | h
     ·exact .inl ⟨i, h, h2⟩
     ·have : i = m := by omega
      subst this
      exact .inr h2.symm
   ·rw [Nat.add_sub_cancel]
    rcases List.mem_append.1 hx with hx | hx
    ·exact bls_asymm (hlast x hx)
    ·rw [List.mem_singleton.1 hx]; exact bls_irrefl _
  | false =>
   have h0 : 0 < m := by
    rcases Nat.eq_zero_or_pos m with h | h
    ·subst h; rw [Lib.keeps_lt_one d 0 (by omega)] at hk; cases hk
    ·exact h
   have heq : d[m]! = d[m - 1]! := by
    rcases Classical.em (d[m]! = d[m - 1]!) with h | h
    ·exact h
    ·rw [Lib.keeps_pos h] at hk; cases hk
   simp only [Bool.false_eq_true, if_false, List.append_nil]
   refine ⟨i1, fun x => ?_, fun x hx => ?_⟩
   ·rw [i2]
    constructor
    ·rintro ⟨i, h1, h2⟩; exact ⟨i, by omega, h2⟩
    ·rintro ⟨i, h1, h2⟩
     rcases Nat.lt_or_ge i m with h | h
     ·exact ⟨i, h, h2⟩
     ·have : i = m := by omega
      subst this
      exact ⟨i - 1, by omega, by rw [← heq]; exact h2⟩
   ·rw [Nat.add_sub_cancel, heq]; exact i3 x hx
theorem bls_eq : ∀ (x y : List UInt8), bls x y = decide (x < y)
 | [], [] => by simp [bls, Op.bytesLess]
 | _ :: _, [] => by simp [bls, Op.bytesLess]
 | [], _ :: _ => by simp [bls, Op.bytesLess]
 | a :: x, b :: y => by
  have ih := bls_eq x y
  simp only [bls] at ih ⊢
  rw [Op.bytesLess, ih]
  simp only [List.cons_lt_cons_iff]
  by_cases h1 : a < b <;> by_cases h2 : a = b <;> by_cases h3 : x < y <;> simp [h1, h2, h3]
theorem le_bls (x y : List UInt8) : decide (x ≤ y) = !bls y x := by
 rw [bls_eq]
 by_cases h : y < x
 ·have hn : ¬ x ≤ y := fun hh => hh h
  rw [decide_eq_true h, decide_eq_false hn]; rfl
 ·have hn : x ≤ y := h
  rw [decide_eq_false h, decide_eq_true hn]; rfl
theorem sorted_spec (l : List (List UInt8)) : SSl (Lib.compact (l.mergeSort fun x y => decide (x ≤ y))) ∧ ∀ x, x ∈ Lib.compact (l.mergeSort fun x y => decide (x ≤ y)) ↔ x ∈ l := by
 have htrans : ∀ a b c : List UInt8, decide (a ≤ b) = true → decide (b ≤ c) = true → decide (a ≤ c) = true := by
  intro a b c h1 h2
  rw [le_bls, Bool.not_eq_true'] at h1 h2 ⊢
  cases hq : bls c a with
  | false => rfl
  | true =>
   rcases bls_tri a b with h | h | h
   ·have := bls_trans hq h; rw [h2] at this; cases this
   ·subst h; rw [h2] at hq; cases hq
   ·rw [h1] at h; cases h
 have htotal : ∀ a b : List UInt8, (decide (a ≤ b) || decide (b ≤ a)) = true := by
  intro a b
  rw [le_bls, le_bls]
  cases hq : bls b a with
  | false => rfl
  | true => rw [bls_asymm hq]; rfl
 have hp := List.pairwise_mergeSort (le := fun x y : List UInt8 => decide (x ≤ y)) htrans htotal l
 have hmem : ∀ x, x ∈ l.mergeSort (fun x y => decide (x ≤ y)) ↔ x ∈ l := fun x => (List.mergeSort_perm l _).mem_iff
 generalize l.mergeSort (fun x y => decide (x ≤ y)) = s at hp hmem
 have hidx : ∀ i, i + 1 < s.toArray.size → bls s.toArray[i + 1]! s.toArray[i]! = false := by
  intro i hi
  have hi' : i + 1 < s.length := by simpa using hi
  have := (List.pairwise_iff_getElem.1 hp) i (i + 1) (by omega) hi' (by omega)
  rw [le_bls, Bool.not_eq_true'] at this
  rw [getElem!_pos _ (i + 1) hi, getElem!_pos _ i (by omega)]
  simpa using this
 obtain ⟨h1, h2, _⟩ := upTo_spec s.toArray hidx s.length (by simp)
 refine ⟨h1, fun x => ?_⟩
 rw [← hmem x]
 refine (h2 x).trans ⟨?_, ?_⟩
 ·rintro ⟨i, hi, rfl⟩
  rw [getElem!_pos _ i (by simpa using hi)]
  simp
 ·intro hx
  obtain ⟨i, hi, rfl⟩ := List.getElem_of_mem hx
  exact ⟨i, hi, by rw [getElem!_pos _ i (by simpa using hi)]; simp⟩
theorem bl_inj {a b : ByteArray} (h : bl a = bl b) : a = b := by rw [← ba_bl a, h, ba_bl]
def SS (l : List ByteArray) : Prop := l.Pairwise fun a b => bls (bl a) (bl b) = true
theorem SS.map {l : List ByteArray} (h : SS l) : SSl (l.map bl) := List.pairwise_map.2 h
theorem ss_ext {l1 l2 : List ByteArray} (h1 : SS l1) (h2 : SS l2) (h : ∀ x, x ∈ l1 ↔ x ∈ l2) : l1 = l2 := by
 have : l1.map bl = l2.map bl := ssl_ext h1.map h2.map fun x => by
  constructor
  ·intro hx
   obtain ⟨y, hy, rfl⟩ := List.mem_map.1 hx
   exact List.mem_map.2 ⟨y, (h y).1 hy, rfl⟩
  ·intro hx
   obtain ⟨y, hy, rfl⟩ := List.mem_map.1 hx
   exact List.mem_map.2 ⟨y, (h y).2 hy, rfl⟩
 exact (List.map_inj_right (fun a b e => bl_inj e)).1 this
theorem setS_spec (l : List ByteArray) : SS (compactS (sortS l)) ∧ ∀ x, x ∈ compactS (sortS l) ↔ x ∈ l := by
 have e : (sortS l).map bl = (l.map bl).mergeSort fun x y => decide (x ≤ y) := by
  unfold sortS
  rw [List.map_map]
  refine (List.map_congr_left fun x _ => bl_ba x).trans ?_
  rw [List.map_id']
 obtain ⟨h1, h2⟩ := sorted_spec (l.map bl)
 unfold compactS
 rw [e]
 generalize Lib.compact ((l.map bl).mergeSort fun x y => decide (x ≤ y)) = s at h1 h2
 refine ⟨?_, fun x => ?_⟩
 ·unfold SS
  rw [List.pairwise_map]
  refine h1.imp fun h => ?_
  rw [bl_ba, bl_ba]; exact h
 ·rw [List.mem_map]
  constructor
  ·rintro ⟨y, hy, rfl⟩
   obtain ⟨z, hz, rfl⟩ := List.mem_map.1 ((h2 y).1 hy)
   rw [ba_bl]; exact hz
  ·intro hx
   exact ⟨bl x, (h2 _).2 (List.mem_map.2 ⟨x, hx, rfl⟩), ba_bl x⟩
theorem foldl_mem {α β : Type} {Good : List β → Prop} {C : α → β → Prop} {f : List β → α → List β} : ∀ (l : List α) (s : List β), (∀ s y, y ∈ l → Good s → Good (f s y) ∧ ∀ x, x ∈ f s y ↔ x ∈ s ∨ C y x) → Good s → Good (l.foldl f s) ∧ ∀ x, x ∈ l.foldl f s ↔ x ∈ s ∨ ∃ y ∈ l, C y x
 | [], s, _, hs => ⟨hs, fun x => by simp⟩
 | y :: r, s, h, hs => by
  obtain ⟨h1, h2⟩ := h s y List.mem_cons_self hs
  obtain ⟨h3, h4⟩ := foldl_mem r (f s y) (fun s z hz => h s z (List.mem_cons_of_mem _ hz)) h1
  refine ⟨h3, fun x => (h4 x).trans ?_⟩
  rw [h2]
  simp only [List.mem_cons]
  constructor
  ·rintro ((h | h) | ⟨z, hz, h⟩)
   ·exact .inl h
   ·exact .inr ⟨y, .inl rfl, h⟩
   ·exact .inr ⟨z, .inr hz, h⟩
  ·rintro (g | ⟨z, hz, g⟩)
   ·exact .inl (.inl g)
   ·rcases hz with e | hz
    ·exact .inl (.inr (e ▸ g))
    ·exact .inr ⟨z, hz, g⟩
def lessS (a b : ByteArray) : Bool := bls (bl a) (bl b)
theorem less_eq (a b : ByteArray) : Op.bytesLess a.toList b.toList = lessS a b := by rw [Lib.toList_data, Lib.toList_data]; rfl
def atS (b : ByteArray) : List ByteArray → Nat
 | [] => 0
 | x :: r => if lessS x b then atS b r + 1 else 0
theorem atS_le (b : ByteArray) : ∀ l, atS b l ≤ l.length
 | [] => Nat.le_refl _
 | x :: r => by
  have := atS_le b r
  simp only [atS, List.length_cons]
  split <;> omega
def insS (b : ByteArray) (out : List ByteArray) : List ByteArray := if atS b out = out.length ∨ out[atS b out]? ≠ some b then out.take (atS b out) ++ [b] ++ out.drop (atS b out) else out
theorem insS_cons (b x : ByteArray) (r : List ByteArray) : insS b (x :: r) = if lessS x b then x :: insS b r else if x = b then x :: r else b :: x :: r := by
 unfold insS
 simp only [atS]
 by_cases h : lessS x b = true
 ·simp only [h, if_true, List.length_cons, List.getElem?_cons_succ, List.take_succ_cons, List.drop_succ_cons, List.cons_append, Nat.add_right_cancel_iff]
  split <;> rfl
 ·simp only [h, if_false, List.length_cons, List.getElem?_cons_zero, List.take_zero, List.drop_zero, Bool.false_eq_true]
  by_cases e : x = b
  ·rw [if_neg (by simp [e]), if_pos e]
  ·rw [if_pos (by simp [e]), if_neg e]; rfl
theorem insS_spec (b : ByteArray) : ∀ out, SS out → SS (insS b out) ∧ ∀ x, x ∈ insS b out ↔ x ∈ out ∨ x = b
 | [], _ => by
  have : insS b [] = [b] := rfl
  rw [this]
  exact ⟨List.pairwise_singleton _ _, fun x => by simp⟩
 | x :: r, h => by
  rw [insS_cons]
  have hc := List.pairwise_cons.1 h
  obtain ⟨i1, i2⟩ := insS_spec b r hc.2
  split
  ·rename_i hl
   refine ⟨List.pairwise_cons.2 ⟨fun y hy => ?_, i1⟩, fun y => ?_⟩
   ·rcases (i2 y).1 hy with hy | rfl
    ·exact hc.1 y hy
    ·exact hl
   ·simp only [List.mem_cons, i2]
    constructor
    ·rintro (h | h | h)
     ·exact .inl (.inl h)
     ·exact .inl (.inr h)
     ·exact .inr h
    ·rintro ((h | h) | h)
     ·exact .inl h
     ·exact .inr (.inl h)
     ·exact .inr (.inr h)
  ·rename_i hl
   split
   ·rename_i e
    refine ⟨h, fun y => ?_⟩
    simp only [List.mem_cons]
    constructor
    ·exact .inl
    ·rintro (h | rfl)
     ·exact h
     ·exact .inl e.symm
   ·rename_i e
    have hbx : bls (bl b) (bl x) = true := by
     rcases bls_tri (bl x) (bl b) with h | h | h
     ·exact absurd h hl
     ·exact absurd (bl_inj h) e
     ·exact h
    refine ⟨List.pairwise_cons.2 ⟨fun y hy => ?_, h⟩, fun y => ?_⟩
    ·rcases List.mem_cons.1 hy with rfl | hy
     ·exact hbx
     ·exact bls_trans hbx (hc.1 y hy)
    ·simp only [List.mem_cons]
     constructor
     ·rintro (h | h | h)
      ·exact .inr h
      ·exact .inl (.inl h)
      ·exact .inl (.inr h)
     ·rintro ((h | h) | h)
      ·exact .inr (.inl h)
      ·exact .inr (.inr h)
      ·exact .inl h
theorem insS_len (b : ByteArray) (out : List ByteArray) : (insS b out).length ≤ out.length + 1 := by
 unfold insS
 split
 ·have := atS_le b out
  simp only [List.length_append, List.length_take, List.length_drop, List.length_cons, List.length_nil]
  omega
 ·omega
end Go.Abs
