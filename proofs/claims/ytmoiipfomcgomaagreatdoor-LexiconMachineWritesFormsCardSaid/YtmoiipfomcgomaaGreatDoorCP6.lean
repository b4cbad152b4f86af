import Derived.Test.YtmoiipfomcgomaaGreatDoorCP1
namespace Go.Abs
open Go.Sort Go.Proofs
set_option linter.unusedVariables false
set_option maxRecDepth 100000
abbrev SSl (l : List (List UInt8)) : Prop := l.Pairwise fun a b => bls a b = true
theorem ssl_ext : ∀ {l1 l2 : List (List UInt8)}, SSl l1 → SSl l2 → (∀ x, x ∈ l1 ↔ x ∈ l2) → l1 = l2
 | [], [], _, _, _ => rfl
 | [], y :: s, _, _, h => by have := (h y).2 List.mem_cons_self; cases this
 | x :: r, [], _, _, h => by have := (h x).1 List.mem_cons_self; cases this
 | x :: r, y :: s, h1, h2, h => by
  have a1 := List.pairwise_cons.1 h1
  have a2 := List.pairwise_cons.1 h2
  have hxy : x = y := by
   rcases List.mem_cons.1 ((h x).1 List.mem_cons_self) with e | hx
   ·exact e
   ·rcases List.mem_cons.1 ((h y).2 List.mem_cons_self) with e | hy
    ·exact e.symm
    ·have := bls_trans (a1.1 y hy) (a2.1 x hx)
     rw [bls_irrefl] at this; cases this
  subst hxy
  have hr : ∀ z, z ∈ r ↔ z ∈ s := by
   intro z
   constructor
   ·intro hz
    rcases List.mem_cons.1 ((h z).1 (List.mem_cons_of_mem _ hz)) with e | hz'
    ·subst e; have := a1.1 z hz; rw [bls_irrefl] at this; cases this
    ·exact hz'
   ·intro hz
    rcases List.mem_cons.1 ((h z).2 (List.mem_cons_of_mem _ hz)) with e | hz'
    ·subst e; have := a2.1 z hz; rw [bls_irrefl] at this; cases this
    ·exact hz'
  rw [ssl_ext a1.2 a2.2 hr]
theorem upTo_spec (d : Array (List UInt8)) (hs : ∀ i, i + 1 < d.size → bls d[i + 1]! d[i]! = false) : ∀ m, m ≤ d.size →
  SSl (Lib.compactUpTo d m) ∧ (∀ x, x ∈ Lib.compactUpTo d m ↔ ∃ i, i < m ∧ d[i]! = x) ∧ ∀ x ∈ Lib.compactUpTo d m, bls d[m - 1]! x = false
 | 0, _ => ⟨.nil, fun x => ⟨fun h => (by cases h), fun ⟨i, h, _⟩ => absurd h (Nat.not_lt_zero _)⟩, fun x h => (by cases h)⟩
 | m + 1, hm => by
  obtain ⟨i1, i2, i3⟩ := upTo_spec d hs m (by omega)
  have hprev : 0 < m → bls d[m]! d[m - 1]! = false := by
   intro h0
   have := hs (m - 1) (by omega)
   rwa [show m - 1 + 1 = m by omega] at this
  rw [Lib.compactUpTo_succ]
  cases hk : Lib.keeps d m with
  | true =>
   simp only [if_true]
   have hlast : ∀ x ∈ Lib.compactUpTo d m, bls x d[m]! = true := by
    intro x hx
    obtain ⟨j, hj, _⟩ := (i2 x).1 hx
    have h0 : 0 < m := by omega
    have hne : d[m]! ≠ d[m - 1]! := by
     intro e
     rw [Lib.keeps_neg h0 e] at hk
     cases hk
    have h1 := hprev h0
    have h2 := i3 x hx
    have h3 : bls d[m - 1]! d[m]! = true := by
     rcases bls_tri d[m - 1]! d[m]! with h | h | h
     ·exact h
     ·exact absurd h.symm hne
     ·rw [h1] at h; cases h
    rcases bls_tri x d[m - 1]! with h | h | h
    ·exact bls_trans h h3
    ·rw [h]; exact h3
    ·rw [h2] at h; cases h
   refine ⟨List.pairwise_append.2 ⟨i1, List.pairwise_singleton _ _, fun a ha b hb => by rw [List.mem_singleton.1 hb]; exact hlast a ha⟩, fun x => ?_, fun x hx => ?_⟩
   ·rw [List.mem_append, List.mem_singleton, i2]
    constructor
    ·rintro (⟨i, h1, h2⟩ | h)
     ·exact ⟨i, by omega, h2⟩
     ·exact ⟨m, by omega, h.symm⟩
    ·rintro ⟨i, h1, h2⟩
     rcases Nat.lt_or_ge i m with h | h
     ·exact .inl ⟨i, h, h2⟩
     ·have : i = m := by omega
      subst this
      exact .inr h2.symm
   ·rw [Nat.add_sub_cancel]
    rcases List.mem_append.1 hx with hx | hx
    ·exact bls_asymm (hlast x hx)
    ·rw [List.mem_singleton.1 hx]; exact bls_irrefl _
  | false =>
   have h0 : 0 < m := by
    rcases Nat.eq_zero_or_pos m with h | h
    ·subst h; rw [Lib.keeps_lt_one d 0 (by omega)] at hk; cases hk
    ·exact h
   have heq : d[m]! = d[m - 1]! := by
    rcases Classical.em (d[m]! = d[m - 1]!) with h | h
    ·exact h
    ·rw [Lib.keeps_pos h] at hk; cases hk
   simp only [Bool.false_eq_true, if_false, List.append_nil]
   refine ⟨i1, fun x => ?_, fun x hx => ?_⟩
   ·rw [i2]
    constructor
    ·rintro ⟨i, h1, h2⟩; exact ⟨i, by omega, h2⟩
    ·rintro ⟨i, h1, h2⟩
     rcases Nat.lt_or_ge i m with h | h
     ·exact ⟨i, h, h2⟩
     ·have : i = m := by omega
      subst this
      exact ⟨i - 1, by omega, by rw [← heq]; exact h2⟩
   ·rw [Nat.add_sub_cancel, heq]; exact i3 x hx
theorem bls_eq : ∀ (x y : List UInt8), bls x y = decide (x < y)
 | [], [] => by simp [bls, Op.bytesLess]
 | _ :: _, [] => by simp [bls, Op.bytesLess]
 | [], _ :: _ => by simp [bls, Op.bytesLess]
 | a :: x, b :: y => by
  have ih := bls_eq x y
  simp only [bls] at ih ⊢
  rw [Op.bytesLess, ih]
  simp only [List.cons_lt_cons_iff]
  by_cases h1 : a < b <;> by_cases h2 : a = b <;> by_cases h3 : x < y <;> simp [h1, h2, h3]
theorem le_bls (x y : List UInt8) : decide (x ≤ y) = !bls y x := by
 rw [bls_eq]
 by_cases h : y < x
 ·have hn : ¬ x ≤ y := fun hh => hh h
  rw [decide_eq_true h, decide_eq_false hn]; rfl
 ·have hn : x ≤ y := h
  rw [decide_eq_false h, decide_eq_true hn]; rfl
theorem sorted_spec (l : List (List UInt8)) : SSl (Lib.compact (l.mergeSort fun x y => decide (x ≤ y))) ∧ ∀ x, x ∈ Lib.compact (l.mergeSort fun x y => decide (x ≤ y)) ↔ x ∈ l := by
 have htrans : ∀ a b c : List UInt8, decide (a ≤ b) = true → decide (b ≤ c) = true → decide (a ≤ c) = true := by
  intro a b c h1 h2
  rw [le_bls, Bool.not_eq_true'] at h1 h2 ⊢
  cases hq : bls c a with
  | false => rfl
  | true =>
   rcases bls_tri a b with h | h | h
   ·have := bls_trans hq h; rw [h2] at this; cases this
   ·subst h; rw [h2] at hq; cases hq
   ·rw [h1] at h; cases h
 have htotal : ∀ a b : List UInt8, (decide (a ≤ b) || decide (b ≤ a)) = true := by
  intro a b
  rw [le_bls, le_bls]
  cases hq : bls b a with
  | false => rfl
  | true => rw [bls_asymm hq]; rfl
 have hp := List.pairwise_mergeSort (le := fun x y : List UInt8 => decide (x ≤ y)) htrans htotal l
 have hmem : ∀ x, x ∈ l.mergeSort (fun x y => decide (x ≤ y)) ↔ x ∈ l := fun x => (List.mergeSort_perm l _).mem_iff
 generalize l.mergeSort (fun x y => decide (x ≤ y)) = s at hp hmem
 have hidx : ∀ i, i + 1 < s.toArray.size → bls s.toArray[i + 1]! s.toArray[i]! = false := by
  intro i hi
  have hi' : i + 1 < s.length := by simpa using hi
  have := (List.pairwise_iff_getElem.1 hp) i (i + 1) (by omega) hi' (by omega)
  rw [le_bls, Bool.not_eq_true'] at this
  rw [getElem!_pos _ (i + 1) hi, getElem!_pos _ i (by omega)]
  simpa using this
 obtain ⟨h1, h2, _⟩ := upTo_spec s.toArray hidx s.length (by simp)
 refine ⟨h1, fun x => ?_⟩
 rw [← hmem x]
 refine (h2 x).trans ⟨?_, ?_⟩
 ·rintro ⟨i, hi, rfl⟩
  rw [getElem!_pos _ i (by simpa using hi)]
  simp
 ·intro hx
  obtain ⟨i, hi, rfl⟩ := List.getElem_of_mem hx
  exact ⟨i, hi, by rw [getElem!_pos _ i (by simpa using hi)]; simp⟩
theorem bl_inj {a b : ByteArray} (h : bl a = bl b) : a = b := by rw [← ba_bl a, h, ba_bl]
def SS (l : List ByteArray) : Prop := l.Pairwise fun a b => bls (bl a) (bl b) = true
theorem SS.map {l : List ByteArray} (h : SS l) : SSl (l.map bl) := List.pairwise_map.2 h
theorem ss_ext {l1 l2 : List ByteArray} (h1 : SS l1) (h2 : SS l2) (h : ∀ x, x ∈ l1 ↔ x ∈ l2) : l1 = l2 := by
 have : l1.map bl = l2.map bl := ssl_ext h1.map h2.map fun x => by
  constructor
  ·intro hx
   obtain ⟨y, hy, rfl⟩ := List.mem_map.1 hx
   exact List.mem_map.2 ⟨y, (h y).1 hy, rfl⟩
  ·intro hx
   obtain ⟨y, hy, rfl⟩ := List.mem_map.1 hx
   exact List.mem_map.2 ⟨y, (h y).2 hy, rfl⟩
 exact (List.map_inj_right (fun a b e => bl_inj e)).1 this
theorem setS_spec (l : List ByteArray) : SS (compactS (sortS l)) ∧ ∀ x, x ∈ compactS (sortS l) ↔ x ∈ l := by
 have e : (sortS l).map bl = (l.map bl).mergeSort fun x y => decide (x ≤ y) := by
  unfold sortS
  rw [List.map_map]
  refine (List.map_congr_left fun x _ => bl_ba x).trans ?_
  rw [List.map_id']
 obtain ⟨h1, h2⟩ := sorted_spec (l.map bl)
 unfold compactS
 rw [e]
 generalize Lib.compact ((l.map bl).mergeSort fun x y => decide (x ≤ y)) = s at h1 h2
 refine ⟨?_, fun x => ?_⟩
 ·unfold SS
  rw [List.pairwise_map]
  refine h1.imp fun h => ?_
  rw [bl_ba, bl_ba]; exact h
 ·rw [List.mem_map]
  constructor
  ·rintro ⟨y, hy, rfl⟩
   obtain ⟨z, hz, rfl⟩ := List.mem_map.1 ((h2 y).1 hy)
   rw [ba_bl]; exact hz
  ·intro hx
   exact ⟨bl x, (h2 _).2 (List.mem_map.2 ⟨x, hx, rfl⟩), ba_bl x⟩
theorem foldl_mem {α β : Type} {Good : List β → Prop} {C : α → β → Prop} {f : List β → α → List β} : ∀ (l : List α) (s : List β), (∀ s y, y ∈ l → Good s → Good (f s y) ∧ ∀ x, x ∈ f s y ↔ x ∈ s ∨ C y x) → Good s → Good (l.foldl f s) ∧ ∀ x, x ∈ l.foldl f s ↔ x ∈ s ∨ ∃ y ∈ l, C y x
 | [], s, _, hs => ⟨hs, fun x => by simp⟩
 | y :: r, s, h, hs => by
  obtain ⟨h1, h2⟩ := h s y List.mem_cons_self hs
  obtain ⟨h3, h4⟩ := foldl_mem r (f s y) (fun s z hz => h s z (List.mem_cons_of_mem _ hz)) h1
  refine ⟨h3, fun x => (h4 x).trans ?_⟩
  rw [h2]
  simp only [List.mem_cons]
  constructor
  ·rintro ((h | h) | ⟨z, hz, h⟩)
   ·exact .inl h
   ·exact .inr ⟨y, .inl rfl, h⟩
   ·exact .inr ⟨z, .inr hz, h⟩
  ·rintro (g | ⟨z, hz, g⟩)
   ·exact .inl (.inl g)
   ·rcases hz with e | hz
    ·exact .inl (.inr (e ▸ g))
    ·exact .inr ⟨z, hz, g⟩
def lessS (a b : ByteArray) : Bool := bls (bl a) (bl b)
theorem less_eq (a b : ByteArray) : Op.bytesLess a.toList b.toList = lessS a b := by rw [Lib.toList_data, Lib.toList_data]; rfl
def atS (b : ByteArray) : List ByteArray → Nat
 | [] => 0
 | x :: r => if lessS x b then atS b r + 1 else 0
theorem atS_le (b : ByteArray) : ∀ l, atS b l ≤ l.length
 | [] => Nat.le_refl _
 | x :: r => by
  have := atS_le b r
  simp only [atS, List.length_cons]
  split <;> omega
def insS (b : ByteArray) (out : List ByteArray) : List ByteArray := if atS b out = out.length ∨ out[atS b out]? ≠ some b then out.take (atS b out) ++ [b] ++ out.drop (atS b out) else out
theorem insS_cons (b x : ByteArray) (r : List ByteArray) : insS b (x :: r) = if lessS x b then x :: insS b r else if x = b then x :: r else b :: x :: r := by
 unfold insS
 simp only [atS]
 by_cases h : lessS x b = true
 ·simp only [h, if_true, List.length_cons, List.getElem?_cons_succ, List.take_succ_cons, List.drop_succ_cons, List.cons_append, Nat.add_right_cancel_iff]
  split <;> rfl
 ·simp only [h, if_false, List.length_cons, List.getElem?_cons_zero, List.take_zero, List.drop_zero, Bool.false_eq_true]
  by_cases e : x = b
  ·rw [if_neg (by simp [e]), if_pos e]
  ·rw [if_pos (by simp [e]), if_neg e]; rfl
theorem insS_spec (b : ByteArray) : ∀ out, SS out → SS (insS b out) ∧ ∀ x, x ∈ insS b out ↔ x ∈ out ∨ x = b
 | [], _ => by
  have : insS b [] = [b] := rfl
  rw [this]
  exact ⟨List.pairwise_singleton _ _, fun x => by simp⟩
 | x :: r, h => by
  rw [insS_cons]
  have hc := List.pairwise_cons.1 h
  obtain ⟨i1, i2⟩ := insS_spec b r hc.2
  split
  ·rename_i hl
   refine ⟨List.pairwise_cons.2 ⟨fun y hy => ?_, i1⟩, fun y => ?_⟩
   ·rcases (i2 y).1 hy with hy | rfl
    ·exact hc.1 y hy
    ·exact hl
   ·simp only [List.mem_cons, i2]
    constructor
    ·rintro (h | h | h)
     ·exact .inl (.inl h)
     ·exact .inl (.inr h)
     ·exact .inr h
    ·rintro ((h | h) | h)
     ·exact .inl h
     ·exact .inr (.inl h)
     ·exact .inr (.inr h)
  ·rename_i hl
   split
   ·rename_i e
    refine ⟨h, fun y => ?_⟩
    simp only [List.mem_cons]
    constructor
    ·exact .inl
    ·rintro (h | rfl)
     ·exact h
     ·exact .inl e.symm
   ·rename_i e
    have hbx : bls (bl b) (bl x) = true := by
     rcases bls_tri (bl x) (bl b) with h | h | h
     ·exact absurd h hl
     ·exact absurd (bl_inj h) e
     ·exact h
    refine ⟨List.pairwise_cons.2 ⟨fun y hy => ?_, h⟩, fun y => ?_⟩
    ·rcases List.mem_cons.1 hy with rfl | hy
     ·exact hbx
     ·exact bls_trans hbx (hc.1 y hy)
    ·simp only [List.mem_cons]
     constructor
     ·rintro (h | h | h)
      ·exact .inr h
      ·exact .inl (.inl h)
      ·exact .inl (.inr h)
     ·rintro ((h | h) | h)
      ·exact .inr (.inl h)
      ·exact .inr (.inr h)
      ·exact .inl h
theorem insS_len (b : ByteArray) (out : List ByteArray) : (insS b out).length ≤ out.length + 1 := by
 unfold insS
 split
 ·have := atS_le b out
  simp only [List.length_append, List.length_take, List.length_drop, List.length_cons, List.length_nil]
  omega
 ·omega
theorem wordS_spec {s : ByteArray} (h : wordS s = true) : ∃ L, ptsS s = some L ∧ 1 ≤ L.length ∧ L.length ≤ 30 ∧ s.size ≤ 120 ∧ ∀ p ∈ L, badP p = false := by
 unfold wordS at h
 rw [Bool.and_eq_true] at h
 cases hq : ptsS s with
 | none => rw [hq] at h; cases h.2
 | some L =>
  rw [hq] at h
  have h2 := h.2
  simp only [okP, Bool.and_eq_true, decide_eq_true_eq, List.all_eq_true, Bool.not_eq_true'] at h2
  have := ptsS_len hq
  exact ⟨L, rfl, h2.1.1, h2.1.2, by omega, h2.2⟩
theorem partS_spec {s : ByteArray} (h : partS s = true) : ∃ L, ptsS s = some L ∧ L.length ≤ 30 ∧ s.size ≤ 120 ∧ ∀ p ∈ L, badP p = false := by
 unfold partS at h
 rw [Bool.or_eq_true, decide_eq_true_eq] at h
 rcases h with rfl | h
 ·exact ⟨[], rfl, by simp, by decide, fun p hp => by cases hp⟩
 ·obtain ⟨L, h1, h2, h3, h4, h5⟩ := wordS_spec h
  exact ⟨L, h1, h3, h4, h5⟩
theorem iter_to {R A : Type} (B : A → Option (Stp R A)) (st : Nat → A) (a : A) : ∀ (m n i : Nat), (∀ j, i ≤ j → j < i + n → B (st j) = some (.nxt (st (j + 1)))) → B (st (i + n)) = some (.brk a) → n < m → iter B m (st i) = some (.inr a)
 | 0, n, i, _, _, h => by omega
 | m + 1, 0, i, _, hb, _ => by
  unfold iter
  rw [show B (st i) = some (.brk a) from hb]
 | m + 1, n + 1, i, hn, hb, h => by
  unfold iter
  rw [hn i (Nat.le_refl _) (by omega)]
  exact iter_to B st a m n (i + 1) (fun j h1 h2 => hn j (by omega) (by omega)) (by rw [show i + 1 + n = i + (n + 1) by omega]; exact hb) (by omega)
theorem iter_at {R A : Type} (B : A → Option (Stp R A)) (st : Nat → A) {a0 a : A} {m : Nat} (n : Nat) (h0 : a0 = st 0) (hn : ∀ j, j < n → B (st j) = some (.nxt (st (j + 1)))) (hb : B (st n) = some (.brk a)) (hm : n < m) : iter B m a0 = some (.inr a) := by
 subst h0
 exact iter_to B st a m n 0 (fun j _ h => hn j (by omega)) (by rw [Nat.zero_add]; exact hb) hm
theorem iter_out {R A : Type} (B : A → Option (Stp R A)) (st : Nat → A) (P : Nat → Prop) (hP : ∀ i j, i ≤ j → P i → P j) (r : R) (a : A) : ∀ (m n i : Nat), ¬ P i → (∀ j, i ≤ j → j < i + n → ¬ P j → (P (j + 1) → B (st j) = some (.ret r)) ∧ (¬ P (j + 1) → B (st j) = some (.nxt (st (j + 1))))) →
  (¬ P (i + n) → B (st (i + n)) = some (.brk a)) → n < m → (P (i + n) → iter B m (st i) = some (.inl r)) ∧ (¬ P (i + n) → iter B m (st i) = some (.inr a))
 | 0, n, i, _, _, _, h => by omega
 | m + 1, 0, i, hi, _, hb, _ => by
  refine ⟨fun h => absurd h hi, fun h => ?_⟩
  unfold iter
  rw [show B (st i) = some (.brk a) from hb h]
 | m + 1, n + 1, i, hi, hn, hb, h => by
  obtain ⟨h1, h2⟩ := hn i (Nat.le_refl _) (by omega) hi
  have e : i + 1 + n = i + (n + 1) := by omega
  by_cases hp : P (i + 1)
  ·refine ⟨fun _ => ?_, fun g => absurd (hP (i + 1) _ (by omega) hp) g⟩
   unfold iter
   rw [h1 hp]
  ·have ih := iter_out B st P hP r a m n (i + 1) hp (fun j g1 g2 g3 => hn j (by omega) (by omega) g3) (by rw [e]; exact hb) (by omega)
   rw [e] at ih
   constructor
   ·intro g
    unfold iter
    rw [h2 hp]
    exact ih.1 g
   ·intro g
    unfold iter
    rw [h2 hp]
    exact ih.2 g
theorem take_snoc {α : Type} {l : List α} {i : Nat} {x : α} (h : l[i]? = some x) : l.take (i + 1) = l.take i ++ [x] := by
 rw [List.take_add_one, h]; rfl
theorem w64_nat (n : Nat) (h : n ≤ 1000000000) : w64 ((n : Int) + 1) = ((n + 1 : Nat) : Int) := by
 rw [w64_id ⟨by omega, by omega⟩]; omega
def tagsI (xs : List S57) : List ByteArray := xs.flatMap (·.fTags)
def tagsC (l : List S55) : List ByteArray := l.flatMap fun c => tagsI c.fItems
def tagsL (l : List S55) : List ByteArray := compactS (sortS (tagsC l))
theorem itemBad_tags {n : Nat} {x : S57} (h : itemBad n x = 0) : x.fTags.length ≤ 4 := by
 unfold itemBad at h
 split at h
 ·simp at h
 ·split at h
  ·simp at h
  ·omega
theorem tagsI_len {n : Nat} : ∀ (xs : List S57), (∀ x ∈ xs, itemBad n x = 0) → (tagsI xs).length ≤ 4 * xs.length
 | [], _ => by simp [tagsI]
 | x :: r, h => by
  have h1 := itemBad_tags (h x List.mem_cons_self)
  have h2 := tagsI_len r fun y hy => h y (List.mem_cons_of_mem _ hy)
  simp only [tagsI, List.flatMap_cons, List.length_append, List.length_cons] at h2 ⊢
  omega
theorem tagsI_snoc (xs : List S57) (x : S57) : tagsI (xs ++ [x]) = tagsI xs ++ x.fTags := by simp [tagsI]
theorem tagsC_snoc (l : List S55) (c : S55) : tagsC (l ++ [c]) = tagsC l ++ tagsI c.fItems := by simp [tagsC]
theorem tagsC_len {n : Nat} : ∀ (l : List S55), (∀ c ∈ l, c.fItems.length ≤ 100) → (∀ c ∈ l, ∀ x ∈ c.fItems, itemBad n x = 0) → (tagsC l).length ≤ 400 * l.length
 | [], _, _ => by simp [tagsC]
 | c :: r, h1, h2 => by
  have g1 := tagsI_len c.fItems (h2 c List.mem_cons_self)
  have g2 := h1 c List.mem_cons_self
  have g3 := tagsC_len r (fun y hy => h1 y (List.mem_cons_of_mem _ hy)) fun y hy => h2 y (List.mem_cons_of_mem _ hy)
  simp only [tagsC, List.flatMap_cons, List.length_append, List.length_cons] at g3 ⊢
  omega
theorem mem_take {α : Type} {l : List α} {n : Nat} {x : α} (h : x ∈ l.take n) : x ∈ l := List.mem_of_mem_take h
theorem f15_items (m : Nat) (c : S55) (acc : List ByteArray) {n : Nat} (hc : c.fItems.length ≤ 100) (hx : ∀ x ∈ c.fItems, itemBad n x = 0) (ha : acc.length ≤ 100000) (hm : 4001 < m) :
  iter (fun (y : (List ByteArray) × Int) => f15_B1 m c y.1 y.2) m (acc, 0) = some (.inr (acc ++ tagsI c.fItems, (c.fItems.length : Int))) := by
 refine iter_at (fun (y : (List ByteArray) × Int) => f15_B1 m c y.1 y.2) (fun i => (acc ++ tagsI (c.fItems.take i), (i : Int))) c.fItems.length ?_ (fun j hj => ?_) ?_ (by omega)
 ·simp [tagsI]
 ·obtain ⟨x, hxj⟩ : ∃ x, c.fItems[j]? = some x := ⟨_, List.getElem?_eq_getElem (by omega)⟩
  have hl := tagsI_len (n := n) (c.fItems.take j) fun x hx' => hx x (mem_take hx')
  have h4 := itemBad_tags (hx x (List.mem_of_getElem? hxj))
  rw [List.length_take] at hl
  show f15_B1 m c (acc ++ tagsI (c.fItems.take j)) (j : Int) = _
  unfold f15_B1
  rw [decide_eq_true (by omega), cnd_true, idx_get, hxj, bnd_some', app_some 16 _ _ (by rw [List.length_append]; omega) (by rw [List.length_append]; omega), bnd_some', w64_nat j (by omega), take_snoc hxj, tagsI_snoc, List.append_assoc]
 ·show f15_B1 m c (acc ++ tagsI (c.fItems.take c.fItems.length)) (c.fItems.length : Int) = _
  unfold f15_B1
  rw [decide_eq_false (by omega), cnd_false, List.take_length]
theorem f15_eq (m : Nat) (a0 : S23) (ho : OkL a0.fClasses) (hm : 4001 < m) : f15 m a0 = some (tagsL a0.fClasses) := by
 have hlen := tagsC_len a0.fClasses ho.items ho.item
 have hl := ho.len
 have e : iter (fun (y : (List ByteArray) × Int) => f15_B2 m a0 y.1 y.2) m ([], 0) = some (.inr (tagsC a0.fClasses, (a0.fClasses.length : Int))) := by
  refine iter_at (fun (y : (List ByteArray) × Int) => f15_B2 m a0 y.1 y.2) (fun i => (tagsC (a0.fClasses.take i), (i : Int))) a0.fClasses.length ?_ (fun j hj => ?_) ?_ (by omega)
  ·simp [tagsC]
  ·obtain ⟨c, hcj⟩ : ∃ x, a0.fClasses[j]? = some x := ⟨_, List.getElem?_eq_getElem (by omega)⟩
   have hmem := List.mem_of_getElem? hcj
   have hl2 := tagsC_len (a0.fClasses.take j) (fun c hc => ho.items c (mem_take hc)) (fun c hc => ho.item c (mem_take hc))
   rw [List.length_take] at hl2
   show f15_B2 m a0 (tagsC (a0.fClasses.take j)) (j : Int) = _
   unfold f15_B2
   rw [decide_eq_true (by omega), cnd_true, idx_get, hcj, bnd_some', f15_items m c _ (ho.items c hmem) (ho.item c hmem) (by omega) hm, brk_inr, w64_nat j (by omega), take_snoc hcj, tagsC_snoc]
  ·show f15_B2 m a0 (tagsC (a0.fClasses.take a0.fClasses.length)) (a0.fClasses.length : Int) = _
   unfold f15_B2
   rw [decide_eq_false (by omega), cnd_false, List.take_length]
 unfold f15
 rw [e, brk_inr]
 simp only [srt]
 rw [if_pos (by omega), bnd_some']
 rfl
def tagsR (l : List ByteArray) (out : List ByteArray) : List ByteArray := l.foldl (fun o t => insS t o) out
theorem tagsR_len : ∀ (l out : List ByteArray), (tagsR l out).length ≤ out.length + l.length
 | [], out => Nat.le_refl _
 | t :: r, out => by
  have h1 := insS_len t out
  have h2 := tagsR_len r (insS t out)
  simp only [tagsR, List.foldl_cons, List.length_cons] at h2 ⊢
  omega
theorem tagsR_spec (l : List ByteArray) : SS (tagsR l []) ∧ ∀ x, x ∈ tagsR l [] ↔ x ∈ l := by
 have h := foldl_mem (Good := SS) (C := fun t x => x = t) (f := fun o t => insS t o) l [] (fun s y _ hs => insS_spec y s hs) List.Pairwise.nil
 refine ⟨h.1, fun x => (h.2 x).trans ?_⟩
 simp
theorem tagsL_R (l : List S55) : tagsL l = tagsR (tagsC l) [] := ss_ext (setS_spec _).1 (tagsR_spec _).1 fun x => ((setS_spec _).2 x).trans ((tagsR_spec _).2 x).symm
theorem atS_spec (t : ByteArray) : ∀ (T : List ByteArray), SS T → (∀ i x, T[i]? = some x → i < atS t T → lessS x t = true) ∧ (∀ i x, T[i]? = some x → atS t T ≤ i → lessS x t = false)
 | [], _ => ⟨fun i x h => by simp at h, fun i x h => by simp at h⟩
 | y :: r, h => by
  have hc := List.pairwise_cons.1 h
  obtain ⟨i1, i2⟩ := atS_spec t r hc.2
  simp only [atS]
  by_cases hl : lessS y t = true
  ·simp only [hl, if_true]
   constructor
   ·intro i x hx hi
    cases i with
    | zero => simp at hx; subst hx; exact hl
    | succ i => exact i1 i x (by simpa using hx) (by omega)
   ·intro i x hx hi
    cases i with
    | zero => omega
    | succ i => exact i2 i x (by simpa using hx) (by omega)
  ·simp only [hl, Bool.false_eq_true, if_false]
   refine ⟨fun i x _ hi => by omega, fun i x hx _ => ?_⟩
   cases i with
   | zero => simp at hx; subst hx; simpa using hl
   | succ i =>
    have hm := hc.1 x (List.mem_of_getElem? (i := i) (by simpa using hx))
    cases hq : lessS x t with
    | false => rfl
    | true => exact absurd (bls_trans hm hq) hl
theorem f39_eq (m : Nat) (a b : ByteArray) : f39 m a b = some (lessS a b) := by
 unfold f39 f39_r2 f39_r1 f57
 rw [tl_eq a a, decide_eq_true rfl]
 simp only [Bool.not_true, bnd_some', cnd_false, Bool.false_or, less_eq]
theorem half (lo hi : Nat) (h : lo < hi) (hb : hi ≤ 1000000) : w64 (Int.fdiv (IntKind.u64.wrap (w64 ((lo : Int) + (hi : Int)))) (2 ^ (min (1 : Int).toNat IntKind.u64.bits))) = (((lo + hi) / 2 : Nat) : Int) := by
 have h1 : w64 ((lo : Int) + (hi : Int)) = ((lo + hi : Nat) : Int) := by rw [w64_id ⟨by omega, by omega⟩]; omega
 have h2 : IntKind.u64.wrap ((lo + hi : Nat) : Int) = ((lo + hi : Nat) : Int) := by
  unfold IntKind.wrap
  simp [IntKind.bits, IntKind.signed]
  omega
 rw [h1, h2]
 have h3 : (2 : Int) ^ (min (1 : Int).toNat IntKind.u64.bits) = 2 := by decide
 rw [h3]
 have h4 : Int.fdiv ((lo + hi : Nat) : Int) 2 = (((lo + hi) / 2 : Nat) : Int) := by
  rw [Int.fdiv_eq_ediv_of_nonneg _ (by decide)]; omega
 rw [h4, w64_id ⟨by omega, by omega⟩]
theorem f17_loop (m : Nat) (T : List ByteArray) (t : ByteArray) (hs : SS T) (hT : T.length ≤ 1000000) : ∀ (K lo hi : Nat), lo ≤ atS t T → atS t T ≤ hi → hi ≤ T.length → hi - lo < K →
  iter (fun (y : Int × Int) => f17_B3 m T t y.1 y.2) K ((lo : Int), (hi : Int)) = some (.inr ((atS t T : Int), (atS t T : Int)))
 | 0, lo, hi, _, _, _, h => by omega
 | K + 1, lo, hi, h1, h2, h3, h4 => by
  unfold iter
  rcases Nat.lt_or_ge lo hi with hlt | hge
  ·have hmid : (lo + hi) / 2 < T.length := by omega
   have hx := List.getElem?_eq_getElem hmid
   obtain ⟨s1, s2⟩ := atS_spec t T hs
   have e0 : f17_B3 m T t (lo : Int) (hi : Int) = if lessS T[(lo + hi) / 2] t then some (.nxt ((((lo + hi) / 2 + 1 : Nat) : Int), (hi : Int))) else some (.nxt ((lo : Int), (((lo + hi) / 2 : Nat) : Int))) := by
    unfold f17_B3
    rw [decide_eq_true (by omega), cnd_true, half lo hi hlt (by omega), idx_get, hx, bnd_some', f39_eq, bnd_some', w64_nat _ (by omega)]
    cases lessS T[(lo + hi) / 2] t <;> rfl
   simp only [e0]
   by_cases hl : lessS T[(lo + hi) / 2] t = true
   ·simp only [hl, if_true]
    refine f17_loop m T t hs hT K _ hi ?_ h2 h3 (by omega)
    rcases Nat.lt_or_ge ((lo + hi) / 2) (atS t T) with g | g
    ·omega
    ·rw [s2 _ _ hx g] at hl; cases hl
   ·simp only [hl, Bool.false_eq_true, if_false]
    refine f17_loop m T t hs hT K lo _ h1 ?_ (by omega) (by omega)
    rcases Nat.lt_or_ge ((lo + hi) / 2) (atS t T) with g | g
    ·exact absurd (s1 _ _ hx g) hl
    ·exact g
  ·have e1 : lo = atS t T := by omega
   have e2 : hi = atS t T := by omega
   subst e1
   rw [e2]
   have e0 : f17_B3 m T t (atS t T : Int) (atS t T : Int) = some (.brk ((atS t T : Int), (atS t T : Int))) := by
    unfold f17_B3
    rw [decide_eq_false (by omega)]; rfl
   simp only [e0]
theorem f17_eq (m : Nat) (T : List ByteArray) (t : ByteArray) (hs : SS T) (hT : T.length ≤ 1000000) (hm : T.length < m) : ∃ b, f17 m T t = some ((atS t T : Int), b) := by
 have h := f17_loop m T t hs hT m 0 T.length (Nat.zero_le _) (atS_le t T) (Nat.le_refl _) (by omega)
 have h : iter (fun (y : Int × Int) => f17_B3 m T t y.1 y.2) m (0, (T.length : Int)) = _ := h
 unfold f17 f17_r4
 rw [h, brk_inr]
 have h26 : ∀ z, f40 m z = some false := fun z => by unfold f40; rw [tl_eq z z, decide_eq_true rfl]; rfl
 by_cases hl : atS t T < T.length
 ·rw [decide_eq_true (by simp only; omega), cnd_true]
  simp only [idx_get, List.getElem?_eq_getElem hl, bnd_some', h26, cnd_false]
  cases (T[atS t T].toList == t.toList) <;> exact ⟨_, rfl⟩
 ·rw [decide_eq_false (by simp only; omega)]
  exact ⟨_, rfl⟩
def tagN (T : List ByteArray) (t : ByteArray) : Int := 983040 + (atS t T : Int)
def inL (T : List ByteArray) (ts : List ByteArray) (p : List Int) : List Int := p ++ ts.map (tagN T)
theorem inL_snoc (T ts : List ByteArray) (t : ByteArray) (p : List Int) : inL T (ts ++ [t]) p = inL T ts p ++ [tagN T t] := by simp [inL]
theorem inL_len (T ts : List ByteArray) (p : List Int) : (inL T ts p).length = p.length + ts.length := by simp [inL]
theorem tagN_w (T : List ByteArray) (t : ByteArray) (hT : T.length ≤ 1000000) : w64 (983040 + (atS t T : Int)) = tagN T t := by
 have := atS_le t T
 exact w64_id ⟨by omega, by omega⟩
theorem f5_in (m : Nat) (T : List ByteArray) (x : S57) (p : List Int) (hs : SS T) (hT : T.length ≤ 20000) (hx : x.fTags.length ≤ 4) (hp : p.length ≤ 10000) (hm : 200000 ≤ m) :
  iter (fun (y : (List Int) × Int) => f5_B1 m T x y.1 y.2) m (p, 0) = some (.inr (inL T x.fTags p, (x.fTags.length : Int))) := by
 refine iter_at (fun (y : (List Int) × Int) => f5_B1 m T x y.1 y.2) (fun i => (inL T (x.fTags.take i) p, (i : Int))) x.fTags.length ?_ (fun j hj => ?_) ?_ (by omega)
 ·simp [inL]
 ·obtain ⟨t, ht⟩ : ∃ t, x.fTags[j]? = some t := ⟨_, List.getElem?_eq_getElem (by omega)⟩
  obtain ⟨b, hb⟩ := f17_eq m T t hs (by omega) (by omega)
  have hl := inL_len T (x.fTags.take j) p
  rw [List.length_take] at hl
  show f5_B1 m T x (inL T (x.fTags.take j) p) (j : Int) = _
  unfold f5_B1
  rw [decide_eq_true (by omega), cnd_true, idx_get, ht, bnd_some', hb, bnd_some', tagN_w T t (by omega), app_some 8 _ _ (by simp only [List.length_singleton]; omega) (by simp only [List.length_singleton]; omega), bnd_some', w64_nat j (by omega), take_snoc ht, inL_snoc]
 ·show f5_B1 m T x (inL T (x.fTags.take x.fTags.length) p) (x.fTags.length : Int) = _
  unfold f5_B1
  rw [decide_eq_false (by omega), cnd_false, List.take_length]
def stepsN (a b : List Int) : Nat := max (max a.length b.length) 1
def arcN (i S to w : Int) (a b : List Int) (k : Nat) : S61 :=
 ⟨if k = 0 then i else S + k - 1, if k + 1 < stepsN a b then S + k else to, a[k]?.getD 0, b[k]?.getD 0, if k = 0 then w else 0⟩
def arcsN (i S to w : Int) (a b : List Int) : List S61 := (List.range (stepsN a b)).map (arcN i S to w a b)
theorem arcsN_len (i S to w : Int) (a b : List Int) : (arcsN i S to w a b).length = stepsN a b := by simp [arcsN]
theorem arcsN_get {i S to w : Int} {a b : List Int} {k : Nat} (hk : k < stepsN a b) : (arcsN i S to w a b)[k]? = some (arcN i S to w a b k) := by
 unfold arcsN
 rw [List.getElem?_map, List.getElem?_range hk]; rfl
theorem steps_if (a b : List Int) : (if 1 > (if (b.length : Int) > (a.length : Int) then (b.length : Int) else (a.length : Int)) then (1 : Int) else (if (b.length : Int) > (a.length : Int) then (b.length : Int) else (a.length : Int))) = (stepsN a b : Int) := by
 unfold stepsN
 split <;> split at * <;> omega
theorem get_or {β : Type} {a : List Int} {k : Nat} {K : Int → Option β} : cnd (decide ((k : Int) < (a.length : Int))) (bnd (idx a (k : Int)) K) (K 0) = K (a[k]?.getD 0) := by
 rw [idx_get]
 rcases Nat.lt_or_ge k a.length with h | h
 ·rw [decide_eq_true (by omega), cnd_true, List.getElem?_eq_getElem h]; rfl
 ·rw [decide_eq_false (by omega), cnd_false, List.getElem?_eq_none h]; rfl
theorem f5_arcs (m : Nat) (y : (List Int) × Int) (v : (List Int) × S31) (i S to w : Int) (A : List S61) (hi : 0 ≤ i) (hS : 0 ≤ S) (hSb : S ≤ 1000) (hA : A.length ≤ 1000000) (hy : y.1.length ≤ 1000) (hv : v.1.length ≤ 1000) (hm : 2000 ≤ m) :
  iter (fun (z : Int × Int × Int × Int × (List S61)) => f5_B5 m y v to z.1 z.2.1 z.2.2.1 z.2.2.2.1 z.2.2.2.2) m (i, w, 0, S, A) =
   some (.inr (to, 0, (stepsN y.1 v.1 : Int), S + stepsN y.1 v.1 - 1, A ++ arcsN i S to w y.1 v.1)) := by
 have hn1 : 1 ≤ stepsN y.1 v.1 := by unfold stepsN; omega
 have hn2 : stepsN y.1 v.1 ≤ 1000 := by unfold stepsN; omega
 refine iter_at (fun (z : Int × Int × Int × Int × (List S61)) => f5_B5 m y v to z.1 z.2.1 z.2.2.1 z.2.2.2.1 z.2.2.2.2)
  (fun k => (if k = 0 then i else if k < stepsN y.1 v.1 then S + k - 1 else to, if k = 0 then w else 0, (k : Int), S + (min k (stepsN y.1 v.1 - 1) : Nat), A ++ (arcsN i S to w y.1 v.1).take k)) (stepsN y.1 v.1) ?_ (fun k hk => ?_) ?_ (by omega)
 ·simp
 ·show f5_B5 m y v to (if k = 0 then i else if k < stepsN y.1 v.1 then S + k - 1 else to) (if k = 0 then w else 0) (k : Int) (S + (min k (stepsN y.1 v.1 - 1) : Nat)) (A ++ (arcsN i S to w y.1 v.1).take k) = _
  have hwk := w64_nat k (by omega)
  have hlen : (A ++ (arcsN i S to w y.1 v.1).take k).length ≤ 1001000 := by rw [List.length_append, List.length_take]; omega
  have hmin : min k (stepsN y.1 v.1 - 1) = k := by omega
  have hwn : w64 ((stepsN y.1 v.1 : Int) - 1) = ((stepsN y.1 v.1 - 1 : Nat) : Int) := by rw [w64_id ⟨by omega, by omega⟩]; omega
  have happ : ∀ e : S61, app 40 (A ++ (arcsN i S to w y.1 v.1).take k) [e] = some (A ++ (arcsN i S to w y.1 v.1).take k ++ [e]) := fun e => app_some 40 _ _ (by simp only [List.length_singleton]; omega) (by simp only [List.length_singleton]; omega)
  unfold f5_B5
  rw [steps_if, decide_eq_true (by omega), cnd_true, get_or (K := fun a => f5_j4 m y v to _ _ _ _ _ a)]
  unfold f5_j4
  rw [get_or (K := fun a => f5_j3 m y v to _ _ _ _ _ _ a)]
  unfold f5_j3 f5_j2
  rw [steps_if, hwn, hmin, if_pos hk]
  have hW : (if k + 1 = 0 then w else 0) = 0 := if_neg (by omega)
  rw [hW, take_snoc (arcsN_get hk), ← List.append_assoc]
  by_cases h1 : k + 1 < stepsN y.1 v.1
  ·have hFr : (if k + 1 = 0 then i else if k + 1 < stepsN y.1 v.1 then S + ((k + 1 : Nat) : Int) - 1 else to) = S + (k : Int) := by rw [if_neg (by omega), if_pos h1]; omega
   have hSt : S + ((min (k + 1) (stepsN y.1 v.1 - 1) : Nat) : Int) = S + (k : Int) + 1 := by
    rw [show min (k + 1) (stepsN y.1 v.1 - 1) = k + 1 by omega]; omega
   have hwS : w64 (S + (k : Int) + 1) = S + (k : Int) + 1 := w64_id ⟨by omega, by omega⟩
   have e3 : (⟨if k = 0 then i else S + (k : Int) - 1, S + ((k : Nat) : Int), y.1[k]?.getD 0, v.1[k]?.getD 0, if k = 0 then w else 0⟩ : S61) = arcN i S to w y.1 v.1 k := by simp [arcN, h1]
   rw [hFr, hSt, decide_eq_true (by omega), cnd_true, happ, bnd_some', hwk, hwS, e3]
  ·have hFr : (if k + 1 = 0 then i else if k + 1 < stepsN y.1 v.1 then S + ((k + 1 : Nat) : Int) - 1 else to) = to := by rw [if_neg (by omega), if_neg h1]
   have hSt : S + ((min (k + 1) (stepsN y.1 v.1 - 1) : Nat) : Int) = S + (k : Int) := by
    rw [show min (k + 1) (stepsN y.1 v.1 - 1) = k by omega]
   have e3 : (⟨if k = 0 then i else S + (k : Int) - 1, to, y.1[k]?.getD 0, v.1[k]?.getD 0, if k = 0 then w else 0⟩ : S61) = arcN i S to w y.1 v.1 k := by simp [arcN, h1]
   rw [hFr, hSt, decide_eq_false (by omega), cnd_false, happ, bnd_some', hwk, e3]
 ·have e1 : (if stepsN y.1 v.1 = 0 then i else if stepsN y.1 v.1 < stepsN y.1 v.1 then S + ((stepsN y.1 v.1 : Nat) : Int) - 1 else to) = to := by rw [if_neg (by omega), if_neg (by omega)]
  have e2 : (if stepsN y.1 v.1 = 0 then w else 0) = 0 := if_neg (by omega)
  have e3 : S + ((min (stepsN y.1 v.1) (stepsN y.1 v.1 - 1) : Nat) : Int) = S + (stepsN y.1 v.1 : Int) - 1 := by
   rw [show min (stepsN y.1 v.1) (stepsN y.1 v.1 - 1) = stepsN y.1 v.1 - 1 by omega]
   have : ((stepsN y.1 v.1 - 1 : Nat) : Int) = (stepsN y.1 v.1 : Int) - 1 := by omega
   omega
  show f5_B5 m y v to (if stepsN y.1 v.1 = 0 then i else if stepsN y.1 v.1 < stepsN y.1 v.1 then S + ((stepsN y.1 v.1 : Nat) : Int) - 1 else to) (if stepsN y.1 v.1 = 0 then w else 0) (stepsN y.1 v.1 : Int) (S + ((min (stepsN y.1 v.1) (stepsN y.1 v.1 - 1) : Nat) : Int)) (A ++ (arcsN i S to w y.1 v.1).take (stepsN y.1 v.1)) = _
  rw [e1, e2, e3, List.take_of_length_le (by rw [arcsN_len]; exact Nat.le_refl _)]
  unfold f5_B5
  rw [steps_if, decide_eq_false (by omega), cnd_false]
def ptsI (s : ByteArray) : List Int := castL ((ptsS s).getD [])
theorem part_pts {s : ByteArray} (h : partS s = true) (m : Nat) (hm : 4001 < m) : f16 m s = some (ptsI s, ⟨0, 0⟩) ∧ f8 m s = some (ptsI s, ⟨0, 0⟩) ∧ (ptsI s).length ≤ 30 := by
 obtain ⟨L, h1, h2, h3, _⟩ := partS_spec h
 have e : ptsI s = castL L := by unfold ptsI; rw [h1]; rfl
 rw [e]
 exact ⟨(f16_eq m s hm).1 L (by omega) h1, (f8_eq m s hm).1 L (by omega) h1, by simpa [castL] using h2⟩
structure OkI (n : Nat) (x : S57) : Prop where
 base : partS x.fBase = true
 form : partS x.fForm = true
 tags : x.fTags.length ≤ 4
 next : -1 ≤ x.fNext ∧ x.fNext < n
 weight : 0 ≤ x.fWeight ∧ x.fWeight ≤ 1000000
theorem itemBad_ok {n : Nat} {x : S57} (h : itemBad n x = 0) : OkI n x := by
 unfold itemBad at h
 split at h
 ·simp at h
 ·rename_i h1
  have h1 : (partS x.fBase && partS x.fForm) = true := by simpa using h1
  rw [Bool.and_eq_true] at h1
  split at h
  ·simp at h
  ·split at h
   ·simp at h
   ·split at h
    ·simp at h
    ·rename_i h4 h5 h6
     exact ⟨h1.1, h1.2, by omega, ⟨by omega, by omega⟩, ⟨by omega, by omega⟩⟩
def inI (T : List ByteArray) (x : S57) : List Int := inL T x.fTags (ptsI x.fBase)
def toN (N : Int) (x : S57) : Int := if x.fNext ≥ 0 then x.fNext else N
def nI (T : List ByteArray) (x : S57) : Nat := stepsN (inI T x) (ptsI x.fForm)
def stepI (T : List ByteArray) (N i : Int) (s : Int × List S61) (x : S57) : Int × List S61 :=
 (s.1 + nI T x - 1, s.2 ++ arcsN i s.1 (toN N x) x.fWeight (inI T x) (ptsI x.fForm))
def foldI (T : List ByteArray) (N i : Int) (xs : List S57) (s : Int × List S61) : Int × List S61 := xs.foldl (stepI T N i) s
theorem foldI_snoc (T : List ByteArray) (N i : Int) (xs : List S57) (x : S57) (s : Int × List S61) : foldI T N i (xs ++ [x]) s = stepI T N i (foldI T N i xs s) x := by simp [foldI]
theorem nI_le {T : List ByteArray} {n : Nat} {x : S57} (hx : OkI n x) : 1 ≤ nI T x ∧ nI T x ≤ 34 ∧ (inI T x).length ≤ 34 ∧ (ptsI x.fForm).length ≤ 30 := by
 obtain ⟨_, _, h1⟩ := part_pts hx.base 5000 (by omega)
 obtain ⟨_, _, h2⟩ := part_pts hx.form 5000 (by omega)
 have h3 := inL_len T x.fTags (ptsI x.fBase)
 have h4 := hx.tags
 have h5 : (inI T x).length ≤ 34 := by unfold inI; omega
 unfold nI stepsN
 omega
theorem foldI_bd {T : List ByteArray} {N i : Int} {n : Nat} : ∀ (xs : List S57) (s : Int × List S61), (∀ x ∈ xs, OkI n x) →
  s.1 ≤ (foldI T N i xs s).1 ∧ (foldI T N i xs s).1 ≤ s.1 + 33 * xs.length ∧ (foldI T N i xs s).2.length ≤ s.2.length + 34 * xs.length ∧ ((foldI T N i xs s).2.length : Int) - (foldI T N i xs s).1 = (s.2.length : Int) - s.1 + xs.length
 | [], s, _ => ⟨Int.le_refl _, by simp [foldI], by simp [foldI], by simp [foldI]⟩
 | x :: r, s, h => by
  obtain ⟨a1, a2, _⟩ := nI_le (T := T) (h x List.mem_cons_self)
  have ih := foldI_bd (T := T) (N := N) (i := i) r (stepI T N i s x) fun y hy => h y (List.mem_cons_of_mem _ hy)
  have e1 : (stepI T N i s x).1 = s.1 + nI T x - 1 := rfl
  have e2 : (stepI T N i s x).2.length = s.2.length + nI T x := by
   show (s.2 ++ arcsN i s.1 (toN N x) x.fWeight (inI T x) (ptsI x.fForm)).length = _
   rw [List.length_append, arcsN_len]; rfl
  have e3 : foldI T N i (x :: r) s = foldI T N i r (stepI T N i s x) := rfl
  rw [e3]
  rw [e1, e2] at ih
  obtain ⟨i1, i2, i3, i4⟩ := ih
  simp only [List.length_cons]
  refine ⟨by omega, by omega, by omega, by push_cast; push_cast at i4; omega⟩
abbrev limS : S29 × S31 := (⟨0, [], []⟩, ⟨17, -1⟩)
theorem f5_item (m : Nat) (a0 : S23) (T : List ByteArray) (i : Int) (c : S55) (j : Nat) (S : Int) (A : List S61) (x : S57) {n : Nat} (hxj : c.fItems[j]? = some x) (hx : OkI n x) (hs : SS T) (hT : T.length ≤ 20000) (hj : j ≤ 1000) (hi : 0 ≤ i) (hS : 0 ≤ S) (hSb : S ≤ 500) (hA : A.length ≤ 500000) (hm : 200000 ≤ m) :
  (400 < (stepI T (a0.fClasses.length : Int) i (S, A) x).1 → f5_B7 m a0 T i c (j : Int) S A = some (.ret limS)) ∧
  (¬ 400 < (stepI T (a0.fClasses.length : Int) i (S, A) x).1 → f5_B7 m a0 T i c (j : Int) S A = some (.nxt (((j + 1 : Nat) : Int), (stepI T (a0.fClasses.length : Int) i (S, A) x).1, (stepI T (a0.fClasses.length : Int) i (S, A) x).2))) := by
 have hlt := lt_of_getElem? hxj
 obtain ⟨n1, n2, n3, n4⟩ := nI_le (T := T) hx
 obtain ⟨p1, _, p3⟩ := part_pts hx.base m (by omega)
 obtain ⟨q1, _, q3⟩ := part_pts hx.form m (by omega)
 have key : f5_B7 m a0 T i c (j : Int) S A = f5_j6 m i (j : Int) S A x (inI T x, (x.fTags.length : Int)) (ptsI x.fForm, ⟨0, 0⟩) (toN (a0.fClasses.length : Int) x) := by
  unfold f5_B7
  rw [decide_eq_true (by omega), cnd_true, idx_get, hxj, bnd_some', p1, bnd_some', f5_in m T x (ptsI x.fBase) hs hT hx.tags (by omega) hm, brk_inr, q1, bnd_some']
  unfold toN
  by_cases h : x.fNext ≥ 0
  ·rw [decide_eq_true h, cnd_true, if_pos h]; rfl
  ·rw [decide_eq_false h, cnd_false, if_neg h]; rfl
 have key2 : f5_j6 m i (j : Int) S A x (inI T x, (x.fTags.length : Int)) (ptsI x.fForm, ⟨0, 0⟩) (toN (a0.fClasses.length : Int) x) = cnd (decide ((stepI T (a0.fClasses.length : Int) i (S, A) x).1 > 400)) (some (.ret limS)) (some (.nxt (((j + 1 : Nat) : Int), (stepI T (a0.fClasses.length : Int) i (S, A) x).1, (stepI T (a0.fClasses.length : Int) i (S, A) x).2))) := by
  unfold f5_j6
  rw [f5_arcs m (inI T x, (x.fTags.length : Int)) (ptsI x.fForm, ⟨0, 0⟩) i S (toN (a0.fClasses.length : Int) x) x.fWeight A hi hS (by omega) (by omega) (by simp only; omega) (by simp only; omega) (by omega), brk_inr, w64_nat j (by omega)]
  rfl
 rw [key, key2]
 constructor
 ·intro h
  rw [decide_eq_true (by exact h), cnd_true]
 ·intro h
  rw [decide_eq_false (by exact h), cnd_false]
theorem f5_items (m : Nat) (a0 : S23) (T : List ByteArray) (i : Int) (c : S55) (s : Int × List S61) {n : Nat} (hc : ∀ x ∈ c.fItems, OkI n x) (hl : c.fItems.length ≤ 100) (hs : SS T) (hT : T.length ≤ 20000) (hi : 0 ≤ i) (hS : 0 ≤ s.1) (hSb : ¬ 400 < s.1) (hA : s.2.length ≤ 200000) (hm : 200000 ≤ m) :
  (400 < (foldI T (a0.fClasses.length : Int) i c.fItems s).1 → iter (fun (y : Int × Int × (List S61)) => f5_B7 m a0 T i c y.1 y.2.1 y.2.2) m (0, s.1, s.2) = some (.inl limS)) ∧
  (¬ 400 < (foldI T (a0.fClasses.length : Int) i c.fItems s).1 → iter (fun (y : Int × Int × (List S61)) => f5_B7 m a0 T i c y.1 y.2.1 y.2.2) m (0, s.1, s.2) = some (.inr ((c.fItems.length : Int), (foldI T (a0.fClasses.length : Int) i c.fItems s).1, (foldI T (a0.fClasses.length : Int) i c.fItems s).2))) := by
 have hF : ∀ j, (foldI T (a0.fClasses.length : Int) i (c.fItems.take j) s).1 ≥ s.1 ∧ (foldI T (a0.fClasses.length : Int) i (c.fItems.take j) s).2.length ≤ s.2.length + 3400 := by
  intro j
  obtain ⟨a1, a2, a3, _⟩ := foldI_bd (T := T) (N := (a0.fClasses.length : Int)) (i := i) (c.fItems.take j) s fun x hx => hc x (mem_take hx)
  rw [List.length_take] at a2 a3
  exact ⟨a1, by omega⟩
 have hmono : ∀ a b, a ≤ b → 400 < (foldI T (a0.fClasses.length : Int) i (c.fItems.take a) s).1 → 400 < (foldI T (a0.fClasses.length : Int) i (c.fItems.take b) s).1 := by
  intro a b hab h
  have e : c.fItems.take b = c.fItems.take a ++ (c.fItems.drop a).take (b - a) := by
   rw [← List.take_add]; congr 1; omega
  rw [e]
  have : foldI T (a0.fClasses.length : Int) i (c.fItems.take a ++ (c.fItems.drop a).take (b - a)) s = foldI T (a0.fClasses.length : Int) i ((c.fItems.drop a).take (b - a)) (foldI T (a0.fClasses.length : Int) i (c.fItems.take a) s) := List.foldl_append ..
  rw [this]
  have := (foldI_bd (T := T) (N := (a0.fClasses.length : Int)) (i := i) ((c.fItems.drop a).take (b - a)) (foldI T (a0.fClasses.length : Int) i (c.fItems.take a) s) fun x hx => hc x (List.mem_of_mem_drop (mem_take hx))).1
  omega
 have h := iter_out (fun (y : Int × Int × (List S61)) => f5_B7 m a0 T i c y.1 y.2.1 y.2.2) (fun j => ((j : Int), (foldI T (a0.fClasses.length : Int) i (c.fItems.take j) s).1, (foldI T (a0.fClasses.length : Int) i (c.fItems.take j) s).2))
  (fun j => 400 < (foldI T (a0.fClasses.length : Int) i (c.fItems.take j) s).1) hmono limS ((c.fItems.length : Int), (foldI T (a0.fClasses.length : Int) i c.fItems s).1, (foldI T (a0.fClasses.length : Int) i c.fItems s).2) m c.fItems.length 0 (by simpa [foldI] using hSb)
  (fun j _ hj hp => by
   obtain ⟨x, hxj⟩ : ∃ x, c.fItems[j]? = some x := ⟨_, List.getElem?_eq_getElem (by omega)⟩
   obtain ⟨b1, b2⟩ := hF j
   have := f5_item m a0 T i c j _ _ x hxj (hc x (List.mem_of_getElem? hxj)) hs hT (by omega) hi (show 0 ≤ (foldI T (a0.fClasses.length : Int) i (c.fItems.take j) s).1 by omega) (by omega) (show (foldI T (a0.fClasses.length : Int) i (c.fItems.take j) s).2.length ≤ 500000 by omega) hm
   have e : foldI T (a0.fClasses.length : Int) i (c.fItems.take (j + 1)) s = stepI T (a0.fClasses.length : Int) i ((foldI T (a0.fClasses.length : Int) i (c.fItems.take j) s).1, (foldI T (a0.fClasses.length : Int) i (c.fItems.take j) s).2) x := by
    rw [take_snoc hxj, foldI_snoc]
   simp only [e]
   exact this)
  (fun hp => by
   show f5_B7 m a0 T i c ((0 + c.fItems.length : Nat) : Int) _ _ = _
   rw [Nat.zero_add]
   unfold f5_B7
   rw [decide_eq_false (by omega), cnd_false, List.take_length]) (by omega)
 rw [Nat.zero_add] at h
 simp only [List.take_length, List.take_zero] at h
 exact h
def foldC (T : List ByteArray) (N : Int) : Nat → List S55 → Int × List S61 → Int × List S61
 | _, [], s => s
 | i, c :: r, s => foldC T N (i + 1) r (foldI T N (i : Int) c.fItems s)
theorem foldC_snoc (T : List ByteArray) (N : Int) (c : S55) : ∀ (cs : List S55) (i : Nat) (s : Int × List S61), foldC T N i (cs ++ [c]) s = foldI T N ((i + cs.length : Nat) : Int) c.fItems (foldC T N i cs s)
 | [], i, s => rfl
 | d :: r, i, s => by
  show foldC T N (i + 1) (r ++ [c]) _ = foldI T N ((i + (r.length + 1) : Nat) : Int) c.fItems (foldC T N (i + 1) r _)
  rw [foldC_snoc T N c r (i + 1), show i + 1 + r.length = i + (r.length + 1) by omega]
theorem foldC_bd {T : List ByteArray} {N : Int} {n : Nat} : ∀ (cs : List S55) (i : Nat) (s : Int × List S61), (∀ c ∈ cs, c.fItems.length ≤ 100) → (∀ c ∈ cs, ∀ x ∈ c.fItems, OkI n x) →
  s.1 ≤ (foldC T N i cs s).1 ∧ (foldC T N i cs s).1 ≤ s.1 + 3300 * cs.length ∧ (foldC T N i cs s).2.length ≤ s.2.length + 3400 * cs.length ∧ ((foldC T N i cs s).2.length : Int) - (foldC T N i cs s).1 ≤ (s.2.length : Int) - s.1 + 100 * cs.length
 | [], i, s, _, _ => ⟨Int.le_refl _, by simp [foldC], by simp [foldC], by simp [foldC]⟩
 | c :: r, i, s, h1, h2 => by
  have hl := h1 c List.mem_cons_self
  obtain ⟨a1, a2, a3, a4⟩ := foldI_bd (T := T) (N := N) (i := (i : Int)) c.fItems s (h2 c List.mem_cons_self)
  obtain ⟨b1, b2, b3, b4⟩ := foldC_bd (T := T) (N := N) r (i + 1) (foldI T N (i : Int) c.fItems s) (fun d hd => h1 d (List.mem_cons_of_mem _ hd)) fun d hd => h2 d (List.mem_cons_of_mem _ hd)
  have e : foldC T N i (c :: r) s = foldC T N (i + 1) r (foldI T N (i : Int) c.fItems s) := rfl
  rw [e]
  simp only [List.length_cons]
  refine ⟨by omega, by push_cast; omega, by omega, by push_cast; omega⟩
theorem OkL.okI {l : List S55} (h : OkL l) : ∀ c ∈ l, ∀ x ∈ c.fItems, OkI l.length x := fun c hc x hx => itemBad_ok (h.item c hc x hx)
def arcsL (l : List S55) : Int × List S61 := foldC (tagsL l) (l.length : Int) 0 l ((l.length : Int) + 1, [])
theorem tagsL_ss (l : List S55) : SS (tagsL l) := (setS_spec _).1
theorem tagsL_len {l : List S55} (h : OkL l) : (tagsL l).length ≤ 16000 := by
 rw [tagsL_R]
 have h1 := tagsR_len (tagsC l) []
 have h2 := tagsC_len l h.items h.item
 have h3 := h.len
 simp only [List.length_nil] at h1
 omega
theorem f5_classes (m : Nat) (a0 : S23) (ho : OkL a0.fClasses) (hm : 200000 ≤ m) :
  (400 < (arcsL a0.fClasses).1 → iter (fun (y : Int × Int × (List S61)) => f5_B8 m a0 (tagsL a0.fClasses) y.1 y.2.1 y.2.2) m (0, (a0.fClasses.length : Int) + 1, []) = some (.inl limS)) ∧
  (¬ 400 < (arcsL a0.fClasses).1 → iter (fun (y : Int × Int × (List S61)) => f5_B8 m a0 (tagsL a0.fClasses) y.1 y.2.1 y.2.2) m (0, (a0.fClasses.length : Int) + 1, []) = some (.inr ((a0.fClasses.length : Int), (arcsL a0.fClasses).1, (arcsL a0.fClasses).2))) := by
 have hl := ho.len
 have hT := tagsL_len ho
 generalize hTe : tagsL a0.fClasses = T at *
 have hs : SS T := hTe ▸ tagsL_ss _
 have hi := ho.okI
 let F := fun j => foldC T (a0.fClasses.length : Int) 0 (a0.fClasses.take j) ((a0.fClasses.length : Int) + 1, [])
 have hF : ∀ j, (a0.fClasses.length : Int) + 1 ≤ (F j).1 ∧ (F j).2.length ≤ 136000 := by
  intro j
  obtain ⟨a1, a2, a3, _⟩ := foldC_bd (T := T) (N := (a0.fClasses.length : Int)) (a0.fClasses.take j) 0 ((a0.fClasses.length : Int) + 1, []) (fun c hc => ho.items c (mem_take hc)) fun c hc => hi c (mem_take hc)
  rw [List.length_take] at a2 a3
  have e0 : (((a0.fClasses.length : Int) + 1, ([] : List S61))).2.length = 0 := rfl
  rw [e0] at a3
  refine ⟨a1, ?_⟩
  show (foldC T (a0.fClasses.length : Int) 0 (a0.fClasses.take j) ((a0.fClasses.length : Int) + 1, [])).2.length ≤ 136000
  omega
 have hstep : ∀ j c, a0.fClasses[j]? = some c → F (j + 1) = foldI T (a0.fClasses.length : Int) (j : Int) c.fItems (F j) := by
  intro j c hc
  have hlt := lt_of_getElem? hc
  show foldC T _ 0 (a0.fClasses.take (j + 1)) _ = _
  rw [take_snoc hc, foldC_snoc, Nat.zero_add, List.length_take, Nat.min_eq_left (by omega)]
 have hmono1 : ∀ j, 400 < (F j).1 → 400 < (F (j + 1)).1 := by
  intro j h
  rcases Nat.lt_or_ge j a0.fClasses.length with hj | hj
  ·obtain ⟨c, hc⟩ : ∃ c, a0.fClasses[j]? = some c := ⟨_, List.getElem?_eq_getElem hj⟩
   rw [hstep j c hc]
   have := (foldI_bd (T := T) (N := (a0.fClasses.length : Int)) (i := (j : Int)) c.fItems (F j) (hi c (List.mem_of_getElem? hc))).1
   omega
  ·have : F (j + 1) = F j := by
    show foldC T _ 0 (a0.fClasses.take (j + 1)) _ = foldC T _ 0 (a0.fClasses.take j) _
    rw [List.take_of_length_le (by omega), List.take_of_length_le (by omega)]
   rw [this]; exact h
 have hmono : ∀ a b, a ≤ b → 400 < (F a).1 → 400 < (F b).1 := by
  intro a b hab h
  induction b with
  | zero =>
   obtain rfl : a = 0 := by omega
   exact h
  | succ b ih =>
   rcases Nat.lt_or_ge b a with g | g
   ·obtain rfl : a = b + 1 := by omega
    exact h
   ·exact hmono1 b (ih g)
 have hE : arcsL a0.fClasses = F a0.fClasses.length := by
  show foldC (tagsL a0.fClasses) _ 0 a0.fClasses _ = foldC T _ 0 (a0.fClasses.take a0.fClasses.length) _
  rw [List.take_length, hTe]
 have h := iter_out (fun (y : Int × Int × (List S61)) => f5_B8 m a0 T y.1 y.2.1 y.2.2) (fun j => ((j : Int), (F j).1, (F j).2)) (fun j => 400 < (F j).1) hmono limS ((a0.fClasses.length : Int), (F a0.fClasses.length).1, (F a0.fClasses.length).2) m a0.fClasses.length 0
  (by show ¬ 400 < (a0.fClasses.length : Int) + 1; omega)
  (fun j _ hj hp => by
   obtain ⟨c, hc⟩ : ∃ c, a0.fClasses[j]? = some c := ⟨_, List.getElem?_eq_getElem (by omega)⟩
   obtain ⟨b1, b2⟩ := hF j
   have hmem := List.mem_of_getElem? hc
   have := f5_items m a0 T (j : Int) c (F j) (hi c hmem) (ho.items c hmem) hs (by omega) (by omega) (by omega) hp (by omega) hm
   rw [← hstep j c hc] at this
   constructor
   ·intro g
    show f5_B8 m a0 T (j : Int) (F j).1 (F j).2 = _
    unfold f5_B8
    rw [decide_eq_true (by omega), cnd_true, idx_get, hc, bnd_some', this.1 g, brk_inl]
   ·intro g
    show f5_B8 m a0 T (j : Int) (F j).1 (F j).2 = _
    unfold f5_B8
    rw [decide_eq_true (by omega), cnd_true, idx_get, hc, bnd_some', this.2 g, brk_inr, w64_nat j (by omega)])
  (fun hp => by
   show f5_B8 m a0 T ((0 + a0.fClasses.length : Nat) : Int) _ _ = _
   rw [Nat.zero_add]
   unfold f5_B8
   rw [decide_eq_false (by omega), cnd_false]) (by omega)
 rw [Nat.zero_add] at h
 rw [hE]
 exact h
def LeA (a b : S61) : Prop := ¬ cmpA b a < 0
theorem LeA.trans {a b c : S61} (h : LeA a b) (g : LeA b c) : LeA a c := by
 have h1 : ltOf cmpA b a = false := (TO.lt_false _ _).2 (by unfold LeA at h; omega)
 have h2 : ltOf cmpA c b = false := (TO.lt_false _ _).2 (by unfold LeA at g; omega)
 have h3 := toA.swo.ntrans c b a h2 h1
 have := (TO.lt_false _ _).1 h3
 intro h; omega
def machL (l : List S55) : S29 × S31 :=
 if (lexF l).fCode ≠ 0 then (⟨0, [], []⟩, lexF l)
 else if 400 < (arcsL l).1 then limS
 else if 2000 < (compactL (srtC cmpA (arcsL l).2)).length then limS
 else (⟨(arcsL l).1, compactL (srtC cmpA (arcsL l).2), [⟨(l.length : Int), 0⟩]⟩, ⟨0, 0⟩)
theorem lexF_two (l : List S55) : ((lexF l).fCode ≠ 0) ∨ lexF l = ⟨0, 0⟩ := by
 by_cases h : (lexF l).fCode = 0
 ·exact .inr (lexF_ok h).2
 ·exact .inl h
theorem bad_eq {f : S31} (h : f.fCode ≠ 0) : (!((f.fCode == 0) && ((f.fIndex == 0) && true))) = true := by
 have : (f.fCode == 0) = false := by simpa using h
 rw [this]; rfl
theorem arcsL_len {l : List S55} (ho : OkL l) : (arcsL l).2.length ≤ 136000 ∧ (¬ 400 < (arcsL l).1 → (arcsL l).2.length ≤ 5000) := by
 obtain ⟨a1, a2, a3, a4⟩ := foldC_bd (T := tagsL l) (N := (l.length : Int)) l 0 ((l.length : Int) + 1, []) ho.items ho.okI
 have e0 : (((l.length : Int) + 1, ([] : List S61))).2.length = 0 := rfl
 rw [e0] at a3 a4
 have hl := ho.len
 simp only at a1 a2 a4
 show (foldC (tagsL l) (l.length : Int) 0 l ((l.length : Int) + 1, [])).2.length ≤ 136000 ∧ (¬ 400 < (foldC (tagsL l) (l.length : Int) 0 l ((l.length : Int) + 1, [])).1 → (foldC (tagsL l) (l.length : Int) 0 l ((l.length : Int) + 1, [])).2.length ≤ 5000)
 constructor
 ·omega
 ·intro h; omega
theorem f5_eq (m : Nat) (a0 : S23) (hm : 200000 ≤ m) : f5 m a0 = some (machL a0.fClasses) := by
 unfold f5 machL
 rw [f14_eq m a0 (by omega), bnd_some']
 rcases lexF_two a0.fClasses with h | h
 ·rw [bad_eq h, cnd_true, if_pos h]
 ·rw [h]
  have ho := (lexF_ok (l := a0.fClasses) (by rw [h])).1
  have hl := ho.len
  obtain ⟨b1, b2⟩ := arcsL_len ho
  have hw : w64 ((a0.fClasses.length : Int) + 1) = (a0.fClasses.length : Int) + 1 := w64_id ⟨by omega, by omega⟩
  rw [if_neg (by simp)]
  show bnd (f15 m a0) _ = _
  rw [f15_eq m a0 ho (by omega), bnd_some', hw]
  obtain ⟨c1, c2⟩ := f5_classes m a0 ho hm
  by_cases hS : 400 < (arcsL a0.fClasses).1
  ·rw [c1 hS, brk_inl, if_pos hS]
  ·have b2 := b2 hS
   rw [c2 hS, brk_inr, if_neg hS]
   simp only [srt19]
   rw [if_pos (by omega), bnd_some']
   simp only [cmpct21]
   rw [if_pos (by rw [srtA_length]; omega), bnd_some']
   by_cases h2 : 2000 < (compactL (srtC cmpA (arcsL a0.fClasses).2)).length
   ·rw [decide_eq_true (by omega), cnd_true, if_pos h2]; rfl
   ·rw [decide_eq_false (by omega), cnd_false, if_neg h2]
end Go.Abs
