/-
  GUESS, the plain law: Build and Rank return the guesses and the faults that the specification requires.
-/
import Derived.Test.YtgieobehohljnaaDoorQB
import Derived.Test.YtgieobehohljnaaDoorWLaw
namespace Go.Abs
open Go.Sort Go.Proofs
set_option linter.unusedVariables false

theorem f29_eq (m : Nat) (a b : S44) : f29 m a b = some (ltOf cmpG a b) := by
  have h := ltG_iff a b
  unfold f29
  by_cases h1 : a.fLength = b.fLength
  · have hb : (a.fLength != b.fLength) = false := by simp [h1]
    rw [hb, cnd_false]
    by_cases h2 : a.fCount = b.fCount
    · have hb2 : (a.fCount != b.fCount) = false := by simp [h2]
      rw [hb2, cnd_false]
      congr 1
      rw [Bool.eq_iff_iff, h]
      constructor
      · intro h3; exact .inr ⟨h1, .inr ⟨h2, h3⟩⟩
      · rintro (h3 | ⟨_, h3 | ⟨_, h3⟩⟩)
        · omega
        · omega
        · exact h3
    · have hb2 : (a.fCount != b.fCount) = true := by simp [h2]
      rw [hb2, cnd_true]
      congr 1
      rw [Bool.eq_iff_iff, h, decide_eq_true_eq]
      constructor
      · intro h3; exact .inr ⟨h1, .inl h3⟩
      · rintro (h3 | ⟨_, h3 | ⟨h3, _⟩⟩)
        · omega
        · exact h3
        · exact absurd h3 h2
  · have hb : (a.fLength != b.fLength) = true := by simp [h1]
    rw [hb, cnd_true]
    congr 1
    rw [Bool.eq_iff_iff, h, decide_eq_true_eq]
    constructor
    · intro h3; exact .inl h3
    · rintro (h3 | ⟨h3, _⟩)
      · exact h3
      · exact absurd h3 h1

/-! ### does a word end so? -/
theorem f28_eq (m : Nat) (hm : 4001 < m) (a b : List Int) (k : Nat) (hb : b.length = k) (hk : k ≤ a.length) (ha : a.length ≤ 4000) : f28 m a (w64 ((a.length : Int) - (k : Int))) b = some (decide (a.drop (a.length - k) = b)) := by
  have hw : w64 ((a.length : Int) - (k : Int)) = ((a.length - k : Nat) : Int) := by rw [w64_id ⟨by omega, by omega⟩]; omega
  rw [hw]
  unfold f28 f28_r2
  have hc : (decide (((a.length - k : Nat) : Int) < 0) || decide (w64 (((a.length - k : Nat) : Int) + (b.length : Int)) > (a.length : Int))) = false := by
    rw [w64_id ⟨by omega, by omega⟩, decide_eq_false (by omega), decide_eq_false (by omega)]; rfl
  rw [hc, cnd_false]
  have e : iter (fun (y : Int) => f28_B1 m a ((a.length - k : Nat) : Int) b y) m 0 = landed (fun (_ : Unit) (i : Int) => i) b.length (scan (fun i (_ : Unit) x => if (fun (i : Int) (x : Int) => decide (a[a.length - k + i.toNat]? = some x)) i x then some (.inr ()) else some (.inl false)) 0 () b) := by
    refine iter_scan b (fun (y : Int) => f28_B1 m a ((a.length - k : Nat) : Int) b y) (fun (_ : Unit) (i : Int) => i) _ (fun u j hj => ?_) m 0 () (by omega) (by omega)
    unfold f28_B1
    refine body_turn' rfl fun x hx => ?_
    have hjl := lt_of_getElem? hx
    have hw : w64 ((j : Int) + 1) = (j : Int) + 1 := w64_id ⟨by omega, by omega⟩
    have hw2 : w64 (((a.length - k : Nat) : Int) + (j : Int)) = ((a.length - k + j : Nat) : Int) := by rw [w64_id ⟨by omega, by omega⟩]; omega
    have hlt : a.length - k + j < a.length := by omega
    rw [idx_get, hx, bnd_some', hw2, idx_get, List.getElem?_eq_getElem hlt, bnd_some']
    simp only [hw, Int.toNat_natCast, List.getElem?_eq_getElem hlt, Option.some.injEq]
    by_cases h : a[a.length - k + j] = x
    · have hb : (a[a.length - k + j] != x) = false := by simp [h]
      rw [hb, cnd_false, decide_eq_true h]; rfl
    · have hb : (a[a.length - k + j] != x) = true := by simp [h]
      rw [hb, cnd_true, decide_eq_false h]; rfl
  rw [e, scan_allP]
  have hall : ∀ (l : List Int) (i : Nat), allP (fun (i : Int) (x : Int) => decide (a[a.length - k + i.toNat]? = some x)) (i : Int) l = true ↔ ∀ j x, l[j]? = some x → a[a.length - k + (i + j)]? = some x := by
    intro l
    induction l with
    | nil => intro i; simp [allP]
    | cons y l ih =>
      intro i
      have hi : (i : Int) + 1 = ((i + 1 : Nat) : Int) := by omega
      simp only [allP, Bool.and_eq_true, decide_eq_true_eq, Int.toNat_natCast, hi, ih (i + 1)]
      constructor
      · rintro ⟨h1, h2⟩ j x hx
        cases j with
        | zero => simp at hx; subst hx; simpa using h1
        | succ j =>
          have := h2 j x (by simpa using hx)
          rw [← this]; congr 1; omega
      · intro h
        refine ⟨by simpa using h 0 y rfl, fun j x hx => ?_⟩
        have := h (j + 1) x (by simpa using hx)
        rw [← this]; congr 1; omega
  have hb0 := hall b 0
  have hiff : allP (fun (i : Int) (x : Int) => decide (a[a.length - k + i.toNat]? = some x)) 0 b = decide (a.drop (a.length - k) = b) := by
    rw [Bool.eq_iff_iff, decide_eq_true_eq]
    refine hb0.trans ?_
    constructor
    · intro h
      refine List.ext_getElem? fun j => ?_
      rw [List.getElem?_drop]
      rcases Nat.lt_or_ge j b.length with hj | hj
      · have := h j b[j] (List.getElem?_eq_getElem hj)
        rw [Nat.zero_add] at this
        rw [this, List.getElem?_eq_getElem hj]
      · rw [List.getElem?_eq_none (by omega), List.getElem?_eq_none hj]
    · intro h j x hx
      rw [← h, List.getElem?_drop] at hx
      rw [Nat.zero_add]; exact hx
  rw [hiff]
  cases decide (a.drop (a.length - k) = b) <;> rfl

theorem sub_last (l : List Int) (k : Nat) (hk : k ≤ l.length) (hl : l.length ≤ 4000) : sub l (w64 ((l.length : Int) - (k : Int))) (l.length : Int) = some (l.drop (l.length - k)) := by
  have hw : w64 ((l.length : Int) - (k : Int)) = ((l.length - k : Nat) : Int) := by rw [w64_id ⟨by omega, by omega⟩]; omega
  rw [hw]
  unfold sub
  rw [if_pos ⟨by omega, by omega, by omega⟩, Int.toNat_natCast, Int.toNat_natCast, List.take_of_length_le (by simp)]
theorem pre_last (l a : List Int) (k : Nat) (hk : k ≤ l.length) : (l.reverse.take k <+: a.reverse) ↔ (k ≤ a.length ∧ a.drop (a.length - k) = l.drop (l.length - k)) := by
  rw [List.prefix_iff_eq_take, List.length_take, List.length_reverse, Nat.min_eq_left hk]
  constructor
  · intro h
    have hlen := congrArg List.length h
    simp only [List.length_take, List.length_reverse] at hlen
    refine ⟨by omega, ?_⟩
    rw [List.take_reverse, List.take_reverse] at h
    have := congrArg List.reverse h
    simpa using this.symm
  · rintro ⟨h1, h2⟩
    rw [List.take_reverse, List.take_reverse, h2]

/-! ### how many samples of a tag end so -/
def hit (l : List Int) (k : Nat) (t : ByteArray) (x : S39) : Bool := decide (x.fTag = t) && decide (l.reverse.take k <+: (ltr x.fWord).reverse)
theorem cntN_hit (a0 : List S39) (l : List Int) (k : Nat) (t : ByteArray) : cntN (ysOf a0) (l.reverse.take k) t = a0.countP (hit l k t) := by
  unfold cntN ysOf
  rw [List.countP_map]
  rfl
def g9 (l : List Int) (k : Nat) (t : ByteArray) (i : Int) (s : Int) (x : S39) : Option (List S44 ⊕ Int) := some (.inr (if hit l k t x then w64 (s + 1) else s))
theorem g9_scan (l : List Int) (k : Nat) (t : ByteArray) : ∀ (xs : List S39) (i s : Int), 0 ≤ s → s + (xs.length : Int) ≤ 1000 → scan (g9 l k t) i s xs = some (.inr (s + (xs.countP (hit l k t) : Int)))
  | [], i, s, _, _ => by simp [scan]
  | x :: r, i, s, h0, h1 => by
    simp only [List.length_cons] at h1
    simp only [scan, g9]
    rw [List.countP_cons]
    by_cases hx : hit l k t x = true
    · rw [if_pos hx, if_pos hx, w64_id ⟨by omega, by omega⟩, g9_scan l k t r _ _ (by omega) (by omega)]
      congr 2
      omega
    · rw [if_neg hx, if_neg hx, g9_scan l k t r _ _ h0 (by omega)]
      rfl
theorem f15_count (m : Nat) (hm : 4001 < m) (a0 : List S39) (hl : a0.length ≤ 300) (hall : ∀ s ∈ a0, wordS s.fWord = true ∧ nameS s.fTag = true) (l : List Int) (hll : l.length ≤ 4000) (f : S27) (x : S39) (k : Nat) (hk : k ≤ l.length) :
    iter (fun (y : Int × Int) => f15_B9 m a0 (l, f) x (k : Int) y.1 y.2) m (0, 0) = some (.inr ((a0.countP (hit l k x.fTag) : Int), (a0.length : Int))) := by
  have e : iter (fun (y : Int × Int) => f15_B9 m a0 (l, f) x (k : Int) y.1 y.2) m (0, 0) = landed (fun (s : Int) (i : Int) => (s, i)) a0.length (scan (g9 l k x.fTag) 0 0 a0) := by
    refine iter_scan a0 (fun (y : Int × Int) => f15_B9 m a0 (l, f) x (k : Int) y.1 y.2) (fun (s : Int) (i : Int) => (s, i)) _ (fun s i hi => ?_) m 0 0 (by omega) (by omega)
    unfold f15_B9
    refine body_turn' rfl fun z hz => ?_
    have hw : w64 ((i : Int) + 1) = (i : Int) + 1 := w64_id ⟨by omega, by omega⟩
    have hzw := (hall z (List.mem_of_getElem? hz)).1
    have hzl := ltr_len hzw
    rw [idx_get, hz]
    simp only [bnd_some', f16_ok hm hzw, f15_r8]
    have hin : cnd ((z.fTag.toList == x.fTag.toList) && decide (((ltr z.fWord).length : Int) ≥ (k : Int))) (bnd (sub l (w64 ((l.length : Int) - (k : Int))) (l.length : Int)) fun v1901 => bnd (f28 m (ltr z.fWord) (w64 (((ltr z.fWord).length : Int) - (k : Int))) v1901) fun v1902 => some v1902) (some false) = some (hit l k x.fTag z) := by
      unfold hit
      rw [tl_eq]
      by_cases h1 : z.fTag = x.fTag
      · rw [decide_eq_true h1, Bool.true_and, Bool.true_and]
        by_cases h2 : k ≤ (ltr z.fWord).length
        · rw [decide_eq_true (by omega : ((ltr z.fWord).length : Int) ≥ (k : Int)), cnd_true, sub_last l k hk hll, bnd_some', f28_eq m hm _ _ k (by simp; omega) h2 (by omega), bnd_some']
          congr 1
          rw [Bool.eq_iff_iff, decide_eq_true_eq, decide_eq_true_eq, pre_last l _ k hk]
          exact ⟨fun h => ⟨h2, h⟩, fun h => h.2⟩
        · rw [decide_eq_false (by omega : ¬ ((ltr z.fWord).length : Int) ≥ (k : Int)), cnd_false]
          congr 1
          symm
          refine decide_eq_false fun h => h2 ?_
          exact ((pre_last l _ k hk).1 h).1
      · rw [decide_eq_false h1, Bool.false_and, Bool.false_and, cnd_false]
    rw [hin, bnd_some']
    simp only [f15_r7, f15_j6, f15_j5, g9, hw]
    rcases Bool.eq_false_or_eq_true (hit l k x.fTag z) with hb | hb
    · simp only [hb, cnd_true, if_true]
    · simp only [hb, cnd_false, Bool.false_eq_true, if_false]
  rw [e, g9_scan l k x.fTag a0 0 0 (Int.le_refl _) (by omega)]
  simp [landed]
/-! ### the longest end that is known -/
def bk (a0 : List S39) (l : List Int) (t : ByteArray) : Nat → Int × Int
  | 0 => (0, 0)
  | k + 1 => if 0 < a0.countP (hit l k t) then ((k : Int), (a0.countP (hit l k t) : Int)) else bk a0 l t k
theorem f15_long (m : Nat) (hm : 4001 < m) (a0 : List S39) (hl : a0.length ≤ 300) (hall : ∀ s ∈ a0, wordS s.fWord = true ∧ nameS s.fTag = true) (l : List Int) (hll : l.length ≤ 4000) (f : S27) (x : S39) : ∀ (d k K : Nat), k + d = min 5 l.length + 1 → d < K →
    iter (fun (y : Int × Int × Int) => f15_B12 m a0 (l, f) x y.1 y.2.1 y.2.2) K ((k : Int), bk a0 l x.fTag k) = some (.inr (((min 5 l.length + 1 : Nat) : Int), bk a0 l x.fTag (min 5 l.length + 1)))
  | d, k, 0, h1, h2 => by omega
  | 0, k, K + 1, h1, h2 => by
    have hk : k = min 5 l.length + 1 := by omega
    subst hk
    unfold iter
    have e : f15_B12 m a0 (l, f) x (((min 5 l.length + 1 : Nat) : Int)) (bk a0 l x.fTag (min 5 l.length + 1)).1 (bk a0 l x.fTag (min 5 l.length + 1)).2 = some (.brk ((((min 5 l.length + 1 : Nat) : Int)), bk a0 l x.fTag (min 5 l.length + 1))) := by
      unfold f15_B12 f15_r11
      have hb : (decide (((min 5 l.length + 1 : Nat) : Int) ≤ 5) && decide (((min 5 l.length + 1 : Nat) : Int) ≤ (l.length : Int))) = false := by
        rw [Bool.and_eq_false_iff, decide_eq_false_iff_not, decide_eq_false_iff_not]
        omega
      rw [hb, cnd_false]
    simp only [e]
  | d + 1, k, K + 1, h1, h2 => by
    have hk5 : k ≤ 5 := by omega
    have hkl : k ≤ l.length := by omega
    have ih := f15_long m hm a0 hl hall l hll f x d (k + 1) K (by omega) (by omega)
    unfold iter
    have hw : w64 ((k : Int) + 1) = ((k + 1 : Nat) : Int) := by rw [w64_id ⟨by omega, by omega⟩]; omega
    have e : f15_B12 m a0 (l, f) x (k : Int) (bk a0 l x.fTag k).1 (bk a0 l x.fTag k).2 = some (.nxt (((k + 1 : Nat) : Int), bk a0 l x.fTag (k + 1))) := by
      unfold f15_B12 f15_r11
      rw [decide_eq_true (by omega : (k : Int) ≤ 5), decide_eq_true (by omega : (k : Int) ≤ (l.length : Int)), Bool.true_and, cnd_true, f15_count m hm a0 hl hall l hll f x k hkl, brk_inr]
      simp only [f15_j10, f15_j4, hw, bk]
      by_cases hc : 0 < a0.countP (hit l k x.fTag)
      · rw [decide_eq_true (by omega : (a0.countP (hit l k x.fTag) : Int) > 0), cnd_true, if_pos hc]
      · rw [decide_eq_false (by omega : ¬ (a0.countP (hit l k x.fTag) : Int) > 0), cnd_false, if_neg hc]
    simp only [e]
    exact ih
theorem bk_pm (a0 : List S39) (l : List Int) (t : ByteArray) (h : 0 < a0.countP (hit l 0 t)) : ∀ k, Pm (ysOf a0) l.reverse (k + 1) ⟨t, (bk a0 l t (k + 1)).1, (bk a0 l t (k + 1)).2⟩
  | 0 => by
    refine ⟨0, by omega, ?_, ?_, ?_, fun i' h1 h2 => by omega⟩
    · simp [bk, h]
    · simp only [bk, h, if_true, cntN_hit]
    · simp only [cntN_hit]; exact h
  | k + 1 => by
    obtain ⟨i, h1, h2, h3, h4, h5⟩ := bk_pm a0 l t h k
    by_cases hc : 0 < a0.countP (hit l (k + 1) t)
    · have e : bk a0 l t (k + 1 + 1) = (((k + 1 : Nat) : Int), (a0.countP (hit l (k + 1) t) : Int)) := by
        rw [bk, if_pos hc]
      rw [e]
      exact ⟨k + 1, by omega, rfl, by simp only [cntN_hit], by simp only [cntN_hit]; exact hc, fun i' g1 g2 => by omega⟩
    · have e : bk a0 l t (k + 1 + 1) = bk a0 l t (k + 1) := by
        rw [bk, if_neg hc]
      rw [e]
      refine ⟨i, by omega, h2, h3, h4, fun i' g1 g2 => ?_⟩
      by_cases hi : i' = k + 1
      · subst hi
        simp only [cntN_hit]; omega
      · exact h5 i' g1 (by omega)
/-! ### where a guess goes -/
def posG (g : S44) : List S44 → Nat
  | [] => 0
  | x :: r => if ltOf cmpG x g then posG g r + 1 else 0
theorem posG_le (g : S44) : ∀ r, posG g r ≤ r.length
  | [] => Nat.le_refl _
  | x :: r => by
    simp only [posG]
    split
    · have := posG_le g r; simp only [List.length_cons]; omega
    · omega
theorem f15_pos (m : Nat) (out : List S44) (x : S39) (y : Int × Int × Int) (ho : out.length ≤ 1000) : ∀ (K i : Nat), i ≤ out.length → out.length - i < K →
    iter (fun (z : Int) => f15_B14 m out x y z) K (i : Int) = some (.inr ((i + posG ⟨x.fTag, y.2.1, y.2.2⟩ (out.drop i) : Nat) : Int))
  | 0, i, h1, h2 => by omega
  | K + 1, i, h1, h2 => by
    unfold iter
    rcases Nat.lt_or_ge i out.length with hlt | hge
    · have hd : out.drop i = out[i] :: out.drop (i + 1) := List.drop_eq_getElem_cons hlt
      have hw : w64 ((i : Int) + 1) = ((i + 1 : Nat) : Int) := by rw [w64_id ⟨by omega, by omega⟩]; omega
      have e : f15_B14 m out x y (i : Int) = cnd (ltOf cmpG out[i] ⟨x.fTag, y.2.1, y.2.2⟩) (some (.nxt (((i + 1 : Nat) : Int)))) (some (.brk (i : Int))) := by
        unfold f15_B14
        rw [decide_eq_true (by omega), cnd_true, idx_get, List.getElem?_eq_getElem hlt, bnd_some', f29_eq, bnd_some', bnd_some']
        simp only [f15_r13, hw]
      rw [hd]
      simp only [e, posG]
      rcases Bool.eq_false_or_eq_true (ltOf cmpG out[i] ⟨x.fTag, y.2.1, y.2.2⟩) with hb | hb
      · simp only [hb, cnd_true, if_true]
        rw [f15_pos m out x y ho K (i + 1) hlt (by omega)]
        congr 3
        omega
      · simp only [hb, cnd_false, Bool.false_eq_true, if_false, Nat.add_zero]
    · have hi : i = out.length := by omega
      have hd : out.drop i = [] := List.drop_eq_nil_of_le hge
      have e : f15_B14 m out x y (i : Int) = some (.brk (i : Int)) := by
        unfold f15_B14
        rw [decide_eq_false (by omega), cnd_false, bnd_some']
        rfl
      rw [hd]
      simp only [e, posG, Nat.add_zero]
def insG44 (g : S44) (r : List S44) : List S44 := r.take (posG g r) ++ g :: r.drop (posG g r)
theorem ins_sorted (g : S44) : ∀ (r : List S44), (r.Pairwise fun a b => ltOf cmpG b a = false) → ((insG44 g r).Pairwise fun a b => ltOf cmpG b a = false) ∧ ∀ x, x ∈ insG44 g r ↔ x = g ∨ x ∈ r
  | [], _ => by simp [insG44, posG]
  | y :: r, h => by
    have hc := List.pairwise_cons.1 h
    by_cases hy : ltOf cmpG y g = true
    · have e : insG44 g (y :: r) = y :: insG44 g r := by simp [insG44, posG, hy]
      obtain ⟨h1, h2⟩ := ins_sorted g r hc.2
      rw [e]
      refine ⟨List.pairwise_cons.2 ⟨fun z hz => ?_, h1⟩, fun x => ?_⟩
      · rcases (h2 z).1 hz with rfl | hz
        · cases hq : ltOf cmpG z y with
          | false => rfl
          | true => have := swoG.trans _ _ _ hq hy; rw [swoG.irrefl] at this; cases this
        · exact hc.1 z hz
      · simp only [List.mem_cons, h2]
        constructor
        · rintro (h | h | h)
          · exact .inr (.inl h)
          · exact .inl h
          · exact .inr (.inr h)
        · rintro (h | h | h)
          · exact .inr (.inl h)
          · exact .inl h
          · exact .inr (.inr h)
    · have hy : ltOf cmpG y g = false := by simpa using hy
      have e : insG44 g (y :: r) = g :: y :: r := by simp [insG44, posG, hy]
      rw [e]
      refine ⟨List.pairwise_cons.2 ⟨fun z hz => ?_, h⟩, fun x => by simp⟩
      rcases List.mem_cons.1 hz with rfl | hz
      · exact hy
      · exact swoG.ntrans _ _ _ (hc.1 z hz) hy
theorem ins_perm (g : S44) (r : List S44) : (insG44 g r).Perm (g :: r) := by
  unfold insG44
  refine List.perm_middle.trans ?_
  rw [List.take_append_drop]
/-! ### sample by sample -/
def gOf (a0 : List S39) (l : List Int) (t : ByteArray) : S44 := ⟨t, (bk a0 l t (min 5 l.length + 1)).1, (bk a0 l t (min 5 l.length + 1)).2⟩
def g15 (a0 : List S39) (l : List Int) (i : Int) (out : List S44) (x : S39) : Option (List S44 ⊕ List S44) :=
  if (out.any fun y => y.fTag.toList == x.fTag.toList) || !(a0.any fun y => y.fTag.toList == x.fTag.toList) then some (.inr out) else some (.inr (insG44 (gOf a0 l x.fTag) out))
def I15 (a0 : List S39) (out : List S44) : Prop := (out.map (·.fTag)).Nodup ∧ ∀ x ∈ out, x.fTag ∈ a0.map (·.fTag)
theorem I15.len {a0 : List S39} {out : List S44} (h : I15 a0 out) : out.length ≤ a0.length := by
  have := len_sub h.1 (l' := a0.map (·.fTag)) fun t ht => by
    obtain ⟨x, hx, rfl⟩ := List.mem_map.1 ht
    exact h.2 x hx
  simpa using this
theorem any_tag {α : Type} (f : α → ByteArray) (t : ByteArray) (l : List α) : (l.any fun y => (f y).toList == t.toList) = true ↔ t ∈ l.map f := by
  rw [List.any_eq_true, List.mem_map]
  constructor
  · rintro ⟨y, hy, h⟩; exact ⟨y, hy, beqB.1 h⟩
  · rintro ⟨y, hy, h⟩; exact ⟨y, hy, beqB.2 h⟩
theorem I15.ins {a0 : List S39} {l : List Int} {out : List S44} {x : S39} (h : I15 a0 out) (h1 : (out.any fun y => y.fTag.toList == x.fTag.toList) = false) (h2 : (a0.any fun y => y.fTag.toList == x.fTag.toList) = true) : I15 a0 (insG44 (gOf a0 l x.fTag) out) := by
  have hp := ins_perm (gOf a0 l x.fTag) out
  refine ⟨(hp.map (·.fTag)).nodup_iff.2 ?_, fun y hy => ?_⟩
  · rw [List.map_cons, List.nodup_cons]
    refine ⟨fun hm => ?_, h.1⟩
    have hm : x.fTag ∈ out.map (·.fTag) := hm
    have := (any_tag (fun y : S44 => y.fTag) x.fTag out).2 hm
    rw [h1] at this; cases this
  · rcases List.mem_cons.1 (hp.mem_iff.1 hy) with rfl | hy
    · exact (any_tag (fun y : S39 => y.fTag) x.fTag a0).1 h2
    · exact h.2 y hy
theorem f15_seen (m : Nat) (hm : 4001 < m) (out : List S44) (ho : out.length ≤ 1000) (x : S39) : iter (fun (y : Bool × Int) => f15_B3 m out x y.1 y.2) m (false, 0) = some (.inr ((out.any fun y => y.fTag.toList == x.fTag.toList), (out.length : Int))) := by
  have e : iter (fun (y : Bool × Int) => f15_B3 m out x y.1 y.2) m (false, 0) = landed (fun (s : Bool) (i : Int) => (s, i)) out.length (scan (fun _ (s : Bool) (z : S44) => (some (.inr (s || (z.fTag.toList == x.fTag.toList))) : Option (List S44 ⊕ Bool))) 0 false out) := by
    refine iter_scan out (fun (y : Bool × Int) => f15_B3 m out x y.1 y.2) (fun (s : Bool) (i : Int) => (s, i)) _ (fun s i hi => ?_) m 0 false (by omega) (by omega)
    unfold f15_B3
    refine body_turn' rfl fun z hz => ?_
    have hw : w64 ((i : Int) + 1) = (i : Int) + 1 := w64_id ⟨by omega, by omega⟩
    rw [idx_get, hz]
    simp only [bnd_some', f15_r2, hw]
  have hs : ∀ (l : List S44) (i : Int) (s : Bool), scan (fun _ (s : Bool) (z : S44) => (some (.inr (s || (z.fTag.toList == x.fTag.toList))) : Option (List S44 ⊕ Bool))) i s l = some (.inr (s || l.any fun y => y.fTag.toList == x.fTag.toList)) := by
    intro l
    induction l with
    | nil => intro i s; simp [scan]
    | cons y r ih => intro i s; simp only [scan, ih, List.any_cons, Bool.or_assoc]
  rw [e, hs]
  simp [landed]
theorem f15_loop (m : Nat) (hm : 4001 < m) (a0 : List S39) (hl : a0.length ≤ 300) (hall : ∀ s ∈ a0, wordS s.fWord = true ∧ nameS s.fTag = true) (l : List Int) (hll : l.length ≤ 4000) (f : S27) :
    iter (fun (y : (List S44) × Int) => f15_B15 m a0 (l, f) y.1 y.2) m ([], 0) = landed (fun (s : List S44) (i : Int) => (s, i)) a0.length (scan (g15 a0 l) 0 [] a0) := by
  refine iter_scan_inv a0 (fun (y : (List S44) × Int) => f15_B15 m a0 (l, f) y.1 y.2) (fun (s : List S44) (i : Int) => (s, i)) (g15 a0 l) (I15 a0) (fun out i hI hi => ?_) (fun out out' i x hI hg => ?_) m 0 [] ⟨List.nodup_nil, fun x hx => by cases hx⟩ (by omega) (by omega)
  · have hol := hI.len
    unfold f15_B15
    refine body_turn' rfl fun x hx => ?_
    have hw : w64 ((i : Int) + 1) = (i : Int) + 1 := w64_id ⟨by omega, by omega⟩
    have hxm := List.mem_of_getElem? hx
    have ha : (a0.any fun y => y.fTag.toList == x.fTag.toList) = true := (any_tag (fun y : S39 => y.fTag) x.fTag a0).2 (List.mem_map_of_mem hxm)
    rw [idx_get, hx]
    simp only [bnd_some', f15_seen m hm out (by omega) x, brk_inr, g15, ha, Bool.not_true, Bool.or_false]
    rcases Bool.eq_false_or_eq_true (out.any fun y => y.fTag.toList == x.fTag.toList) with hb | hb
    · simp only [hb, cnd_true, if_true, f15_j1, hw]
    · simp only [hb, cnd_false, Bool.false_eq_true, if_false]
      have h1 := f15_long m hm a0 hl hall l hll f x (min 5 l.length + 1) 0 m (by omega) (by omega)
      have h1' : iter (fun (y : Int × Int × Int) => f15_B12 m a0 (l, f) x y.1 y.2.1 y.2.2) m (0, 0, 0) = some (.inr (((min 5 l.length + 1 : Nat) : Int), bk a0 l x.fTag (min 5 l.length + 1))) := h1
      rw [h1', brk_inr]
      have h2 := f15_pos m out x (((min 5 l.length + 1 : Nat) : Int), bk a0 l x.fTag (min 5 l.length + 1)) (by omega) m 0 (Nat.zero_le _) (by omega)
      rw [List.drop_zero, Nat.zero_add] at h2
      have h2' : iter (fun (y : Int) => f15_B14 m out x (((min 5 l.length + 1 : Nat) : Int), bk a0 l x.fTag (min 5 l.length + 1)) y) m 0 = some (.inr ((posG (gOf a0 l x.fTag) out : Nat) : Int)) := h2
      rw [h2', brk_inr]
      have hp := posG_le (gOf a0 l x.fTag) out
      generalize hpq : posG (gOf a0 l x.fTag) out = p at hp
      have s1 : sub out 0 (p : Int) = some (out.take p) := by
        unfold sub
        rw [if_pos ⟨by omega, by omega, by omega⟩, Int.toNat_natCast]; simp
      have s2 : sub out (p : Int) (out.length : Int) = some (out.drop p) := by
        unfold sub
        rw [if_pos ⟨by omega, by omega, by omega⟩, Int.toNat_natCast, Int.toNat_natCast, List.take_of_length_le (by simp)]
      have p1 : app 32 [] (out.take p) = some (out.take p) := by
        rw [app_some 32 [] (out.take p) (by simp; omega) (by simp; omega)]; rfl
      have p2 : app 32 (out.take p) [(⟨x.fTag, (bk a0 l x.fTag (min 5 l.length + 1)).1, (bk a0 l x.fTag (min 5 l.length + 1)).2⟩ : S44)] = some (out.take p ++ [gOf a0 l x.fTag]) := app_some 32 _ _ (by simp; omega) (by simp; omega)
      have p3 : app 32 (out.take p ++ [gOf a0 l x.fTag]) (out.drop p) = some (out.take p ++ [gOf a0 l x.fTag] ++ out.drop p) := app_some 32 _ _ (by simp; omega) (by simp; omega)
      rw [s1, bnd_some', p1, bnd_some', p2, bnd_some', s2, bnd_some', p3, bnd_some']
      simp only [f15_j1, hw, insG44, hpq, List.append_assoc, List.singleton_append]
  · unfold g15 at hg
    split at hg
    · cases hg; exact hI
    · rename_i hc
      cases hg
      have hc' : ((out.any fun y => y.fTag.toList == x.fTag.toList) || !(a0.any fun y => y.fTag.toList == x.fTag.toList)) = false := by simpa using hc
      rw [Bool.or_eq_false_iff] at hc'
      exact hI.ins hc'.1 (by simpa using hc'.2)
theorem g15_scan (a0 : List S39) (l : List Int) : ∀ (xs : List S39) (i : Int) (out : List S44), (∀ x ∈ xs, x ∈ a0) → I15 a0 out → (out.Pairwise fun a b => ltOf cmpG b a = false) → (∀ x, x ∈ out → x = gOf a0 l x.fTag) →
    ∃ r, scan (g15 a0 l) i out xs = some (.inr r) ∧ I15 a0 r ∧ (r.Pairwise fun a b => ltOf cmpG b a = false) ∧ (∀ x, x ∈ r → x = gOf a0 l x.fTag) ∧ (∀ x ∈ out, x ∈ r) ∧ ∀ x ∈ xs, gOf a0 l x.fTag ∈ r
  | [], i, out, _, hI, hs, hg => ⟨out, rfl, hI, hs, hg, fun x hx => hx, fun x hx => by cases hx⟩
  | x :: xs, i, out, hm, hI, hs, hg => by
    have ha : (a0.any fun y => y.fTag.toList == x.fTag.toList) = true := (any_tag (fun y : S39 => y.fTag) x.fTag a0).2 (List.mem_map_of_mem (hm x List.mem_cons_self))
    have hm' : ∀ z ∈ xs, z ∈ a0 := fun z hz => hm z (List.mem_cons_of_mem _ hz)
    rcases Bool.eq_false_or_eq_true (out.any fun y => y.fTag.toList == x.fTag.toList) with hb | hb
    · have e : scan (g15 a0 l) i out (x :: xs) = scan (g15 a0 l) (i + 1) out xs := by
        simp only [scan, g15, hb, Bool.true_or, if_true]
      obtain ⟨r, h1, h2, h3, h4, h5, h6⟩ := g15_scan a0 l xs (i + 1) out hm' hI hs hg
      refine ⟨r, by rw [e, h1], h2, h3, h4, h5, fun z hz => ?_⟩
      rcases List.mem_cons.1 hz with rfl | hz
      · obtain ⟨y, hy, ht⟩ := List.mem_map.1 ((any_tag (fun y : S44 => y.fTag) z.fTag out).1 hb)
        have := hg y hy
        rw [← ht, ← this]
        exact h5 y hy
      · exact h6 z hz
    · have e : scan (g15 a0 l) i out (x :: xs) = scan (g15 a0 l) (i + 1) (insG44 (gOf a0 l x.fTag) out) xs := by
        simp only [scan, g15, hb, ha, Bool.not_true, Bool.or_false, Bool.false_eq_true, if_false]
      obtain ⟨i1, i2⟩ := ins_sorted (gOf a0 l x.fTag) out hs
      obtain ⟨r, h1, h2, h3, h4, h5, h6⟩ := g15_scan a0 l xs (i + 1) (insG44 (gOf a0 l x.fTag) out) hm' (hI.ins hb ha) i1 (fun y hy => by
        rcases (i2 y).1 hy with rfl | hy
        · rfl
        · exact hg y hy)
      refine ⟨r, by rw [e, h1], h2, h3, h4, fun z hz => h5 z ((i2 z).2 (.inr hz)), fun z hz => ?_⟩
      rcases List.mem_cons.1 hz with rfl | hz
      · exact h5 _ ((i2 _).2 (.inl rfl))
      · exact h6 z hz
theorem Pm.one {ys : List Smp} {rl : List Int} {k : Nat} {x y : S44} (hx : Pm ys rl k x) (hy : Pm ys rl k y) (h : x.fTag = y.fTag) : x = y := by
  obtain ⟨i, h1, h2, h3, h4, h5⟩ := hx
  obtain ⟨j, g1, g2, g3, g4, g5⟩ := hy
  have hij : i = j := by
    rcases Nat.lt_trichotomy i j with hc | hc | hc
    · have := h5 j hc g1; rw [h] at this; omega
    · exact hc
    · have := g5 i hc h1; rw [← h] at this; omega
  subst hij
  cases x; cases y
  simp only at h h2 h3 g2 g3
  subst h
  rw [h2, h3, g2, g3]
theorem f15_rk (m : Nat) (hm : 4001 < m) (a0 : List S39) (hf : flt a0 = none) (w : ByteArray) (hw : wordS w = true) : ∃ r, f15 m a0 w = some r ∧ Rk (ysOf a0) (ltr w).reverse r := by
  obtain ⟨hl, hall⟩ := flt_none hf
  have hlw := ltr_len hw
  obtain ⟨r, h1, h2, h3, h4, _, h6⟩ := g15_scan a0 (ltr w) a0 0 [] (fun x hx => hx) ⟨List.nodup_nil, fun x hx => by cases hx⟩ List.Pairwise.nil (fun x hx => by cases hx)
  refine ⟨r, ?_, ⟨h2.1, fun x => ?_⟩, h3⟩
  · unfold f15
    rw [f16_ok hm hw, bnd_some', f15_loop m hm a0 hl hall (ltr w) (by omega), h1]
    simp [landed]
  · have hrev : (ltr w).reverse.length = (ltr w).length := List.length_reverse
    have hpos : ∀ t, t ∈ a0.map (·.fTag) → 0 < a0.countP (hit (ltr w) 0 t) := by
      intro t ht
      obtain ⟨s, hs, rfl⟩ := List.mem_map.1 ht
      exact List.countP_pos_iff.2 ⟨s, hs, by simp [hit]⟩
    have hbk : ∀ t, t ∈ a0.map (·.fTag) → Bp (ysOf a0) (ltr w).reverse (gOf a0 (ltr w) t) := by
      intro t ht
      have := bk_pm a0 (ltr w) t (hpos t ht) (min 5 (ltr w).length)
      unfold Bp
      rw [hrev]
      exact this
    constructor
    · intro hx
      have ht := h2.2 x hx
      rw [h4 x hx]
      exact hbk _ ht
    · intro hx
      have ht : x.fTag ∈ a0.map (·.fTag) := by
        have := Pm.tag hx
        unfold ysOf at this
        rw [List.map_map] at this
        exact this
      obtain ⟨s, hs, e⟩ := List.mem_map.1 ht
      have h7 := h6 s hs
      have e2 : x = gOf a0 (ltr w) s.fTag := Pm.one hx (hbk _ (by rw [e]; exact ht)) (by rw [← e]; rfl)
      rw [e2]
      exact h7
theorem plain3 (a0 : List S39) (a1 : ByteArray) (h0 : (WL W40) a0) (h1 : WStr a1) : ∃ m, f3 m a0 a1 = some true := by
  refine ⟨5000, ?_⟩
  have hm : 4001 < 5000 := by omega
  unfold f3
  rw [f9_true 5000 hm]
  simp only [bnd_some', Bool.not_true, cnd_false, f11_eq 5000 hm]
  cases hf : flt a0 with
  | some f =>
    rw [f10_bad 5000 (big_of h0.1) hf]
    simp only [bnd_some', Option.getD_some, isz_no (flt_code hf), Bool.not_false, cnd_true]
    simp
  | none =>
    obtain ⟨hl, hall⟩ := flt_none hf
    have hz : ((((Option.none : Option S27).getD ⟨0, 0⟩).fCode == 0) && ((((Option.none : Option S27).getD ⟨0, 0⟩).fIndex == 0) && true)) = true := rfl
    rw [f10_good 5000 hf]
    simp only [bnd_some', hz, Bool.not_true, cnd_false, f13_eq 5000 a1 hm]
    cases hw : wordS a1 with
    | false =>
      rw [f12_word 5000 _ hw]
      rfl
    | true =>
      obtain ⟨r, e1, r1⟩ := f12_good 5000 (by rw [ysOf_len]; exact hl) hw (ys := ysOf a0)
      obtain ⟨r', e2, r2⟩ := f15_rk 5000 hm a0 hf a1 hw
      have : r' = r := Rk.uniq r2 r1
      subst this
      have hlen := r1.len
      rw [ysOf_len] at hlen
      rw [e1]
      simp only [bnd_some', Bool.not_true, cnd_false]
      unfold f3_r4
      have hb : ((((0 : Int) == 0) && (((0 : Int) == 0) && true)) && (((0 : Int) == 0) && (((0 : Int) == 0) && true))) = true := rfl
      simp only [hb, cnd_true, e2, bnd_some', f14_refl 5000 r' (by omega) hm, f3_r3]
end Go.Abs
