import Derived.Test.YtgbhimkbfaebeaaGreatDoorP2
import Derived.Test.YtgbhimkbfaebeaaGreatDoorWF3
import Derived.Test.YtgbhimkbfaebeaaGreatDoorP6
namespace Go.Abs
open Go.Sort Go.Proofs
set_option linter.unusedVariables false
set_option linter.unusedSimpArgs false
set_option linter.unnecessarySimpa false
set_option maxRecDepth 100000
abbrev SSl (l : List (List UInt8)) : Prop := l.Pairwise fun a b => bls a b = true
theorem ssl_ext : ∀ {l1 l2 : List (List UInt8)}, SSl l1 → SSl l2 → (∀ x, x ∈ l1 ↔ x ∈ l2) → l1 = l2
 | [], [], _, _, _ => rfl
 | [], y :: s, _, _, h => by have := (h y).2 List.mem_cons_self; cases this
 | x :: r, [], _, _, h => by have := (h x).1 List.mem_cons_self; cases this
 | x :: r, y :: s, h1, h2, h => by
  have a1 := List.pairwise_cons.1 h1
  have a2 := List.pairwise_cons.1 h2
  have hxy : x = y := by
   rcases List.mem_cons.1 ((h x).1 List.mem_cons_self) with e | hx
   ·exact e
   ·rcases List.mem_cons.1 ((h y).2 List.mem_cons_self) with e | hy
    ·exact e.symm
    ·have := bls_trans (a1.1 y hy) (a2.1 x hx)
     rw [bls_irrefl] at this; cases this
  subst hxy
  have hr : ∀ z, z ∈ r ↔ z ∈ s := by
   intro z
   constructor
   ·intro hz
    rcases List.mem_cons.1 ((h z).1 (List.mem_cons_of_mem _ hz)) with e | hz'
    ·subst e; have := a1.1 z hz; rw [bls_irrefl] at this; cases this
    ·exact hz'
   ·intro hz
    rcases List.mem_cons.1 ((h z).2 (List.mem_cons_of_mem _ hz)) with e | hz'
    ·subst e; have := a2.1 z hz; rw [bls_irrefl] at this; cases this
    ·exact hz'
  rw [ssl_ext a1.2 a2.2 hr]
theorem upTo_spec (d : Array (List UInt8)) (hs : ∀ i, i + 1 < d.size → bls d[i + 1]! d[i]! = false) : ∀ m, m ≤ d.size →
  SSl (Lib.compactUpTo d m) ∧ (∀ x, x ∈ Lib.compactUpTo d m ↔ ∃ i, i < m ∧ d[i]! = x) ∧ ∀ x ∈ Lib.compactUpTo d m, bls d[m - 1]! x = false
 | 0, _ => ⟨.nil, fun x => ⟨fun h => (by cases h), fun ⟨i, h, _⟩ => absurd h (Nat.not_lt_zero _)⟩, fun x h => (by cases h)⟩
 | m + 1, hm => by
  obtain ⟨i1, i2, i3⟩ := upTo_spec d hs m (by omega)
  have hprev : 0 < m → bls d[m]! d[m - 1]! = false := by
   intro h0
   have := hs (m - 1) (by omega)
   rwa [show m - 1 + 1 = m by omega] at this
  rw [Lib.compactUpTo_succ]
  cases hk : Lib.keeps d m with
  | true =>
   simp only [if_true]
   have hlast : ∀ x ∈ Lib.compactUpTo d m, bls x d[m]! = true := by
    intro x hx
    obtain ⟨j, hj, _⟩ := (i2 x).1 hx
    have h0 : 0 < m := by omega
    have hne : d[m]! ≠ d[m - 1]! := by
     intro e
     rw [Lib.keeps_neg h0 e] at hk
     cases hk
    have h1 := hprev h0
    have h2 := i3 x hx
    have h3 : bls d[m - 1]! d[m]! = true := by
     rcases bls_tri d[m - 1]! d[m]! with h | h | h
     ·exact h
     ·exact absurd h.symm hne
     ·rw [h1] at h; cases h
    rcases bls_tri x d[m - 1]! with h | h | h
    ·exact bls_trans h h3
    ·rw [h]; exact h3
    ·rw [h2] at h; cases h
   refine ⟨List.pairwise_append.2 ⟨i1, List.pairwise_singleton _ _, fun a ha b hb => by rw [List.mem_singleton.1 hb]; exact hlast a ha⟩, fun x => ?_, fun x hx => ?_⟩
   ·rw [List.mem_append, List.mem_singleton, i2]
    constructor
    ·rintro (⟨i, h1, h2⟩ | h)
     ·exact ⟨i, by omega, h2⟩
     ·exact ⟨m, by omega, h.symm⟩
    ·rintro ⟨i, h1, h2⟩
     rcases Nat.lt_or_ge i m with h | h
     ·exact .inl ⟨i, h, h2⟩
     ·have : i = m := by omega
      subst this
      exact .inr h2.symm
   ·rw [Nat.add_sub_cancel]
    rcases List.mem_append.1 hx with hx | hx
    ·exact bls_asymm (hlast x hx)
    ·rw [List.mem_singleton.1 hx]; exact bls_irrefl _
  | false =>
   have h0 : 0 < m := by
    rcases Nat.eq_zero_or_pos m with h | h
    ·subst h; rw [Lib.keeps_lt_one d 0 (by omega)] at hk; cases hk
    ·exact h
   have heq : d[m]! = d[m - 1]! := by
    rcases Classical.em (d[m]! = d[m - 1]!) with h | h
    ·exact h
    ·rw [Lib.keeps_pos h] at hk; cases hk
   simp only [Bool.false_eq_true, if_false, List.append_nil]
   refine ⟨i1, fun x => ?_, fun x hx => ?_⟩
   ·rw [i2]
    constructor
    ·rintro ⟨i, h1, h2⟩; exact ⟨i, by omega, h2⟩
    ·rintro ⟨i, h1, h2⟩
     rcases Nat.lt_or_ge i m with h | h
     ·exact ⟨i, h, h2⟩
     ·have : i = m := by omega
      subst this
      exact ⟨i - 1, by omega, by rw [← heq]; exact h2⟩
   ·rw [Nat.add_sub_cancel, heq]; exact i3 x hx
theorem bls_eq : ∀ (x y : List UInt8), bls x y = decide (x < y)
 | [], [] => by simp [bls, Op.bytesLess]
 | _ :: _, [] => by simp [bls, Op.bytesLess]
 | [], _ :: _ => by simp [bls, Op.bytesLess]
 | a :: x, b :: y => by
  have ih := bls_eq x y
  simp only [bls] at ih ⊢
  rw [Op.bytesLess, ih]
  simp only [List.cons_lt_cons_iff]
  by_cases h1 : a < b <;> by_cases h2 : a = b <;> by_cases h3 : x < y <;> simp [h1, h2, h3]
theorem le_bls (x y : List UInt8) : decide (x ≤ y) = !bls y x := by
 rw [bls_eq]
 by_cases h : y < x
 ·have hn : ¬ x ≤ y := fun hh => hh h
  rw [decide_eq_true h, decide_eq_false hn]; rfl
 ·have hn : x ≤ y := h
  rw [decide_eq_false h, decide_eq_true hn]; rfl
theorem sorted_spec (l : List (List UInt8)) : SSl (Lib.compact (l.mergeSort fun x y => decide (x ≤ y))) ∧ ∀ x, x ∈ Lib.compact (l.mergeSort fun x y => decide (x ≤ y)) ↔ x ∈ l := by
 have htrans : ∀ a b c : List UInt8, decide (a ≤ b) = true → decide (b ≤ c) = true → decide (a ≤ c) = true := by
  intro a b c h1 h2
  rw [le_bls, Bool.not_eq_true'] at h1 h2 ⊢
  cases hq : bls c a with
  | false => rfl
  | true =>
   rcases bls_tri a b with h | h | h
   ·have := bls_trans hq h; rw [h2] at this; cases this
   ·subst h; rw [h2] at hq; cases hq
   ·rw [h1] at h; cases h
 have htotal : ∀ a b : List UInt8, (decide (a ≤ b) || decide (b ≤ a)) = true := by
  intro a b
  rw [le_bls, le_bls]
  cases hq : bls b a with
  | false => rfl
  | true => rw [bls_asymm hq]; rfl
 have hp := List.pairwise_mergeSort (le := fun x y : List UInt8 => decide (x ≤ y)) htrans htotal l
 have hmem : ∀ x, x ∈ l.mergeSort (fun x y => decide (x ≤ y)) ↔ x ∈ l := fun x => (List.mergeSort_perm l _).mem_iff
 generalize l.mergeSort (fun x y => decide (x ≤ y)) = s at hp hmem
 have hidx : ∀ i, i + 1 < s.toArray.size → bls s.toArray[i + 1]! s.toArray[i]! = false := by
  intro i hi
  have hi' : i + 1 < s.length := by simpa using hi
  have := (List.pairwise_iff_getElem.1 hp) i (i + 1) (by omega) hi' (by omega)
  rw [le_bls, Bool.not_eq_true'] at this
  rw [getElem!_pos _ (i + 1) hi, getElem!_pos _ i (by omega)]
  simpa using this
 obtain ⟨h1, h2, _⟩ := upTo_spec s.toArray hidx s.length (by simp)
 refine ⟨h1, fun x => ?_⟩
 rw [← hmem x]
 refine (h2 x).trans ⟨?_, ?_⟩
 ·rintro ⟨i, hi, rfl⟩
  rw [getElem!_pos _ i (by simpa using hi)]
  simp
 ·intro hx
  obtain ⟨i, hi, rfl⟩ := List.getElem_of_mem hx
  exact ⟨i, hi, by rw [getElem!_pos _ i (by simpa using hi)]; simp⟩
theorem bl_inj {a b : ByteArray} (h : bl a = bl b) : a = b := by rw [← ba_bl a, h, ba_bl]
def SS (l : List ByteArray) : Prop := l.Pairwise fun a b => bls (bl a) (bl b) = true
theorem SS.map {l : List ByteArray} (h : SS l) : SSl (l.map bl) := List.pairwise_map.2 h
theorem ss_ext {l1 l2 : List ByteArray} (h1 : SS l1) (h2 : SS l2) (h : ∀ x, x ∈ l1 ↔ x ∈ l2) : l1 = l2 := by
 have : l1.map bl = l2.map bl := ssl_ext h1.map h2.map fun x => by
  constructor
  ·intro hx
   obtain ⟨y, hy, rfl⟩ := List.mem_map.1 hx
   exact List.mem_map.2 ⟨y, (h y).1 hy, rfl⟩
  ·intro hx
   obtain ⟨y, hy, rfl⟩ := List.mem_map.1 hx
   exact List.mem_map.2 ⟨y, (h y).2 hy, rfl⟩
 exact (List.map_inj_right (fun a b e => bl_inj e)).1 this
theorem setS_spec (l : List ByteArray) : SS (compactS (sortS l)) ∧ ∀ x, x ∈ compactS (sortS l) ↔ x ∈ l := by
 have e : (sortS l).map bl = (l.map bl).mergeSort fun x y => decide (x ≤ y) := by
  unfold sortS
  rw [List.map_map]
  refine (List.map_congr_left fun x _ => bl_ba x).trans ?_
  rw [List.map_id']
 obtain ⟨h1, h2⟩ := sorted_spec (l.map bl)
 unfold compactS
 rw [e]
 generalize Lib.compact ((l.map bl).mergeSort fun x y => decide (x ≤ y)) = s at h1 h2
 refine ⟨?_, fun x => ?_⟩
 ·unfold SS
  rw [List.pairwise_map]
  refine h1.imp fun h => ?_
  rw [bl_ba, bl_ba]; exact h
 ·rw [List.mem_map]
  constructor
  ·rintro ⟨y, hy, rfl⟩
   obtain ⟨z, hz, rfl⟩ := List.mem_map.1 ((h2 y).1 hy)
   rw [ba_bl]; exact hz
  ·intro hx
   exact ⟨bl x, (h2 _).2 (List.mem_map.2 ⟨x, hx, rfl⟩), ba_bl x⟩
end Go.Abs
namespace Go.Abs.Lx
open Go.Lib
set_option linter.unusedVariables false
set_option maxRecDepth 100000
def dogL : List S44 := [⟨⟨#[114, 111, 111, 116]⟩, [⟨⟨#[100, 111, 103]⟩, ⟨#[100, 111, 103]⟩, [⟨#[110]⟩], 1, 0⟩]⟩, ⟨⟨#[110, 117, 109, 98, 101, 114]⟩, [⟨ByteArray.empty, ByteArray.empty, [⟨#[115, 103]⟩], -1, 0⟩, ⟨ByteArray.empty, ⟨#[115]⟩, [⟨#[112, 108]⟩], -1, 2⟩]⟩]
theorem f17_dogs (m : Nat) : f17 m = some ⟨dogL⟩ := rfl
theorem lexF_dogs : (lexF dogL).fCode = 0 := by decide +kernel
theorem itoa_small {k : Nat} (h : k < 10) : itoa (k : Int) = [UInt8.ofNat (48 + k)] := by
 rw [itoa_nonneg, decDigits_one h]
theorem text_dogs : textT dogL = [99, 108, 97, 115, 115, 32, 114, 111, 111, 116, 10, 105, 116, 101, 109, 32, 40, 100, 111, 103, 41, 40, 100, 111, 103, 41, 91, 110, 93, 32, 49, 32, 48, 10, 99, 108, 97, 115, 115, 32, 110, 117, 109, 98, 101, 114, 10, 105, 116, 101, 109, 32, 40, 41, 40, 41, 91, 115, 103, 93, 32, 45, 49, 32, 48, 10, 105, 116, 101, 109, 32, 40, 41, 40, 115, 41, 91, 112, 108, 93, 32, 45, 49, 32, 50, 10] := by
 have i0 : itoa 0 = [48] := itoa_small (k := 0) (by omega)
 have i1 : itoa 1 = [49] := itoa_small (k := 1) (by omega)
 have i2 : itoa 2 = [50] := itoa_small (k := 2) (by omega)
 have im : itoa (-1) = [45, 49] := by
  have := itoa_neg 1 (by omega)
  rw [decDigits_one (by omega)] at this
  exact this
 simp only [textT, classT, dogL, itemT, itemR, List.flatMap_cons, List.flatMap_nil, i0, i1, i2, im, clsT, itmT]
 rfl
abbrev nB : ByteArray := ⟨#[110]⟩
abbrev plB : ByteArray := ⟨#[112, 108]⟩
abbrev sgB : ByteArray := ⟨#[115, 103]⟩
theorem tags_dogs : compactS (sortS [nB, sgB, plB]) = [nB, plB, sgB] := by
 obtain ⟨h1, h2⟩ := setS_spec [nB, sgB, plB]
 refine ss_ext h1 ?_ fun x => ?_
 ·unfold SS
  refine List.Pairwise.cons ?_ (List.Pairwise.cons ?_ (List.Pairwise.cons ?_ .nil))
  ·intro x hx
   simp only [List.mem_cons, List.not_mem_nil, or_false] at hx
   rcases hx with rfl | rfl <;> decide
  ·intro x hx
   simp only [List.mem_cons, List.not_mem_nil, or_false] at hx
   rcases hx with rfl
   decide
  ·intro x hx; cases hx
 ·rw [h2]
  simp only [List.mem_cons, List.not_mem_nil, or_false]
  constructor
  ·rintro (h | h | h)
   ·exact .inl h
   ·exact .inr (.inr h)
   ·exact .inr (.inl h)
  ·rintro (h | h | h)
   ·exact .inl h
   ·exact .inr (.inr h)
   ·exact .inr (.inl h)
theorem f22_dogs (k : Nat) : f22 (k + 4) ⟨dogL⟩ = some [nB, plB, sgB] := by
 have h : iter (fun (y : (List ByteArray) × Int) => f22_B2 (k + 4) ⟨dogL⟩ y.1 y.2) (k + 4) ([], 0) = some (.inr ([nB, sgB, plB], 2)) := rfl
 unfold f22
 rw [h]
 rw [brk_inr]
 have hs : srt [nB, sgB, plB] = some (sortS [nB, sgB, plB]) := if_pos (by decide)
 show bnd (srt [nB, sgB, plB]) (fun v86 => some (compactS v86)) = _
 rw [hs, bnd_some', tags_dogs]
theorem f8_dogs (m : Nat) (hm : 4001 < m) : f8 m ⟨dogL⟩ = some ([nB, plB, sgB], ⟨0, 0⟩) := by
 obtain ⟨k, rfl⟩ : ∃ k, m = k + 4 := ⟨m - 4, by omega⟩
 have hz := (lexF_ok lexF_dogs).2
 unfold f8
 rw [f11_eq _ _ hm]
 show bnd (some (lexF dogL)) _ = _
 rw [hz, bnd_some', f22_dogs k]
 rfl
theorem told_eq (m : Nat) (hm : 4001 < m) : f6 m = some true := by
 have hz := (lexF_ok lexF_dogs).2
 have hv := lexV_of lexF_dogs
 have ht : (textT dogL).length ≤ 4000 := by rw [text_dogs]; decide
 have hp : f14 m (⟨(textT dogL).toArray⟩ : ByteArray) = some (⟨dogL⟩, ⟨0, 0⟩) := parse_text MM (by unfold MM; omega) dogL lexF_dogs ht
 have he : f16 m (⟨dogL⟩ : S23) (⟨dogL⟩ : S23) = some true := lex_self MM dogL hv (by unfold MM; omega)
 have h12 := f12_self m [nB, plB, sgB] (by show 3 < m; omega) (by decide)
 unfold f6
 rw [f17_dogs, bnd_some', print_eq m _ hm]
 show bnd (if (lexF dogL).fCode = 0 then (if (textT dogL).length ≤ 4000 then some ((⟨(textT dogL).toArray⟩ : ByteArray), (⟨0, 0⟩ : S26)) else some (⟨#[]⟩, ⟨1, -1⟩)) else some (⟨#[]⟩, lexF dogL)) _ = _
 rw [if_pos lexF_dogs, if_pos ht, bnd_some']
 show bnd (f14 m (⟨(textT dogL).toArray⟩ : ByteArray)) _ = _
 rw [hp, bnd_some', bnd_some', f8_dogs m hm, bnd_some']
 unfold f6_r5 f6_r4
 rw [text_dogs]
 have hb : ∀ (a : ByteArray), (a.toList == a.toList) = true := fun a => by simp
 show f6_r3 m ((⟨dogL⟩ : S23), (⟨0, 0⟩ : S26)) ([nB, plB, sgB], (⟨0, 0⟩ : S26)) (true && ((B _).toList == (B _).toList)) = _
 rw [hb]
 unfold f6_r3
 rw [show (true && true) = true from rfl, cnd_true, f17_dogs, bnd_some']
 show bnd (bnd (f16 m (⟨dogL⟩ : S23) (⟨dogL⟩ : S23)) fun v47 => some v47) _ = _
 rw [he]
 show f6_r2 m ([nB, plB, sgB], (⟨0, 0⟩ : S26)) true = _
 unfold f6_r2
 rw [cnd_true]
 show bnd (bnd (f12 m [nB, plB, sgB] [nB, plB, sgB]) fun v45 => some v45) _ = _
 rw [h12]
 rfl
end Go.Abs.Lx
namespace Go.Abs
open Go.Sort Go.Proofs
set_option linter.unusedVariables false
set_option maxRecDepth 100000
theorem f19_eq (m : Nat) (s : ByteArray) (hm : 31 < m) : f19 m s = some (nameS s) := by
 unfold f19 f19_r8 nameS
 by_cases h : 1 ≤ s.size ∧ s.size ≤ 30
 ·have hb : ((((s.size : Int)) == 0) || (decide ((s.size : Int) > 30))) = false := by
   simp only [Bool.or_eq_false_iff, decide_eq_false_iff_not, beq_eq_false_iff_ne]
   omega
  have hl := byt_len s
  obtain ⟨c0, r, hc⟩ : ∃ c r, byt s = c :: r := by
   cases hq : byt s with
   | nil => rw [hq] at hl; simp at hl; omega
   | cons c r => exact ⟨c, r, rfl⟩
  have h0 : sidx s 0 = some c0 := by
   have := sidx_get s 0
   rw [hc] at this
   exact this
  rw [hb, decide_eq_true h, h0]
  simp only [cnd_false, bnd_some', f19_r7, Bool.true_and]
  have hfirst : ∀ b : Bool, allP (fun i c => letB c || (i != 0 && nameB c)) 0 (byt s) = (letB c0 && (byt s).all nameB) := by
   intro _
   have hn : letB c0 = true → nameB c0 = true := fun h => by unfold nameB; rw [h]; rfl
   have hrest : ∀ (l : List Int) (i : Int), 1 ≤ i → allP (fun i c => letB c || (i != 0 && nameB c)) i l = l.all nameB := by
    intro l
    induction l with
    | nil => intro i _; rfl
    | cons x l ih =>
     intro i hi
     have hi0 : (i != 0) = true := by simp; omega
     have hx : (letB x || nameB x) = nameB x := by unfold nameB; cases letB x <;> simp
     simp only [allP, List.all_cons, ih (i + 1) (by omega), hi0, Bool.true_and, hx]
   rw [hc]
   simp only [allP, List.all_cons]
   rw [hrest r (0 + 1) (by omega)]
   cases hq : letB c0 with
   | true => rw [hn hq]; simp
   | false => simp
  rw [hfirst true]
  by_cases h1 : c0 < 97
  ·have : letB c0 = false := by unfold letB; rw [decide_eq_false (by omega)]; rfl
   rw [decide_eq_true h1, this]
   rfl
  ·rw [decide_eq_false h1]
   simp only [cnd_false, h0, bnd_some', f19_r6]
   by_cases h2 : c0 > 122
   ·have : letB c0 = false := by unfold letB; rw [decide_eq_false (by omega : ¬ c0 ≤ 122), Bool.and_false]
    rw [decide_eq_true h2, this]
    rfl
   ·have hlet : letB c0 = true := by unfold letB; rw [decide_eq_true (by omega), decide_eq_true (by omega)]; rfl
    rw [decide_eq_false h2, hlet, cnd_false, Bool.true_and]
    have e : iter (fun (y : Int) => f19_B5 m s y) m 0 = landed (fun (_ : Unit) (i : Int) => i) (byt s).length (scan (fun _ (_ : Unit) c => if nameB c then some (.inr ()) else some (.inl false)) 0 () (byt s)) := by
     refine iter_scan (byt s) (fun (y : Int) => f19_B5 m s y) (fun (_ : Unit) (i : Int) => i) (fun _ (_ : Unit) c => if nameB c then some (.inr ()) else some (.inl false)) (fun u k hi => ?_) m 0 () (by omega) (by rw [byt_len]; omega)
     unfold f19_B5
     rw [← hl]
     refine body_turn' rfl fun c hcx => ?_
     have hw : w64 ((k : Int) + 1) = (k : Int) + 1 := w64_id ⟨by omega, by omega⟩
     rw [sidx_get, hcx]
     simp only [bnd_some', f19_r4, f19_r3, f19_r2, f19_r1, hw]
     have key : (((((decide (c ≥ 97)) && (decide (c ≤ 122))) || (((decide (c ≥ 48)) && (decide (c ≤ 57))))) || (c == 95)) || (c == 45)) = nameB c := rfl
     rw [key]
     cases nameB c <;> rfl
    rw [e, scan_all nameB]
    cases (byt s).all nameB <;> rfl
 ·have hb : ((((s.size : Int)) == 0) || (decide ((s.size : Int) > 30))) = true := by
   simp only [Bool.or_eq_true, decide_eq_true_eq, beq_iff_eq]
   omega
  rw [hb, decide_eq_false h]
  rfl
theorem f21_eq (m : Nat) (l : List ByteArray) (hm : 31 < m) : f21 m l 4 = some (tagsS l) := by
 unfold f21 tagsS
 by_cases hl : l.length > 4
 ·rw [if_pos hl, decide_eq_true (by omega)]; rfl
 ·rw [if_neg hl, decide_eq_false (by omega), cnd_false]
  have e : iter (fun (y : Int) => f21_B1 m l y) m 0 = landed (fun (_ : Unit) (i : Int) => i) l.length (scan (fun _ (_ : Unit) x => if nameS x then some (.inr ()) else some (.inl 10)) 0 () l) := by
   refine iter_scan l (fun (y : Int) => f21_B1 m l y) (fun (_ : Unit) (i : Int) => i) (fun _ (_ : Unit) x => if nameS x then some (.inr ()) else some (.inl 10)) (fun u k hi => ?_) m 0 () (by omega) (by omega)
   refine body_turn rfl fun x hx => ?_
   have hw : w64 ((k : Int) + 1) = (k : Int) + 1 := w64_id ⟨by omega, by omega⟩
   rw [f19_eq m x hm, hw]
   by_cases h : nameS x = true <;> simp [h]
  rw [e, scan_all nameS]
  by_cases h : l.all nameS = true
  ·rw [if_pos h, if_pos h]; rfl
  ·rw [if_neg h, if_neg h]; rfl
theorem f64_eq (m : Nat) (l : List Nat) (p w : Nat) (h : oneN l = some (p, w)) : f64 m (p : Int) = some (w : Int) := by
 obtain ⟨h1, h2, h3, h4, h5, h6, h7, h8⟩ := oneN_w h
 have hw : w = 1 ∨ w = 2 ∨ w = 3 ∨ w = 4 := by omega
 unfold f64
 rcases hw with rfl | rfl | rfl | rfl
 ·have := h5 rfl
  rw [decide_eq_true (by omega)]; rfl
 ·have := h6 rfl
  rw [decide_eq_false (by omega), decide_eq_true (by omega)]; rfl
 ·have := h7 rfl
  rw [decide_eq_false (by omega), decide_eq_false (by omega), decide_eq_true (by omega)]; rfl
 ·have := h8 rfl
  rw [decide_eq_false (by omega), decide_eq_false (by omega), decide_eq_false (by omega)]; rfl
theorem f63_loop (m : Nat) (s : ByteArray) (i n : Nat) (hn : i + n ≤ s.size) (hs : s.size ≤ 4000) : ∀ (d K k v : Nat), k + d = n → d < K → d ≤ 3 → v ≤ BB d →
  iter (fun (y : Int × Int) => f63_B2 m s (i : Int) (n : Int) y.1 y.2) K ((v : Int), (k : Int)) = match conts v ((bytN s).drop (i + k)) d with
   | some r => some (.inr ((r : Int), (n : Int)))
   | none => some (.inl (-1))
 | d, 0, k, v, h1, h2, h3, h4 => by omega
 | 0, K + 1, k, v, h1, h2, h3, h4 => by
  have hk : k = n := by omega
  subst hk
  have e0 : f63_B2 m s (i : Int) (k : Int) (v : Int) (k : Int) = some (.brk ((v : Int), (k : Int))) := by
   unfold f63_B2
   rw [decide_eq_false (by omega), cnd_false]
  unfold iter
  simp only [e0, conts]
 | d + 1, K + 1, k, v, h1, h2, h3, h4 => by
  have hlt : i + k < s.size := by omega
  have hl : i + k < (bytN s).length := by rw [bytN_len]; exact hlt
  have hb := bytN_lt s ((bytN s)[i + k]) (List.getElem_mem hl)
  have hw1 : w64 ((i : Int) + (k : Int)) = ((i + k : Nat) : Int) := by rw [w64_id ⟨by omega, by omega⟩]; omega
  have hw2 : w64 ((k : Int) + 1) = ((k + 1 : Nat) : Int) := by rw [w64_id ⟨by omega, by omega⟩]; omega
  have hx : sidx s ((i + k : Nat) : Int) = some (((bytN s)[i + k] : Nat) : Int) := by
   have := byt_get s (i + k) 0
   rw [Nat.add_zero] at this
   rw [this, List.getElem?_drop, Nat.add_zero, List.getElem?_eq_getElem hl]; rfl
  rw [List.drop_eq_getElem_cons hl]
  generalize (bytN s)[i + k] = b at *
  have hw3 : w64 (b : Int) = (b : Int) := w64_id ⟨by omega, by omega⟩
  have hB := BB_step d h3
  have hBl := BB_le d
  simp only [conts]
  by_cases hc : 128 ≤ b ∧ b ≤ 191
  ·have hw4 : w64 ((v : Int) * 64) = ((v * 64 : Nat) : Int) := by rw [w64_id ⟨by omega, by omega⟩]; omega
   have hw5 : w64 (((v * 64 : Nat) : Int) + (b : Int)) = ((v * 64 + b : Nat) : Int) := by rw [w64_id ⟨by omega, by omega⟩]; omega
   have hw6 : w64 (((v * 64 + b : Nat) : Int) - 128) = ((v * 64 + (b - 128) : Nat) : Int) := by rw [w64_id ⟨by omega, by omega⟩]; omega
   have e0 : f63_B2 m s (i : Int) (n : Int) (v : Int) (k : Int) = some (.nxt (((v * 64 + (b - 128) : Nat) : Int), ((k + 1 : Nat) : Int))) := by
    unfold f63_B2
    rw [decide_eq_true (by omega), cnd_true, hw1, hx]
    simp only [bnd_some', f63_r1, hw3, hw4, hw5, hw6, hw2]
    rw [decide_eq_false (by omega), decide_eq_false (by omega)]
    rfl
   have ih := f63_loop m s i n hn hs d K (k + 1) (v * 64 + (b - 128)) (by omega) (by omega) (by omega) (by omega)
   rw [if_pos hc]
   unfold iter
   simp only [e0]
   exact ih
  ·have e0 : f63_B2 m s (i : Int) (n : Int) (v : Int) (k : Int) = some (.ret (-1)) := by
    unfold f63_B2
    rw [decide_eq_true (by omega), cnd_true, hw1, hx]
    simp only [bnd_some', f63_r1, hw3]
    have : (decide ((b : Int) < 128) || decide ((b : Int) > 191)) = true := by
     simp only [Bool.or_eq_true, decide_eq_true_eq]; omega
    rw [this]
    rfl
   rw [if_neg hc]
   unfold iter
   simp only [e0]
theorem f63_j4_eq (m : Nat) (s : ByteArray) (i n v : Nat) (h1 : 1 ≤ n) (h4 : n ≤ 4) (hv : v ≤ BB (n - 1)) (hi : i < s.size) (hs : s.size ≤ 4000) (hm : 5 < m) :
  f63_j4 m s (i : Int) (n : Int) (v : Int) = some (if i + n ≤ s.size then fin n (conts v ((bytN s).drop (i + 1)) (n - 1)) else -1) := by
 unfold f63_j4
 have hw1 : w64 ((i : Int) + (n : Int)) = ((i + n : Nat) : Int) := by rw [w64_id ⟨by omega, by omega⟩]; omega
 rw [hw1]
 by_cases hn : i + n ≤ s.size
 ·rw [decide_eq_false (by omega), if_pos hn, cnd_false]
  have e := f63_loop m s i n hn hs (n - 1) m 1 v (by omega) (by omega) (by omega) hv
  have e : iter (fun (y : Int × Int) => f63_B2 m s (i : Int) (n : Int) y.1 y.2) m ((v : Int), 1) = _ := e
  rw [e]
  cases hc : conts v ((bytN s).drop (i + 1)) (n - 1) with
  | none => rfl
  | some r =>
   simp only [brk_inr, f91, f91_r2, f91_r1, bnd_some']
   have hsc : (((decide ((r : Int) ≥ 0)) && (decide ((r : Int) < 55296))) || ((decide ((r : Int) > 57343)) && (decide ((r : Int) ≤ 1114111)))) = decide (r < 55296 ∨ (57344 ≤ r ∧ r ≤ 1114111)) := by
    rw [Bool.eq_iff_iff]
    simp only [Bool.or_eq_true, Bool.and_eq_true, decide_eq_true_eq]
    omega
   have hwd : f64 m (r : Int) = some ((if r < 128 then 1 else if r < 2048 then 2 else if r < 65536 then 3 else 4 : Nat) : Int) := by
    unfold f64
    by_cases k1 : r < 128
    ·rw [decide_eq_true (by omega), if_pos k1]; rfl
    ·rw [decide_eq_false (by omega), if_neg k1]
     by_cases k2 : r < 2048
     ·rw [decide_eq_true (by omega), if_pos k2]; rfl
     ·rw [decide_eq_false (by omega), if_neg k2]
      by_cases k3 : r < 65536
      ·rw [decide_eq_true (by omega), if_pos k3]; rfl
      ·rw [decide_eq_false (by omega), if_neg k3]; rfl
   rw [hsc, hwd]
   simp only [fin]
   generalize (if r < 128 then 1 else if r < 2048 then 2 else if r < 65536 then 3 else 4 : Nat) = wd
   by_cases hq : r < 55296 ∨ (57344 ≤ r ∧ r ≤ 1114111)
   ·rw [decide_eq_true hq]
    simp only [Bool.not_true, cnd_false, bnd_some', f63_r3]
    by_cases hwn : wd = n
    ·subst hwn
     have hb : (((wd : Nat) : Int) != ((wd : Nat) : Int)) = false := by simp
     rw [hb, cnd_false, if_pos ⟨hq, rfl⟩]
    ·have hb : (((wd : Nat) : Int) != ((n : Nat) : Int)) = true := by simp only [bne_iff_ne, ne_eq]; omega
     rw [hb, cnd_true, if_neg (fun h => hwn h.2)]
   ·rw [decide_eq_false hq]
    simp only [Bool.not_false, cnd_true, bnd_some', f63_r3]
    rw [if_neg (fun h => hq h.1)]
 ·rw [decide_eq_true (by omega), if_neg hn]; rfl
theorem f63_eq (m : Nat) (s : ByteArray) (i : Nat) (hi : i < s.size) (hs : s.size ≤ 4000) (hm : 5 < m) : f63 m s (i : Int) = some (oneS ((bytN s).drop i)) := by
 have hl : i < (bytN s).length := by rw [bytN_len]; exact hi
 have hb := bytN_lt s ((bytN s)[i]) (List.getElem_mem hl)
 have hx : sidx s (i : Int) = some (((bytN s)[i] : Nat) : Int) := by
  have := byt_get s i 0
  rw [Nat.add_zero] at this
  rw [this, List.getElem?_drop, Nat.add_zero, List.getElem?_eq_getElem hl]; rfl
 have hd := List.drop_eq_getElem_cons hl
 have hrl : ((bytN s).drop (i + 1)).length = s.size - (i + 1) := by rw [List.length_drop, bytN_len]
 rw [hd]
 unfold f63
 rw [hx]
 generalize (bytN s)[i] = b at *
 have hw : w64 (b : Int) = (b : Int) := w64_id ⟨by omega, by omega⟩
 simp only [bnd_some', hw]
 by_cases k4 : 240 ≤ b
 ·rw [decide_eq_true (by omega), cnd_true]
  have hw4 : w64 ((b : Int) - 240) = ((b - 240 : Nat) : Int) := by rw [w64_id ⟨by omega, by omega⟩]; omega
  rw [hw4]
  refine (f63_j4_eq m s i 4 (b - 240) (by omega) (by omega) (by show b - 240 ≤ 100; omega) hi hs hm).trans ?_
  rw [← lead4 b ⟨k4, hb⟩, hrl]
  have : (i + 4 ≤ s.size) = (3 ≤ s.size - (i + 1)) := propext ⟨fun h => by omega, fun h => by omega⟩
  simp only [this]
 rw [decide_eq_false (by omega), cnd_false]
 by_cases k3 : 224 ≤ b
 ·rw [decide_eq_true (by omega), cnd_true]
  have hw4 : w64 ((b : Int) - 224) = ((b - 224 : Nat) : Int) := by rw [w64_id ⟨by omega, by omega⟩]; omega
  rw [hw4]
  refine (f63_j4_eq m s i 3 (b - 224) (by omega) (by omega) (by show b - 224 ≤ 6500; omega) hi hs hm).trans ?_
  rw [← lead3 b ⟨k3, by omega⟩, hrl]
  have : (i + 3 ≤ s.size) = (2 ≤ s.size - (i + 1)) := propext ⟨fun h => by omega, fun h => by omega⟩
  simp only [this]
 rw [decide_eq_false (by omega), cnd_false]
 by_cases k2 : 192 ≤ b
 ·rw [decide_eq_true (by omega), cnd_true]
  have hw4 : w64 ((b : Int) - 192) = ((b - 192 : Nat) : Int) := by rw [w64_id ⟨by omega, by omega⟩]; omega
  rw [hw4]
  refine (f63_j4_eq m s i 2 (b - 192) (by omega) (by omega) (by show b - 192 ≤ 420000; omega) hi hs hm).trans ?_
  rw [← lead2 b ⟨k2, by omega⟩, hrl]
  have : (i + 2 ≤ s.size) = (1 ≤ s.size - (i + 1)) := propext ⟨fun h => by omega, fun h => by omega⟩
  simp only [this]
 rw [decide_eq_false (by omega), cnd_false]
 by_cases k1 : 128 ≤ b
 ·rw [decide_eq_true (by omega), cnd_true]
  unfold oneS
  simp only [oneN]
  rw [if_neg (by omega), if_pos (by omega)]
 ·rw [decide_eq_false (by omega), cnd_false]
  refine (f63_j4_eq m s i 1 b (by omega) (by omega) (by show b ≤ 27000000; omega) hi hs hm).trans ?_
  rw [if_pos (by omega)]
  unfold oneS
  simp only [oneN, conts, fin, Nat.sub_self]
  rw [if_pos (by omega : b < 128), if_pos (by omega : b < 128), if_pos ⟨by omega, rfl⟩]
theorem f47_loop (m : Nat) (s : ByteArray) (hs : s.size ≤ 4000) (hm : 5 < m) : ∀ (K i : Nat) (acc : List Int), i ≤ s.size → s.size - i < K → acc.length ≤ i →
  (∀ L, ptsB ((bytN s).drop i) = some L → iter (fun (y : (List Int) × Int) => f47_B1 m s y.1 y.2) K (acc, (i : Int)) = some (.inr (acc ++ castL L, (s.size : Int)))) ∧
  (ptsB ((bytN s).drop i) = none → ∃ j, iter (fun (y : (List Int) × Int) => f47_B1 m s y.1 y.2) K (acc, (i : Int)) = some (.inl ([], ⟨5, j⟩)))
 | 0, i, acc, h1, h2, h3 => by omega
 | K + 1, i, acc, h1, h2, h3 => by
  by_cases hlt : i < s.size
  ·have hne : (bytN s).drop i ≠ [] := fun e => by have := List.drop_eq_nil_iff.1 e; rw [bytN_len] at this; omega
   have e0 : f47_B1 m s acc (i : Int) = cnd (decide (oneS ((bytN s).drop i) < 0)) (some (.ret ([], ⟨5, (i : Int)⟩))) (bnd (app 8 acc [oneS ((bytN s).drop i)]) fun v25 => bnd (f64 m (oneS ((bytN s).drop i))) fun v26 => some (.nxt (v25, w64 ((i : Int) + v26)))) := by
    unfold f47_B1
    rw [decide_eq_true (by omega), cnd_true, f63_eq m s i hlt hs hm]
    rfl
   cases hq : oneN ((bytN s).drop i) with
   | none =>
    have hm1 : oneS ((bytN s).drop i) = -1 := by unfold oneS; rw [hq]
    rw [hm1] at e0
    refine ⟨fun L hL => ?_, fun _ => ⟨(i : Int), ?_⟩⟩
    ·rw [ptsB_bad hne hq] at hL; cases hL
    ·unfold iter
     simp only [e0]
     rfl
   | some y =>
    obtain ⟨p, w⟩ := y
    have hp : oneS ((bytN s).drop i) = (p : Int) := by unfold oneS; rw [hq]
    rw [hp] at e0
    obtain ⟨g1, g2, g3, g4, g5, _⟩ := oneN_w hq
    rw [List.length_drop, bytN_len] at g3
    have hw2 : w64 ((i : Int) + (w : Int)) = ((i + w : Nat) : Int) := by rw [w64_id ⟨by omega, by omega⟩]; omega
    have e1 : f47_B1 m s acc (i : Int) = some (.nxt (acc ++ [(p : Int)], ((i + w : Nat) : Int))) := by
     rw [e0, decide_eq_false (by omega), cnd_false, app_some 8 acc [(p : Int)] (by simp only [List.length_cons, List.length_nil]; omega) (by simp only [List.length_cons, List.length_nil]; omega), f64_eq m _ p w hq]
     simp only [bnd_some', hw2]
    have ih := f47_loop m s hs hm K (i + w) (acc ++ [(p : Int)]) (by omega) (by omega) (by simp only [List.length_append, List.length_cons, List.length_nil]; omega)
    rw [ptsB_one hq, List.drop_drop]
    refine ⟨fun L hL => ?_, fun hn => ?_⟩
    ·obtain ⟨L', hL', rfl⟩ := Option.map_eq_some_iff.1 hL
     have := ih.1 L' hL'
     unfold iter
     simp only [e1]
     rw [this]
     simp [castL]
    ·obtain ⟨j, hj⟩ := ih.2 (by simpa using hn)
     refine ⟨j, ?_⟩
     unfold iter
     simp only [e1]
     exact hj
  ·have hi : i = s.size := by omega
   have hd : (bytN s).drop i = [] := List.drop_eq_nil_iff.2 (by rw [bytN_len]; omega)
   rw [hd]
   refine ⟨fun L hL => ?_, fun hn => by cases hn⟩
   rw [ptsB_nil] at hL
   cases hL
   unfold iter
   have e0 : f47_B1 m s acc (i : Int) = some (.brk (acc, (i : Int))) := by
    unfold f47_B1
    rw [decide_eq_false (by omega), cnd_false]
   simp only [e0]
   rw [hi]
   simp [castL]
theorem f47_eq (m : Nat) (s : ByteArray) (hm : 4001 < m) : (∀ L, s.size ≤ 4000 → ptsS s = some L → f47 m s = some (castL L, ⟨0, 0⟩)) ∧ ((¬ s.size ≤ 4000 ∨ ptsS s = none) → ∃ c j, c ≠ 0 ∧ f47 m s = some ([], ⟨c, j⟩)) := by
 by_cases hs : s.size ≤ 4000
 ·have h := f47_loop m s hs (by omega) m 0 [] (by omega) (by omega) (Nat.le_refl _)
  rw [List.drop_zero] at h
  have e0 : f47 m s = brk (iter (fun (y : (List Int) × Int) => f47_B1 m s y.1 y.2) m ([], ((0 : Nat) : Int))) some fun y49 => some ((y49.1, (⟨0, 0⟩ : S26))) := by
   unfold f47
   rw [decide_eq_false (by omega), cnd_false]
   rfl
  refine ⟨fun L _ hL => ?_, fun hn => ?_⟩
  ·rw [e0, h.1 L hL]; simp
  ·rcases hn with hn | hn
   ·exact (hn hs).elim
   ·obtain ⟨j, hj⟩ := h.2 hn
    exact ⟨5, j, by decide, by rw [e0, hj]; rfl⟩
 ·refine ⟨fun L h _ => (hs h).elim, fun _ => ⟨1, -1, by decide, ?_⟩⟩
  unfold f47
  rw [decide_eq_true (by omega)]
  rfl
theorem f33_inner (m : Nat) (p : Nat) (hm : 4001 < m) : iter (fun (y : Int) => f33_B1 m (p : Int) y) m 0 = if badL.all (fun y => !((p : Int) == y)) then some (.inr 10) else some (.inl false) := by
 have e : iter (fun (y : Int) => f33_B1 m (p : Int) y) m 0 = landed (fun (_ : Unit) (i : Int) => i) badL.length (scan (fun _ (_ : Unit) x => if !((p : Int) == x) then some (.inr ()) else some (.inl false)) 0 () badL) := by
  refine iter_scan badL (fun (y : Int) => f33_B1 m (p : Int) y) (fun (_ : Unit) (i : Int) => i) (fun _ (_ : Unit) x => if !((p : Int) == x) then some (.inr ()) else some (.inl false)) (fun u k hi => ?_) m 0 () (by omega) (by show 10 < m + 0; omega)
  have hk : k ≤ 10 := hi
  have hw : w64 ((k : Int) + 1) = (k : Int) + 1 := w64_id ⟨by omega, by omega⟩
  unfold f33_B1
  refine body_turn (xs := badL) rfl fun x hx => ?_
  rw [hw]
  cases (p : Int) == x <;> rfl
 rw [e, scan_all]
 cases badL.all (fun y => !((p : Int) == y)) <;> rfl
theorem f33_loop (m : Nat) (L : List Nat) (f : S26) (hL : L.length ≤ 4000) (hp : ∀ p ∈ L, p ≤ 1114111) (hm : 4001 < m) :
  iter (fun (y : Int) => f33_B2 m (castL L, f) y) m 0 = if L.all (fun p => !badP p) then some (.inr (L.length : Int)) else some (.inl false) := by
 have e : iter (fun (y : Int) => f33_B2 m (castL L, f) y) m 0 = landed (fun (_ : Unit) (i : Int) => i) (castL L).length (scan (fun _ (_ : Unit) x => if !badP x.toNat then some (.inr ()) else some (.inl false)) 0 () (castL L)) := by
  refine iter_scan (castL L) (fun (y : Int) => f33_B2 m (castL L, f) y) (fun (_ : Unit) (i : Int) => i) (fun _ (_ : Unit) x => if !badP x.toNat then some (.inr ()) else some (.inl false)) (fun u k hi => ?_) m 0 () (by omega) (by rw [castL_len]; omega)
  rw [castL_len] at hi
  refine body_turn rfl fun x hx => ?_
  obtain ⟨p, rfl, hmem⟩ := castL_get hx
  have hw : w64 ((k : Int) + 1) = (k : Int) + 1 := w64_id ⟨by omega, by omega⟩
  rw [f33_inner m p hm, badL_all, Int.toNat_natCast, hw]
  unfold badP
  cases [0, 9, 10, 32, 40, 41, 91, 93, 44, 59].contains p
  ·simp only [Bool.not_false, if_true, brk_inr, Bool.false_or]
   by_cases h : 983040 ≤ p
   ·rw [decide_eq_true (by omega : (p : Int) ≥ 983040), decide_eq_true h]; rfl
   ·rw [decide_eq_false (by omega : ¬ (p : Int) ≥ 983040), decide_eq_false h]; rfl
  ·rfl
 rw [e, scan_all, castL_all, castL_len]
 cases L.all (fun p => !badP p) <;> rfl
theorem f33_eq (m : Nat) (s : ByteArray) (hm : 4001 < m) : f33 m s = some (wordS s) := by
 obtain ⟨g1, g2⟩ := f47_eq m s hm
 unfold f33 wordS
 by_cases hs : s.size ≤ 4000
 ·cases hq : ptsS s with
  | some L =>
   have hl := ptsS_len hq
   rw [g1 L hs hq]
   simp only [bnd_some', f33_r4, f33_r3, castL_len, okP, beq_self_eq_true, Bool.true_and, Bool.not_true, Bool.false_or, decide_eq_true hs]
   by_cases hc : 1 ≤ L.length ∧ L.length ≤ 30
   ·have hb : (((L.length : Int) == 0) || decide ((L.length : Int) > 30)) = false := by
     simp only [Bool.or_eq_false_iff, decide_eq_false_iff_not, beq_eq_false_iff_ne, ne_eq]; omega
    rw [hb, cnd_false, f33_loop m L _ (by omega) hl.2.2 hm, decide_eq_true hc]
    cases L.all (fun p => !badP p) <;> rfl
   ·have hb : (((L.length : Int) == 0) || decide ((L.length : Int) > 30)) = true := by
     simp only [Bool.or_eq_true, decide_eq_true_eq, beq_iff_eq]; omega
    rw [hb, decide_eq_false hc]
    rfl
  | none =>
   obtain ⟨c, j, hc, e⟩ := g2 (.inr hq)
   rw [e]
   have hb : (c == 0) = false := by simpa using hc
   simp only [bnd_some', hb, Bool.false_and, Bool.not_false, Bool.true_or, f33_r4, f33_r3, cnd_true, Bool.and_false]
 ·obtain ⟨c, j, hc, e⟩ := g2 (.inl hs)
  rw [e]
  have hb : (c == 0) = false := by simpa using hc
  simp only [bnd_some', hb, Bool.false_and, Bool.not_false, Bool.true_or, f33_r4, f33_r3, cnd_true, decide_eq_false hs]
theorem f20_eq (m : Nat) (s : ByteArray) (hm : 4001 < m) : f20 m s = some (partS s) := by
 unfold f20 f20_r1 partS
 rw [tl_eq, f33_eq m s hm]
 cases decide (s = ⟨#[]⟩) <;> rfl
theorem f7_item (m : Nat) (a0 : S23) (i j : Nat) (x : S46) (hm : 4001 < m) (hi : i ≤ 1000) (hj : j ≤ 1000) (hn : a0.fClasses.length ≤ 1000) :
  (bnd (f20 m x.fBase) fun v460 => bnd (cnd (!v460) (some true) (bnd (f20 m x.fForm) fun v499 => some (!v499))) fun v468 => f7_r5 m a0 (i : Int) (j : Int) x v468) = if itemBad a0.fClasses.length x ≠ 0 then some (.ret (⟨itemBad a0.fClasses.length x, (i : Int)⟩ : S26)) else some (.nxt (w64 ((j : Int) + 1))) := by
 rw [f20_eq m _ hm, bnd_some', f20_eq m _ hm]
 unfold itemBad
 cases hb : partS x.fBase with
 | false => simp [f7_r5, f18]
 | true =>
  cases hf : partS x.fForm with
  | false => simp [f7_r5, f18]
  | true =>
   simp only [Bool.not_true, cnd_false, bnd_some', Bool.and_self, Bool.false_eq_true, if_false, f7_r5, f21_eq m x.fTags (by omega), tagsS]
   by_cases ht : x.fTags.length > 4
   ·simp [ht, f18]
   ·rw [if_neg ht, if_neg ht]
    cases ha : x.fTags.all nameS with
    | false => simp [f18]
    | true =>
     simp only [if_true, Bool.not_true, Bool.false_eq_true, if_false, bne_self_eq_false, cnd_false, f7_r4, f7_r3, f7_r2]
     have hc : ((((decide (x.fNext < -1) || decide (x.fNext ≥ (a0.fClasses.length : Int))) || decide (x.fWeight < 0)) || decide (x.fWeight > 1000000)) = true) ↔ (x.fNext < -1 ∨ (a0.fClasses.length : Int) ≤ x.fNext ∨ x.fWeight < 0 ∨ 1000000 < x.fWeight) := by
      simp only [Bool.or_eq_true, decide_eq_true_eq, or_assoc, ge_iff_le, gt_iff_lt]
     by_cases h : x.fNext < -1 ∨ (a0.fClasses.length : Int) ≤ x.fNext ∨ x.fWeight < 0 ∨ 1000000 < x.fWeight
     ·rw [hc.2 h, cnd_true, if_pos h]; simp [f18]
     ·have h' : (((decide (x.fNext < -1) || decide (x.fNext ≥ (a0.fClasses.length : Int))) || decide (x.fWeight < 0)) || decide (x.fWeight > 1000000)) = false := by
       rw [← Bool.not_eq_true, hc]; exact h
      rw [h', cnd_false, if_neg h]; simp
theorem f7_names (m : Nat) (a0 : S23) (i : Nat) (c : S44) (hi : i ≤ a0.fClasses.length) (hn : a0.fClasses.length ≤ 40) (hm : 4001 < m) :
  iter (fun (y : Int) => f7_B1 m a0 (i : Int) c y) m 0 = if (a0.fClasses.take i).any (fun d => decide (d.fName = c.fName)) then some (.inl (⟨7, (i : Int)⟩ : S26)) else some (.inr (i : Int)) := by
 have htl : (a0.fClasses.take i).length = i := by rw [List.length_take]; omega
 have e1 : iter (fun (y : Int) => f7_B1 m a0 (i : Int) c y) m 0 = landed (fun (_ : Unit) (i : Int) => i) (a0.fClasses.take i).length (scan (fun _ (_ : Unit) (d : S44) => if !(decide (d.fName = c.fName)) then some (.inr ()) else some (.inl (⟨7, (i : Int)⟩ : S26))) 0 () (a0.fClasses.take i)) := by
  refine iter_scan (a0.fClasses.take i) (fun (y : Int) => f7_B1 m a0 (i : Int) c y) (fun (_ : Unit) (i : Int) => i) _ (fun u k hk => ?_) m 0 () (by omega) (by omega)
  have hb : f7_B1 m a0 (i : Int) c (k : Int) = cnd (decide ((k : Int) < ((a0.fClasses.take i).length : Int))) (bnd (idx (a0.fClasses.take i) (k : Int)) fun v360 => cnd ((v360.fName.toList == c.fName.toList)) (bnd (f18 m 7 (i : Int)) fun v361 => some (.ret v361)) (some (.nxt (w64 ((k : Int) + 1))))) (some (.brk (k : Int))) := by
   unfold f7_B1
   rw [htl]
   by_cases hki : k < i
   ·rw [idx_get, idx_get, List.getElem?_take_of_lt hki]
   ·rw [decide_eq_false (by omega), cnd_false, cnd_false]
  rw [hb]
  refine body_turn rfl fun d hd => ?_
  have hw : w64 ((k : Int) + 1) = (k : Int) + 1 := w64_id ⟨by omega, by omega⟩
  rw [tl_eq]
  by_cases h : d.fName = c.fName
  ·simp [h, f18]
  ·simp [h, hw]
 rw [e1, scan_all (fun d : S44 => !(decide (d.fName = c.fName)))]
 cases hex : (a0.fClasses.take i).any (fun d => decide (d.fName = c.fName)) with
 | true =>
  have : ((a0.fClasses.take i).all fun d => !(decide (d.fName = c.fName))) = false := by
   rw [← Bool.not_eq_true, List.all_eq_true]
   intro h
   obtain ⟨d, hd, he⟩ := List.any_eq_true.1 hex
   have := h d hd
   rw [he] at this; cases this
  rw [this]
  simp [landed]
 | false =>
  have : ((a0.fClasses.take i).all fun d => !(decide (d.fName = c.fName))) = true := by
   rw [List.all_eq_true]
   intro d hd
   have := List.any_eq_false.1 hex d hd
   simpa using this
  rw [this, htl]
  simp [landed]
theorem f7_eq (m : Nat) (a0 : S23) (hm : 4001 < m) : f7 m a0 = some (lexF a0.fClasses) := by
 unfold f7 f7_r8 lexF
 by_cases h : a0.fClasses.length < 1 ∨ 40 < a0.fClasses.length
 ·have : (((a0.fClasses.length : Int) == 0) || decide ((a0.fClasses.length : Int) > 40)) = true := by
   simp only [Bool.or_eq_true, decide_eq_true_eq, beq_iff_eq]; omega
  rw [this, cnd_true, if_pos h]; rfl
 ·have : (((a0.fClasses.length : Int) == 0) || decide ((a0.fClasses.length : Int) > 40)) = false := by
   rw [← Bool.not_eq_true]; simp only [Bool.or_eq_true, decide_eq_true_eq, beq_iff_eq]; omega
  rw [this, cnd_false, if_neg h]
  have e : iter (fun (y : Int) => f7_B7 m a0 y) m 0 = landed (fun (_ : Unit) (i : Int) => i) a0.fClasses.length (scan (fun (i : Int) (_ : Unit) (c : S44) => if classBad a0.fClasses i.toNat c ≠ 0 then some (.inl (⟨classBad a0.fClasses i.toNat c, i⟩ : S26)) else some (.inr ())) 0 () a0.fClasses) := by
   refine iter_scan a0.fClasses (fun (y : Int) => f7_B7 m a0 y) (fun (_ : Unit) (i : Int) => i) _ (fun u k hk => ?_) m 0 () (by omega) (by omega)
   unfold f7_B7
   refine body_turn rfl fun c hc => ?_
   have hkl := lt_of_getElem? hc
   have hw : w64 ((k : Int) + 1) = (k : Int) + 1 := w64_id ⟨by omega, by omega⟩
   rw [f19_eq m _ (by omega), bnd_some', Int.toNat_natCast, hw]
   unfold classBad
   cases hnm : nameS c.fName with
   | false => simp [f18]
   | true =>
    simp only [Bool.not_true, cnd_false, Bool.false_eq_true, if_false]
    rw [f7_names m a0 k c hk (by omega) hm]
    cases hex : (a0.fClasses.take k).any (fun d => decide (d.fName = c.fName)) with
    | true => simp
    | false =>
     simp only [Bool.false_eq_true, if_false, brk_inr]
     by_cases hl : c.fItems.length > 100
     ·rw [decide_eq_true (by omega), cnd_true, if_pos hl]; simp [f18]
     ·rw [decide_eq_false (by omega), cnd_false, if_neg hl]
      have e2 : iter (fun (y : Int) => f7_B6 m a0 (k : Int) c y) m 0 = landed (fun (_ : Unit) (i : Int) => i) c.fItems.length (scan (fun _ (_ : Unit) (x : S46) => if itemBad a0.fClasses.length x ≠ 0 then some (.inl ((fun b => (⟨b, (k : Int)⟩ : S26)) (itemBad a0.fClasses.length x))) else some (.inr ())) 0 () c.fItems) := by
       refine iter_scan c.fItems (fun (y : Int) => f7_B6 m a0 (k : Int) c y) (fun (_ : Unit) (i : Int) => i) _ (fun u j hj => ?_) m 0 () (by omega) (by omega)
       unfold f7_B6
       refine body_turn rfl fun x hx => ?_
       have hwj : w64 ((j : Int) + 1) = (j : Int) + 1 := w64_id ⟨by omega, by omega⟩
       rw [f7_item m a0 k j x hm (by omega) (by omega) (by omega)]
       by_cases h : itemBad a0.fClasses.length x = 0
       ·simp [h, hwj]
       ·simp [h]
      rw [e2, scan_firstC (itemBad a0.fClasses.length) (fun b => (⟨b, (k : Int)⟩ : S26))]
      by_cases h : firstC (itemBad a0.fClasses.length) c.fItems = 0
      ·simp [h, landed]
      ·simp [h, landed]
  rw [e]
  have hsc := scan_lex a0.fClasses a0.fClasses 0
  rw [show ((0 : Nat) : Int) = 0 from rfl] at hsc
  rw [hsc]
  by_cases hz : (lexFrom a0.fClasses 0 a0.fClasses).fCode = 0
  ·rw [if_neg (by simp [hz]), (lexFrom_zero _ _ _ hz).1]; rfl
  ·rw [if_pos hz]; rfl
theorem w64_nat (n : Nat) (h : n ≤ 1000000000) : w64 ((n : Int) + 1) = ((n + 1 : Nat) : Int) := by
 rw [w64_id ⟨by omega, by omega⟩]; omega
end Go.Abs
namespace Go.Abs.Lx
open Go.Lib
set_option linter.unusedVariables false
set_option maxRecDepth 100000
end Go.Abs.Lx
