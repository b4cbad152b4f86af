/-
  GUESS, the plain laws: all tags are told once, and the counts are all samples.
-/
import Derived.Test.YtgieobehohljnaaDoorQB
import Derived.Test.YtgieobehohljnaaDoorWLaw
namespace Go.Abs
open Go.Sort Go.Proofs
set_option linter.unusedVariables false

theorem sum_add {α : Type} (f g : α → Nat) : ∀ T : List α, (T.map fun t => f t + g t).sum = (T.map f).sum + (T.map g).sum
  | [] => rfl
  | t :: T => by simp only [List.map_cons, List.sum_cons, sum_add f g T]; omega
theorem sum_zero (u : ByteArray) : ∀ T : List ByteArray, u ∉ T → (T.map fun t => if u = t then 1 else 0).sum = 0
  | [], _ => rfl
  | t :: T, h => by
    simp only [List.mem_cons, not_or] at h
    simp only [List.map_cons, List.sum_cons, if_neg h.1, sum_zero u T h.2]
theorem sum_one (u : ByteArray) : ∀ T : List ByteArray, T.Nodup → u ∈ T → (T.map fun t => if u = t then 1 else 0).sum = 1
  | t :: T, hn, hu => by
    simp only [List.nodup_cons] at hn
    rcases List.mem_cons.1 hu with rfl | hu
    · simp only [List.map_cons, List.sum_cons, if_true, sum_zero u T hn.1]
    · have hne : u ≠ t := fun e => hn.1 (e ▸ hu)
      simp only [List.map_cons, List.sum_cons, if_neg hne, sum_one u T hn.2 hu]
theorem sum_tags (T : List ByteArray) (hn : T.Nodup) : ∀ ys : List Smp, (∀ y ∈ ys, y.2 ∈ T) → (T.map fun t => ys.countP fun y => decide (y.2 = t)).sum = ys.length
  | [], _ => by
    have : ∀ T : List ByteArray, (T.map fun _ => 0).sum = 0 := fun T => by induction T with
      | nil => rfl
      | cons t T ih => simp only [List.map_cons, List.sum_cons, ih]
    simpa using this T
  | y :: r, h => by
    have ih := sum_tags T hn r fun z hz => h z (List.mem_cons_of_mem _ hz)
    have e : (fun t => (y :: r).countP fun z => decide (z.2 = t)) = fun t => (r.countP fun z => decide (z.2 = t)) + if y.2 = t then 1 else 0 := by
      funext t
      rw [List.countP_cons]
      simp
    rw [e, sum_add, ih, sum_one y.2 T hn (h y List.mem_cons_self)]
    rfl
theorem cntN_nil (ys : List Smp) (t : ByteArray) : cntN ys [] t = ys.countP fun y => decide (y.2 = t) := by
  unfold cntN
  congr 1
  funext y
  simp
def g8 (i : Int) (s : Int) (x : S44) : Option (Bool ⊕ Int) := if 0 < x.fLength then some (.inl (decide (x.fCount > 0))) else some (.inr (w64 (s + x.fCount)))
theorem g8_sum (c : S44 → Nat) : ∀ (r : List S44) (i s : Int), (∀ x ∈ r, ¬ 0 < x.fLength ∧ x.fCount = (c x : Int)) → 0 ≤ s → s + ((r.map c).sum : Int) ≤ 1000 → scan g8 i s r = some (.inr (s + ((r.map c).sum : Int)))
  | [], i, s, _, _, _ => by simp [scan]
  | x :: r, i, s, h, h0, h1 => by
    obtain ⟨h2, h3⟩ := h x List.mem_cons_self
    simp only [List.map_cons, List.sum_cons] at h1 ⊢
    have hw : w64 (s + x.fCount) = s + x.fCount := w64_id ⟨by omega, by omega⟩
    simp only [scan, g8, if_neg h2, hw]
    rw [g8_sum c r (i + 1) (s + x.fCount) (fun y hy => h y (List.mem_cons_of_mem _ hy)) (by omega) (by omega), h3]
    congr 2
    omega
theorem tags_ne {r : List S44} (hn : (r.map (·.fTag)).Nodup) {k : Nat} {x : S44} (hx : r[k]? = some x) : ∀ z ∈ r.take k, z.fTag ≠ x.fTag := by
  intro z hz e
  obtain ⟨i, hi⟩ := List.mem_iff_getElem?.1 hz
  have hil : i < k := by
    have := lt_of_getElem? hi
    simp at this; omega
  rw [List.getElem?_take_of_lt hil] at hi
  obtain ⟨h1, rfl⟩ := List.getElem?_eq_some_iff.1 hi
  obtain ⟨h2, rfl⟩ := List.getElem?_eq_some_iff.1 hx
  exact List.pairwise_iff_getElem.1 hn i k (by simpa using h1) (by simpa using h2) hil (by simpa using e)
theorem f8_inner (m : Nat) (r : List S44) (f : S27) (k : Nat) (x : S44) (hm : r.length < m) (hr : r.length ≤ 1000) (hx : r[k]? = some x) (hn : (r.map (·.fTag)).Nodup) : iter (fun (y : Int) => f8_B1 m (r, f) (k : Int) x y) m 0 = some (.inr (k : Int)) := by
  have hkl := lt_of_getElem? hx
  have hlen : (r.take k).length = k := by simp; omega
  have e : iter (fun (y : Int) => f8_B1 m (r, f) (k : Int) x y) m 0 = landed (fun (_ : Unit) (i : Int) => i) (r.take k).length (scan (R := Bool) (fun _ (_ : Unit) z => if (fun z : S44 => !(z.fTag.toList == x.fTag.toList)) z then some (.inr ()) else some (.inl false)) 0 () (r.take k)) := by
    refine iter_scan (r.take k) (fun (y : Int) => f8_B1 m (r, f) (k : Int) x y) (fun (_ : Unit) (i : Int) => i) _ (fun u j hj => ?_) m 0 () (by omega) (by omega)
    unfold f8_B1
    have hk2 : (k : Int) = ((r.take k).length : Int) := by rw [hlen]
    rw [hk2]
    refine body_turn' rfl fun z hz => ?_
    have hjk : j < k := by have := lt_of_getElem? hz; omega
    have hw : w64 ((j : Int) + 1) = (j : Int) + 1 := w64_id ⟨by omega, by omega⟩
    rw [List.getElem?_take_of_lt hjk] at hz
    rw [idx_get, hz]
    simp only [bnd_some', hw]
    rcases Bool.eq_false_or_eq_true (z.fTag.toList == x.fTag.toList) with hb | hb
    · simp only [hb, cnd_true, Bool.not_true, Bool.false_eq_true, if_false]
    · simp only [hb, cnd_false, Bool.not_false, if_true]
  rw [e, scan_all (fun z : S44 => !(z.fTag.toList == x.fTag.toList))]
  have hall : (r.take k).all (fun z : S44 => !(z.fTag.toList == x.fTag.toList)) = true := by
    rw [List.all_eq_true]
    intro z hz
    have := beqB'.2 (tags_ne hn hx z hz)
    simp [this]
  rw [hall]
  simp [landed, hlen]
theorem f8_loop (m : Nat) (r : List S44) (f : S27) (hm : 4001 < m) (hr : r.length ≤ 1000) (hn : (r.map (·.fTag)).Nodup) : iter (fun (y : Int × Int) => f8_B2 m (r, f) y.1 y.2) m (0, 0) = landed (fun (s : Int) (i : Int) => (s, i)) r.length (scan g8 0 0 r) := by
  refine iter_scan r (fun (y : Int × Int) => f8_B2 m (r, f) y.1 y.2) (fun (s : Int) (i : Int) => (s, i)) g8 (fun s k hk => ?_) m 0 0 (by omega) (by omega)
  unfold f8_B2
  refine body_turn' rfl fun x hx => ?_
  have hw : w64 ((k : Int) + 1) = (k : Int) + 1 := w64_id ⟨by omega, by omega⟩
  rw [idx_get, hx]
  simp only [bnd_some', f8_inner m r f k x (by omega) hr hx hn, brk_inr, hw, g8]
  by_cases h : 0 < x.fLength
  · rw [decide_eq_true (by omega : x.fLength > 0), if_pos h]; rfl
  · rw [decide_eq_false (by omega : ¬ x.fLength > 0), if_neg h]; rfl
theorem plain8 (a0 : List S39) (a1 : ByteArray) (h0 : (WL W40) a0) (h1 : WStr a1) : ∃ m, f8 m a0 a1 = some true := by
  refine ⟨5000, ?_⟩
  have hm : 4001 < 5000 := by omega
  unfold f8
  rw [f9_true 5000 hm, bnd_some', f11_eq 5000 hm]
  simp only [Bool.not_true, cnd_false, bnd_some', f8_r4]
  cases hf : flt a0 with
  | some f =>
    simp only [Option.getD_some, isz_no (flt_code hf), Bool.not_false, cnd_true, bnd_some']
  | none =>
    obtain ⟨hl, hall⟩ := flt_none hf
    have hz : ((((Option.none : Option S27).getD ⟨0, 0⟩).fCode == 0) && ((((Option.none : Option S27).getD ⟨0, 0⟩).fIndex == 0) && true)) = true := rfl
    rw [hz]
    simp only [Bool.not_true, cnd_false, f13_eq 5000 a1 hm, bnd_some']
    cases hw : wordS a1 with
    | false => simp only [Bool.not_false, cnd_true]
    | true =>
      obtain ⟨r, e1, r1⟩ := f12_good 5000 (by rw [ysOf_len]; exact hl) hw (ys := ysOf a0)
      have hrl := r1.len
      rw [ysOf_len] at hrl
      simp only [Bool.not_true, cnd_false, f10_good 5000 hf, bnd_some', e1, f8_r3]
      have hz2 : (!((((0 : Int) == 0) && (((0 : Int) == 0) && true))) || !((((0 : Int) == 0) && (((0 : Int) == 0) && true)))) = false := rfl
      rw [hz2, cnd_false, f8_loop 5000 r ⟨0, 0⟩ hm (by omega) r1.inv.1]
      by_cases hpos : ∃ x ∈ r, 0 < x.fLength
      · obtain ⟨x, hx, hxl⟩ := hpos
        cases r with
        | nil => cases hx
        | cons z r =>
          have h2 := head_long r1.srt hx
          obtain ⟨i, _, _, g3, g4, _⟩ := (r1.inv.2 z).1 List.mem_cons_self
          have hzc : decide (z.fCount > 0) = true := decide_eq_true (by omega)
          simp only [scan, g8, if_pos (by omega : 0 < z.fLength), hzc]
          rfl
      · have hno : ∀ x ∈ r, ¬ 0 < x.fLength := fun x hx h => hpos ⟨x, hx, h⟩
        have hc : ∀ x ∈ r, x.fCount = (((ysOf a0).countP fun y => decide (y.2 = x.fTag) : Nat) : Int) := by
          intro x hx
          obtain ⟨i, _, g2, g3, _, _⟩ := (r1.inv.2 x).1 hx
          have := hno x hx
          have hi : i = 0 := by omega
          subst hi
          rw [g3, List.take_zero, cntN_nil]
        have hcov : ∀ y ∈ ysOf a0, y.2 ∈ r.map (·.fTag) := by
          intro y hy
          have hp : 0 < cntN (ysOf a0) ((ltr a1).reverse.take 0) y.2 := by
            rw [List.take_zero, cntN_nil]
            exact List.countP_pos_iff.2 ⟨y, hy, by simp⟩
          obtain ⟨x, e, h2, _⟩ := Pm.cover hp (min 5 (ltr a1).reverse.length) (Nat.zero_le _)
          rw [← e]
          exact List.mem_map_of_mem ((r1.inv.2 x).2 h2)
        have hsum := sum_tags _ r1.inv.1 (ysOf a0) hcov
        rw [List.map_map, ysOf_len] at hsum
        have hsum' : (r.map fun x => (ysOf a0).countP fun y => decide (y.2 = x.fTag)).sum = a0.length := hsum
        rw [g8_sum (fun x => (ysOf a0).countP fun y => decide (y.2 = x.fTag)) r 0 0 (fun x hx => ⟨hno x hx, hc x hx⟩) (Int.le_refl _) (by rw [hsum']; omega), hsum']
        simp [landed, brk]
end Go.Abs
