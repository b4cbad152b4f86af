/-
  GUESS, the plain law: for a word that is known, the first guess is suggested by the longest suffix that is looked at, and its own tag is, too.
-/
import Derived.Test.YtgieobehohljnaaDoorQB
import Derived.Test.YtgieobehohljnaaDoorWLaw
namespace Go.Abs
open Go.Sort Go.Proofs
set_option linter.unusedVariables false

def g4 (t : ByteArray) (n : Int) (i : Int) (_ : Unit) (x : S44) : Option (Bool ⊕ Unit) := if x.fTag.toList == t.toList then some (.inl ((x.fLength == n) && decide (x.fCount ≥ 1))) else some (.inr ())
theorem g4_find (t : ByteArray) (n : Int) : ∀ (r : List S44) (i : Int), (∃ x ∈ r, x.fTag = t) → (∀ x ∈ r, x.fTag = t → x.fLength = n ∧ 1 ≤ x.fCount) → scan (g4 t n) i () r = some (.inl true)
  | [], _, h, _ => by obtain ⟨x, hx, _⟩ := h; cases hx
  | x :: r, i, h, ha => by
    by_cases hx : x.fTag = t
    · have hb : (x.fTag.toList == t.toList) = true := beqB.2 hx
      obtain ⟨h1, h2⟩ := ha x List.mem_cons_self hx
      simp only [scan, g4, hb, if_true, h1]
      rw [decide_eq_true (by omega : x.fCount ≥ 1)]
      simp
    · have hb : (x.fTag.toList == t.toList) = false := beqB'.2 hx
      simp only [scan, g4, hb, Bool.false_eq_true, if_false]
      refine g4_find t n r (i + 1) ?_ fun y hy => ha y (List.mem_cons_of_mem _ hy)
      obtain ⟨y, hy, e⟩ := h
      rcases List.mem_cons.1 hy with rfl | hy
      · exact absurd e hx
      · exact ⟨y, hy, e⟩
theorem f4_j6_eq (m : Nat) (hm : 4001 < m) (a0 : List S39) (i : Nat) (s : S39) (hs : a0[i]? = some s) (g : S25) (r : List S44) (hr : r.length ≤ 1000) (n : Nat) (h1 : ∃ x ∈ r, x.fTag = s.fTag) (h2 : ∀ x ∈ r, x.fTag = s.fTag → x.fLength = (n : Int) ∧ 1 ≤ x.fCount) (h3 : ∀ z l, r = z :: l → z.fLength = (n : Int)) : f4_j6 m a0 (i : Int) (g, ⟨0, 0⟩) (r, ⟨0, 0⟩) (n : Int) = some true := by
  obtain ⟨z, l, rfl⟩ : ∃ z l, r = z :: l := by
    obtain ⟨x, hx, _⟩ := h1
    cases r with
    | nil => cases hx
    | cons z l => exact ⟨z, l, rfl⟩
  have hz := h3 z l rfl
  have hl : ((((z :: l).length : Nat) : Int) == 0) = false := by simp only [List.length_cons, beq_eq_false_iff_ne, ne_eq]; omega
  have hne : (z.fLength != (n : Int)) = false := by simp [hz]
  have hi0 : idx (z :: l) 0 = some z := rfl
  unfold f4_j6 f4_r5 f4_r4
  have hb : (!((((0 : Int) == 0) && (((0 : Int) == 0) && true))) || !((((0 : Int) == 0) && (((0 : Int) == 0) && true)))) = false := rfl
  simp only [hb, hl, Bool.or_false, cnd_false, hi0, bnd_some', hne, f4_r3]
  have e : iter (fun (y : Int) => f4_B2 m a0 (i : Int) (z :: l, ⟨0, 0⟩) (n : Int) y) m 0 = landed (fun (_ : Unit) (i : Int) => i) (z :: l).length (scan (g4 s.fTag (n : Int)) 0 () (z :: l)) := by
    refine iter_scan (z :: l) (fun (y : Int) => f4_B2 m a0 (i : Int) (z :: l, ⟨0, 0⟩) (n : Int) y) (fun (_ : Unit) (i : Int) => i) _ (fun u k hk => ?_) m 0 () (by omega) (by omega)
    unfold f4_B2
    refine body_turn' rfl fun x hx => ?_
    have hw : w64 ((k : Int) + 1) = (k : Int) + 1 := w64_id ⟨by omega, by omega⟩
    rw [idx_get, hx, bnd_some', idx_get, hs, bnd_some']
    simp only [g4, f4_r1, hw]
    rcases Bool.eq_false_or_eq_true (x.fTag.toList == s.fTag.toList) with hb | hb
    · simp only [hb, cnd_true, if_true]
    · simp only [hb, cnd_false, Bool.false_eq_true, if_false]
  rw [e, g4_find s.fTag n (z :: l) 0 h1 h2]
  rfl
theorem plain4 (a0 : List S39) (a1 : Int) (h0 : (WL W40) a0) (h1 : WI a1) : ∃ m, f4 m a0 a1 = some true := by
  refine ⟨5000, ?_⟩
  have hm : 4001 < 5000 := by omega
  unfold f4
  rw [f9_true 5000 hm, bnd_some', f11_eq 5000 hm]
  simp only [Bool.not_true, cnd_false, bnd_some', f4_r8, f4_r7]
  cases hf : flt a0 with
  | some f =>
    simp only [Option.getD_some, isz_no (flt_code hf), Bool.not_false, Bool.true_or, cnd_true]
  | none =>
    obtain ⟨hl, hall⟩ := flt_none hf
    have hz : ((((Option.none : Option S27).getD ⟨0, 0⟩).fCode == 0) && ((((Option.none : Option S27).getD ⟨0, 0⟩).fIndex == 0) && true)) = true := rfl
    rw [hz]
    by_cases hr : 0 ≤ a1 ∧ a1 < (a0.length : Int)
    · obtain ⟨i, rfl⟩ : ∃ i : Nat, a1 = (i : Int) := ⟨a1.toNat, by omega⟩
      have hb : ((!true || decide ((i : Int) < 0)) || decide ((i : Int) ≥ (a0.length : Int))) = false := by
        rw [decide_eq_false (by omega), decide_eq_false (by omega)]; rfl
      have hil : i < a0.length := by omega
      obtain ⟨s, hs⟩ : ∃ s, a0[i]? = some s := ⟨_, List.getElem?_eq_getElem hil⟩
      have hsm := List.mem_of_getElem? hs
      have hw := (hall s hsm).1
      have hll := ltr_len hw
      obtain ⟨r, e1, r1⟩ := f12_good 5000 (by rw [ysOf_len]; exact hl) hw (ys := ysOf a0)
      have hrl := r1.len
      rw [ysOf_len] at hrl
      rw [hb, cnd_false, f10_good 5000 hf]
      simp only [bnd_some', idx_get, hs, e1, f16_ok hm hw]
      have hrev : (ltr s.fWord).reverse.length = (ltr s.fWord).length := List.length_reverse
      -- what is told
      have key : ∀ n : Nat, n = min 5 (ltr s.fWord).length → f4_j6 5000 a0 (i : Int) (⟨some (buildG (ysOf a0))⟩, ⟨0, 0⟩) (r, ⟨0, 0⟩) (n : Int) = some true := by
        intro n hn
        have hpos : 0 < cntN (ysOf a0) ((ltr s.fWord).reverse.take n) s.fTag := by
          unfold cntN
          refine List.countP_pos_iff.2 ⟨((ltr s.fWord).reverse, s.fTag), List.mem_map_of_mem (f := fun s : S39 => ((ltr s.fWord).reverse, s.fTag)) hsm, ?_⟩
          simp [List.take_prefix]
        have hmax : ∀ x ∈ r, x.fLength ≤ (n : Int) := by
          intro x hx
          obtain ⟨j, g1, g2, _⟩ := (r1.inv.2 x).1 hx
          rw [hrev] at g1
          omega
        obtain ⟨x, ex, hx, hxl, _⟩ := Pm.cover hpos (min 5 (ltr s.fWord).reverse.length) (by rw [hrev]; omega)
        have hxr : x ∈ r := (r1.inv.2 x).2 hx
        have hxn : x.fLength = (n : Int) := by have := hmax x hxr; omega
        refine f4_j6_eq 5000 hm a0 i s hs _ r (by omega) n ⟨x, hxr, ex⟩ (fun y hy e => ?_) fun z l e => ?_
        · obtain ⟨j, g1, g2, g3, g4, g5⟩ := (r1.inv.2 y).1 hy
          rw [hrev] at g1
          have hjn : j = n := by
            rcases Nat.lt_or_ge j n with h | h
            · have := g5 n h (by rw [hrev]; omega)
              rw [e] at this
              omega
            · omega
          exact ⟨by omega, by omega⟩
        · subst e
          have h4 := head_long r1.srt hxr
          have h5 := hmax z List.mem_cons_self
          omega
      by_cases h5 : (ltr s.fWord).length > 5
      · rw [decide_eq_true (by omega : ((ltr s.fWord).length : Int) > 5), cnd_true]
        exact key 5 (by omega)
      · rw [decide_eq_false (by omega : ¬ ((ltr s.fWord).length : Int) > 5), cnd_false]
        exact key _ (by omega)
    · have hb : ((!true || decide (a1 < 0)) || decide (a1 ≥ (a0.length : Int))) = true := by
        simp only [Bool.not_true, Bool.false_or, Bool.or_eq_true, decide_eq_true_eq]; omega
      rw [hb, cnd_true]
end Go.Abs
