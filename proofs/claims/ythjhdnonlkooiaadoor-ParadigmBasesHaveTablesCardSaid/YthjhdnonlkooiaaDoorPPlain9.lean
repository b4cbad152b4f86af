import Derived.Test.YthjhdnonlkooiaaDoorPPlain8
import Derived.Test.YthjhdnonlkooiaaDoorPPlain6T
namespace Go.Abs
set_option linter.unusedVariables false
/-! ### tables and base forms -/
theorem foldl_any {α : Type} (q : α → Bool) : ∀ (l : List α) (s : Bool), l.foldl (fun (s : Bool) (x : α) => s || q x) s = (s || l.any q)
  | [], s => by simp
  | x :: r, s => by simp only [List.foldl_cons, foldl_any q r, List.any_cons, Bool.or_assoc]
theorem mem_bases {p : S23} {form b : ByteArray} (hf : wordS form = true) : b ∈ basesRef p form ↔ ∃ c ∈ p.fCells, changeS form c.fAdd c.fCut = some b := by
  rw [← bases_eq p form hf, (setS_spec _).2, List.mem_filterMap]
theorem f5_in (m : Nat) (base : ByteArray) (l : List ByteArray) (f : S27) (hl : l.length ≤ 10000) (hm : 10001 < m) : iter (fun (y : Bool × Int) => f5_B2 m base (l, f) y.1 y.2) m (false, 0) = some (.inr (l.any (fun x => decide (x = base)), (l.length : Int))) := by
  have e : iter (fun (y : Bool × Int) => f5_B2 m base (l, f) y.1 y.2) m (false, 0) = landed (fun (s : Bool) (i : Int) => (s, i)) l.length (scan (R := Bool) (fun _ s x => some (.inr (s || decide (x = base)))) 0 false l) := by
    refine iter_scan l (fun (y : Bool × Int) => f5_B2 m base (l, f) y.1 y.2) (fun (s : Bool) (i : Int) => (s, i)) _ (fun s k hi => ?_) m 0 false (by omega) (by omega)
    unfold f5_B2
    refine body_turn rfl fun x hx => ?_
    have hw : w64 ((k : Int) + 1) = (k : Int) + 1 := w64_id ⟨by omega, by omega⟩
    simp only [tl_eq, f5_r1, hw]
  rw [e, scan_fold (fun (s : Bool) (x : ByteArray) => s || decide (x = base)), foldl_any]
  rfl
theorem f6_in (m : Nat) (form : ByteArray) (l : List S41) (f : S27) (hl : l.length ≤ 10000) (hm : 10001 < m) : iter (fun (y : Bool × Int) => f6_B2 m form (l, f) y.1 y.2) m (false, 0) = some (.inr (l.any (fun x => decide (x.fForm = form)), (l.length : Int))) := by
  have e : iter (fun (y : Bool × Int) => f6_B2 m form (l, f) y.1 y.2) m (false, 0) = landed (fun (s : Bool) (i : Int) => (s, i)) l.length (scan (R := Bool) (fun _ s x => some (.inr (s || decide (x.fForm = form)))) 0 false l) := by
    refine iter_scan l (fun (y : Bool × Int) => f6_B2 m form (l, f) y.1 y.2) (fun (s : Bool) (i : Int) => (s, i)) _ (fun s k hi => ?_) m 0 false (by omega) (by omega)
    unfold f6_B2
    refine body_turn rfl fun x hx => ?_
    have hw : w64 ((k : Int) + 1) = (k : Int) + 1 := w64_id ⟨by omega, by omega⟩
    simp only [tl_eq, f6_r1, hw]
  rw [e, scan_fold (fun (s : Bool) (x : S41) => s || decide (x.fForm = form)), foldl_any]
  rfl
theorem bases_small {p : S23} {form : ByteArray} (hl : p.fCells.length ≤ 40) (hf : wordS form = true) : (basesRef p form).length ≤ 4840 := by
  obtain ⟨_, _, _, _, h, _⟩ := wordS_spec hf
  exact Nat.le_trans (bases_len p form) (Nat.mul_le_mul hl (Nat.succ_le_succ h))
theorem bases_word {p : S23} {form b : ByteArray} (hf : wordS form = true) (hb : b ∈ basesRef p form) : wordS b = true := by
  obtain ⟨c, _, h⟩ := (mem_bases hf).1 hb
  exact changeS_word h
theorem table_back {p : S23} {base : ByteArray} (hb : wordS base = true) {x : S41} (hx : x ∈ tabS p base) : wordS x.fForm = true ∧ base ∈ basesRef p x.fForm := by
  unfold tabS at hx
  obtain ⟨c, hc, hr⟩ := List.mem_filterMap.1 hx
  unfold rowOf at hr
  obtain ⟨s, hs, rfl⟩ := Option.map_eq_some_iff.1 hr
  have hw := changeS_word hs
  exact ⟨hw, (mem_bases hw).2 ⟨c, hc, (change_back hb hs).1⟩⟩
theorem plain5 (p : S23) (base : ByteArray) : f5 30000 p base = some true := by
  have hm : 4001 < 30000 := by decide
  unfold f5
  rw [f13_eq _ p base hm]
  simp only [f12, bnd_some', Bool.not_true, cnd_false]
  rcases faultS_cases p with ⟨h1, h2, h3, h4, h5⟩ | h
  · rw [h1]
    cases hb : wordS base with
    | false => rfl
    | true =>
      simp only [ne_eq, not_true_eq_false, if_false, if_true, beq_self_eq_true, Bool.true_and, Bool.not_true, cnd_false]
      have htl := tabS_len p base
      have e : iter (fun (y : Int) => f5_B4 30000 p base (tabS p base, (⟨0, 0⟩ : S27)) y) 30000 0 = landed (fun (_ : Unit) (i : Int) => i) (tabS p base).length (scan (R := Bool) (fun _ (_ : Unit) x => if true then some (.inr ()) else some (.inl false)) 0 () (tabS p base)) := by
        refine iter_scan (tabS p base) (fun (y : Int) => f5_B4 30000 p base (tabS p base, (⟨0, 0⟩ : S27)) y) (fun (_ : Unit) (i : Int) => i) _ (fun u k hi => ?_) 30000 0 () (by omega) (by omega)
        unfold f5_B4
        refine body_turn rfl fun x hx => ?_
        have hw : w64 ((k : Int) + 1) = (k : Int) + 1 := w64_id ⟨by omega, by omega⟩
        obtain ⟨g1, g2⟩ := table_back hb (List.mem_of_getElem? hx)
        have hsm := bases_small h2 g1
        rw [f19_eq _ p x.fForm hm, h1, g1]
        simp only [ne_eq, not_true_eq_false, if_false, if_true, bnd_some']
        rw [f5_in 30000 base _ _ (by omega) (by decide)]
        have hany : (basesRef p x.fForm).any (fun x => decide (x = base)) = true := List.any_eq_true.2 ⟨base, g2, by simp⟩
        rw [hany]
        simp only [brk_inr, f5_r3, beq_self_eq_true, Bool.true_and, Bool.not_true, Bool.or_self, cnd_false, hw]
      rw [e, scan_all (fun _ => true)]
      simp [landed]
  · have hb : ((faultS p).fCode == 0) = false := by simpa using h
    rw [if_pos h]
    simp only [hb, Bool.false_and, Bool.not_false, cnd_true]
theorem plain6 (p : S23) (form : ByteArray) : f6 30000 p form = some true := by
  have hm : 4001 < 30000 := by decide
  unfold f6
  rw [f19_eq _ p form hm]
  simp only [f12, bnd_some', Bool.not_true, cnd_false]
  rcases faultS_cases p with ⟨h1, h2, h3, h4, h5⟩ | h
  · rw [h1]
    cases hb : wordS form with
    | false => rfl
    | true =>
      simp only [ne_eq, not_true_eq_false, if_false, if_true, beq_self_eq_true, Bool.true_and, Bool.not_true, cnd_false]
      have hsm := bases_small (p := p) h2 hb
      obtain ⟨hss, hmem⟩ := basesRef_spec p form
      generalize hl : basesRef p form = l at hsm hss hmem
      have e : iter (fun (y : Int) => f6_B5 30000 p form (l, (⟨0, 0⟩ : S27)) y) 30000 0 = landed (fun (_ : Unit) (i : Int) => i) l.length (scan (R := Bool) (fun _ (_ : Unit) x => if true then some (.inr ()) else some (.inl false)) 0 () l) := by
        refine iter_scan l (fun (y : Int) => f6_B5 30000 p form (l, (⟨0, 0⟩ : S27)) y) (fun (_ : Unit) (i : Int) => i) _ (fun u k hi => ?_) 30000 0 () (by omega) (by omega)
        unfold f6_B5
        refine body_turn rfl fun x hx => ?_
        have hw : w64 ((k : Int) + 1) = (k : Int) + 1 := w64_id ⟨by omega, by omega⟩
        obtain ⟨c, hc, n, hn, _, g1, g2⟩ := (hmem x).1 (List.mem_of_getElem? hx)
        have htl := tabS_len p x
        rw [f13_eq _ p x hm, h1, g1]
        simp only [ne_eq, not_true_eq_false, if_false, if_true, bnd_some']
        rw [f6_in 30000 form _ _ (by omega) (by decide)]
        have hany : (tabS p x).any (fun x => decide (x.fForm = form)) = true := g2
        rw [hany]
        simp only [brk_inr, f6_r4, f6_r3, beq_self_eq_true, Bool.true_and, Bool.not_true, Bool.or_self, cnd_false, hw]
        by_cases hk : k = 0
        · subst hk
          rfl
        · have hw2 : w64 ((k : Int) - 1) = ((k - 1 : Nat) : Int) := by rw [w64_id ⟨by omega, by omega⟩]; omega
          have hlt := lt_of_get hx
          have hx1 : idx l ((k - 1 : Nat) : Int) = some l[k - 1] := by rw [idx_get, List.getElem?_eq_getElem (by omega)]
          have hless : lessS l[k - 1] x = true := by
            have := List.pairwise_iff_getElem.1 hss (k - 1) k (by omega) hlt (by omega)
            rw [List.getElem?_eq_getElem hlt] at hx
            rw [← Option.some.inj hx]
            exact this
          rw [decide_eq_true (by omega), hw2, hx1]
          simp only [cnd_true, bnd_some', less_eq, hless, Bool.not_true, cnd_false]
      rw [e, scan_all (fun _ => true)]
      simp [landed]
  · have hb : ((faultS p).fCode == 0) = false := by simpa using h
    rw [if_pos h]
    simp only [hb, Bool.false_and, Bool.not_false, cnd_true]
end Go.Abs
