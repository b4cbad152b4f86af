import Derived.Test.YthjhdnonlkooiaaDoorQD
namespace Go.Abs
set_option linter.unusedVariables false
/-! ### the class of a table -/
theorem firstFault_at {α : Type} {g : Int → α → Option S27} {f : S27} : ∀ {xs : List α} {i : Int}, firstFault g i xs = some f → ∃ (k : Nat) (x : α), xs[k]? = some x ∧ g (i + (k : Int)) x = some f
  | [], _, h => by cases h
  | y :: r, i, h => by
    simp only [firstFault] at h
    cases hg : g i y with
    | some f' =>
      rw [hg] at h; cases h
      exact ⟨0, y, rfl, by simpa using hg⟩
    | none =>
      rw [hg] at h
      obtain ⟨k, x, h1, h2⟩ := firstFault_at h
      refine ⟨k + 1, x, h1, ?_⟩
      rw [show i + ((k + 1 : Nat) : Int) = i + 1 + (k : Int) by omega]
      exact h2
theorem faultS_tags {p : S23} (h : ¬ (faultS p).fCode ≠ 0) : ∀ c ∈ p.fCells, tagsS c.fTags = 0 := by
  intro c hcm
  unfold faultS at h
  cases hn : nameS p.fName with
  | false => rw [hn] at h; exact absurd (by show (10 : Int) ≠ 0; decide) h
  | true =>
    rw [hn] at h
    simp only [Bool.not_true, Bool.false_eq_true, if_false] at h
    by_cases hc : p.fCells.length < 1 ∨ 40 < p.fCells.length
    · rw [if_pos hc] at h; exact absurd (by show (9 : Int) ≠ 0; decide) h
    · rw [if_neg hc] at h
      cases hf : firstFault cellFault 0 p.fCells with
      | none =>
        obtain ⟨j, hj⟩ := firstFault_none hf c hcm
        unfold cellFault at hj
        split at hj
        · cases hj
        · rename_i ht
          exact Decidable.not_not.1 ht
      | some f =>
        rw [hf] at h
        obtain ⟨j, x, hx⟩ := firstFault_some hf
        refine absurd ?_ h
        unfold cellFault at hx
        split at hx
        · rename_i ht; cases hx; exact ht
        · split at hx
          · cases hx
          · cases hx; show (5 : Int) ≠ 0; decide
theorem cls_mem {q : S23 → Bool} {p : S23} (hq : q p = true) : ∀ {ps : List S23} {k : Nat} {i : Int}, ps[k]? = some p → i + (k : Int) ∈ clsS q i ps
  | [], k, i, h => by simp at h
  | y :: r, 0, i, h => by
    simp only [List.getElem?_cons_zero, Option.some.injEq] at h
    subst h
    simp only [clsS, hq, if_true]
    simp
  | y :: r, k + 1, i, h => by
    simp only [List.getElem?_cons_succ] at h
    have := cls_mem hq (i := i + 1) h
    rw [show i + ((k + 1 : Nat) : Int) = i + 1 + (k : Int) by omega]
    simp only [clsS]
    split
    · exact List.mem_cons_of_mem _ this
    · exact this
theorem stands_self (p : S23) (b : ByteArray) : stands p (tabS p b) b = true := by
  unfold stands
  rw [List.all_eq_true]
  intro x hx
  rw [List.any_eq_true]
  refine ⟨x, hx, ?_⟩
  unfold eqC
  simp
theorem xFault_tab {p : S23} {b : ByteArray} (hc : ∀ c ∈ p.fCells, cellOk c) (ht : ∀ c ∈ p.fCells, tagsS c.fTags = 0) : ∀ x ∈ tabS p b, ∀ i, xFault i x = none := by
  intro x hx i
  have hw := (tabS_tags hc x hx).2
  unfold tabS at hx
  obtain ⟨c, h1, h2⟩ := List.mem_filterMap.1 hx
  unfold rowOf at h2
  obtain ⟨s, h3, rfl⟩ := Option.map_eq_some_iff.1 h2
  have := ht c h1
  unfold xFault
  rw [if_neg (by simpa using this), if_pos hw]
theorem f11_in (m : Nat) (a : Int) (l : List Int) (f : S27) (ha : a ∈ l) (hl : l.length ≤ 10000) (hm : 10001 < m) : iter (fun (y : Int) => f11_B2 m a (l, f) y) m 0 = some (.inl true) := by
  have e : iter (fun (y : Int) => f11_B2 m a (l, f) y) m 0 = landed (fun (_ : Unit) (i : Int) => i) l.length (scan (R := Bool) (fun _ (_ : Unit) x => if !(x == a) then some (.inr ()) else some (.inl true)) 0 () l) := by
    refine iter_scan l (fun (y : Int) => f11_B2 m a (l, f) y) (fun (_ : Unit) (i : Int) => i) _ (fun u k hi => ?_) m 0 () (by omega) (by omega)
    unfold f11_B2
    refine body_turn rfl fun x hx => ?_
    have hw : w64 ((k : Int) + 1) = (k : Int) + 1 := w64_id ⟨by omega, by omega⟩
    rw [hw]
    cases x == a <;> rfl
  rw [e, scan_all]
  have : (l.all fun x => !(x == a)) = false := by
    cases h : l.all fun x => !(x == a) with
    | false => rfl
    | true =>
      have := List.all_eq_true.1 h a ha
      simp at this
  rw [this]
  rfl
theorem plain11 (ps : List S23) (at' : Int) (base : ByteArray) : f11 30000 ps at' base = some true := by
  unfold f11
  simp only [f12, f22, bnd_some', Bool.not_true, cnd_false, f11_r5]
  by_cases hr : at' < 0 ∨ (ps.length : Int) ≤ at'
  · have hb : (decide (at' < 0) || decide (at' ≥ (ps.length : Int))) = true := by
      simp only [Bool.or_eq_true, decide_eq_true_eq]; omega
    rw [hb]; rfl
  · have hb : (decide (at' < 0) || decide (at' ≥ (ps.length : Int))) = false := by
      simp only [Bool.or_eq_false_iff, decide_eq_false_iff_not]; omega
    rw [hb, f11_r4, cnd_false]
    obtain ⟨k, rfl⟩ : ∃ k : Nat, at' = (k : Int) := ⟨at'.toNat, by omega⟩
    have hk : k < ps.length := by omega
    rw [idx_get]
    have hp : ps[k]? = some ps[k] := List.getElem?_eq_getElem hk
    rw [hp]
    generalize ps[k] = p at hp
    simp only [bnd_some', f13_eq _ p base (by decide : 4001 < 30000), f11_r3]
    rcases faultS_cases p with ⟨h1, h2, h3, h4, h5⟩ | h
    · rw [h1]
      cases hb : wordS base with
      | false => rfl
      | true =>
        simp only [ne_eq, not_true_eq_false, if_false, if_true, beq_self_eq_true, Bool.true_and, Bool.not_true, Bool.false_or]
        by_cases ht0 : (tabS p base).length = 0
        · have hz : (((tabS p base).length : Int) == 0) = true := by simp [ht0]
          rw [hz]; rfl
        · have hz : (((tabS p base).length : Int) == 0) = false := by simp; simpa using ht0
          have htl := tabS_len p base
          rw [hz, cnd_false, f23_eq _ ps _ (by decide)]
          simp only [bnd_some']
          have htg := faultS_tags (p := p) (by rw [h1]; simp)
          have hxf := xFault_tab (b := base) h5 htg
          unfold clsRes
          by_cases h40 : 40 < ps.length
          · rw [if_pos h40]
            have hd : decide ((ps.length : Int) > 40) = true := decide_eq_true (by omega)
            simp only [f11_r1, hd]
            rfl
          · rw [if_neg h40]
            cases hpf : firstFault pFault 0 ps with
            | some f =>
              obtain ⟨j, x, g1, g2⟩ := firstFault_at hpf
              have hjl : j < ps.length := lt_of_get g1
              unfold pFault at g2
              split at g2
              · rename_i hn
                cases g2
                have hb1 : ((faultS x).fCode == 0) = false := by simpa using hn
                have hb2 : (decide ((0 : Int) + (j : Int) < 0) || decide ((0 : Int) + (j : Int) ≥ (ps.length : Int))) = false := by
                  simp only [Bool.or_eq_false_iff, decide_eq_false_iff_not]; omega
                simp only [hb1, Bool.false_and, Bool.not_false, cnd_true, hb2, f11_r1, cnd_false]
                rw [Int.zero_add, idx_get, g1]
                simp only [bnd_some', f14_eq _ x (by decide : 4001 < 30000), hb1, Bool.false_and, Bool.not_false]
              · cases g2
            | none =>
              have hl : ¬ ((tabS p base).length < 1 ∨ 300 < (tabS p base).length) := by omega
              simp only [if_neg hl]
              cases hxx : firstFault xFault 0 (tabS p base) with
              | some f =>
                obtain ⟨j, x, g1, g2⟩ := firstFault_at hxx
                rw [hxf x (List.mem_of_getElem? g1)] at g2
                cases g2
              | none =>
                simp only [beq_self_eq_true, Bool.true_and, Bool.not_true, cnd_false]
                have hfd : foundB (tabS p base) p = true := foundB_iff.2 ⟨base, hb, stands_self p base⟩
                have hmem := cls_mem hfd (i := 0) hp
                rw [Int.zero_add] at hmem
                have hlen := cls_len (foundB (tabS p base)) 0 ps
                rw [f11_in 30000 (k : Int) _ _ hmem (by omega) (by decide)]
                rfl
    · have hb : ((faultS p).fCode == 0) = false := by simpa using h
      rw [if_pos h]
      simp only [hb, Bool.false_and, Bool.not_false, Bool.true_or, cnd_true]
end Go.Abs
