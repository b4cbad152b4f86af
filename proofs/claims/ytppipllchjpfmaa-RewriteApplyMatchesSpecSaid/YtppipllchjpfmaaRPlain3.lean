import Derived.Test.YtppipllchjpfmaaRPlain
namespace Go.Abs
set_option linter.unusedVariables false
/-! ### the faults, as the document has them -/
theorem f40_eq (m : Nat) (a b : Int) : f40 m a b = some ⟨a, b⟩ := rfl
theorem f29_eq (m : Nat) (a b : Int) : f29 m a b = some ⟨a, b⟩ := rfl
theorem lab_not (x : Int) : (decide (x < 1) || decide (x > 1114111)) = !lab x := by unfold lab; rw [Bool.not_not]
theorem f30_loop3 (m : Nat) (w : List Int) (hl : w.length ≤ 1000000) (hm : w.length < m) : iter (fun (y : Int) => f30_B3 m w y) m 0 = landed (fun (_ : Unit) (i : Int) => i) w.length (if rightS w then some (.inr ()) else some (.inl 3)) := by
  have e : iter (fun (y : Int) => f30_B3 m w y) m 0 = landed (fun (_ : Unit) (i : Int) => i) w.length (scan (fun _ (_ : Unit) x => if lab x then some (.inr ()) else some (.inl 3)) 0 () w) := by
    refine iter_scan w (fun (y : Int) => f30_B3 m w y) (fun (_ : Unit) (i : Int) => i) (fun _ (_ : Unit) x => if lab x then some (.inr ()) else some (.inl 3)) (fun s k hi => ?_) m 0 () (by omega) (by omega)
    refine body_turn rfl fun x hx => ?_
    have hw : w64 ((k : Int) + 1) = (k : Int) + 1 := w64_id ⟨by omega, by omega⟩
    simp only [f30_r2, hw, lab_not]
    by_cases h : lab x = true <;> simp [h]
  rw [e, scan_allP (fun _ x => lab x), allP_all]
  rfl
theorem scan_any_inl {α R : Type} (p : α → Bool) (c : R) (xs : List α) : scan (fun _ (_ : Unit) x => if p x then some (.inr ()) else some (.inl c)) 0 () xs = if xs.all p then some (.inr ()) else some (.inl c) := by
  rw [scan_allP (fun _ x => p x), allP_all]
theorem f30_eq (m : Nat) (r : S28) (hm : 5 < m) : f30 m r = some (ruleF r) := by
  unfold f30 ruleF
  by_cases h0 : r.fFrom.length = 0
  · have hb : (((r.fFrom.length : Int)) == 0) = true := by simp [h0]
    rw [hb, if_pos (.inl (by omega))]
    rfl
  · have hb : (((r.fFrom.length : Int)) == 0) = false := by rw [beq_eq_false_iff_ne]; omega
    rw [hb, cnd_false]
    have e1 : iter (fun (y : Int) => f30_B1 m r y) m 0 = landed (fun (_ : Unit) (i : Int) => i) 4 (scan (fun _ (_ : Unit) (x : List Int) => if decide (x.length ≤ 3) then some (.inr ()) else some (.inl 9)) 0 () [r.fFrom, r.fTo, r.fLeft, r.fRight]) := by
      refine iter_scan [r.fFrom, r.fTo, r.fLeft, r.fRight] (fun (y : Int) => f30_B1 m r y) (fun (_ : Unit) (i : Int) => i) (fun _ (_ : Unit) (x : List Int) => if decide (x.length ≤ 3) then some (.inr ()) else some (.inl 9)) (fun s k hi => ?_) m 0 () (by simp) (by simp; omega)
      refine body_turn rfl fun x hx => ?_
      have hi4 : k ≤ 4 := hi
      have hw : w64 ((k : Int) + 1) = (k : Int) + 1 := w64_id ⟨by omega, by omega⟩
      rw [hw]
      by_cases h : x.length ≤ 3
      · rw [decide_eq_false (by omega : ¬ (x.length : Int) > 3)]; simp [h]
      · rw [decide_eq_true (by omega : (x.length : Int) > 3)]; simp [h]
    rw [e1, scan_any_inl (fun x : List Int => decide (x.length ≤ 3)) 9]
    by_cases hlen : r.fFrom.length ≤ 3 ∧ r.fTo.length ≤ 3 ∧ r.fLeft.length ≤ 3 ∧ r.fRight.length ≤ 3
    · obtain ⟨l1, l2, l3, l4⟩ := hlen
      have ha : ([r.fFrom, r.fTo, r.fLeft, r.fRight].all fun x : List Int => decide (x.length ≤ 3)) = true := by simp [l1, l2, l3, l4]
      have hn : ¬ (r.fFrom.length < 1 ∨ r.fFrom.length > 3 ∨ r.fTo.length > 3 ∨ r.fLeft.length > 3 ∨ r.fRight.length > 3) := by omega
      rw [ha, if_neg hn]
      simp only [if_true, landed, brk_inr]
      have e2 : iter (fun (y : Int) => f30_B4 m r y) m 0 = landed (fun (_ : Unit) (i : Int) => i) 4 (scan (fun _ (_ : Unit) (x : List Int) => if rightS x then some (.inr ()) else some (.inl 3)) 0 () [r.fFrom, r.fTo, r.fLeft, r.fRight]) := by
        refine iter_scan [r.fFrom, r.fTo, r.fLeft, r.fRight] (fun (y : Int) => f30_B4 m r y) (fun (_ : Unit) (i : Int) => i) (fun _ (_ : Unit) (x : List Int) => if rightS x then some (.inr ()) else some (.inl 3)) (fun s k hi => ?_) m 0 () (by simp) (by simp; omega)
        refine body_turn rfl fun x hx => ?_
        have hi4 : k ≤ 4 := hi
        have hw : w64 ((k : Int) + 1) = (k : Int) + 1 := w64_id ⟨by omega, by omega⟩
        have hx3 : x.length ≤ 3 := by
          have := List.mem_of_getElem? hx
          simp only [List.mem_cons, List.not_mem_nil, or_false] at this
          rcases this with rfl | rfl | rfl | rfl <;> assumption
        rw [hw, f30_loop3 m x (by omega) (by omega)]
        by_cases h : rightS x = true <;> simp [h, landed]
      rw [e2, scan_any_inl (fun x : List Int => rightS x) 3]
      cases h1 : rightS r.fFrom <;> cases h2 : rightS r.fTo <;> cases h3 : rightS r.fLeft <;> cases h4 : rightS r.fRight <;> simp [h1, h2, h3, h4, landed]
    · have ha : ([r.fFrom, r.fTo, r.fLeft, r.fRight].all fun x : List Int => decide (x.length ≤ 3)) = false := by
        cases hq : ([r.fFrom, r.fTo, r.fLeft, r.fRight].all fun x : List Int => decide (x.length ≤ 3)) with
        | false => rfl
        | true =>
          simp at hq
          exact (hlen hq).elim
      have hn : r.fFrom.length < 1 ∨ r.fFrom.length > 3 ∨ r.fTo.length > 3 ∨ r.fLeft.length > 3 ∨ r.fRight.length > 3 := by omega
      rw [ha, if_pos hn]
      rfl
theorem f15_eq (m : Nat) (l : List S28) (hm : 40 < m) : f15 m l = some (rulesF l) := by
  unfold f15 rulesF
  by_cases hl : l.length > 40
  · have hb : decide ((l.length : Int) > 40) = true := decide_eq_true (by omega)
    rw [hb, if_pos hl]
    rfl
  · have hb : decide ((l.length : Int) > 40) = false := decide_eq_false (by omega)
    rw [hb, if_neg hl]
    have e : iter (fun (y : Int) => f15_B1 m l y) m 0 = landed (fun (_ : Unit) (i : Int) => i) l.length (scan (fun i (_ : Unit) r => if ruleF r = 0 then some (.inr ()) else some (.inl (⟨ruleF r, i⟩ : S25))) 0 () l) := by
      refine iter_scan l (fun (y : Int) => f15_B1 m l y) (fun (_ : Unit) (i : Int) => i) (fun i (_ : Unit) r => if ruleF r = 0 then some (.inr ()) else some (.inl (⟨ruleF r, i⟩ : S25))) (fun s k hi => ?_) m 0 () (by omega) (by omega)
      refine body_turn rfl fun r hr => ?_
      have hw : w64 ((k : Int) + 1) = (k : Int) + 1 := w64_id ⟨by omega, by omega⟩
      rw [f30_eq m r (by omega)]
      by_cases h : ruleF r = 0
      · simp [h, hw]
      · have hb : (ruleF r != 0) = true := by simpa using h
        simp [h, hb, f29]
    rw [cnd_false, e, scan_firstF]
    cases firstF 0 l <;> rfl
def wordF (w : List Int) : S25 := if w.length > 30 then ⟨2, -2⟩ else if rightS w = true then ⟨0, 0⟩ else ⟨3, -2⟩
theorem f27_eq (m : Nat) (w : List Int) (hm : 40 < m) : f27 m w (-2) = some (wordF w) := by
  unfold f27 wordF
  by_cases hl : w.length > 30
  · rw [decide_eq_true (by omega : (w.length : Int) > 30), if_pos hl]; rfl
  · rw [decide_eq_false (by omega : ¬ (w.length : Int) > 30), if_neg hl, cnd_false]
    have e : iter (fun (y : Int) => f27_B2 m w (-2) y) m 0 = landed (fun (_ : Unit) (i : Int) => i) w.length (scan (fun _ (_ : Unit) x => if lab x then some (.inr ()) else some (.inl (⟨3, -2⟩ : S25))) 0 () w) := by
      refine iter_scan w (fun (y : Int) => f27_B2 m w (-2) y) (fun (_ : Unit) (i : Int) => i) (fun _ (_ : Unit) x => if lab x then some (.inr ()) else some (.inl (⟨3, -2⟩ : S25))) (fun s k hi => ?_) m 0 () (by omega) (by omega)
      refine body_turn rfl fun x hx => ?_
      have hw : w64 ((k : Int) + 1) = (k : Int) + 1 := w64_id ⟨by omega, by omega⟩
      simp only [f27_r1, f40_eq, hw, lab_not]
      by_cases h : lab x = true <;> simp [h]
    rw [e, scan_any_inl lab]
    have hr : w.all lab = rightS w := rfl
    rw [hr]
    by_cases h : rightS w = true <;> simp [h, landed]
/-! ### a part that stands at a place -/
def hasS (w : List Int) (i : Int) (p : List Int) : Bool := decide (0 ≤ i ∧ i + p.length ≤ w.length) && decide ((w.drop i.toNat).take p.length = p)
theorem take_get (w p : List Int) (i : Nat) (h : i + p.length ≤ w.length) : allP (fun k x => w[i + k.toNat]? == some x) 0 p = decide ((w.drop i).take p.length = p) := by
  have main : ∀ (q : List Int) (k : Nat), i + k + q.length ≤ w.length → allP (fun k x => w[i + k.toNat]? == some x) (k : Int) q = decide ((w.drop (i + k)).take q.length = q) := by
    intro q
    induction q with
    | nil => intro k _; simp [allP]
    | cons x q ih =>
      intro k hk
      simp only [List.length_cons] at hk
      have hlt : i + k < w.length := by omega
      have ih := ih (k + 1) (by omega)
      have hc : ((k : Int) + 1) = ((k + 1 : Nat) : Int) := by omega
      have ha : i + k + 1 = i + (k + 1) := rfl
      rw [List.drop_eq_getElem_cons hlt, List.length_cons, List.take_succ_cons, ha]
      simp only [allP, hc, ih, Int.toNat_natCast, List.getElem?_eq_getElem hlt]
      generalize (w.drop (i + (k + 1))).take q.length = t
      generalize w[i + k] = y
      by_cases hx : y = x
      · subst hx
        by_cases hy : t = q <;> simp [hy]
      · simp [hx]
  exact main p 0 (by omega)
theorem f41_eq (m : Nat) (w : List Int) (i : Int) (p : List Int) (hi : -1000 ≤ i ∧ i ≤ 100000) (hw : w.length ≤ 100000) (hp : p.length ≤ 1000) (hm : 1000 < m) : f41 m w i p = some (hasS w i p) := by
  have w1 : w64 (i + (p.length : Int)) = i + (p.length : Int) := w64_id ⟨by omega, by omega⟩
  unfold f41 f41_r2 hasS
  rw [w1]
  by_cases h : 0 ≤ i ∧ i + p.length ≤ w.length
  · have hb : ((decide (i < 0)) || (decide (i + (p.length : Int) > (w.length : Int)))) = false := by
      simp only [Bool.or_eq_false_iff, decide_eq_false_iff_not]
      omega
    obtain ⟨n, rfl⟩ : ∃ n : Nat, i = n := ⟨i.toNat, by omega⟩
    rw [hb, decide_eq_true h, cnd_false, Bool.true_and, Int.toNat_natCast]
    have e : iter (fun (y : Int) => f41_B1 m w n p y) m 0 = landed (fun (_ : Unit) (i : Int) => i) p.length (scan (fun k (_ : Unit) x => if w[n + k.toNat]? == some x then some (.inr ()) else some (.inl false)) 0 () p) := by
      refine iter_scan p (fun (y : Int) => f41_B1 m w n p y) (fun (_ : Unit) (i : Int) => i) (fun k (_ : Unit) x => if w[n + k.toNat]? == some x then some (.inr ()) else some (.inl false)) (fun s k hi => ?_) m 0 () (by omega) (by omega)
      refine body_turn rfl fun x hx => ?_
      have hlt := lt_of_get hx
      have hw1 : w64 ((k : Int) + 1) = (k : Int) + 1 := w64_id ⟨by omega, by omega⟩
      have hw2 : w64 ((n : Int) + (k : Int)) = ((n + k : Nat) : Int) := by rw [w64_id ⟨by omega, by omega⟩]; omega
      have hg : w[n + k]? = some w[n + k] := List.getElem?_eq_getElem (by omega)
      simp only [hw1, hw2, idx_get, hg, bnd_some', Int.toNat_natCast]
      by_cases h : w[n + k] = x
      · simp [h]
      · have hb : (w[n + k] != x) = true := by simpa using h
        simp [h, hb]
    rw [e, scan_allP (fun k x => w[n + k.toNat]? == some x), take_get w p n (by omega)]
    by_cases hq : (w.drop n).take p.length = p <;> simp [hq, landed]
  · have hb : ((decide (i < 0)) || (decide (i + (p.length : Int) > (w.length : Int)))) = true := by
      simp only [Bool.or_eq_true, decide_eq_true_eq]
      omega
    rw [hb, decide_eq_false h]
    rfl
/-! ### the places of a rule -/
theorem match_has (r : S28) (w : List Int) (i : Nat) : (hasS w i r.fFrom && (hasS w ((i : Int) - r.fLeft.length) r.fLeft && hasS w ((i : Int) + r.fFrom.length) r.fRight)) = matchS r w i := by
  unfold hasS matchS
  rw [Bool.eq_iff_iff]
  simp only [Bool.and_eq_true, decide_eq_true_eq]
  have e2 : ((i : Int) + r.fFrom.length).toNat = i + r.fFrom.length := by omega
  rw [e2, Int.toNat_natCast]
  constructor
  · rintro ⟨⟨a1, a2⟩, ⟨b1, b2⟩, c1, c2⟩
    have e1 : ((i : Int) - r.fLeft.length).toNat = i - r.fLeft.length := by omega
    rw [e1] at b2
    exact ⟨⟨by omega, by omega⟩, b2, a2, c2⟩
  · rintro ⟨⟨a1, a2⟩, b2, a3, c2⟩
    have e1 : ((i : Int) - r.fLeft.length).toNat = i - r.fLeft.length := by omega
    rw [e1]
    exact ⟨⟨by omega, a3⟩, ⟨by omega, b2⟩, by omega, c2⟩
/-- the places where the rule applies, from a place on -/
def gP (r : S28) (w : List Int) : Nat → Nat → List Nat
  | 0, _ => []
  | n + 1, i => if i < w.length then (if matchS r w i then i :: gP r w n (i + r.fFrom.length) else gP r w n (i + 1)) else []
theorem gP_enough (r : S28) (w : List Int) (h1 : 1 ≤ r.fFrom.length) : ∀ (n k i : Nat), w.length ≤ n + i → w.length ≤ k + i → gP r w n i = gP r w k i
  | 0, 0, i, hn, hk => rfl
  | 0, k + 1, i, hn, hk => by unfold gP; rw [if_neg (by omega)]
  | n + 1, 0, i, hn, hk => by unfold gP; rw [if_neg (by omega)]
  | n + 1, k + 1, i, hn, hk => by
    unfold gP
    split
    · split
      · rw [gP_enough r w h1 n k _ (by omega) (by omega)]
      · rw [gP_enough r w h1 n k _ (by omega) (by omega)]
    · rfl
def limS (r : S28) (acc : List Nat) : Nat := match acc.getLast? with
  | some p => p + r.fFrom.length
  | none => 0
def castL (l : List Nat) : List Int := l.map fun n : Nat => (n : Int)
theorem once_loop1 (m : Nat) (r : S28) (w : List Int) (hr : okR r) (hw : w.length ≤ 1000) (hm : 1000 < m) : ∀ (d kk i : Nat) (acc : List Nat), w.length = i + d → d < kk → acc.length ≤ i → (∀ p ∈ acc, p ≤ 1000) →
    ∃ j, iter (fun (y : (List Int) × Int) => f28_B6 m r w y.1 y.2) kk (castL acc, (i : Int)) = some (.inr (castL (acc ++ gP r w w.length (max i (limS r acc))), j))
  | d, 0, i, acc, h1, h2, h3, h4 => by omega
  | 0, kk + 1, i, acc, h1, h2, h3, h4 => by
    have hg : gP r w w.length (max i (limS r acc)) = [] := by
      cases hl : w.length with
      | zero => rfl
      | succ n => unfold gP; rw [if_neg (by omega)]
    have e0 : f28_B6 m r w (castL acc) (i : Int) = some (.brk (castL acc, (i : Int))) := by
      unfold f28_B6
      rw [decide_eq_false (by omega : ¬ (i : Int) < (w.length : Int)), cnd_false]
    unfold iter
    simp only [e0, hg, List.append_nil]
    exact ⟨_, rfl⟩
  | d + 1, kk + 1, i, acc, h1, h2, h3, h4 => by
    have hF := hr.f1
    have hF3 := hr.f3
    have hL3 := hr.l3
    have hR3 := hr.r3
    have hw1 : w64 ((i : Int) + 1) = ((i + 1 : Nat) : Int) := by rw [w64_id ⟨by omega, by omega⟩]; omega
    have ev : (bnd (cnd (decide (((castL acc).length : Int) > 0)) (bnd (idx (castL acc) (w64 (((castL acc).length : Int) - 1))) fun v172 => some (decide ((i : Int) < w64 (v172 + (r.fFrom.length : Int))))) (some false)) fun v136 => f28_r5 m r w (castL acc) (i : Int) v136) = f28_r5 m r w (castL acc) (i : Int) (decide (i < limS r acc)) := by
      unfold limS castL
      cases hl : acc.getLast? with
      | none =>
        have : acc = [] := by simpa using hl
        subst this
        simp
      | some p =>
        have hne : acc ≠ [] := by intro h; subst h; simp at hl
        have hpos : 0 < acc.length := List.length_pos_iff.2 hne
        have hp : acc[acc.length - 1]? = some p := by rw [← List.getLast?_eq_getElem?]; exact hl
        have hp4 := h4 p (List.mem_of_getElem? hp)
        have hw3 : w64 (((acc.map fun n : Nat => (n : Int)).length : Int) - 1) = ((acc.length - 1 : Nat) : Int) := by rw [List.length_map, w64_id ⟨by omega, by omega⟩]; omega
        have hw4 : w64 ((p : Int) + (r.fFrom.length : Int)) = ((p + r.fFrom.length : Nat) : Int) := by rw [w64_id ⟨by omega, by omega⟩]; omega
        rw [decide_eq_true (by rw [List.length_map]; omega : ((acc.map fun n : Nat => (n : Int)).length : Int) > 0), cnd_true, hw3, idx_get, List.getElem?_map, hp]
        simp only [Option.map_some, bnd_some', hw4]
        have : decide ((i : Int) < ((p + r.fFrom.length : Nat) : Int)) = decide (i < p + r.fFrom.length) := decide_eq_decide.2 (by omega)
        rw [this]
    have hB : f28_B6 m r w (castL acc) (i : Int) = f28_r5 m r w (castL acc) (i : Int) (decide (i < limS r acc)) := by
      unfold f28_B6
      rw [decide_eq_true (by omega : (i : Int) < (w.length : Int)), cnd_true]
      exact ev
    by_cases hlim : i < limS r acc
    · -- passed over
      have e0 : f28_B6 m r w (castL acc) (i : Int) = some (.nxt (castL acc, ((i + 1 : Nat) : Int))) := by
        rw [hB, decide_eq_true hlim]
        simp only [f28_r5, cnd_true, f28_j1, hw1]
      obtain ⟨j, hj⟩ := once_loop1 m r w hr hw hm d kk (i + 1) acc (by omega) (by omega) (by omega) h4
      have hmx : max (i + 1) (limS r acc) = max i (limS r acc) := by omega
      rw [hmx] at hj
      unfold iter
      simp only [e0]
      exact ⟨j, hj⟩
    · have hw5 : w64 ((i : Int) - (r.fLeft.length : Int)) = (i : Int) - (r.fLeft.length : Int) := w64_id ⟨by omega, by omega⟩
      have hw6 : w64 ((i : Int) + (r.fFrom.length : Int)) = (i : Int) + (r.fFrom.length : Int) := w64_id ⟨by omega, by omega⟩
      have e1 : f28_r5 m r w (castL acc) (i : Int) false = f28_r3 m (castL acc) (i : Int) (matchS r w i) := by
        rw [← match_has]
        unfold f28_r5
        rw [cnd_false, hw5, f41_eq m w i r.fFrom (by omega) (by omega) (by omega) hm, bnd_some']
        cases h : hasS w i r.fFrom with
        | false => simp only [cnd_false, bnd_some', f28_r4, Bool.false_and]
        | true =>
          rw [cnd_true, f41_eq m w _ r.fLeft (by omega) (by omega) (by omega) hm]
          simp only [bnd_some', f28_r4, hw6, Bool.true_and]
          cases h2 : hasS w ((i : Int) - r.fLeft.length) r.fLeft with
          | false => simp only [cnd_false, bnd_some', Bool.false_and]
          | true =>
            rw [cnd_true, f41_eq m w _ r.fRight (by omega) (by omega) (by omega) hm]
            simp only [bnd_some', Bool.true_and]
      have hmx : max i (limS r acc) = i := by omega
      obtain ⟨q, hq⟩ : ∃ q, w.length = q + 1 := ⟨w.length - 1, by omega⟩
      by_cases hmt : matchS r w i = true
      · have hal : (castL acc).length ≤ 1000 := by unfold castL; rw [List.length_map]; omega
        have e0 : f28_B6 m r w (castL acc) (i : Int) = some (.nxt (castL (acc ++ [i]), ((i + 1 : Nat) : Int))) := by
          rw [hB, decide_eq_false hlim, e1, hmt]
          unfold f28_r3
          rw [cnd_true, app_some 8 _ _ (by simp; omega) (by simp; omega)]
          simp only [bnd_some', f28_j2, f28_j1, hw1]
          unfold castL
          rw [List.map_append]
          rfl
        obtain ⟨j, hj⟩ := once_loop1 m r w hr hw hm d kk (i + 1) (acc ++ [i]) (by omega) (by omega) (by simp; omega) (fun p hp => by
          rcases List.mem_append.1 hp with hp | hp
          · exact h4 p hp
          · simp at hp; omega)
        have hl2 : limS r (acc ++ [i]) = i + r.fFrom.length := by unfold limS; simp
        have hmx2 : max (i + 1) (limS r (acc ++ [i])) = i + r.fFrom.length := by omega
        rw [hmx2] at hj
        have hg : gP r w w.length i = i :: gP r w w.length (i + r.fFrom.length) := by
          rw [hq]
          conv => lhs; unfold gP
          rw [if_pos (by omega), if_pos hmt, gP_enough r w hF q (q + 1) _ (by omega) (by omega)]
        rw [hmx, hg]
        unfold iter
        simp only [e0]
        refine ⟨j, ?_⟩
        rw [hj, List.append_assoc]
        rfl
      · have hmt : matchS r w i = false := by simpa using hmt
        have e0 : f28_B6 m r w (castL acc) (i : Int) = some (.nxt (castL acc, ((i + 1 : Nat) : Int))) := by
          rw [hB, decide_eq_false hlim, e1, hmt]
          simp only [f28_r3, cnd_false, f28_j2, f28_j1, hw1]
        obtain ⟨j, hj⟩ := once_loop1 m r w hr hw hm d kk (i + 1) acc (by omega) (by omega) (by omega) h4
        have hmx2 : max (i + 1) (limS r acc) = i + 1 := by omega
        rw [hmx2] at hj
        have hg : gP r w w.length i = gP r w w.length (i + 1) := by
          rw [hq]
          conv => lhs; unfold gP
          rw [if_pos (by omega), if_neg (by rw [hmt]; simp), gP_enough r w hF q (q + 1) _ (by omega) (by omega)]
        rw [hmx, hg]
        unfold iter
        simp only [e0]
        exact ⟨j, hj⟩
/-! ### what replacing at places makes -/
def replF (r : S28) (w : List Int) : Nat → List Nat → List Int
  | i, [] => w.drop i
  | i, p :: ps => (w.drop i).take (p - i) ++ (r.fTo ++ replF r w (p + r.fFrom.length) ps)
/-- places in order, one behind the other -/
def spaced (r : S28) (w : List Int) : Nat → List Nat → Prop
  | _, [] => True
  | i, p :: ps => i ≤ p ∧ p + r.fFrom.length ≤ w.length ∧ spaced r w (p + r.fFrom.length) ps
theorem spaced_le {r : S28} {w : List Int} : ∀ {ps : List Nat} {i j : Nat}, spaced r w i ps → j ≤ i → spaced r w j ps
  | [], i, j, h, hj => trivial
  | p :: ps, i, j, h, hj => ⟨Nat.le_trans hj h.1, h.2⟩
theorem gP_spaced (r : S28) (w : List Int) : ∀ (n i : Nat), spaced r w i (gP r w n i)
  | 0, i => trivial
  | n + 1, i => by
    unfold gP
    split
    · split
      · rename_i hmt
        have hm2 : i + r.fFrom.length ≤ w.length := by
          unfold matchS at hmt
          simp only [Bool.and_eq_true, decide_eq_true_eq] at hmt
          omega
        exact ⟨Nat.le_refl _, hm2, gP_spaced r w n _⟩
      · exact spaced_le (gP_spaced r w n (i + 1)) (by omega)
    · trivial
theorem gP_len (r : S28) (w : List Int) (h1 : 1 ≤ r.fFrom.length) : ∀ (n i : Nat), (gP r w n i).length ≤ w.length - i
  | 0, i => by unfold gP; exact Nat.zero_le _
  | n + 1, i => by
    unfold gP
    split
    · split
      · have := gP_len r w h1 n (i + r.fFrom.length)
        simp only [List.length_cons]
        omega
      · have := gP_len r w h1 n (i + 1)
        omega
    · exact Nat.zero_le _
theorem goS_repl (r : S28) (w : List Int) (h1 : 1 ≤ r.fFrom.length) : ∀ (n i : Nat) (out : List Int), w.length ≤ n + i → goS r w n i out = out ++ replF r w i (gP r w n i)
  | 0, i, out, hn => by
    have : w.drop i = [] := List.drop_eq_nil_of_le (by omega)
    simp only [goS, gP, replF, this, List.append_nil]
  | n + 1, i, out, hn => by
    by_cases hlt : i < w.length
    · have hg : w[i]? = some w[i] := List.getElem?_eq_getElem hlt
      unfold goS gP
      rw [hg, if_pos hlt]
      by_cases hmt : matchS r w i = true
      · simp only [if_pos hmt]
        rw [goS_repl r w h1 n _ _ (by omega)]
        simp [replF]
      · simp only [if_neg hmt]
        rw [goS_repl r w h1 n _ _ (by omega), List.append_assoc]
        congr 1
        have hs := gP_spaced r w n (i + 1)
        generalize gP r w n (i + 1) = ps at hs
        cases ps with
        | nil => simp only [replF]; rw [List.drop_eq_getElem_cons hlt]; rfl
        | cons p ps =>
          have hp : i + 1 ≤ p := hs.1
          simp only [replF]
          rw [List.drop_eq_getElem_cons hlt]
          have : p - i = (p - (i + 1)) + 1 := by omega
          rw [this, List.take_succ_cons]
          rfl
    · have hg : w[i]? = none := List.getElem?_eq_none (by omega)
      unfold goS gP
      rw [hg, if_neg hlt]
      have : w.drop i = [] := List.drop_eq_nil_of_le (by omega)
      simp only [replF, this, List.append_nil]
theorem replF_split (r : S28) (w : List Int) : ∀ (ps : List Nat) (i j : Nat), i ≤ j → spaced r w j ps → replF r w i ps = (w.drop i).take (j - i) ++ replF r w j ps
  | [], i, j, hij, h => by
    simp only [replF]
    have : w.drop j = (w.drop i).drop (j - i) := by rw [List.drop_drop]; congr 1; omega
    rw [this, List.take_append_drop]
  | p :: ps, i, j, hij, h => by
    have hp : j ≤ p := h.1
    simp only [replF]
    have e1 : w.drop j = (w.drop i).drop (j - i) := by rw [List.drop_drop]; congr 1; omega
    have e2 : p - i = (j - i) + (p - j) := by omega
    have e3 : (w.drop i).take (p - i) = (w.drop i).take (j - i) ++ (w.drop j).take (p - j) := by rw [e2, e1, List.take_add]
    rw [e3, List.append_assoc]
theorem replF_len (r : S28) (w : List Int) (ht : r.fTo.length ≤ 3) : ∀ (ps : List Nat) (i : Nat), (replF r w i ps).length ≤ w.length + 3 * ps.length + ps.length * w.length
  | [], i => by simp only [replF, List.length_drop, List.length_nil]; omega
  | p :: ps, i => by
    have ih := replF_len r w ht ps (p + r.fFrom.length)
    have e : (ps.length + 1) * w.length = ps.length * w.length + w.length := Nat.succ_mul _ _
    simp only [replF, List.length_append, List.length_take, List.length_drop, List.length_cons, e]
    omega
theorem once_loop2 (m : Nat) (r : S28) (w : List Int) (P : List Nat) (j0 : Int) (hr : okR r) (hw : w.length ≤ 1000) (hP : spaced r w 0 P) (hPl : P.length ≤ 1000) : ∀ (k kk : Nat), k ≤ P.length → k < kk →
    ∃ j, iter (fun (y : (List Int) × Int) => f28_B7 m r (castL P, j0) y.1 y.2) kk (replF r w 0 (P.drop k), (k : Int) - 1) = some (.inr (replF r w 0 P, j))
  | k, 0, h1, h2 => by omega
  | 0, kk + 1, h1, h2 => by
    have e0 : f28_B7 m r (castL P, j0) (replF r w 0 P) (((0 : Nat) : Int) - 1) = some (.brk (replF r w 0 P, ((0 : Nat) : Int) - 1)) := by
      unfold f28_B7
      rw [decide_eq_false (by omega), cnd_false]
    unfold iter
    simp only [List.drop_zero, e0]
    exact ⟨_, rfl⟩
  | k + 1, kk + 1, h1, h2 => by
    have hF := hr.f1
    have hF3 := hr.f3
    have hlt : k < P.length := by omega
    have hk : ((k + 1 : Nat) : Int) - 1 = (k : Int) := by omega
    have hidx : idx (castL P) (k : Int) = some (P[k] : Int) := by
      rw [idx_get]; unfold castL; rw [List.getElem?_map, List.getElem?_eq_getElem hlt]; rfl
    have hsp : ∀ (k : Nat) (i : Nat) (P : List Nat), spaced r w i P → (hlt : k < P.length) → i ≤ P[k] ∧ P[k] + r.fFrom.length ≤ w.length ∧ spaced r w (P[k] + r.fFrom.length) (P.drop (k + 1)) := by
      intro k
      induction k with
      | zero =>
        intro i P h hlt
        cases P with
        | nil => simp at hlt
        | cons p ps => exact h
      | succ k ih =>
        intro i P h hlt
        cases P with
        | nil => simp at hlt
        | cons p ps =>
          obtain ⟨a, b, c⟩ := ih (p + r.fFrom.length) ps h.2.2 (by simpa using hlt)
          have hp : i ≤ p := h.1
          exact ⟨by simp only [List.getElem_cons_succ]; omega, b, c⟩
    obtain ⟨s1, s2, s3⟩ := hsp k 0 P hP hlt
    generalize hp : P[k] = p at *
    have hd : P.drop k = p :: P.drop (k + 1) := by rw [List.drop_eq_getElem_cons hlt, hp]
    have hlen := replF_len r w hr.t3 (P.drop (k + 1)) 0
    have hlen1 : (P.drop (k + 1)).length ≤ 1000 := by rw [List.length_drop]; omega
    have hmul : (P.drop (k + 1)).length * w.length ≤ 1000 * 1000 := Nat.mul_le_mul hlen1 hw
    have hw1 : w64 ((p : Int) + (r.fFrom.length : Int)) = ((p + r.fFrom.length : Nat) : Int) := by rw [w64_id ⟨by omega, by omega⟩]; omega
    have hw2 : w64 ((k : Int) - 1) = (k : Int) - 1 := w64_id ⟨by omega, by omega⟩
    -- what stands before, and behind
    have hA : replF r w 0 (P.drop (k + 1)) = w.take (p + r.fFrom.length) ++ replF r w (p + r.fFrom.length) (P.drop (k + 1)) := by
      have := replF_split r w (P.drop (k + 1)) 0 (p + r.fFrom.length) (Nat.zero_le _) s3
      rw [this]; simp
    have htl : (w.take (p + r.fFrom.length)).length = p + r.fFrom.length := by rw [List.length_take]; omega
    have hlenA : p + r.fFrom.length ≤ (replF r w 0 (P.drop (k + 1))).length := by rw [hA, List.length_append, htl]; omega
    have hsub1 : sub (replF r w 0 (P.drop (k + 1))) ((p + r.fFrom.length : Nat) : Int) (((replF r w 0 (P.drop (k + 1))).length : Nat) : Int) = some (replF r w (p + r.fFrom.length) (P.drop (k + 1))) := by
      rw [sub_nat _ _ _ hlenA (Nat.le_refl _)]
      congr 1
      rw [List.take_of_length_le (by simp)]
      rw [hA]
      rw [List.drop_append_of_le_length (by omega), List.drop_of_length_le (by omega), List.nil_append]
    have hsub2 : sub (replF r w 0 (P.drop (k + 1))) 0 (p : Int) = some (w.take p) := by
      have := sub_nat (replF r w 0 (P.drop (k + 1))) 0 p (Nat.zero_le _) (by omega)
      rw [Int.ofNat_zero] at this
      rw [this]
      congr 1
      rw [List.drop_zero, Nat.sub_zero, hA, List.take_append_of_le_length (by omega), List.take_take]
      congr 1
      omega
    have hl2 : (replF r w (p + r.fFrom.length) (P.drop (k + 1))).length ≤ (replF r w 0 (P.drop (k + 1))).length := by rw [hA, List.length_append]; omega
    have hl3 : (w.take p).length ≤ 1000 := by rw [List.length_take]; omega
    have ht3 := hr.t3
    have e0 : f28_B7 m r (castL P, j0) (replF r w 0 (P.drop (k + 1))) (((k + 1 : Nat) : Int) - 1) = some (.nxt (replF r w 0 (P.drop k), (k : Int) - 1)) := by
      unfold f28_B7
      rw [hk, decide_eq_true (by omega), cnd_true, hidx]
      simp only [bnd_some', hw1, hw2]
      rw [hsub1]
      simp only [bnd_some']
      rw [app_some 8 [] _ (by simp; omega) (by simp; omega)]
      simp only [bnd_some', List.nil_append]
      rw [hsub2]
      simp only [bnd_some']
      rw [app_some 8 (w.take p) r.fTo (by omega) (by omega)]
      simp only [bnd_some']
      rw [app_some 8 _ _ (by rw [List.length_append]; omega) (by rw [List.length_append]; omega)]
      simp only [bnd_some']
      rw [hd]
      simp only [replF, List.drop_zero, Nat.sub_zero, List.append_assoc]
    obtain ⟨j, hj⟩ := once_loop2 m r w P j0 hr hw hP hPl k kk (by omega) (by omega)
    unfold iter
    simp only [e0]
    exact ⟨j, hj⟩
theorem f28_eq (m : Nat) (r : S28) (w : List Int) (hr : okR r) (hw : w.length ≤ 1000) (hm : 1001 < m) : f28 m r w = some (applyS r w) := by
  have hF := hr.f1
  obtain ⟨j, hj⟩ := once_loop1 m r w hr hw (by omega) w.length m 0 [] (by omega) (by omega) (by simp) (fun p hp => by cases hp)
  have hj : iter (fun (y : (List Int) × Int) => f28_B6 m r w y.1 y.2) m ([], 0) = some (.inr (castL (gP r w w.length 0), j)) := hj
  have hsp := gP_spaced r w w.length 0
  have hpl := gP_len r w hF w.length 0
  have hap : applyS r w = replF r w 0 (gP r w w.length 0) := by
    unfold applyS
    rw [goS_repl r w hF w.length 0 [] (by omega), List.nil_append]
  generalize gP r w w.length 0 = P at *
  unfold f28
  rw [hj]
  simp only [brk_inr]
  rw [app_some 8 [] w (by simp; omega) (by simp; omega)]
  simp only [bnd_some', List.nil_append]
  have hcl : (castL P).length = P.length := by unfold castL; rw [List.length_map]
  have hw1 : w64 (((castL P).length : Int) - 1) = (P.length : Int) - 1 := by rw [hcl, w64_id ⟨by omega, by omega⟩]
  obtain ⟨j2, hj2⟩ := once_loop2 m r w P j hr hw hsp (by omega) P.length m (Nat.le_refl _) (by omega)
  have hd : P.drop P.length = [] := List.drop_of_length_le (Nat.le_refl _)
  have hr0 : replF r w 0 [] = w := by simp [replF]
  rw [hd, hr0] at hj2
  rw [hw1, hj2, hap]
  rfl
theorem f13_loop (m : Nat) (l : List S28) (w : List Int) (hr : ∀ r ∈ l, okR r) (hw : w.length ≤ 300) (hl : l.length ≤ 1000) (hm : 1001 < m) :
    iter (fun (y : (List Int) × Int) => f13_B1 m l y.1 y.2) m (w, 0) = landed (fun (s : List Int) (i : Int) => (s, i)) l.length (scan gAll 0 w l) := by
  refine iter_scan_inv l (fun (y : (List Int) × Int) => f13_B1 m l y.1 y.2) (fun (s : List Int) (i : Int) => (s, i)) gAll (fun s => s.length ≤ 300) (fun s k hs hi => ?_) (fun s s' i x hs hg => ?_) m 0 w hw (by omega) (by omega)
  · refine body_turn rfl fun r hrx => ?_
    have hw : w64 ((k : Int) + 1) = (k : Int) + 1 := w64_id ⟨by omega, by omega⟩
    have hs : s.length ≤ 300 := hs
    rw [f28_eq m r s (hr r (List.mem_of_getElem? hrx)) (by omega) hm]
    simp only [bnd_some', f29_eq, hw, gAll]
    by_cases h : (applyS r s).length > 300
    · have hb : decide (((applyS r s).length : Int) > 300) = true := decide_eq_true (by omega)
      rw [hb]; simp [h]
    · have hb : decide (((applyS r s).length : Int) > 300) = false := decide_eq_false (by omega)
      rw [hb]; simp [h]
  · unfold gAll at hg
    split at hg
    · cases hg
    · cases hg
      show (applyS x s).length ≤ 300
      omega
theorem f13_eq (m : Nat) (l : List S28) (w : List Int) (hm : 1001 < m) : f13 m l w = some (applyF l w) := by
  unfold f13 applyF
  rw [f15_eq m l (by omega)]
  simp only [bnd_some', zero25]
  by_cases h : (rulesF l).fCode ≠ 0 ∨ (rulesF l).fIndex ≠ 0
  · rw [decide_eq_true h, if_pos h]; rfl
  · rw [decide_eq_false h, if_neg h, cnd_false]
    obtain ⟨h40, h0⟩ := rulesF_zero h
    rw [f27_eq m w (by omega)]
    simp only [bnd_some']
    unfold wordF
    by_cases hl : w.length > 30
    · rw [if_pos hl, if_pos hl]; rfl
    · rw [if_neg hl, if_neg hl]
      by_cases hr : rightS w = true
      · rw [if_pos hr, if_pos hr, decide_eq_false (by simp), cnd_false, app_some 8 [] w (by simp; omega) (by simp; omega)]
        simp only [bnd_some', List.nil_append]
        rw [f13_loop m l w (firstF_ok l 0 h0) (by omega) (by omega) hm, ← scan_all]
        cases scan gAll 0 w l with
        | none => rfl
        | some o => cases o <;> rfl
      · rw [if_neg hr, if_neg hr]
        rfl
theorem f10_b : f10 1002 = some true := by kernel_rfl
theorem f11_bad : f11 1002 ([(⟨[], [], [], []⟩ : S28)]) = some ⟨9, 0⟩ := by kernel_rfl
theorem applyF_short (l : List S28) (w : List Int) : (applyF l w).1.length ≤ 300 := by
  rcases applyF_code l w with h | h
  · exact applyF_len l w (by rw [h])
  · have key : ∀ (l : List S28) (i : Int) (w : List Int), (applyAll l i w).2.fCode ≠ 0 → (applyAll l i w).1 = [] := by
      intro l
      induction l with
      | nil => intro i w h; exact (h rfl).elim
      | cons r l ih =>
        intro i w h
        unfold applyAll at h ⊢
        split at h
        · rename_i hc; rw [if_pos hc]
        · rename_i hc; rw [if_neg hc]; exact ih _ _ h
    unfold applyF at h ⊢
    split
    · simp
    · split
      · simp
      · split
        · rename_i h1 h2 h3
          rw [if_neg h1, if_neg h2, if_pos h3] at h
          rw [key l 0 w h]; simp
        · simp
theorem plain3 (l : List S28) (w : List Int) : f3 1002 l w = some true := by
  unfold f3
  rw [f10_b]
  simp only [bnd_some', Bool.not_true, cnd_false]
  rw [f11_bad]
  simp only [bnd_some', beq_self_eq_true, Bool.and_self, Bool.not_true, f3_r3, cnd_false]
  rw [f12_eq 1002 l w (by omega), f13_eq 1002 l w (by omega)]
  simp only [bnd_some', beq_self_eq_true, Bool.and_self, cnd_true]
  have hs := applyF_short l w
  rw [f14_eq 1002 _ _ (by omega) (by omega)]
  simp only [bnd_some', decide_true, f3_r2, cnd_true]
  rw [f11_eq 1002 l (by omega), f15_eq 1002 l (by omega)]
  simp [f3_r1]
end Go.Abs
