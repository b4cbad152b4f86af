import Derived.Test.YtppipllchjpfmaaWPlain
namespace Go.Abs
set_option linter.unusedVariables false
/-! ### general: loops that look for the first element that fails -/
def allP {α : Type} (P : Int → α → Bool) : Int → List α → Bool
  | _, [] => true
  | i, x :: r => P i x && allP P (i + 1) r
theorem scan_allP {α R : Type} (P : Int → α → Bool) (c : R) : ∀ (xs : List α) (i : Int), scan (fun i (_ : Unit) x => if P i x then some (.inr ()) else some (.inl c)) i () xs = if allP P i xs then some (.inr ()) else some (.inl c)
  | [], i => rfl
  | x :: r, i => by
    by_cases h : P i x = true
    · simp only [scan, h, if_true, allP, Bool.true_and]
      exact scan_allP P c r (i + 1)
    · simp [scan, allP, h]
def firstP {α : Type} (P : α → Bool) : Int → List α → Option Int
  | _, [] => none
  | i, x :: r => if P x then firstP P (i + 1) r else some i
theorem scan_firstP {α R : Type} (P : α → Bool) (c : Int → R) : ∀ (xs : List α) (i : Int), scan (fun i (_ : Unit) x => if P x then some (.inr ()) else some (.inl (c i))) i () xs = match firstP P i xs with
    | none => some (.inr ())
    | some j => some (.inl (c j))
  | [], i => rfl
  | x :: r, i => by
    by_cases h : P x = true
    · simp only [scan, h, if_true, firstP]
      exact scan_firstP P c r (i + 1)
    · simp [scan, firstP, h]
theorem firstP_ge {α : Type} (P : α → Bool) : ∀ (xs : List α) (i j : Int), firstP P i xs = some j → i ≤ j
  | [], i, j, h => by cases h
  | x :: r, i, j, h => by
    unfold firstP at h
    split at h
    · have := firstP_ge P r (i + 1) j h; omega
    · cases h; omega
/-- a body that does not name the element -/
theorem body_turn' {α R S A : Type} {xs : List α} {mk : S → Int → A} {g : Int → S → α → Option (R ⊕ S)} {s : S} {i : Nat} {K : Option (Stp R A)} {z : A} (hz : z = mk s i)
    (hK : ∀ x, xs[i]? = some x → K = match g i s x with
      | some (.inl r) => some (.ret r)
      | some (.inr s') => some (.nxt (mk s' ((i : Int) + 1)))
      | none => none) : cnd (decide ((i : Int) < (xs.length : Int))) K (some (.brk z)) = turn xs mk g s i := by
  unfold turn
  rcases Nat.lt_or_ge i xs.length with hlt | hge
  · have h1 : decide ((i : Int) < (xs.length : Int)) = true := by simpa using hlt
    have h3 := List.getElem?_eq_getElem hlt
    rw [h1, h3]
    exact hK _ h3
  · have h1 : decide ((i : Int) < (xs.length : Int)) = false := by simpa using hge
    rw [h1, List.getElem?_eq_none hge, hz]
    rfl
theorem lt_of_get {α : Type} {l : List α} {i : Nat} {x : α} (h : l[i]? = some x) : i < l.length := by
  rcases Nat.lt_or_ge i l.length with h' | h'
  · exact h'
  · rw [List.getElem?_eq_none h'] at h; cases h
/-! ### what valid rules are -/
theorem pairS_ok {l : Int} {p : S39} (h : pairS l p = 0) : l ≤ p.fLexical ∧ l ≤ p.fSurface := by
  unfold pairS at h
  split at h
  · cases h
  · rename_i hn
    omega
theorem spots_ok : ∀ {xs : List S39}, spotsS xs = 0 → ∀ s ∈ xs, okSpot s
  | [], h, s, hs => by cases hs
  | p :: r, h, s, hs => by
    unfold spotsS at h
    split at h
    · rename_i hp
      rcases List.mem_cons.1 hs with rfl | hs
      · exact pairS_ok hp
      · exact spots_ok h s hs
    · rename_i hp
      exact (hp h).elim
def okCtx (c : S64) : Prop := c.fLeft.length ≤ 3 ∧ c.fRight.length ≤ 3 ∧ (∀ s ∈ c.fLeft, okSpot s) ∧ ∀ s ∈ c.fRight, okSpot s
theorem ctx_ok {c : S64} (h : ctxS c = 0) : okCtx c := by
  unfold ctxS at h
  split at h
  · cases h
  · split at h
    · rename_i h1 h2
      exact (h2 h).elim
    · rename_i h1 h2
      refine ⟨by omega, by omega, spots_ok (Decidable.byContradiction h2), spots_ok h⟩
theorem ctxs_ok : ∀ {xs : List S64}, ctxsS xs = 0 → ∀ c ∈ xs, okCtx c
  | [], h, s, hs => by cases hs
  | p :: r, h, s, hs => by
    unfold ctxsS at h
    split at h
    · rename_i hp
      rcases List.mem_cons.1 hs with rfl | hs
      · exact ctx_ok hp
      · exact ctxs_ok h s hs
    · rename_i hp
      exact (hp h).elim
def okRule (r : S42) : Prop := (1 ≤ r.fKind ∧ r.fKind ≤ 4) ∧ r.fContexts.length ≤ 3 ∧ ∀ c ∈ r.fContexts, okCtx c
theorem rule_ok {r : S42} (h : ruleS r = 0) : okRule r := by
  unfold ruleS at h
  split at h
  · cases h
  · split at h
    · rename_i h1 h2
      exact (h2 h).elim
    · split at h
      · cases h
      · rename_i h1 h2 h3
        refine ⟨by omega, by omega, ctxs_ok h⟩
theorem scan_rule_ok : ∀ (l : List S42) (i : Int), (∃ v, scan gRule i () l = some (.inl v) ∧ v.fCode ≠ 0) ∨ (scan gRule i () l = some (.inr ()) ∧ ∀ r ∈ l, okRule r)
  | [], i => .inr ⟨rfl, fun r h => by cases h⟩
  | x :: r, i => by
    by_cases h : ruleS x = 0
    · rcases scan_rule_ok r (i + 1) with ⟨v, h1, h2⟩ | ⟨h1, h2⟩
      · exact .inl ⟨v, by simp only [scan, gRule, h, if_true]; exact h1, h2⟩
      · refine .inr ⟨by simp only [scan, gRule, h, if_true]; exact h1, fun y hy => ?_⟩
        rcases List.mem_cons.1 hy with rfl | hy
        · exact rule_ok h
        · exact h2 y hy
    · exact .inl ⟨⟨ruleS x, i⟩, by simp [scan, gRule, h], h⟩
theorem rulesS_ok (l : List S42) : (∃ v, rulesS l = some v ∧ v.fCode ≠ 0) ∨ (rulesS l = some ⟨0, 0⟩ ∧ l.length ≤ 40 ∧ ∀ r ∈ l, okRule r) := by
  unfold rulesS
  by_cases hl : l.length > 40
  · exact .inl ⟨⟨2, -1⟩, by simp [hl], by decide⟩
  · rw [if_neg hl]
    rcases scan_rule_ok l 0 with ⟨v, h1, h2⟩ | ⟨h1, h2⟩
    · exact .inl ⟨v, by rw [h1]; rfl, h2⟩
    · exact .inr ⟨by rw [h1]; rfl, by omega, h2⟩
theorem scan_pair_ok : ∀ (l : List S39) (i : Int), (∃ v, scan gPair i () l = some (.inl v) ∧ v.fCode ≠ 0) ∨ scan gPair i () l = some (.inr ())
  | [], i => .inr rfl
  | x :: r, i => by
    by_cases h : pairS 0 x = 0
    · rcases scan_pair_ok r (i + 1) with ⟨v, h1, h2⟩ | h1
      · exact .inl ⟨v, by simp only [scan, gPair, h, if_true]; exact h1, h2⟩
      · exact .inr (by simp only [scan, gPair, h, if_true]; exact h1)
    · exact .inl ⟨⟨pairS 0 x, i⟩, by simp [scan, gPair, h], h⟩
theorem pairsS_ok (l : List S39) : (∃ v, pairsS l = some v ∧ v.fCode ≠ 0) ∨ (pairsS l = some ⟨0, 0⟩ ∧ l.length ≤ 30) := by
  unfold pairsS
  by_cases hl : l.length > 30
  · exact .inl ⟨⟨2, -2⟩, by simp [hl], by decide⟩
  · rw [if_neg hl]
    rcases scan_pair_ok l 0 with ⟨v, h1, h2⟩ | h1
    · exact .inl ⟨v, by rw [h1]; rfl, h2⟩
    · exact .inr ⟨by rw [h1]; rfl, by omega⟩
/-! ### around -/
theorem f45_right (m : Nat) (c : S64) (l : List S39) (k : Nat) (hk : k < l.length) (hl : l.length ≤ 1000) (hc : okCtx c) (hm : 1000 < m) :
    f45_j2 m c (l.drop (k + 1)) = some (decide (k + 1 + c.fRight.length ≤ l.length ∧ (c.fEnd = true → k + 1 + c.fRight.length = l.length)) && fitAll c.fRight (l.drop (k + 1))) := by
  obtain ⟨h1, h2, h3, h4⟩ := hc
  have hd : (l.drop (k + 1)).length = l.length - (k + 1) := by simp
  unfold f45_j2
  rw [f47_eq m c.fRight _ h4 (by omega) hm]
  by_cases he : c.fEnd = true
  · have e0 : decide (c.fRight.length = l.length - (k + 1)) = decide (k + 1 + c.fRight.length ≤ l.length ∧ (c.fEnd = true → k + 1 + c.fRight.length = l.length)) :=
      decide_eq_decide.2 ⟨fun h => ⟨by omega, fun _ => by omega⟩, fun h => by have := h.2 he; omega⟩
    rw [hd, e0]
    generalize (decide (k + 1 + c.fRight.length ≤ l.length ∧ (c.fEnd = true → k + 1 + c.fRight.length = l.length)) && fitAll c.fRight (l.drop (k + 1))) = R
    simp only [he, cnd_true, bnd_some']
  · have he' : c.fEnd = false := by simpa using he
    rw [he']
    by_cases hr : k + 1 + c.fRight.length ≤ l.length
    · have e1 : decide ((((l.drop (k + 1)).length : Int)) ≥ (c.fRight.length : Int)) = true := decide_eq_true (by omega)
      have e2 : sub (l.drop (k + 1)) 0 ((c.fRight.length : Int)) = some ((l.drop (k + 1)).take c.fRight.length) := sub_take _ _ (by omega)
      have e3 : ((l.drop (k + 1)).take c.fRight.length).length = c.fRight.length := by rw [List.length_take]; omega
      rw [e1, e2]
      simp only [cnd_true, cnd_false, bnd_some']
      rw [f47_eq m c.fRight _ h4 (by omega) hm, e3, fitAll_take _ _ _ (Nat.le_refl _)]
      simp [f45_r1, hr]
    · have e1 : decide ((((l.drop (k + 1)).length : Int)) ≥ (c.fRight.length : Int)) = false := decide_eq_false (by omega)
      rw [e1]
      simp [f45_r1, hr]
theorem f45_eq (m : Nat) (c : S64) (l : List S39) (k : Nat) (hk : k < l.length) (hl : l.length ≤ 1000) (hc : okCtx c) (hm : 1000 < m) : f45 m c l (k : Int) = some (aroundS c l k) := by
  have hR := f45_right m c l k hk hl hc hm
  obtain ⟨h1, h2, h3, h4⟩ := hc
  have hw1 : w64 ((k : Int) + 1) = ((k + 1 : Nat) : Int) := by rw [w64_id ⟨by omega, by omega⟩]; omega
  have ht : (l.take k).length = k := by rw [List.length_take]; omega
  unfold f45
  rw [hw1, sub_take l k (by omega), sub_drop l (k + 1) (by omega)]
  simp only [bnd_some']
  have hP : aroundS c l k = ((decide (c.fLeft.length ≤ k ∧ (c.fBegin = true → k = c.fLeft.length)) && fitAll c.fLeft (l.drop (k - c.fLeft.length))) && (decide (k + 1 + c.fRight.length ≤ l.length ∧ (c.fEnd = true → k + 1 + c.fRight.length = l.length)) && fitAll c.fRight (l.drop (k + 1)))) := by
    unfold aroundS
    have : decide (placeS c l.length k) = (decide (c.fLeft.length ≤ k ∧ (c.fBegin = true → k = c.fLeft.length)) && decide (k + 1 + c.fRight.length ≤ l.length ∧ (c.fEnd = true → k + 1 + c.fRight.length = l.length))) := by
      rw [← Bool.decide_and]
      exact decide_eq_decide.2 ⟨fun h => ⟨⟨h.1, h.2.2.1⟩, h.2.1, h.2.2.2⟩, fun h => ⟨h.1.1, h.2.1, h.1.2, h.2.2⟩⟩
    rw [this]
    generalize decide (c.fLeft.length ≤ k ∧ (c.fBegin = true → k = c.fLeft.length)) = x
    generalize decide (k + 1 + c.fRight.length ≤ l.length ∧ (c.fEnd = true → k + 1 + c.fRight.length = l.length)) = y
    cases x <;> cases y <;> simp
  rw [hP, hR, f47_eq m c.fLeft _ h3 (by omega) hm, ht]
  generalize (decide (k + 1 + c.fRight.length ≤ l.length ∧ (c.fEnd = true → k + 1 + c.fRight.length = l.length)) && fitAll c.fRight (l.drop (k + 1))) = R at *
  by_cases hb : c.fBegin = true
  · simp only [hb, cnd_true, bnd_some']
    by_cases e : c.fLeft.length = k
    · have ef : fitAll c.fLeft (l.take k) = fitAll c.fLeft (l.drop (k - c.fLeft.length)) := by
        rw [fitAll_take _ _ _ (by omega), e]; simp
      rw [ef]
      have e1 : decide (c.fLeft.length = k) = true := decide_eq_true e
      have e2 : decide (c.fLeft.length ≤ k ∧ (True → k = c.fLeft.length)) = true := decide_eq_true ⟨by omega, fun _ => e.symm⟩
      rw [e1, e2]
      cases fitAll c.fLeft (l.drop (k - c.fLeft.length)) <;> rfl
    · have e1 : decide (c.fLeft.length = k) = false := decide_eq_false e
      have e2 : decide (c.fLeft.length ≤ k ∧ (True → k = c.fLeft.length)) = false := decide_eq_false fun h => e (h.2 trivial).symm
      rw [e1, e2]
      rfl
  · have hb' : c.fBegin = false := by simpa using hb
    simp only [hb', cnd_false]
    by_cases e : k < c.fLeft.length
    · have e1 : decide ((k : Int) < (c.fLeft.length : Int)) = true := decide_eq_true (by omega)
      have e2 : decide (c.fLeft.length ≤ k ∧ (false = true → k = c.fLeft.length)) = false := decide_eq_false fun h => by omega
      rw [e1, e2]
      rfl
    · have e1 : decide ((k : Int) < (c.fLeft.length : Int)) = false := decide_eq_false (by omega)
      have e2 : decide (c.fLeft.length ≤ k ∧ (false = true → k = c.fLeft.length)) = true := decide_eq_true ⟨by omega, fun h => by cases h⟩
      have hw2 : w64 ((k : Int) - (c.fLeft.length : Int)) = ((k - c.fLeft.length : Nat) : Int) := by rw [w64_id ⟨by omega, by omega⟩]; omega
      have e3 : sub (l.take k) ((k - c.fLeft.length : Nat) : Int) ((l.take k).length : Int) = some ((l.take k).drop (k - c.fLeft.length)) := sub_drop _ _ (by omega)
      rw [ht] at e3
      have e5 : ((l.take k).drop (k - c.fLeft.length)).length = c.fLeft.length := by rw [List.length_drop, ht]; omega
      have e6 : fitAll c.fLeft ((l.take k).drop (k - c.fLeft.length)) = fitAll c.fLeft (l.drop (k - c.fLeft.length)) := by
        rw [List.drop_take, fitAll_take _ _ _ (by omega)]
      rw [e1, hw2, e3]
      simp only [cnd_false, bnd_some']
      rw [f47_eq m c.fLeft _ h3 (by omega) hm, e5, e6]
      have e7 : decide (c.fLeft.length ≤ k ∧ (false = true → k = c.fLeft.length)) = true := e2
      simp only [decide_true, Bool.true_and, bnd_some', f45_r3, hR]
      rw [e7]
      cases fitAll c.fLeft (l.drop (k - c.fLeft.length)) <;> rfl
/-! ### obeying at a place -/
def anyS (r : S42) (l : List S39) (k : Nat) : Bool := r.fContexts.any fun c => aroundS c l k
def sameS (r : S42) (p : S39) : Bool := (p.fLexical == r.fPair.fLexical) && ((p.fSurface == r.fPair.fSurface) && true)
def obeyS (r : S42) (l : List S39) (k : Nat) (p : S39) : Bool :=
  if r.fKind = 1 then !sameS r p || anyS r l k
  else if r.fKind = 2 then ((p.fLexical != r.fPair.fLexical) || sameS r p) || !anyS r l k
  else if r.fKind = 3 then (!sameS r p || anyS r l k) && (((p.fLexical != r.fPair.fLexical) || sameS r p) || !anyS r l k)
  else !sameS r p || !anyS r l k
theorem scan_any (l : List S39) (k : Nat) : ∀ (xs : List S64) (i : Int) (b : Bool), scan (R := Bool) (fun _ b c => some (.inr (b || aroundS c l k))) i b xs = some (.inr (b || xs.any fun c => aroundS c l k))
  | [], i, b => by simp [scan]
  | x :: r, i, b => by
    simp only [scan]
    rw [scan_any l k r (i + 1)]
    simp [Bool.or_assoc]
theorem f35_eq (m : Nat) (r : S42) (l : List S39) (k : Nat) (p : S39) (hp : l[k]? = some p) (hl : l.length ≤ 1000) (hr : okRule r) (hm : 1000 < m) : f35 m r l (k : Int) = some (obeyS r l k p) := by
  obtain ⟨hk, hc, hr⟩ := hr
  have hlt := lt_of_get hp
  unfold f35
  have e : iter (fun (y : Bool × Int) => f35_B2 m r l k y.1 y.2) m (false, 0) = landed (fun (b : Bool) (i : Int) => (b, i)) r.fContexts.length (scan (R := Bool) (fun _ b c => some (.inr (b || aroundS c l k))) 0 false r.fContexts) := by
    refine iter_scan r.fContexts (fun (y : Bool × Int) => f35_B2 m r l k y.1 y.2) (fun (b : Bool) (i : Int) => (b, i)) (fun _ b c => some (.inr (b || aroundS c l k))) (fun s i hi => ?_) m 0 false (by omega) (by omega)
    refine body_turn rfl fun c hcx => ?_
    have hw : w64 ((i : Int) + 1) = (i : Int) + 1 := w64_id ⟨by omega, by omega⟩
    obtain ⟨g1, g2, g3, g4⟩ := hr c (List.mem_of_getElem? hcx)
    rw [f44_eq m c l k hlt hl g1 g2 hm]
    cases s <;> simp [f35_r1, hw]
  have hix : idx l (k : Int) = some p := by
    unfold idx
    rw [if_pos (by omega), Int.toNat_natCast, hp]
  rw [e, scan_any, Bool.false_or]
  simp only [landed, brk_inr, hix, bnd_some', f35_r7, f35_r6, f35_r5, f35_r4, f35_r3, cnd_eq, beq_iff_eq]
  unfold obeyS
  unfold anyS sameS
  split
  · rfl
  · split
    · rfl
    · split <;> rfl
theorem f38_eq (m : Nat) (r : S42) (l : List S39) (hl : l.length ≤ 1000) (hr : okRule r) (hm : 1000 < m) : f38 m r l = some (allP (fun i p => obeyS r l i.toNat p) 0 l) := by
  obtain ⟨hk, hc, hr⟩ := hr
  unfold f38
  have e : iter (fun (y : Int) => f38_B13 m r l y) m 0 = landed (fun (_ : Unit) (i : Int) => i) l.length (scan (fun i (_ : Unit) p => if obeyS r l i.toNat p then some (.inr ()) else some (.inl false)) 0 () l) := by
    refine iter_scan l (fun (y : Int) => f38_B13 m r l y) (fun (_ : Unit) (i : Int) => i) (fun i (_ : Unit) p => if obeyS r l i.toNat p then some (.inr ()) else some (.inl false)) (fun s k hi => ?_) m 0 () (by omega) (by omega)
    refine body_turn rfl fun p hp => ?_
    have hlt := lt_of_get hp
    have e : iter (fun (y : Bool × Int) => f38_B3 m r l k y.1 y.2) m (false, 0) = landed (fun (b : Bool) (i : Int) => (b, i)) r.fContexts.length (scan (R := Bool) (fun _ b c => some (.inr (b || aroundS c l k))) 0 false r.fContexts) := by
      refine iter_scan r.fContexts (fun (y : Bool × Int) => f38_B3 m r l k y.1 y.2) (fun (b : Bool) (i : Int) => (b, i)) (fun _ b c => some (.inr (b || aroundS c l k))) (fun s i hi => ?_) m 0 false (by omega) (by omega)
      refine body_turn rfl fun c hcx => ?_
      have hw : w64 ((i : Int) + 1) = (i : Int) + 1 := w64_id ⟨by omega, by omega⟩
      rw [f45_eq m c l k hlt hl (hr c (List.mem_of_getElem? hcx)) hm]
      cases s <;> cases aroundS c l k <;> simp [f38_j1, f38_j2, hw]
    have hw : w64 ((k : Int) + 1) = (k : Int) + 1 := w64_id ⟨by omega, by omega⟩
    rw [e, scan_any, Bool.false_or]
    have hs : ((p.fLexical == r.fPair.fLexical) && ((p.fSurface == r.fPair.fSurface) && true)) = sameS r p := rfl
    have ha : (r.fContexts.any fun c => aroundS c l k) = anyS r l k := rfl
    simp only [landed, brk_inr, f38_r12, f38_r11, f38_r10, f38_r9, f38_r8, f38_r7, f38_r6, f38_r5, f38_r4, hs, ha, hw, Int.toNat_natCast]
    unfold obeyS
    have hk' : r.fKind = 1 ∨ r.fKind = 2 ∨ r.fKind = 3 ∨ r.fKind = 4 := by omega
    have hbn : (p.fLexical != r.fPair.fLexical) = !(p.fLexical == r.fPair.fLexical) := rfl
    rw [hbn]
    by_cases hA : anyS r l k = true <;> by_cases hS : sameS r p = true <;> by_cases hL : (p.fLexical == r.fPair.fLexical) = true <;> rcases hk' with h | h | h | h <;> ((try simp only [Bool.not_eq_true] at hA); (try simp only [Bool.not_eq_true] at hS); (try simp only [Bool.not_eq_true] at hL); simp [h, hA, hS, hL, cnd_eq])
  rw [e, scan_allP]
  by_cases h : allP (fun i p => obeyS r l i.toNat p) 0 l = true <;> simp [h, landed]
def obeyedS (l : List S39) (r : S42) : Bool := allP (fun i p => obeyS r l i.toNat p) 0 l
theorem f21_eq (m : Nat) (rs : List S42) (l : List S39) (hl : l.length ≤ 1000) (hn : rs.length ≤ 1000) (hr : ∀ r ∈ rs, okRule r) (hm : 1000 < m) : f21 m rs l = some (match firstP (obeyedS l) 0 rs with | none => -1 | some j => j) := by
  unfold f21
  have e : iter (fun (y : Int) => f21_B1 m rs l y) m 0 = landed (fun (_ : Unit) (i : Int) => i) rs.length (scan (fun i (_ : Unit) r => if obeyedS l r then some (.inr ()) else some (.inl i)) 0 () rs) := by
    refine iter_scan rs (fun (y : Int) => f21_B1 m rs l y) (fun (_ : Unit) (i : Int) => i) (fun i (_ : Unit) r => if obeyedS l r then some (.inr ()) else some (.inl i)) (fun s k hi => ?_) m 0 () (by omega) (by omega)
    refine body_turn rfl fun r hrx => ?_
    have hw : w64 ((k : Int) + 1) = (k : Int) + 1 := w64_id ⟨by omega, by omega⟩
    rw [f38_eq m r l hl (hr r (List.mem_of_getElem? hrx)) hm]
    have : allP (fun i p => obeyS r l i.toNat p) 0 l = obeyedS l r := rfl
    rw [this]
    by_cases h : obeyedS l r = true <;> simp [h, hw]
  rw [e, scan_firstP (obeyedS l) (fun i => i) rs 0]
  cases firstP (obeyedS l) 0 rs <;> simp [landed]
theorem f18_inner (m : Nat) (i : Int) (r : S42) (l : List S39) (hl : l.length ≤ 1000) (hr : okRule r) (hm : 1000 < m) :
    iter (fun (y : Int) => f18_B1 m l i r y) m 0 = landed (fun (_ : Unit) (i : Int) => i) l.length (if obeyedS l r then some (.inr ()) else some (.inl (false, i, ⟨0, 0⟩))) := by
  have e : iter (fun (y : Int) => f18_B1 m l i r y) m 0 = landed (fun (_ : Unit) (i : Int) => i) l.length (scan (fun k (_ : Unit) p => if obeyS r l k.toNat p then some (.inr ()) else some (.inl (false, i, (⟨0, 0⟩ : S25)))) 0 () l) := by
    refine iter_scan l (fun (y : Int) => f18_B1 m l i r y) (fun (_ : Unit) (i : Int) => i) (fun k (_ : Unit) p => if obeyS r l k.toNat p then some (.inr ()) else some (.inl (false, i, (⟨0, 0⟩ : S25)))) (fun s k hi => ?_) m 0 () (by omega) (by omega)
    refine body_turn' rfl fun p hp => ?_
    have hw : w64 ((k : Int) + 1) = (k : Int) + 1 := w64_id ⟨by omega, by omega⟩
    rw [f35_eq m r l k p hp hl hr hm]
    simp only [Int.toNat_natCast]
    by_cases h : obeyS r l k p = true <;> simp [h, hw]
  rw [e, scan_allP (fun k p => obeyS r l k.toNat p)]
  rfl
theorem f18_loop (m : Nat) (rs : List S42) (l : List S39) (hl : l.length ≤ 1000) (hn : rs.length ≤ 1000) (hr : ∀ r ∈ rs, okRule r) (hm : 1000 < m) :
    iter (fun (y : Int) => f18_B2 m rs l y) m 0 = landed (fun (_ : Unit) (i : Int) => i) rs.length (match firstP (obeyedS l) 0 rs with | none => some (.inr ()) | some j => some (.inl (false, j, ⟨0, 0⟩))) := by
  have e : iter (fun (y : Int) => f18_B2 m rs l y) m 0 = landed (fun (_ : Unit) (i : Int) => i) rs.length (scan (fun i (_ : Unit) r => if obeyedS l r then some (.inr ()) else some (.inl (false, i, (⟨0, 0⟩ : S25)))) 0 () rs) := by
    refine iter_scan rs (fun (y : Int) => f18_B2 m rs l y) (fun (_ : Unit) (i : Int) => i) (fun i (_ : Unit) r => if obeyedS l r then some (.inr ()) else some (.inl (false, i, (⟨0, 0⟩ : S25)))) (fun s k hi => ?_) m 0 () (by omega) (by omega)
    refine body_turn rfl fun r hrx => ?_
    have hw : w64 ((k : Int) + 1) = (k : Int) + 1 := w64_id ⟨by omega, by omega⟩
    rw [f18_inner m k r l hl (hr r (List.mem_of_getElem? hrx)) hm]
    by_cases h : obeyedS l r = true <;> simp [h, hw, landed]
  rw [e, scan_firstP (obeyedS l) (fun i => (false, i, (⟨0, 0⟩ : S25))) rs 0]
/-- what the check answers -/
def allowedS (rs : List S42) (l : List S39) : Bool × Int × S25 := match firstP (obeyedS l) 0 rs with
  | none => (true, -1, ⟨0, 0⟩)
  | some j => (false, j, ⟨0, 0⟩)
theorem ok25 (v : S25) (h : v.fCode ≠ 0) : ((v.fCode == 0) && ((v.fIndex == 0) && true)) = false := by
  have : (v.fCode == 0) = false := by simpa using h
  rw [this]; rfl
theorem f18_eq (m : Nat) (rs : List S42) (l : List S39) (hm : 1000 < m) :
    (∃ v, v.fCode ≠ 0 ∧ rulesS rs = some v ∧ f18 m rs l = some (false, 0, v)) ∨
    (rulesS rs = some ⟨0, 0⟩ ∧ ∃ v, v.fCode ≠ 0 ∧ pairsS l = some v ∧ f18 m rs l = some (false, 0, v)) ∨
    (rulesS rs = some ⟨0, 0⟩ ∧ pairsS l = some ⟨0, 0⟩ ∧ l.length ≤ 30 ∧ rs.length ≤ 40 ∧ (∀ r ∈ rs, okRule r) ∧ f18 m rs l = some (allowedS rs l)) := by
  unfold f18
  rw [f17_eq m rs (by omega), f34_eq m l (by omega)]
  rcases rulesS_ok rs with ⟨v, h1, h2⟩ | ⟨h1, h2, h3⟩
  · refine .inl ⟨v, h2, h1, ?_⟩
    rw [h1]
    simp only [bnd_some', ok25 v h2]
    rfl
  · refine .inr ?_
    rw [h1]
    rcases pairsS_ok l with ⟨v, g1, g2⟩ | ⟨g1, g2⟩
    · refine .inl ⟨rfl, v, g2, g1, ?_⟩
      rw [g1]
      simp only [bnd_some', ok25 v g2]
      rfl
    · refine .inr ⟨rfl, g1, g2, h2, h3, ?_⟩
      rw [g1, f18_loop m rs l (by omega) (by omega) h3 hm]
      simp only [bnd_some']
      unfold allowedS
      cases firstP (obeyedS l) 0 rs <;> rfl
theorem f16_big : f16 1001 = some true := by kernel_rfl
theorem f17_bad : f17 1001 ([(⟨0, (⟨0, 0⟩ : S39), []⟩ : S42)]) = some ⟨4, 0⟩ := by kernel_rfl
theorem plain6 (rs : List S42) (l : List S39) : f6 1001 rs l = some true := by
  unfold f6
  rw [f16_big, f17_bad]
  simp only [bnd_some', cnd_eq, f6_r6, Bool.not_true, Bool.false_eq_true, if_false, beq_self_eq_true, Bool.and_self]
  rw [f17_eq 1001 rs (by omega), f19_eq 1001 rs (by omega), f20_eq 1001 l (by omega)]
  rcases f18_eq 1001 rs l (by omega) with ⟨v, h1, h2, h3⟩ | ⟨h1, v, h2, h3, h4⟩ | ⟨h1, h2, h3, h4, h5, h6⟩
  · rw [h2, h3]
    simp only [bnd_some', f6_j5, ok25 v h1, f6_r2, f6_r1, cnd_eq, beq_self_eq_true, Bool.and_self, Bool.not_true, Bool.false_eq_true, if_false, Bool.not_false, if_true]
  · rw [h1, h3, h4]
    simp only [bnd_some', f6_j5, ok25 v h2, f6_r2, f6_r1, cnd_eq, beq_self_eq_true, Bool.and_self, Bool.not_true, Bool.false_eq_true, if_false, Bool.not_false, if_true]
  · rw [h1, h2, h6]
    simp only [bnd_some', f6_j5, f21_eq 1001 rs l (by omega) (by omega) h5 (by omega), f6_r4, f6_r3, cnd_eq, beq_self_eq_true, Bool.and_self, Bool.not_true, Bool.false_eq_true, if_false, if_true]
    unfold allowedS
    cases h : firstP (obeyedS l) 0 rs with
    | none => rfl
    | some j =>
      have := firstP_ge _ _ _ _ h
      have hj : ¬ j < 0 := by omega
      simp [hj]
end Go.Abs
