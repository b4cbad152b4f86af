import Derived.Test.YtppipllchjpfmaaWLaw
import Derived.Test.YtppipllchjpfmaaAbsV
namespace Go.Abs
set_option linter.unusedVariables false
theorem cnd_eq {α : Type} (b : Bool) (x y : Option α) : cnd b x y = if b = true then x else y := by cases b <;> rfl
/-- in range -/
theorem f42_eq (m : Nat) (a b c : Int) : f42 m a b c = some (decide (b ≤ a ∧ a ≤ c)) := by
  simp [f42, f42_r1, GE.ge, Bool.decide_and]
theorem f46_eq (m : Nat) (s p : S39) : f46 m s p = some ((s.fLexical == -1 || s.fLexical == p.fLexical) && (s.fSurface == -1 || s.fSurface == p.fSurface)) := rfl
/-- what is wrong with a pair -/
def pairS (least : Int) (p : S39) : Int :=
  if ¬ (least ≤ p.fLexical ∧ p.fLexical ≤ 1114111) ∨ ¬ (least ≤ p.fSurface ∧ p.fSurface ≤ 1114111) then 3 else if p.fLexical = 0 ∧ p.fSurface = 0 then 5 else 0
def spotsS : List S39 → Int
  | [] => 0
  | p :: r => if pairS (-1) p = 0 then spotsS r else pairS (-1) p
def gSpots : Int → Unit → S39 → Option (Int ⊕ Unit) := fun _ _ p => if pairS (-1) p = 0 then some (.inr ()) else some (.inl (pairS (-1) p))
theorem scan_spots : ∀ (xs : List S39) (i : Int), scan gSpots i () xs = if spotsS xs = 0 then some (.inr ()) else some (.inl (spotsS xs))
  | [], i => rfl
  | p :: r, i => by
    by_cases h : pairS (-1) p = 0
    · simp [scan, gSpots, spotsS, h, scan_spots r (i + 1)]
    · simp [scan, gSpots, spotsS, h]
theorem f43_eq (m : Nat) (xs : List S39) (hl : xs.length ≤ 9223372036854775806) (hm : xs.length < m) : f43 m xs = some (spotsS xs) := by
  unfold f43
  have hb : ∀ (s : Unit) (i : Nat), i ≤ xs.length → f43_B2 m xs (i : Int) = turn xs (fun (_ : Unit) (i : Int) => i) gSpots s i := by
    intro s i hi
    refine body_turn rfl fun x hx => ?_
    have hw : w64 ((i : Int) + 1) = (i : Int) + 1 := w64_id ⟨by omega, by omega⟩
    simp only [f42_eq, bnd_some', f43_r1, gSpots, pairS, hw]
    by_cases h1 : -1 ≤ x.fLexical ∧ x.fLexical ≤ 1114111 <;> by_cases h2 : -1 ≤ x.fSurface ∧ x.fSurface ≤ 1114111 <;> by_cases h3 : x.fLexical = 0 <;> by_cases h4 : x.fSurface = 0 <;> simp [cnd_eq, h1, h2, h3, h4]
  have := iter_scan xs (fun y => f43_B2 m xs y) (fun (_ : Unit) (i : Int) => i) gSpots hb m 0 () (by omega) (by omega)
  simp only [Int.ofNat_zero, List.drop_zero] at this
  have e : iter (fun y => f43_B2 m xs y) m 0 = landed (fun (_ : Unit) (i : Int) => i) xs.length (scan gSpots 0 () xs) := this
  rw [e, scan_spots]
  by_cases h : spotsS xs = 0 <;> simp [h, landed]
/-- what is wrong with a context -/
def ctxS (c : S64) : Int := if c.fLeft.length > 3 ∨ c.fRight.length > 3 then 9 else if spotsS c.fLeft ≠ 0 then spotsS c.fLeft else spotsS c.fRight
def ctxsS : List S64 → Int
  | [] => 0
  | c :: r => if ctxS c = 0 then ctxsS r else ctxS c
def ruleS (r : S42) : Int := if ¬ (1 ≤ r.fKind ∧ r.fKind ≤ 4) then 4 else if pairS 0 r.fPair ≠ 0 then pairS 0 r.fPair else if ¬ (1 ≤ r.fContexts.length ∧ r.fContexts.length ≤ 3) then 9 else ctxsS r.fContexts
def gCtx : Int → Unit → S64 → Option (Int ⊕ Unit) := fun _ _ c => if ctxS c = 0 then some (.inr ()) else some (.inl (ctxS c))
theorem scan_ctx : ∀ (xs : List S64) (i : Int), scan gCtx i () xs = if ctxsS xs = 0 then some (.inr ()) else some (.inl (ctxsS xs))
  | [], i => rfl
  | p :: r, i => by
    by_cases h : ctxS p = 0
    · simp [scan, gCtx, ctxsS, h, scan_ctx r (i + 1)]
    · simp [scan, gCtx, ctxsS, h]
theorem f33_loop (m : Nat) (a : S42) (hm : 4 < m) (hl : a.fContexts.length ≤ 3) : iter (fun y => f33_B2 m a y) m 0 = landed (fun (_ : Unit) (i : Int) => i) a.fContexts.length (scan gCtx 0 () a.fContexts) := by
  refine iter_scan a.fContexts (fun y => f33_B2 m a y) (fun (_ : Unit) (i : Int) => i) gCtx (fun s i hi => ?_) m 0 () (by omega) (by omega)
  refine body_turn rfl fun c hc => ?_
  have hw : w64 ((i : Int) + 1) = (i : Int) + 1 := w64_id ⟨by omega, by omega⟩
  simp only [f33_r1, gCtx, ctxS, hw, cnd_eq, Bool.or_eq_true, decide_eq_true_eq]
  by_cases h1 : c.fLeft.length > 3
  · have h1' : (c.fLeft.length : Int) > 3 := by omega
    simp [h1, h1']
  · have h1' : ¬ (c.fLeft.length : Int) > 3 := by omega
    by_cases h2 : c.fRight.length > 3
    · have h2' : (c.fRight.length : Int) > 3 := by omega
      simp [h2, h2']
    · have h2' : ¬ (c.fRight.length : Int) > 3 := by omega
      rw [f43_eq m c.fLeft (by omega) (by omega), f43_eq m c.fRight (by omega) (by omega)]
      by_cases h3 : spotsS c.fLeft = 0 <;> by_cases h4 : spotsS c.fRight = 0 <;> simp [h1, h2, h1', h2', h3, h4]
theorem brk_ctx (n : Nat) (xs : List S64) : brk (landed (fun (_ : Unit) (i : Int) => i) n (scan gCtx 0 () xs)) some (fun _ => some (0 : Int)) = some (ctxsS xs) := by
  rw [scan_ctx]
  by_cases h : ctxsS xs = 0 <;> simp [h, landed]
theorem f33_eq (m : Nat) (a : S42) (hm : 4 < m) : f33 m a = some (ruleS a) := by
  unfold f33 ruleS
  simp only [f42_eq, bnd_some', cnd_eq, Bool.not_eq_true', decide_eq_false_iff_not, f33_r3]
  by_cases h1 : 1 ≤ a.fKind ∧ a.fKind ≤ 4
  · by_cases hl : 1 ≤ a.fContexts.length ∧ a.fContexts.length ≤ 3
    · have hl' : (1 : Int) ≤ a.fContexts.length ∧ (a.fContexts.length : Int) ≤ 3 := by omega
      rw [f33_loop m a hm hl.2, brk_ctx]
      unfold pairS
      by_cases h2 : 0 ≤ a.fPair.fLexical ∧ a.fPair.fLexical ≤ 1114111 <;> by_cases h3 : 0 ≤ a.fPair.fSurface ∧ a.fPair.fSurface ≤ 1114111 <;> by_cases h4 : a.fPair.fLexical = 0 <;> by_cases h5 : a.fPair.fSurface = 0 <;> simp [h1, h2, h3, h4, h5, hl, hl']
    · have hl' : ¬ ((1 : Int) ≤ a.fContexts.length ∧ (a.fContexts.length : Int) ≤ 3) := by omega
      unfold pairS
      by_cases h2 : 0 ≤ a.fPair.fLexical ∧ a.fPair.fLexical ≤ 1114111 <;> by_cases h3 : 0 ≤ a.fPair.fSurface ∧ a.fPair.fSurface ≤ 1114111 <;> by_cases h4 : a.fPair.fLexical = 0 <;> by_cases h5 : a.fPair.fSurface = 0 <;> simp [h1, h2, h3, h4, h5, hl, hl']
  · simp [h1]
def gRule : Int → Unit → S42 → Option (S25 ⊕ Unit) := fun i _ r => if ruleS r = 0 then some (.inr ()) else some (.inl ⟨ruleS r, i⟩)
def rulesS (l : List S42) : Option S25 := if l.length > 40 then some ⟨2, -1⟩ else brk (landed (fun (_ : Unit) (i : Int) => i) l.length (scan gRule 0 () l)) some fun _ => some ⟨0, 0⟩
theorem f17_eq (m : Nat) (l : List S42) (hm : 40 < m) : f17 m l = rulesS l := by
  unfold f17 rulesS
  simp only [cnd_eq, decide_eq_true_eq, f32, bnd_some']
  by_cases h : l.length > 40
  · rw [if_pos h, if_pos (by omega)]
  · rw [if_neg h, if_neg (by omega)]
    have e : iter (fun y => f17_B1 m l y) m 0 = landed (fun (_ : Unit) (i : Int) => i) l.length (scan gRule 0 () l) := by
      refine iter_scan l (fun y => f17_B1 m l y) (fun (_ : Unit) (i : Int) => i) gRule (fun s i hi => ?_) m 0 () (by omega) (by omega)
      refine body_turn rfl fun c hc => ?_
      have hw : w64 ((i : Int) + 1) = (i : Int) + 1 := w64_id ⟨by omega, by omega⟩
      rw [f33_eq m c (by omega)]
      simp only [bnd_some', cnd_eq, gRule, hw, f32]
      by_cases h : ruleS c = 0 <;> simp [h]
    rw [e]
def gPair : Int → Unit → S39 → Option (S25 ⊕ Unit) := fun i _ p => if pairS 0 p = 0 then some (.inr ()) else some (.inl ⟨pairS 0 p, i⟩)
def pairsS (l : List S39) : Option S25 := if l.length > 30 then some ⟨2, -2⟩ else brk (landed (fun (_ : Unit) (i : Int) => (false, i)) l.length (scan gPair 0 () l)) some fun _ => some ⟨0, 0⟩
theorem f34_eq (m : Nat) (l : List S39) (hm : 30 < m) : f34 m l 30 false = pairsS l := by
  unfold f34 pairsS
  simp only [cnd_eq, decide_eq_true_eq, f32, bnd_some']
  by_cases h : l.length > 30
  · rw [if_pos h, if_pos (by omega)]
  · rw [if_neg h, if_neg (by omega)]
    have e : iter (fun y => f34_B4 m l y.1 y.2) m (false, 0) = landed (fun (_ : Unit) (i : Int) => (false, i)) l.length (scan gPair 0 () l) := by
      refine iter_scan l (fun y => f34_B4 m l y.1 y.2) (fun (_ : Unit) (i : Int) => (false, i)) gPair (fun s i hi => ?_) m 0 () (by omega) (by omega)
      refine body_turn rfl fun c hc => ?_
      have hw : w64 ((i : Int) + 1) = (i : Int) + 1 := w64_id ⟨by omega, by omega⟩
      simp only [f42_eq, bnd_some', cnd_eq, gPair, pairS, hw, f32, f34_r3, f34_r2, f34_r1, Bool.false_and, Bool.false_eq_true, if_false]
      by_cases h1 : 0 ≤ c.fLexical ∧ c.fLexical ≤ 1114111 <;> by_cases h2 : 0 ≤ c.fSurface ∧ c.fSurface ≤ 1114111 <;> by_cases h3 : c.fLexical = 0 <;> by_cases h4 : c.fSurface = 0 <;> simp [h1, h2, h3, h4]
    rw [e]
def fitS (s p : S39) : Bool := (s.fLexical == -1 || s.fLexical == p.fLexical) && (s.fSurface == -1 || s.fSurface == p.fSurface)
def fitAll : List S39 → List S39 → Bool
  | [], _ => true
  | s :: r, p :: q => fitS s p && fitAll r q
  | _ :: _, [] => false
/-- spots against the pairs from a place on -/
def gFit (l : List S39) (k : Nat) : Int → Unit → S39 → Option (Bool ⊕ Unit) := fun i _ s => match l[k + i.toNat]? with
  | some p => if fitS s p then some (.inr ()) else some (.inl false)
  | none => none
theorem scan_fit (l : List S39) (k : Nat) : ∀ (xs : List S39) (i : Nat), k + i + xs.length ≤ l.length → scan (gFit l k) i () xs = if fitAll xs (l.drop (k + i)) then some (.inr ()) else some (.inl false)
  | [], i, h => rfl
  | s :: r, i, h => by
    simp only [List.length_cons] at h
    have hlt : k + i < l.length := by omega
    rw [List.drop_eq_getElem_cons hlt]
    have ih := scan_fit l k r (i + 1) (by omega)
    simp only [scan, gFit, Int.toNat_natCast, List.getElem?_eq_getElem hlt, fitAll]
    by_cases hf : fitS s l[k + i] = true
    · simp only [hf, if_true, Bool.true_and]
      exact ih
    · simp [hf]
theorem f44_left (m : Nat) (c : S64) (l : List S39) (k : Nat) (hk : k + c.fLeft.length ≤ l.length) (hl : l.length ≤ 1000) (hm : 1000 < m) :
    iter (fun y => f44_B1 m c l ((k + c.fLeft.length : Nat) : Int) y) m 0 = landed (fun (_ : Unit) (i : Int) => i) c.fLeft.length (if fitAll c.fLeft (l.drop k) then some (.inr ()) else some (.inl false)) := by
  have e := scan_fit l k c.fLeft 0 (by omega)
  simp only [Int.ofNat_zero, Nat.add_zero] at e
  have e : scan (gFit l k) 0 () c.fLeft = _ := e
  rw [← e]
  refine iter_scan c.fLeft (fun y => f44_B1 m c l ((k + c.fLeft.length : Nat) : Int) y) (fun (_ : Unit) (i : Int) => i) (gFit l k) (fun s i hi => ?_) m 0 () (by omega) (by omega)
  refine body_turn rfl fun x hx => ?_
  have hlt : i < c.fLeft.length := by
    rcases Nat.lt_or_ge i c.fLeft.length with h | h
    · exact h
    · rw [List.getElem?_eq_none h] at hx; cases hx
  have hw : w64 ((i : Int) + 1) = (i : Int) + 1 := w64_id ⟨by omega, by omega⟩
  have hw1 : w64 (((k + c.fLeft.length : Nat) : Int) - (c.fLeft.length : Int)) = (k : Int) := by rw [w64_id ⟨by omega, by omega⟩]; omega
  have hw2 : w64 ((k : Int) + (i : Int)) = ((k + i : Nat) : Int) := by rw [w64_id ⟨by omega, by omega⟩]; omega
  have hlt2 : k + i < l.length := by omega
  have hix : idx l ((k + i : Nat) : Int) = some l[k + i] := by
    unfold idx
    rw [if_pos (by omega), Int.toNat_natCast, List.getElem?_eq_getElem hlt2]
  simp only [hw1, hw2, hix, bnd_some', f46_eq, cnd_eq, hw, gFit, Int.toNat_natCast, List.getElem?_eq_getElem hlt2]
  have hf : ((x.fLexical == -1 || x.fLexical == l[k + i].fLexical) && (x.fSurface == -1 || x.fSurface == l[k + i].fSurface)) = fitS x l[k + i] := rfl
  rw [hf]
  by_cases h : fitS x l[k + i] = true <;> simp [h]
theorem f44_right (m : Nat) (c : S64) (l : List S39) (k : Nat) (hk : k + 1 + c.fRight.length ≤ l.length) (hl : l.length ≤ 1000) (hm : 1000 < m) :
    iter (fun y => f44_B2 m c l (k : Int) y) m 0 = landed (fun (_ : Unit) (i : Int) => i) c.fRight.length (if fitAll c.fRight (l.drop (k + 1)) then some (.inr ()) else some (.inl false)) := by
  have e := scan_fit l (k + 1) c.fRight 0 (by omega)
  simp only [Int.ofNat_zero, Nat.add_zero] at e
  have e : scan (gFit l (k + 1)) 0 () c.fRight = _ := e
  rw [← e]
  refine iter_scan c.fRight (fun y => f44_B2 m c l (k : Int) y) (fun (_ : Unit) (i : Int) => i) (gFit l (k + 1)) (fun s i hi => ?_) m 0 () (by omega) (by omega)
  refine body_turn rfl fun x hx => ?_
  have hlt : i < c.fRight.length := by
    rcases Nat.lt_or_ge i c.fRight.length with h | h
    · exact h
    · rw [List.getElem?_eq_none h] at hx; cases hx
  have hw : w64 ((i : Int) + 1) = (i : Int) + 1 := w64_id ⟨by omega, by omega⟩
  have hw1 : w64 ((k : Int) + 1) = (k : Int) + 1 := w64_id ⟨by omega, by omega⟩
  have hw2 : w64 ((k : Int) + 1 + (i : Int)) = ((k + 1 + i : Nat) : Int) := by rw [w64_id ⟨by omega, by omega⟩]; omega
  have hlt2 : k + 1 + i < l.length := by omega
  have hix : idx l ((k + 1 + i : Nat) : Int) = some l[k + 1 + i] := by
    unfold idx
    rw [if_pos (by omega), Int.toNat_natCast, List.getElem?_eq_getElem hlt2]
  simp only [hw1, hw2, hix, bnd_some', f46_eq, cnd_eq, hw, gFit, Int.toNat_natCast, List.getElem?_eq_getElem hlt2]
  have hf : ((x.fLexical == -1 || x.fLexical == l[k + 1 + i].fLexical) && (x.fSurface == -1 || x.fSurface == l[k + 1 + i].fSurface)) = fitS x l[k + 1 + i] := rfl
  rw [hf]
  by_cases h : fitS x l[k + 1 + i] = true <;> simp [h]
def placeS (c : S64) (n k : Nat) : Prop := c.fLeft.length ≤ k ∧ k + 1 + c.fRight.length ≤ n ∧ (c.fBegin = true → k = c.fLeft.length) ∧ (c.fEnd = true → k + 1 + c.fRight.length = n)
instance (c : S64) (n k : Nat) : Decidable (placeS c n k) := by unfold placeS; infer_instance
def aroundS (c : S64) (l : List S39) (k : Nat) : Bool := decide (placeS c l.length k) && (fitAll c.fLeft (l.drop (k - c.fLeft.length)) && fitAll c.fRight (l.drop (k + 1)))
theorem f44_eq (m : Nat) (c : S64) (l : List S39) (k : Nat) (hk : k < l.length) (hl : l.length ≤ 1000) (h1 : c.fLeft.length ≤ 3) (h2 : c.fRight.length ≤ 3) (hm : 1000 < m) : f44 m c l (k : Int) = some (aroundS c l k) := by
  have hw1 : w64 ((k : Int) - (c.fLeft.length : Int)) = (k : Int) - (c.fLeft.length : Int) := w64_id ⟨by omega, by omega⟩
  have hw2 : w64 ((k : Int) + 1) = (k : Int) + 1 := w64_id ⟨by omega, by omega⟩
  have hw3 : w64 ((k : Int) + 1 + (c.fRight.length : Int)) = (k : Int) + 1 + (c.fRight.length : Int) := w64_id ⟨by omega, by omega⟩
  unfold f44 f44_r5 f44_r4 f44_r3 aroundS
  rw [hw2, hw3, hw1]
  by_cases hp : placeS c l.length k
  · obtain ⟨p1, p2, p3, p4⟩ := hp
    have hb : ((((decide ((k : Int) - (c.fLeft.length : Int) < 0)) || (decide ((k : Int) + 1 + (c.fRight.length : Int) > (l.length : Int)))) || ((c.fBegin && (((k : Int) - (c.fLeft.length : Int)) != 0)))) || ((c.fEnd && (((k : Int) + 1 + (c.fRight.length : Int)) != ((l.length : Int)))))) = false := by
      simp only [Bool.or_eq_false_iff, decide_eq_false_iff_not, Bool.and_eq_false_iff, bne_eq_false_iff_eq]
      refine ⟨⟨⟨by omega, by omega⟩, ?_⟩, ?_⟩
      · cases h : c.fBegin
        · exact .inl rfl
        · have := p3 h; exact .inr (by omega)
      · cases h : c.fEnd
        · exact .inl rfl
        · have := p4 h; exact .inr (by omega)
    rw [hb]
    have hkk : k = (k - c.fLeft.length) + c.fLeft.length := by omega
    have e1 := f44_left m c l (k - c.fLeft.length) (by omega) hl hm
    rw [← hkk] at e1
    rw [cnd_false, e1, f44_right m c l k p2 hl hm]
    have hd : decide (placeS c l.length k) = true := decide_eq_true (⟨p1, p2, p3, p4⟩ : placeS c l.length k)
    rw [hd]
    by_cases q1 : fitAll c.fLeft (l.drop (k - c.fLeft.length)) = true <;> by_cases q2 : fitAll c.fRight (l.drop (k + 1)) = true <;> simp [q1, q2, landed]
  · have hb : ((((decide ((k : Int) - (c.fLeft.length : Int) < 0)) || (decide ((k : Int) + 1 + (c.fRight.length : Int) > (l.length : Int)))) || ((c.fBegin && (((k : Int) - (c.fLeft.length : Int)) != 0)))) || ((c.fEnd && (((k : Int) + 1 + (c.fRight.length : Int)) != ((l.length : Int)))))) = true := by
      refine Decidable.byContradiction fun hn => hp ?_
      simp only [Bool.not_eq_true, Bool.or_eq_false_iff, decide_eq_false_iff_not, Bool.and_eq_false_iff, bne_eq_false_iff_eq] at hn
      obtain ⟨⟨⟨n1, n2⟩, n3⟩, n4⟩ := hn
      refine ⟨by omega, by omega, fun h => ?_, fun h => ?_⟩
      · rcases n3 with n3 | n3
        · rw [n3] at h; cases h
        · omega
      · rcases n4 with n4 | n4
        · rw [n4] at h; cases h
        · omega
    rw [hb, decide_eq_false hp]
    rfl
/-- spots that may stand in a valid rule -/
def okSpot (s : S39) : Prop := -1 ≤ s.fLexical ∧ -1 ≤ s.fSurface
theorem sub_take {α : Type} (l : List α) (k : Nat) (h : k ≤ l.length) : sub l 0 (k : Int) = some (l.take k) := by
  unfold sub
  rw [if_pos (by omega)]
  simp
theorem sub_drop {α : Type} (l : List α) (k : Nat) (h : k ≤ l.length) : sub l (k : Int) (l.length : Int) = some (l.drop k) := by
  unfold sub
  rw [if_pos (by omega)]
  simp [List.take_of_length_le]
theorem fitAll_take : ∀ (xs l : List S39) (n : Nat), xs.length ≤ n → fitAll xs (l.take n) = fitAll xs l
  | [], l, n, h => rfl
  | s :: r, [], n, h => by simp [fitAll]
  | s :: r, p :: q, n + 1, h => by
    simp only [List.take_succ_cons, fitAll]
    rw [fitAll_take r q n (by simpa using h)]

/-! ### general: loops that look for the first element that fails -/
def allP {α : Type} (P : Int → α → Bool) : Int → List α → Bool
  | _, [] => true
  | i, x :: r => P i x && allP P (i + 1) r
theorem scan_allP {α R : Type} (P : Int → α → Bool) (c : R) : ∀ (xs : List α) (i : Int), scan (fun i (_ : Unit) x => if P i x then some (.inr ()) else some (.inl c)) i () xs = if allP P i xs then some (.inr ()) else some (.inl c)
  | [], i => rfl
  | x :: r, i => by
    by_cases h : P i x = true
    · simp only [scan, h, if_true, allP, Bool.true_and]
      exact scan_allP P c r (i + 1)
    · simp [scan, allP, h]
def firstP {α : Type} (P : α → Bool) : Int → List α → Option Int
  | _, [] => none
  | i, x :: r => if P x then firstP P (i + 1) r else some i
theorem scan_firstP {α R : Type} (P : α → Bool) (c : Int → R) : ∀ (xs : List α) (i : Int), scan (fun i (_ : Unit) x => if P x then some (.inr ()) else some (.inl (c i))) i () xs = match firstP P i xs with
    | none => some (.inr ())
    | some j => some (.inl (c j))
  | [], i => rfl
  | x :: r, i => by
    by_cases h : P x = true
    · simp only [scan, h, if_true, firstP]
      exact scan_firstP P c r (i + 1)
    · simp [scan, firstP, h]
theorem firstP_ge {α : Type} (P : α → Bool) : ∀ (xs : List α) (i j : Int), firstP P i xs = some j → i ≤ j
  | [], i, j, h => by cases h
  | x :: r, i, j, h => by
    unfold firstP at h
    split at h
    · have := firstP_ge P r (i + 1) j h; omega
    · cases h; omega
/-- a body that does not name the element -/
theorem body_turn' {α R S A : Type} {xs : List α} {mk : S → Int → A} {g : Int → S → α → Option (R ⊕ S)} {s : S} {i : Nat} {K : Option (Stp R A)} {z : A} (hz : z = mk s i)
    (hK : ∀ x, xs[i]? = some x → K = match g i s x with
      | some (.inl r) => some (.ret r)
      | some (.inr s') => some (.nxt (mk s' ((i : Int) + 1)))
      | none => none) : cnd (decide ((i : Int) < (xs.length : Int))) K (some (.brk z)) = turn xs mk g s i := by
  unfold turn
  rcases Nat.lt_or_ge i xs.length with hlt | hge
  · have h1 : decide ((i : Int) < (xs.length : Int)) = true := by simpa using hlt
    have h3 := List.getElem?_eq_getElem hlt
    rw [h1, h3]
    exact hK _ h3
  · have h1 : decide ((i : Int) < (xs.length : Int)) = false := by simpa using hge
    rw [h1, List.getElem?_eq_none hge, hz]
    rfl
theorem lt_of_get {α : Type} {l : List α} {i : Nat} {x : α} (h : l[i]? = some x) : i < l.length := by
  rcases Nat.lt_or_ge i l.length with h' | h'
  · exact h'
  · rw [List.getElem?_eq_none h'] at h; cases h
/-! ### what valid rules are -/
theorem pairS_ok {l : Int} {p : S39} (h : pairS l p = 0) : l ≤ p.fLexical ∧ l ≤ p.fSurface := by
  unfold pairS at h
  split at h
  · cases h
  · rename_i hn
    omega
theorem spots_ok : ∀ {xs : List S39}, spotsS xs = 0 → ∀ s ∈ xs, okSpot s
  | [], h, s, hs => by cases hs
  | p :: r, h, s, hs => by
    unfold spotsS at h
    split at h
    · rename_i hp
      rcases List.mem_cons.1 hs with rfl | hs
      · exact pairS_ok hp
      · exact spots_ok h s hs
    · rename_i hp
      exact (hp h).elim
def okCtx (c : S64) : Prop := c.fLeft.length ≤ 3 ∧ c.fRight.length ≤ 3 ∧ (∀ s ∈ c.fLeft, okSpot s) ∧ ∀ s ∈ c.fRight, okSpot s
theorem ctx_ok {c : S64} (h : ctxS c = 0) : okCtx c := by
  unfold ctxS at h
  split at h
  · cases h
  · split at h
    · rename_i h1 h2
      exact (h2 h).elim
    · rename_i h1 h2
      refine ⟨by omega, by omega, spots_ok (Decidable.byContradiction h2), spots_ok h⟩
theorem ctxs_ok : ∀ {xs : List S64}, ctxsS xs = 0 → ∀ c ∈ xs, okCtx c
  | [], h, s, hs => by cases hs
  | p :: r, h, s, hs => by
    unfold ctxsS at h
    split at h
    · rename_i hp
      rcases List.mem_cons.1 hs with rfl | hs
      · exact ctx_ok hp
      · exact ctxs_ok h s hs
    · rename_i hp
      exact (hp h).elim
def okRule (r : S42) : Prop := (1 ≤ r.fKind ∧ r.fKind ≤ 4) ∧ r.fContexts.length ≤ 3 ∧ ∀ c ∈ r.fContexts, okCtx c
theorem rule_ok {r : S42} (h : ruleS r = 0) : okRule r := by
  unfold ruleS at h
  split at h
  · cases h
  · split at h
    · rename_i h1 h2
      exact (h2 h).elim
    · split at h
      · cases h
      · rename_i h1 h2 h3
        refine ⟨by omega, by omega, ctxs_ok h⟩
theorem scan_rule_ok : ∀ (l : List S42) (i : Int), (∃ v, scan gRule i () l = some (.inl v) ∧ v.fCode ≠ 0) ∨ (scan gRule i () l = some (.inr ()) ∧ ∀ r ∈ l, okRule r)
  | [], i => .inr ⟨rfl, fun r h => by cases h⟩
  | x :: r, i => by
    by_cases h : ruleS x = 0
    · rcases scan_rule_ok r (i + 1) with ⟨v, h1, h2⟩ | ⟨h1, h2⟩
      · exact .inl ⟨v, by simp only [scan, gRule, h, if_true]; exact h1, h2⟩
      · refine .inr ⟨by simp only [scan, gRule, h, if_true]; exact h1, fun y hy => ?_⟩
        rcases List.mem_cons.1 hy with rfl | hy
        · exact rule_ok h
        · exact h2 y hy
    · exact .inl ⟨⟨ruleS x, i⟩, by simp [scan, gRule, h], h⟩
theorem rulesS_ok (l : List S42) : (∃ v, rulesS l = some v ∧ v.fCode ≠ 0) ∨ (rulesS l = some ⟨0, 0⟩ ∧ l.length ≤ 40 ∧ ∀ r ∈ l, okRule r) := by
  unfold rulesS
  by_cases hl : l.length > 40
  · exact .inl ⟨⟨2, -1⟩, by simp [hl], by decide⟩
  · rw [if_neg hl]
    rcases scan_rule_ok l 0 with ⟨v, h1, h2⟩ | ⟨h1, h2⟩
    · exact .inl ⟨v, by rw [h1]; rfl, h2⟩
    · exact .inr ⟨by rw [h1]; rfl, by omega, h2⟩
theorem scan_pair_ok : ∀ (l : List S39) (i : Int), (∃ v, scan gPair i () l = some (.inl v) ∧ v.fCode ≠ 0) ∨ scan gPair i () l = some (.inr ())
  | [], i => .inr rfl
  | x :: r, i => by
    by_cases h : pairS 0 x = 0
    · rcases scan_pair_ok r (i + 1) with ⟨v, h1, h2⟩ | h1
      · exact .inl ⟨v, by simp only [scan, gPair, h, if_true]; exact h1, h2⟩
      · exact .inr (by simp only [scan, gPair, h, if_true]; exact h1)
    · exact .inl ⟨⟨pairS 0 x, i⟩, by simp [scan, gPair, h], h⟩
theorem pairsS_ok (l : List S39) : (∃ v, pairsS l = some v ∧ v.fCode ≠ 0) ∨ (pairsS l = some ⟨0, 0⟩ ∧ l.length ≤ 30) := by
  unfold pairsS
  by_cases hl : l.length > 30
  · exact .inl ⟨⟨2, -2⟩, by simp [hl], by decide⟩
  · rw [if_neg hl]
    rcases scan_pair_ok l 0 with ⟨v, h1, h2⟩ | h1
    · exact .inl ⟨v, by rw [h1]; rfl, h2⟩
    · exact .inr ⟨by rw [h1]; rfl, by omega⟩
/-! ### around -/
/-! ### obeying at a place -/
def anyS (r : S42) (l : List S39) (k : Nat) : Bool := r.fContexts.any fun c => aroundS c l k
def sameS (r : S42) (p : S39) : Bool := (p.fLexical == r.fPair.fLexical) && ((p.fSurface == r.fPair.fSurface) && true)
def obeyS (r : S42) (l : List S39) (k : Nat) (p : S39) : Bool :=
  if r.fKind = 1 then !sameS r p || anyS r l k
  else if r.fKind = 2 then ((p.fLexical != r.fPair.fLexical) || sameS r p) || !anyS r l k
  else if r.fKind = 3 then (!sameS r p || anyS r l k) && (((p.fLexical != r.fPair.fLexical) || sameS r p) || !anyS r l k)
  else !sameS r p || !anyS r l k
theorem scan_any (l : List S39) (k : Nat) : ∀ (xs : List S64) (i : Int) (b : Bool), scan (R := Bool) (fun _ b c => some (.inr (b || aroundS c l k))) i b xs = some (.inr (b || xs.any fun c => aroundS c l k))
  | [], i, b => by simp [scan]
  | x :: r, i, b => by
    simp only [scan]
    rw [scan_any l k r (i + 1)]
    simp [Bool.or_assoc]
theorem f35_eq (m : Nat) (r : S42) (l : List S39) (k : Nat) (p : S39) (hp : l[k]? = some p) (hl : l.length ≤ 1000) (hr : okRule r) (hm : 1000 < m) : f35 m r l (k : Int) = some (obeyS r l k p) := by
  obtain ⟨hk, hc, hr⟩ := hr
  have hlt := lt_of_get hp
  unfold f35
  have e : iter (fun (y : Bool × Int) => f35_B2 m r l k y.1 y.2) m (false, 0) = landed (fun (b : Bool) (i : Int) => (b, i)) r.fContexts.length (scan (R := Bool) (fun _ b c => some (.inr (b || aroundS c l k))) 0 false r.fContexts) := by
    refine iter_scan r.fContexts (fun (y : Bool × Int) => f35_B2 m r l k y.1 y.2) (fun (b : Bool) (i : Int) => (b, i)) (fun _ b c => some (.inr (b || aroundS c l k))) (fun s i hi => ?_) m 0 false (by omega) (by omega)
    refine body_turn rfl fun c hcx => ?_
    have hw : w64 ((i : Int) + 1) = (i : Int) + 1 := w64_id ⟨by omega, by omega⟩
    obtain ⟨g1, g2, g3, g4⟩ := hr c (List.mem_of_getElem? hcx)
    rw [f44_eq m c l k hlt hl g1 g2 hm]
    cases s <;> simp [f35_r1, hw]
  have hix : idx l (k : Int) = some p := by
    unfold idx
    rw [if_pos (by omega), Int.toNat_natCast, hp]
  rw [e, scan_any, Bool.false_or]
  simp only [landed, brk_inr, hix, bnd_some', f35_r7, f35_r6, f35_r5, f35_r4, f35_r3, cnd_eq, beq_iff_eq]
  unfold obeyS
  unfold anyS sameS
  split
  · rfl
  · split
    · rfl
    · split <;> rfl
def obeyedS (l : List S39) (r : S42) : Bool := allP (fun i p => obeyS r l i.toNat p) 0 l
theorem f18_inner (m : Nat) (i : Int) (r : S42) (l : List S39) (hl : l.length ≤ 1000) (hr : okRule r) (hm : 1000 < m) :
    iter (fun (y : Int) => f18_B1 m l i r y) m 0 = landed (fun (_ : Unit) (i : Int) => i) l.length (if obeyedS l r then some (.inr ()) else some (.inl (false, i, ⟨0, 0⟩))) := by
  have e : iter (fun (y : Int) => f18_B1 m l i r y) m 0 = landed (fun (_ : Unit) (i : Int) => i) l.length (scan (fun k (_ : Unit) p => if obeyS r l k.toNat p then some (.inr ()) else some (.inl (false, i, (⟨0, 0⟩ : S25)))) 0 () l) := by
    refine iter_scan l (fun (y : Int) => f18_B1 m l i r y) (fun (_ : Unit) (i : Int) => i) (fun k (_ : Unit) p => if obeyS r l k.toNat p then some (.inr ()) else some (.inl (false, i, (⟨0, 0⟩ : S25)))) (fun s k hi => ?_) m 0 () (by omega) (by omega)
    refine body_turn' rfl fun p hp => ?_
    have hw : w64 ((k : Int) + 1) = (k : Int) + 1 := w64_id ⟨by omega, by omega⟩
    rw [f35_eq m r l k p hp hl hr hm]
    simp only [Int.toNat_natCast]
    by_cases h : obeyS r l k p = true <;> simp [h, hw]
  rw [e, scan_allP (fun k p => obeyS r l k.toNat p)]
  rfl
theorem f18_loop (m : Nat) (rs : List S42) (l : List S39) (hl : l.length ≤ 1000) (hn : rs.length ≤ 1000) (hr : ∀ r ∈ rs, okRule r) (hm : 1000 < m) :
    iter (fun (y : Int) => f18_B2 m rs l y) m 0 = landed (fun (_ : Unit) (i : Int) => i) rs.length (match firstP (obeyedS l) 0 rs with | none => some (.inr ()) | some j => some (.inl (false, j, ⟨0, 0⟩))) := by
  have e : iter (fun (y : Int) => f18_B2 m rs l y) m 0 = landed (fun (_ : Unit) (i : Int) => i) rs.length (scan (fun i (_ : Unit) r => if obeyedS l r then some (.inr ()) else some (.inl (false, i, (⟨0, 0⟩ : S25)))) 0 () rs) := by
    refine iter_scan rs (fun (y : Int) => f18_B2 m rs l y) (fun (_ : Unit) (i : Int) => i) (fun i (_ : Unit) r => if obeyedS l r then some (.inr ()) else some (.inl (false, i, (⟨0, 0⟩ : S25)))) (fun s k hi => ?_) m 0 () (by omega) (by omega)
    refine body_turn rfl fun r hrx => ?_
    have hw : w64 ((k : Int) + 1) = (k : Int) + 1 := w64_id ⟨by omega, by omega⟩
    rw [f18_inner m k r l hl (hr r (List.mem_of_getElem? hrx)) hm]
    by_cases h : obeyedS l r = true <;> simp [h, hw, landed]
  rw [e, scan_firstP (obeyedS l) (fun i => (false, i, (⟨0, 0⟩ : S25))) rs 0]
/-- what the check answers -/
def allowedS (rs : List S42) (l : List S39) : Bool × Int × S25 := match firstP (obeyedS l) 0 rs with
  | none => (true, -1, ⟨0, 0⟩)
  | some j => (false, j, ⟨0, 0⟩)
theorem ok25 (v : S25) (h : v.fCode ≠ 0) : ((v.fCode == 0) && ((v.fIndex == 0) && true)) = false := by
  have : (v.fCode == 0) = false := by simpa using h
  rw [this]; rfl
theorem f18_eq (m : Nat) (rs : List S42) (l : List S39) (hm : 1000 < m) :
    (∃ v, v.fCode ≠ 0 ∧ rulesS rs = some v ∧ f18 m rs l = some (false, 0, v)) ∨
    (rulesS rs = some ⟨0, 0⟩ ∧ ∃ v, v.fCode ≠ 0 ∧ pairsS l = some v ∧ f18 m rs l = some (false, 0, v)) ∨
    (rulesS rs = some ⟨0, 0⟩ ∧ pairsS l = some ⟨0, 0⟩ ∧ l.length ≤ 30 ∧ rs.length ≤ 40 ∧ (∀ r ∈ rs, okRule r) ∧ f18 m rs l = some (allowedS rs l)) := by
  unfold f18
  rw [f17_eq m rs (by omega), f34_eq m l (by omega)]
  rcases rulesS_ok rs with ⟨v, h1, h2⟩ | ⟨h1, h2, h3⟩
  · refine .inl ⟨v, h2, h1, ?_⟩
    rw [h1]
    simp only [bnd_some', ok25 v h2]
    rfl
  · refine .inr ?_
    rw [h1]
    rcases pairsS_ok l with ⟨v, g1, g2⟩ | ⟨g1, g2⟩
    · refine .inl ⟨rfl, v, g2, g1, ?_⟩
      rw [g1]
      simp only [bnd_some', ok25 v g2]
      rfl
    · refine .inr ⟨rfl, g1, g2, h2, h3, ?_⟩
      rw [g1, f18_loop m rs l (by omega) (by omega) h3 hm]
      simp only [bnd_some']
      unfold allowedS
      cases firstP (obeyedS l) 0 rs <;> rfl
theorem f16_big : f16 1001 = some true := by kernel_rfl
end Go.Abs
