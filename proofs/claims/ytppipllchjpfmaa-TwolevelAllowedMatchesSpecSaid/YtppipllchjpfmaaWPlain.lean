import Derived.Test.YtppipllchjpfmaaWLaw
import Derived.Test.YtppipllchjpfmaaAbsV
namespace Go.Abs
set_option linter.unusedVariables false
theorem cnd_eq {α : Type} (b : Bool) (x y : Option α) : cnd b x y = if b = true then x else y := by cases b <;> rfl
theorem f16_true : f16 40 = some true := by kernel_rfl
/-- in range -/
theorem f42_eq (m : Nat) (a b c : Int) : f42 m a b c = some (decide (b ≤ a ∧ a ≤ c)) := by
  simp [f42, f42_r1, GE.ge, Bool.decide_and]
theorem f46_eq (m : Nat) (s p : S39) : f46 m s p = some ((s.fLexical == -1 || s.fLexical == p.fLexical) && (s.fSurface == -1 || s.fSurface == p.fSurface)) := rfl
/-- what is wrong with a pair -/
def pairS (least : Int) (p : S39) : Int :=
  if ¬ (least ≤ p.fLexical ∧ p.fLexical ≤ 1114111) ∨ ¬ (least ≤ p.fSurface ∧ p.fSurface ≤ 1114111) then 3 else if p.fLexical = 0 ∧ p.fSurface = 0 then 5 else 0
def spotsS : List S39 → Int
  | [] => 0
  | p :: r => if pairS (-1) p = 0 then spotsS r else pairS (-1) p
def gSpots : Int → Unit → S39 → Option (Int ⊕ Unit) := fun _ _ p => if pairS (-1) p = 0 then some (.inr ()) else some (.inl (pairS (-1) p))
theorem scan_spots : ∀ (xs : List S39) (i : Int), scan gSpots i () xs = if spotsS xs = 0 then some (.inr ()) else some (.inl (spotsS xs))
  | [], i => rfl
  | p :: r, i => by
    by_cases h : pairS (-1) p = 0
    · simp [scan, gSpots, spotsS, h, scan_spots r (i + 1)]
    · simp [scan, gSpots, spotsS, h]
theorem f43_eq (m : Nat) (xs : List S39) (hl : xs.length ≤ 9223372036854775806) (hm : xs.length < m) : f43 m xs = some (spotsS xs) := by
  unfold f43
  have hb : ∀ (s : Unit) (i : Nat), i ≤ xs.length → f43_B2 m xs (i : Int) = turn xs (fun (_ : Unit) (i : Int) => i) gSpots s i := by
    intro s i hi
    refine body_turn rfl fun x hx => ?_
    have hw : w64 ((i : Int) + 1) = (i : Int) + 1 := w64_id ⟨by omega, by omega⟩
    simp only [f42_eq, bnd_some', f43_r1, gSpots, pairS, hw]
    by_cases h1 : -1 ≤ x.fLexical ∧ x.fLexical ≤ 1114111 <;> by_cases h2 : -1 ≤ x.fSurface ∧ x.fSurface ≤ 1114111 <;> by_cases h3 : x.fLexical = 0 <;> by_cases h4 : x.fSurface = 0 <;> simp [cnd_eq, h1, h2, h3, h4]
  have := iter_scan xs (fun y => f43_B2 m xs y) (fun (_ : Unit) (i : Int) => i) gSpots hb m 0 () (by omega) (by omega)
  simp only [Int.ofNat_zero, List.drop_zero] at this
  have e : iter (fun y => f43_B2 m xs y) m 0 = landed (fun (_ : Unit) (i : Int) => i) xs.length (scan gSpots 0 () xs) := this
  rw [e, scan_spots]
  by_cases h : spotsS xs = 0 <;> simp [h, landed]
theorem f37_eq (m : Nat) (p : S39) (l : Int) (hm : 2 < m) : f37 m p l = some (pairS l p) := by
  unfold f37
  let g : Int → Unit → Int → Option (Int ⊕ Unit) := fun _ _ x => if x < l ∨ x > 1114111 then some (.inl 3) else some (.inr ())
  have hb : ∀ (s : Unit) (i : Nat), i ≤ [p.fLexical, p.fSurface].length → f37_B2 m p l (i : Int) = turn [p.fLexical, p.fSurface] (fun (_ : Unit) (i : Int) => i) g s i := by
    intro s i hi
    refine body_turn rfl fun x hx => ?_
    have hi2 : i ≤ 2 := hi
    have hw : w64 ((i : Int) + 1) = (i : Int) + 1 := w64_id ⟨by omega, by omega⟩
    simp only [f37_r1, g, hw]
    by_cases h1 : x < l <;> by_cases h2 : x > 1114111 <;> simp [cnd_eq, h1, h2]
  have e : iter (fun y => f37_B2 m p l y) m 0 = landed (fun (_ : Unit) (i : Int) => i) 2 (scan g 0 () [p.fLexical, p.fSurface]) :=
    iter_scan [p.fLexical, p.fSurface] (fun y => f37_B2 m p l y) (fun (_ : Unit) (i : Int) => i) g hb m 0 () (by simp) (by simpa using hm)
  rw [e]
  have hc : ∀ x : Int, (x < l ∨ x > 1114111) ↔ ¬ (l ≤ x ∧ x ≤ 1114111) := fun x => by omega
  simp only [scan, g, pairS, f37_r3, hc]
  by_cases h1 : l ≤ p.fLexical ∧ p.fLexical ≤ 1114111
  · by_cases h2 : l ≤ p.fSurface ∧ p.fSurface ≤ 1114111
    · simp only [h1, h2, and_self, not_true_eq_false, or_self, if_false, landed, brk_inr, cnd_eq]
      by_cases h5 : p.fLexical = 0 <;> by_cases h6 : p.fSurface = 0 <;> simp [h5, h6]
    · simp [h1, h2, landed]
  · simp [h1, landed]
/-- what is wrong with a context -/
def ctxS (c : S64) : Int := if c.fLeft.length > 3 ∨ c.fRight.length > 3 then 9 else if spotsS c.fLeft ≠ 0 then spotsS c.fLeft else spotsS c.fRight
def ctxsS : List S64 → Int
  | [] => 0
  | c :: r => if ctxS c = 0 then ctxsS r else ctxS c
def ruleS (r : S42) : Int := if ¬ (1 ≤ r.fKind ∧ r.fKind ≤ 4) then 4 else if pairS 0 r.fPair ≠ 0 then pairS 0 r.fPair else if ¬ (1 ≤ r.fContexts.length ∧ r.fContexts.length ≤ 3) then 9 else ctxsS r.fContexts
def gCtx : Int → Unit → S64 → Option (Int ⊕ Unit) := fun _ _ c => if ctxS c = 0 then some (.inr ()) else some (.inl (ctxS c))
theorem scan_ctx : ∀ (xs : List S64) (i : Int), scan gCtx i () xs = if ctxsS xs = 0 then some (.inr ()) else some (.inl (ctxsS xs))
  | [], i => rfl
  | p :: r, i => by
    by_cases h : ctxS p = 0
    · simp [scan, gCtx, ctxsS, h, scan_ctx r (i + 1)]
    · simp [scan, gCtx, ctxsS, h]
theorem f33_loop (m : Nat) (a : S42) (hm : 4 < m) (hl : a.fContexts.length ≤ 3) : iter (fun y => f33_B2 m a y) m 0 = landed (fun (_ : Unit) (i : Int) => i) a.fContexts.length (scan gCtx 0 () a.fContexts) := by
  refine iter_scan a.fContexts (fun y => f33_B2 m a y) (fun (_ : Unit) (i : Int) => i) gCtx (fun s i hi => ?_) m 0 () (by omega) (by omega)
  refine body_turn rfl fun c hc => ?_
  have hw : w64 ((i : Int) + 1) = (i : Int) + 1 := w64_id ⟨by omega, by omega⟩
  simp only [f33_r1, gCtx, ctxS, hw, cnd_eq, Bool.or_eq_true, decide_eq_true_eq]
  by_cases h1 : c.fLeft.length > 3
  · have h1' : (c.fLeft.length : Int) > 3 := by omega
    simp [h1, h1']
  · have h1' : ¬ (c.fLeft.length : Int) > 3 := by omega
    by_cases h2 : c.fRight.length > 3
    · have h2' : (c.fRight.length : Int) > 3 := by omega
      simp [h2, h2']
    · have h2' : ¬ (c.fRight.length : Int) > 3 := by omega
      rw [f43_eq m c.fLeft (by omega) (by omega), f43_eq m c.fRight (by omega) (by omega)]
      by_cases h3 : spotsS c.fLeft = 0 <;> by_cases h4 : spotsS c.fRight = 0 <;> simp [h1, h2, h1', h2', h3, h4]
theorem brk_ctx (n : Nat) (xs : List S64) : brk (landed (fun (_ : Unit) (i : Int) => i) n (scan gCtx 0 () xs)) some (fun _ => some (0 : Int)) = some (ctxsS xs) := by
  rw [scan_ctx]
  by_cases h : ctxsS xs = 0 <;> simp [h, landed]
theorem f33_eq (m : Nat) (a : S42) (hm : 4 < m) : f33 m a = some (ruleS a) := by
  unfold f33 ruleS
  simp only [f42_eq, bnd_some', cnd_eq, Bool.not_eq_true', decide_eq_false_iff_not, f33_r3]
  by_cases h1 : 1 ≤ a.fKind ∧ a.fKind ≤ 4
  · by_cases hl : 1 ≤ a.fContexts.length ∧ a.fContexts.length ≤ 3
    · have hl' : (1 : Int) ≤ a.fContexts.length ∧ (a.fContexts.length : Int) ≤ 3 := by omega
      rw [f33_loop m a hm hl.2, brk_ctx]
      unfold pairS
      by_cases h2 : 0 ≤ a.fPair.fLexical ∧ a.fPair.fLexical ≤ 1114111 <;> by_cases h3 : 0 ≤ a.fPair.fSurface ∧ a.fPair.fSurface ≤ 1114111 <;> by_cases h4 : a.fPair.fLexical = 0 <;> by_cases h5 : a.fPair.fSurface = 0 <;> simp [h1, h2, h3, h4, h5, hl, hl']
    · have hl' : ¬ ((1 : Int) ≤ a.fContexts.length ∧ (a.fContexts.length : Int) ≤ 3) := by omega
      unfold pairS
      by_cases h2 : 0 ≤ a.fPair.fLexical ∧ a.fPair.fLexical ≤ 1114111 <;> by_cases h3 : 0 ≤ a.fPair.fSurface ∧ a.fPair.fSurface ≤ 1114111 <;> by_cases h4 : a.fPair.fLexical = 0 <;> by_cases h5 : a.fPair.fSurface = 0 <;> simp [h1, h2, h3, h4, h5, hl, hl']
  · simp [h1]
theorem f36_loop1 (m : Nat) (xs : List S39) (hm : 2 < m) (hl : xs.length ≤ 9223372036854775806) (hm2 : xs.length < m) : iter (fun y => f36_B1 m xs y) m 0 = landed (fun (_ : Unit) (i : Int) => i) xs.length (scan gSpots 0 () xs) := by
  refine iter_scan xs (fun y => f36_B1 m xs y) (fun (_ : Unit) (i : Int) => i) gSpots (fun s i hi => ?_) m 0 () (by omega) (by omega)
  refine body_turn rfl fun c hc => ?_
  have hw : w64 ((i : Int) + 1) = (i : Int) + 1 := w64_id ⟨by omega, by omega⟩
  rw [f37_eq m c (-1) hm]
  simp only [bnd_some', cnd_eq, gSpots, hw]
  by_cases h : pairS (-1) c = 0 <;> simp [h]
def gSide : Int → Unit → List S39 → Option (Int ⊕ Unit) := fun _ _ l => if spotsS l = 0 then some (.inr ()) else some (.inl (spotsS l))
theorem f36_loop2 (m : Nat) (c : S64) (hm : 4 < m) (h1 : c.fLeft.length ≤ 3) (h2 : c.fRight.length ≤ 3) : iter (fun y => f36_B2 m c y) m 0 = landed (fun (_ : Unit) (i : Int) => i) 2 (scan gSide 0 () [c.fLeft, c.fRight]) := by
  refine iter_scan [c.fLeft, c.fRight] (fun y => f36_B2 m c y) (fun (_ : Unit) (i : Int) => i) gSide (fun s i hi => ?_) m 0 () (by simp) (by simp; omega)
  refine body_turn rfl fun l hl => ?_
  have hi2 : i ≤ 2 := hi
  have hw : w64 ((i : Int) + 1) = (i : Int) + 1 := w64_id ⟨by omega, by omega⟩
  have hlen : l.length ≤ 3 := by
    have := List.mem_of_getElem? hl
    simp at this
    rcases this with rfl | rfl <;> assumption
  rw [f36_loop1 m l (by omega) (by omega) (by omega), scan_spots]
  simp only [gSide, hw]
  by_cases h : spotsS l = 0 <;> simp [h, landed]
theorem f36_loop3 (m : Nat) (a : S42) (hm : 4 < m) (hl : a.fContexts.length ≤ 3) : iter (fun y => f36_B4 m a y) m 0 = landed (fun (_ : Unit) (i : Int) => i) a.fContexts.length (scan gCtx 0 () a.fContexts) := by
  refine iter_scan a.fContexts (fun y => f36_B4 m a y) (fun (_ : Unit) (i : Int) => i) gCtx (fun s i hi => ?_) m 0 () (by omega) (by omega)
  refine body_turn rfl fun c hc => ?_
  have hw : w64 ((i : Int) + 1) = (i : Int) + 1 := w64_id ⟨by omega, by omega⟩
  simp only [f36_r3, gCtx, ctxS, hw, cnd_eq, Bool.or_eq_true, decide_eq_true_eq]
  by_cases h1 : c.fLeft.length > 3
  · have h1' : (c.fLeft.length : Int) > 3 := by omega
    simp [h1, h1']
  · have h1' : ¬ (c.fLeft.length : Int) > 3 := by omega
    by_cases h2 : c.fRight.length > 3
    · have h2' : (c.fRight.length : Int) > 3 := by omega
      simp [h2, h2']
    · have h2' : ¬ (c.fRight.length : Int) > 3 := by omega
      rw [f36_loop2 m c hm (by omega) (by omega)]
      simp only [scan, gSide]
      by_cases h3 : spotsS c.fLeft = 0 <;> by_cases h4 : spotsS c.fRight = 0 <;> simp [h1, h2, h1', h2', h3, h4, landed]
theorem f36_eq (m : Nat) (a : S42) (hm : 4 < m) : f36 m a = some (ruleS a) := by
  unfold f36 ruleS
  simp only [f36_r6, f36_r5, cnd_eq, Bool.or_eq_true, decide_eq_true_eq, f37_eq m _ _ (show 2 < m by omega), bnd_some']
  by_cases h1 : 1 ≤ a.fKind ∧ a.fKind ≤ 4
  · have h1' : ¬ (a.fKind < 1 ∨ a.fKind > 4) := by omega
    by_cases hl : 1 ≤ a.fContexts.length ∧ a.fContexts.length ≤ 3
    · have hl' : ¬ ((a.fContexts.length : Int) < 1 ∨ (a.fContexts.length : Int) > 3) := by omega
      rw [f36_loop3 m a hm hl.2, brk_ctx]
      by_cases h2 : pairS 0 a.fPair = 0 <;> simp [h1, h1', hl, hl', h2]
    · have hl' : ((a.fContexts.length : Int) < 1 ∨ (a.fContexts.length : Int) > 3) := by omega
      by_cases h2 : pairS 0 a.fPair = 0 <;> simp [h1, h1', hl, hl', h2]
  · have h1' : (a.fKind < 1 ∨ a.fKind > 4) := by omega
    simp [h1, h1']
def gRule : Int → Unit → S42 → Option (S25 ⊕ Unit) := fun i _ r => if ruleS r = 0 then some (.inr ()) else some (.inl ⟨ruleS r, i⟩)
def rulesS (l : List S42) : Option S25 := if l.length > 40 then some ⟨2, -1⟩ else brk (landed (fun (_ : Unit) (i : Int) => i) l.length (scan gRule 0 () l)) some fun _ => some ⟨0, 0⟩
theorem f17_eq (m : Nat) (l : List S42) (hm : 40 < m) : f17 m l = rulesS l := by
  unfold f17 rulesS
  simp only [cnd_eq, decide_eq_true_eq, f32, bnd_some']
  by_cases h : l.length > 40
  · rw [if_pos h, if_pos (by omega)]
  · rw [if_neg h, if_neg (by omega)]
    have e : iter (fun y => f17_B1 m l y) m 0 = landed (fun (_ : Unit) (i : Int) => i) l.length (scan gRule 0 () l) := by
      refine iter_scan l (fun y => f17_B1 m l y) (fun (_ : Unit) (i : Int) => i) gRule (fun s i hi => ?_) m 0 () (by omega) (by omega)
      refine body_turn rfl fun c hc => ?_
      have hw : w64 ((i : Int) + 1) = (i : Int) + 1 := w64_id ⟨by omega, by omega⟩
      rw [f33_eq m c (by omega)]
      simp only [bnd_some', cnd_eq, gRule, hw, f32]
      by_cases h : ruleS c = 0 <;> simp [h]
    rw [e]
theorem f19_eq (m : Nat) (l : List S42) (hm : 40 < m) : f19 m l = rulesS l := by
  unfold f19 rulesS
  simp only [cnd_eq, decide_eq_true_eq, f29, bnd_some']
  by_cases h : l.length > 40
  · rw [if_pos h, if_pos (by omega)]
  · rw [if_neg h, if_neg (by omega)]
    have e : iter (fun y => f19_B1 m l y) m 0 = landed (fun (_ : Unit) (i : Int) => i) l.length (scan gRule 0 () l) := by
      refine iter_scan l (fun y => f19_B1 m l y) (fun (_ : Unit) (i : Int) => i) gRule (fun s i hi => ?_) m 0 () (by omega) (by omega)
      refine body_turn rfl fun c hc => ?_
      have hw : w64 ((i : Int) + 1) = (i : Int) + 1 := w64_id ⟨by omega, by omega⟩
      rw [f36_eq m c (by omega)]
      simp only [bnd_some', cnd_eq, gRule, hw, f29]
      by_cases h : ruleS c = 0 <;> simp [h]
    rw [e]
def gPair : Int → Unit → S39 → Option (S25 ⊕ Unit) := fun i _ p => if pairS 0 p = 0 then some (.inr ()) else some (.inl ⟨pairS 0 p, i⟩)
def pairsS (l : List S39) : Option S25 := if l.length > 30 then some ⟨2, -2⟩ else brk (landed (fun (_ : Unit) (i : Int) => (false, i)) l.length (scan gPair 0 () l)) some fun _ => some ⟨0, 0⟩
theorem f34_eq (m : Nat) (l : List S39) (hm : 30 < m) : f34 m l 30 false = pairsS l := by
  unfold f34 pairsS
  simp only [cnd_eq, decide_eq_true_eq, f32, bnd_some']
  by_cases h : l.length > 30
  · rw [if_pos h, if_pos (by omega)]
  · rw [if_neg h, if_neg (by omega)]
    have e : iter (fun y => f34_B4 m l y.1 y.2) m (false, 0) = landed (fun (_ : Unit) (i : Int) => (false, i)) l.length (scan gPair 0 () l) := by
      refine iter_scan l (fun y => f34_B4 m l y.1 y.2) (fun (_ : Unit) (i : Int) => (false, i)) gPair (fun s i hi => ?_) m 0 () (by omega) (by omega)
      refine body_turn rfl fun c hc => ?_
      have hw : w64 ((i : Int) + 1) = (i : Int) + 1 := w64_id ⟨by omega, by omega⟩
      simp only [f42_eq, bnd_some', cnd_eq, gPair, pairS, hw, f32, f34_r3, f34_r2, f34_r1, Bool.false_and, Bool.false_eq_true, if_false]
      by_cases h1 : 0 ≤ c.fLexical ∧ c.fLexical ≤ 1114111 <;> by_cases h2 : 0 ≤ c.fSurface ∧ c.fSurface ≤ 1114111 <;> by_cases h3 : c.fLexical = 0 <;> by_cases h4 : c.fSurface = 0 <;> simp [h1, h2, h3, h4]
    rw [e]
theorem f20_eq (m : Nat) (l : List S39) (hm : 30 < m) : f20 m l 30 (-2) false = pairsS l := by
  unfold f20 pairsS
  simp only [cnd_eq, decide_eq_true_eq, f29, bnd_some']
  by_cases h : l.length > 30
  · rw [if_pos h, if_pos (by omega)]
  · rw [if_neg h, if_neg (by omega)]
    have e : iter (fun y => f20_B5 m l y.1 y.2) m (false, 0) = landed (fun (_ : Unit) (i : Int) => (false, i)) l.length (scan gPair 0 () l) := by
      refine iter_scan l (fun y => f20_B5 m l y.1 y.2) (fun (_ : Unit) (i : Int) => (false, i)) gPair (fun s i hi => ?_) m 0 () (by omega) (by omega)
      refine body_turn rfl fun c hc => ?_
      have hw : w64 ((i : Int) + 1) = (i : Int) + 1 := w64_id ⟨by omega, by omega⟩
      rw [f37_eq m c 0 (by omega)]
      simp only [bnd_some', cnd_eq, gPair, hw, f29, f20_r4, f20_j2, f20_j1, Bool.false_and, Bool.false_eq_true, if_false]
      by_cases h : pairS 0 c = 0 <;> simp [h]
    rw [e]
def fitS (s p : S39) : Bool := (s.fLexical == -1 || s.fLexical == p.fLexical) && (s.fSurface == -1 || s.fSurface == p.fSurface)
def fitAll : List S39 → List S39 → Bool
  | [], _ => true
  | s :: r, p :: q => fitS s p && fitAll r q
  | _ :: _, [] => false
/-- spots against the pairs from a place on -/
def gFit (l : List S39) (k : Nat) : Int → Unit → S39 → Option (Bool ⊕ Unit) := fun i _ s => match l[k + i.toNat]? with
  | some p => if fitS s p then some (.inr ()) else some (.inl false)
  | none => none
theorem scan_fit (l : List S39) (k : Nat) : ∀ (xs : List S39) (i : Nat), k + i + xs.length ≤ l.length → scan (gFit l k) i () xs = if fitAll xs (l.drop (k + i)) then some (.inr ()) else some (.inl false)
  | [], i, h => rfl
  | s :: r, i, h => by
    simp only [List.length_cons] at h
    have hlt : k + i < l.length := by omega
    rw [List.drop_eq_getElem_cons hlt]
    have ih := scan_fit l k r (i + 1) (by omega)
    simp only [scan, gFit, Int.toNat_natCast, List.getElem?_eq_getElem hlt, fitAll]
    by_cases hf : fitS s l[k + i] = true
    · simp only [hf, if_true, Bool.true_and]
      exact ih
    · simp [hf]
theorem f44_left (m : Nat) (c : S64) (l : List S39) (k : Nat) (hk : k + c.fLeft.length ≤ l.length) (hl : l.length ≤ 1000) (hm : 1000 < m) :
    iter (fun y => f44_B1 m c l ((k + c.fLeft.length : Nat) : Int) y) m 0 = landed (fun (_ : Unit) (i : Int) => i) c.fLeft.length (if fitAll c.fLeft (l.drop k) then some (.inr ()) else some (.inl false)) := by
  have e := scan_fit l k c.fLeft 0 (by omega)
  simp only [Int.ofNat_zero, Nat.add_zero] at e
  have e : scan (gFit l k) 0 () c.fLeft = _ := e
  rw [← e]
  refine iter_scan c.fLeft (fun y => f44_B1 m c l ((k + c.fLeft.length : Nat) : Int) y) (fun (_ : Unit) (i : Int) => i) (gFit l k) (fun s i hi => ?_) m 0 () (by omega) (by omega)
  refine body_turn rfl fun x hx => ?_
  have hlt : i < c.fLeft.length := by
    rcases Nat.lt_or_ge i c.fLeft.length with h | h
    · exact h
    · rw [List.getElem?_eq_none h] at hx; cases hx
  have hw : w64 ((i : Int) + 1) = (i : Int) + 1 := w64_id ⟨by omega, by omega⟩
  have hw1 : w64 (((k + c.fLeft.length : Nat) : Int) - (c.fLeft.length : Int)) = (k : Int) := by rw [w64_id ⟨by omega, by omega⟩]; omega
  have hw2 : w64 ((k : Int) + (i : Int)) = ((k + i : Nat) : Int) := by rw [w64_id ⟨by omega, by omega⟩]; omega
  have hlt2 : k + i < l.length := by omega
  have hix : idx l ((k + i : Nat) : Int) = some l[k + i] := by
    unfold idx
    rw [if_pos (by omega), Int.toNat_natCast, List.getElem?_eq_getElem hlt2]
  simp only [hw1, hw2, hix, bnd_some', f46_eq, cnd_eq, hw, gFit, Int.toNat_natCast, List.getElem?_eq_getElem hlt2]
  have hf : ((x.fLexical == -1 || x.fLexical == l[k + i].fLexical) && (x.fSurface == -1 || x.fSurface == l[k + i].fSurface)) = fitS x l[k + i] := rfl
  rw [hf]
  by_cases h : fitS x l[k + i] = true <;> simp [h]
theorem f44_right (m : Nat) (c : S64) (l : List S39) (k : Nat) (hk : k + 1 + c.fRight.length ≤ l.length) (hl : l.length ≤ 1000) (hm : 1000 < m) :
    iter (fun y => f44_B2 m c l (k : Int) y) m 0 = landed (fun (_ : Unit) (i : Int) => i) c.fRight.length (if fitAll c.fRight (l.drop (k + 1)) then some (.inr ()) else some (.inl false)) := by
  have e := scan_fit l (k + 1) c.fRight 0 (by omega)
  simp only [Int.ofNat_zero, Nat.add_zero] at e
  have e : scan (gFit l (k + 1)) 0 () c.fRight = _ := e
  rw [← e]
  refine iter_scan c.fRight (fun y => f44_B2 m c l (k : Int) y) (fun (_ : Unit) (i : Int) => i) (gFit l (k + 1)) (fun s i hi => ?_) m 0 () (by omega) (by omega)
  refine body_turn rfl fun x hx => ?_
  have hlt : i < c.fRight.length := by
    rcases Nat.lt_or_ge i c.fRight.length with h | h
    · exact h
    · rw [List.getElem?_eq_none h] at hx; cases hx
  have hw : w64 ((i : Int) + 1) = (i : Int) + 1 := w64_id ⟨by omega, by omega⟩
  have hw1 : w64 ((k : Int) + 1) = (k : Int) + 1 := w64_id ⟨by omega, by omega⟩
  have hw2 : w64 ((k : Int) + 1 + (i : Int)) = ((k + 1 + i : Nat) : Int) := by rw [w64_id ⟨by omega, by omega⟩]; omega
  have hlt2 : k + 1 + i < l.length := by omega
  have hix : idx l ((k + 1 + i : Nat) : Int) = some l[k + 1 + i] := by
    unfold idx
    rw [if_pos (by omega), Int.toNat_natCast, List.getElem?_eq_getElem hlt2]
  simp only [hw1, hw2, hix, bnd_some', f46_eq, cnd_eq, hw, gFit, Int.toNat_natCast, List.getElem?_eq_getElem hlt2]
  have hf : ((x.fLexical == -1 || x.fLexical == l[k + 1 + i].fLexical) && (x.fSurface == -1 || x.fSurface == l[k + 1 + i].fSurface)) = fitS x l[k + 1 + i] := rfl
  rw [hf]
  by_cases h : fitS x l[k + 1 + i] = true <;> simp [h]
def placeS (c : S64) (n k : Nat) : Prop := c.fLeft.length ≤ k ∧ k + 1 + c.fRight.length ≤ n ∧ (c.fBegin = true → k = c.fLeft.length) ∧ (c.fEnd = true → k + 1 + c.fRight.length = n)
instance (c : S64) (n k : Nat) : Decidable (placeS c n k) := by unfold placeS; infer_instance
def aroundS (c : S64) (l : List S39) (k : Nat) : Bool := decide (placeS c l.length k) && (fitAll c.fLeft (l.drop (k - c.fLeft.length)) && fitAll c.fRight (l.drop (k + 1)))
theorem f44_eq (m : Nat) (c : S64) (l : List S39) (k : Nat) (hk : k < l.length) (hl : l.length ≤ 1000) (h1 : c.fLeft.length ≤ 3) (h2 : c.fRight.length ≤ 3) (hm : 1000 < m) : f44 m c l (k : Int) = some (aroundS c l k) := by
  have hw1 : w64 ((k : Int) - (c.fLeft.length : Int)) = (k : Int) - (c.fLeft.length : Int) := w64_id ⟨by omega, by omega⟩
  have hw2 : w64 ((k : Int) + 1) = (k : Int) + 1 := w64_id ⟨by omega, by omega⟩
  have hw3 : w64 ((k : Int) + 1 + (c.fRight.length : Int)) = (k : Int) + 1 + (c.fRight.length : Int) := w64_id ⟨by omega, by omega⟩
  unfold f44 f44_r5 f44_r4 f44_r3 aroundS
  rw [hw2, hw3, hw1]
  by_cases hp : placeS c l.length k
  · obtain ⟨p1, p2, p3, p4⟩ := hp
    have hb : ((((decide ((k : Int) - (c.fLeft.length : Int) < 0)) || (decide ((k : Int) + 1 + (c.fRight.length : Int) > (l.length : Int)))) || ((c.fBegin && (((k : Int) - (c.fLeft.length : Int)) != 0)))) || ((c.fEnd && (((k : Int) + 1 + (c.fRight.length : Int)) != ((l.length : Int)))))) = false := by
      simp only [Bool.or_eq_false_iff, decide_eq_false_iff_not, Bool.and_eq_false_iff, bne_eq_false_iff_eq]
      refine ⟨⟨⟨by omega, by omega⟩, ?_⟩, ?_⟩
      · cases h : c.fBegin
        · exact .inl rfl
        · have := p3 h; exact .inr (by omega)
      · cases h : c.fEnd
        · exact .inl rfl
        · have := p4 h; exact .inr (by omega)
    rw [hb]
    have hkk : k = (k - c.fLeft.length) + c.fLeft.length := by omega
    have e1 := f44_left m c l (k - c.fLeft.length) (by omega) hl hm
    rw [← hkk] at e1
    rw [cnd_false, e1, f44_right m c l k p2 hl hm]
    have hd : decide (placeS c l.length k) = true := decide_eq_true (⟨p1, p2, p3, p4⟩ : placeS c l.length k)
    rw [hd]
    by_cases q1 : fitAll c.fLeft (l.drop (k - c.fLeft.length)) = true <;> by_cases q2 : fitAll c.fRight (l.drop (k + 1)) = true <;> simp [q1, q2, landed]
  · have hb : ((((decide ((k : Int) - (c.fLeft.length : Int) < 0)) || (decide ((k : Int) + 1 + (c.fRight.length : Int) > (l.length : Int)))) || ((c.fBegin && (((k : Int) - (c.fLeft.length : Int)) != 0)))) || ((c.fEnd && (((k : Int) + 1 + (c.fRight.length : Int)) != ((l.length : Int)))))) = true := by
      refine Decidable.byContradiction fun hn => hp ?_
      simp only [Bool.not_eq_true, Bool.or_eq_false_iff, decide_eq_false_iff_not, Bool.and_eq_false_iff, bne_eq_false_iff_eq] at hn
      obtain ⟨⟨⟨n1, n2⟩, n3⟩, n4⟩ := hn
      refine ⟨by omega, by omega, fun h => ?_, fun h => ?_⟩
      · rcases n3 with n3 | n3
        · rw [n3] at h; cases h
        · omega
      · rcases n4 with n4 | n4
        · rw [n4] at h; cases h
        · omega
    rw [hb, decide_eq_false hp]
    rfl
/-- spots that may stand in a valid rule -/
def okSpot (s : S39) : Prop := -1 ≤ s.fLexical ∧ -1 ≤ s.fSurface
theorem f47_eq (m : Nat) (xs l : List S39) (hs : ∀ s ∈ xs, okSpot s) (hl : l.length ≤ 1000) (hm : 1000 < m) : f47 m xs l = some (decide (xs.length = l.length) && fitAll xs l) := by
  unfold f47
  by_cases he : xs.length = l.length
  · have hb : (((xs.length : Int)) != ((l.length : Int))) = false := by simp [he]
    rw [hb, cnd_false]
    have e := scan_fit l 0 xs 0 (by omega)
    simp only [Int.ofNat_zero, Nat.add_zero, List.drop_zero] at e
    have e : scan (gFit l 0) 0 () xs = _ := e
    have e2 : iter (fun y => f47_B3 m xs l y) m 0 = landed (fun (_ : Unit) (i : Int) => i) xs.length (scan (gFit l 0) 0 () xs) := by
      refine iter_scan xs (fun y => f47_B3 m xs l y) (fun (_ : Unit) (i : Int) => i) (gFit l 0) (fun s i hi => ?_) m 0 () (by omega) (by omega)
      refine body_turn rfl fun x hx => ?_
      have hlt : i < xs.length := by
        rcases Nat.lt_or_ge i xs.length with h | h
        · exact h
        · rw [List.getElem?_eq_none h] at hx; cases hx
      obtain ⟨o1, o2⟩ := hs x (List.mem_of_getElem? hx)
      have hlt2 : i < l.length := by omega
      have hw : w64 ((i : Int) + 1) = (i : Int) + 1 := w64_id ⟨by omega, by omega⟩
      have hix : idx l (i : Int) = some l[i] := by
        unfold idx
        rw [if_pos (by omega), Int.toNat_natCast, List.getElem?_eq_getElem hlt2]
      simp only [hix, bnd_some', f47_r2, f47_r1, cnd_eq, hw, gFit, Int.toNat_natCast, Nat.zero_add, List.getElem?_eq_getElem hlt2, fitS]
      by_cases a1 : x.fLexical = -1 <;> by_cases a2 : x.fSurface = -1 <;> by_cases a3 : x.fLexical = l[i].fLexical <;> by_cases a4 : x.fSurface = l[i].fSurface
      all_goals
        have b1 : x.fLexical ≠ -1 → x.fLexical ≥ 0 := by omega
        have b2 : x.fSurface ≠ -1 → x.fSurface ≥ 0 := by omega
        simp_all
    rw [e2, e]
    have hd : decide (xs.length = l.length) = true := decide_eq_true he
    rw [hd]
    by_cases q : fitAll xs l = true <;> simp [q, landed]
  · have hb : (((xs.length : Int)) != ((l.length : Int))) = true := by simp; omega
    rw [hb, cnd_true, decide_eq_false he]
    rfl
theorem sub_take {α : Type} (l : List α) (k : Nat) (h : k ≤ l.length) : sub l 0 (k : Int) = some (l.take k) := by
  unfold sub
  rw [if_pos (by omega)]
  simp
theorem sub_drop {α : Type} (l : List α) (k : Nat) (h : k ≤ l.length) : sub l (k : Int) (l.length : Int) = some (l.drop k) := by
  unfold sub
  rw [if_pos (by omega)]
  simp [List.take_of_length_le]
theorem fitAll_take : ∀ (xs l : List S39) (n : Nat), xs.length ≤ n → fitAll xs (l.take n) = fitAll xs l
  | [], l, n, h => rfl
  | s :: r, [], n, h => by simp [fitAll]
  | s :: r, p :: q, n + 1, h => by
    simp only [List.take_succ_cons, fitAll]
    rw [fitAll_take r q n (by simpa using h)]
end Go.Abs
